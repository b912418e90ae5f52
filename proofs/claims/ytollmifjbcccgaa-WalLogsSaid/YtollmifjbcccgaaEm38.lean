/- Words of bits, as numbers. -/
import Derived.Test.YtollmifjbcccgaaEm36
namespace Go.Dm
open Go
set_option linter.unusedVariables false
set_option linter.unusedSimpArgs false

theorem u32_id {x : Int} (h1 : 0 ≤ x) (h2 : x < 4294967296) : IntKind.u32.wrap x = x := by
  unfold IntKind.wrap
  simp only [IntKind.signed, IntKind.bits]
  simp
  omega
theorem fdiv_nat (n k : Nat) : Int.fdiv (n : Int) (k : Int) = ((n / k : Nat) : Int) := by
  rw [Int.fdiv_eq_ediv_of_nonneg _ (by omega)]; rfl
theorem tdiv_nat (n k : Nat) : Int.tdiv (n : Int) (k : Int) = ((n / k : Nat) : Int) := rfl
theorem tmod_nat (n k : Nat) : Int.tmod (n : Int) (k : Int) = ((n % k : Nat) : Int) := rfl
theorem toU8_nat (n : Nat) : toU8 (n : Int) = UInt8.ofNat n := by
  unfold toU8
  apply u8_eq
  have : ((n : Int) % 256).toNat = n % 256 := by omega
  rw [this, UInt8.toNat_ofNat', UInt8.toNat_ofNat']; omega
theorem ofNat_mod (n : Nat) : UInt8.ofNat (n % 256) = UInt8.ofNat n := by
  apply u8_eq; rw [UInt8.toNat_ofNat', UInt8.toNat_ofNat']; omega
theorem bv_toNat (k n : Nat) : (BitVec.ofInt k (n : Int)).toNat = n % 2 ^ k := by
  rw [BitVec.toNat_ofInt]; omega
theorem or128 (x : UInt8) : toU8 (((BitVec.ofInt 8 (x.toNat : Int) ||| BitVec.ofInt 8 ((128 : UInt8).toNat : Int)).toNat : Int)) = UInt8.ofNat (x.toNat % 128 + 128) := by
  have key : ∀ n : _root_.Fin 256, toU8 (((BitVec.ofInt 8 (n.val : Int) ||| BitVec.ofInt 8 ((128 : UInt8).toNat : Int)).toNat : Int)) = UInt8.ofNat (n.val % 128 + 128) := by decide +kernel
  exact key ⟨x.toNat, x.toNat_lt⟩
theorem and127 (x : UInt8) : ((toU8 (((BitVec.ofInt 8 (x.toNat : Int) &&& BitVec.ofInt 8 ((127 : UInt8).toNat : Int)).toNat : Int))).toNat : Int) = ((x.toNat % 128 : Nat) : Int) := by
  have key : ∀ n : _root_.Fin 256, ((toU8 (((BitVec.ofInt 8 (n.val : Int) &&& BitVec.ofInt 8 ((127 : UInt8).toNat : Int)).toNat : Int))).toNat : Int) = ((n.val % 128 : Nat) : Int) := by decide +kernel
  exact key ⟨x.toNat, x.toNat_lt⟩
theorem bits_xor32 {a b : Nat} (ha : a < 2 ^ 32) (hb : b < 2 ^ 32) : bitsOp .xor .u32 (a : Int) (b : Int) = ((a ^^^ b : Nat) : Int) := by
  have h := Nat.xor_lt_two_pow ha hb
  show IntKind.u32.wrap ((BitVec.ofInt 32 (a : Int) ^^^ BitVec.ofInt 32 (b : Int)).toNat : Int) = _
  rw [BitVec.toNat_xor, bv_toNat, bv_toNat]
  rw [Nat.mod_eq_of_lt ha, Nat.mod_eq_of_lt hb, u32_id (by omega) (by omega)]
theorem bits_and32 {a b : Nat} (ha : a < 2 ^ 32) (hb : b < 2 ^ 32) : bitsOp .and .u32 (a : Int) (b : Int) = ((a &&& b : Nat) : Int) := by
  have h : a &&& b < 2 ^ 32 := Nat.and_lt_two_pow _ hb
  show IntKind.u32.wrap ((BitVec.ofInt 32 (a : Int) &&& BitVec.ofInt 32 (b : Int)).toNat : Int) = _
  rw [BitVec.toNat_and, bv_toNat, bv_toNat]
  rw [Nat.mod_eq_of_lt ha, Nat.mod_eq_of_lt hb, u32_id (by omega) (by omega)]
theorem bits_or64 {a b : Nat} (ha : a < 2 ^ 63) (hb : b < 2 ^ 63) : bitsOp .or .i64 (a : Int) (b : Int) = ((a ||| b : Nat) : Int) := by
  have h : a ||| b < 2 ^ 63 := Nat.or_lt_two_pow ha hb
  show w64 ((BitVec.ofInt 64 (a : Int) ||| BitVec.ofInt 64 (b : Int)).toNat : Int) = _
  rw [BitVec.toNat_or, bv_toNat, bv_toNat]
  rw [Nat.mod_eq_of_lt (by omega), Nat.mod_eq_of_lt (by omega), w64_id (by omega) (by omega)]
theorem or_add {a b k : Nat} (ha : a < 2 ^ k) : a ||| b * 2 ^ k = a + b * 2 ^ k := by
  have := Nat.two_pow_add_eq_or_of_lt ha b
  rw [Nat.mul_comm b, Nat.or_comm, ← this, Nat.add_comm]
theorem and_one (n : Nat) : n &&& 1 = n % 2 := Nat.and_one_is_mod n
end Go.Dm
