/- The sum of bytes, plainly. -/
import Derived.Test.YtollmifjbcccgaaEm35
namespace Go.Dm
open Go
set_option linter.unusedVariables false
set_option linter.unusedSimpArgs false

def crcP : Nat := 3988292384
def crcS (c : Nat) : Nat := if c % 2 = 1 then (c / 2) ^^^ crcP else c / 2
def crcT (c b : Nat) : Nat := if (c + b) % 2 = 1 then (c / 2) ^^^ crcP else c / 2
def crcN : Nat → Nat → Nat
  | 0, c => c
  | k + 1, c => crcN k (crcS c)
/-- of a byte's bits, from some bit on -/
def crcR : Nat → Nat → Nat → Nat
  | 0, c, x => c
  | k + 1, c, x => crcR k (crcT c (x % 2)) (x / 2)
theorem xor_m2 (a b : Nat) : (a ^^^ b) % 2 = (a + b) % 2 := by
  have h : (a ^^^ b) % 2 = (a % 2) ^^^ (b % 2) := by
    have := Nat.xor_mod_two_pow (a := a) (b := b) (n := 1)
    simpa using this
  rw [h]
  rcases Nat.mod_two_eq_zero_or_one a with ha | ha <;> rcases Nat.mod_two_eq_zero_or_one b with hb | hb <;> rw [ha, hb] <;> simp <;> omega
theorem xor_d2 (a b : Nat) : (a ^^^ b) / 2 = (a / 2) ^^^ (b / 2) := by
  have := Nat.xor_div_two_pow (a := a) (b := b) (n := 1)
  simpa using this
theorem crcS_xor (c y : Nat) : crcS (c ^^^ y) = crcT c (y % 2) ^^^ (y / 2) := by
  unfold crcS crcT
  rw [xor_m2, xor_d2]
  have : (c + y) % 2 = (c + y % 2) % 2 := by omega
  rw [this]
  split
  · rw [Nat.xor_assoc, Nat.xor_comm (y / 2), ← Nat.xor_assoc]
  · rfl
theorem crcN_xor : ∀ (k c y : Nat), crcN k (c ^^^ y) = crcR k c y ^^^ (y / 2 ^ k)
  | 0, c, y => by simp [crcN, crcR]
  | k + 1, c, y => by
    rw [crcN, crcS_xor, crcN_xor k, crcR, Nat.div_div_eq_div_mul, Nat.pow_succ, Nat.mul_comm 2]
theorem crc_byte (c x : Nat) (hx : x < 256) : crcN 8 (c ^^^ x) = crcR 8 c x := by
  rw [crcN_xor]
  have : x / 2 ^ 8 = 0 := by omega
  rw [this, Nat.xor_zero]
theorem crcS_lt {c : Nat} (h : c < 2 ^ 32) : crcS c < 2 ^ 32 := by
  unfold crcS
  split
  · exact Nat.xor_lt_two_pow (by omega) (by unfold crcP; omega)
  · omega
theorem crcN_lt : ∀ (k : Nat) {c : Nat}, c < 2 ^ 32 → crcN k c < 2 ^ 32
  | 0, c, h => h
  | k + 1, c, h => crcN_lt k (crcS_lt h)
theorem crcS_inj {c d : Nat} (hc : c < 2 ^ 32) (hd : d < 2 ^ 32) (h : crcS c = crcS d) : c = d := by
  have key : ∀ a b : Nat, a < 2 ^ 31 → b < 2 ^ 31 → a ^^^ crcP ≠ b := by
    intro a b ha hb e
    have h1 : (a ^^^ crcP).testBit 31 = b.testBit 31 := by rw [e]
    rw [Nat.testBit_xor, Nat.testBit_lt_two_pow ha, Nat.testBit_lt_two_pow hb] at h1
    have : crcP.testBit 31 = true := by decide
    rw [this] at h1; cases h1
  unfold crcS at h
  have hc2 : c / 2 < 2 ^ 31 := by omega
  have hd2 : d / 2 < 2 ^ 31 := by omega
  by_cases h1 : c % 2 = 1 <;> by_cases h2 : d % 2 = 1
  · rw [if_pos h1, if_pos h2] at h
    have : c / 2 = d / 2 := by
      have := congrArg (· ^^^ crcP) h
      simpa [Nat.xor_assoc] using this
    omega
  · rw [if_pos h1, if_neg h2] at h; exact absurd h (key _ _ hc2 hd2)
  · rw [if_neg h1, if_pos h2] at h; exact absurd h.symm (key _ _ hd2 hc2)
  · rw [if_neg h1, if_neg h2] at h; omega
theorem crcN_inj : ∀ (k : Nat) {c d : Nat}, c < 2 ^ 32 → d < 2 ^ 32 → crcN k c = crcN k d → c = d
  | 0, c, d, _, _, h => h
  | k + 1, c, d, hc, hd, h => crcS_inj hc hd (crcN_inj k (crcS_lt hc) (crcS_lt hd) h)
/-- the register behind bytes -/
def crcL (c : Nat) : List UInt8 → Nat
  | [] => c
  | x :: l => crcL (crcN 8 (c ^^^ x.toNat)) l
theorem u8_lt32 (x : UInt8) : x.toNat < 2 ^ 32 := by have := x.toNat_lt; omega
theorem crcL_lt : ∀ (l : List UInt8) {c : Nat}, c < 2 ^ 32 → crcL c l < 2 ^ 32
  | [], c, h => h
  | x :: l, c, h => crcL_lt l (crcN_lt 8 (Nat.xor_lt_two_pow h (u8_lt32 x)))
theorem crcL_inj : ∀ (l : List UInt8) {c d : Nat}, c < 2 ^ 32 → d < 2 ^ 32 → crcL c l = crcL d l → c = d
  | [], c, d, _, _, h => h
  | x :: l, c, d, hc, hd, h => by
    have := crcN_inj 8 (Nat.xor_lt_two_pow hc (u8_lt32 x)) (Nat.xor_lt_two_pow hd (u8_lt32 x)) (crcL_inj l (crcN_lt 8 (Nat.xor_lt_two_pow hc (u8_lt32 x))) (crcN_lt 8 (Nat.xor_lt_two_pow hd (u8_lt32 x))) h)
    have := congrArg (· ^^^ x.toNat) this
    simpa [Nat.xor_assoc] using this
theorem crcL_append : ∀ (a b : List UInt8) (c : Nat), crcL c (a ++ b) = crcL (crcL c a) b
  | [], b, c => rfl
  | x :: a, b, c => crcL_append a b _
theorem crcL_cons (x : UInt8) (l : List UInt8) (c : Nat) : crcL c (x :: l) = crcL (crcN 8 (c ^^^ x.toNat)) l := rfl
theorem crc_step {r : Nat} (hr : r < 2 ^ 32) {a b : UInt8} (h : crcN 8 (r ^^^ a.toNat) = crcN 8 (r ^^^ b.toNat)) : a = b := by
  have h2 := crcN_inj 8 (Nat.xor_lt_two_pow hr (u8_lt32 a)) (Nat.xor_lt_two_pow hr (u8_lt32 b)) h
  have h3 : (r ^^^ (r ^^^ a.toNat)) = (r ^^^ (r ^^^ b.toNat)) := by rw [h2]
  rw [← Nat.xor_assoc, ← Nat.xor_assoc, Nat.xor_self, Nat.zero_xor, Nat.zero_xor] at h3
  exact u8_eq h3
/-- one byte that is another one is seen -/
theorem crcL_mid {a b : List UInt8} {x y : UInt8} {c : Nat} (hc : c < 2 ^ 32) (h : crcL c (a ++ x :: b) = crcL c (a ++ y :: b)) : x = y := by
  rw [crcL_append, crcL_append, crcL_cons, crcL_cons] at h
  have hr := crcL_lt a hc
  exact crc_step hr (crcL_inj b (crcN_lt 8 (Nat.xor_lt_two_pow hr (u8_lt32 x))) (crcN_lt 8 (Nat.xor_lt_two_pow hr (u8_lt32 y))) h)
theorem crcL_set {l : List UInt8} {c : Nat} (hc : c < 2 ^ 32) {i : Nat} {x : UInt8} (hi : i < l.length) (hx : l[i] ≠ x) : crcL c (l.set i x) ≠ crcL c l := by
  intro h
  have e1 : l.take i ++ l[i] :: l.drop (i + 1) = l := by rw [← List.drop_eq_getElem_cons hi, List.take_append_drop]
  have e2 : l.set i x = l.take i ++ x :: l.drop (i + 1) := by rw [List.set_eq_take_append_cons_drop, if_pos hi]
  rw [e2] at h
  have h' : crcL c (l.take i ++ x :: l.drop (i + 1)) = crcL c (l.take i ++ l[i] :: l.drop (i + 1)) := by rw [e1]; exact h
  exact hx (crcL_mid hc h').symm
/-- the sum -/
def crc (l : List UInt8) : Nat := 4294967295 - crcL 4294967295 l
theorem crc_lt (l : List UInt8) : crc l < 2 ^ 32 := by unfold crc; omega
theorem crc_set {l : List UInt8} {i : Nat} {x : UInt8} (hi : i < l.length) (hx : l[i] ≠ x) : crc (l.set i x) ≠ crc l := by
  have h1 := crcL_lt (l.set i x) (c := 4294967295) (by omega)
  have h2 := crcL_lt l (c := 4294967295) (by omega)
  have h3 := crcL_set (c := 4294967295) (by omega) hi hx
  unfold crc; omega
def crcB (n : Nat) : List UInt8 := [UInt8.ofNat (n / 16777216), UInt8.ofNat (n / 65536 % 256), UInt8.ofNat (n / 256 % 256), UInt8.ofNat (n % 256)]
theorem crcB_inj {a b : Nat} (ha : a < 2 ^ 32) (hb : b < 2 ^ 32) (h : crcB a = crcB b) : a = b := by
  unfold crcB at h
  simp only [List.cons.injEq, and_true] at h
  obtain ⟨h1, h2, h3, h4⟩ := h
  have k1 := congrArg UInt8.toNat h1
  have k2 := congrArg UInt8.toNat h2
  have k3 := congrArg UInt8.toNat h3
  have k4 := congrArg UInt8.toNat h4
  rw [u8_of (by omega), u8_of (by omega)] at k1 k2 k3 k4
  omega
/-- a frame -/
def frame (b : List UInt8) : List UInt8 := (UInt8.ofNat (b.length / 256) :: UInt8.ofNat (b.length % 256) :: b) ++ crcB (crc (UInt8.ofNat (b.length / 256) :: UInt8.ofNat (b.length % 256) :: b))
theorem frame_len (b : List UInt8) : (frame b).length = b.length + 6 := by simp [frame, crcB]
end Go.Dm
