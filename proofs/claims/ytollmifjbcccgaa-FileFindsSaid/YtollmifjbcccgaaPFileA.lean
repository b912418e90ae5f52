/- Bits in bytes. -/
import Derived.Test.YtollmifjbcccgaaEmD
namespace Go.Proofs.Ytollmifjbcccgaa
open Go Go.Dm
set_option linter.unusedVariables false
set_option linter.unusedSectionVars false
set_option linter.unusedSimpArgs false
namespace G
def b2n (b : Bool) : Nat := match b with
  | true => 1
  | false => 0
/-- a byte of eight bits -/
def w8 (a0 a1 a2 a3 a4 a5 a6 a7 : Bool) : UInt8 := UInt8.ofNat (b2n a0 + 2 * b2n a1 + 4 * b2n a2 + 8 * b2n a3 + 16 * b2n a4 + 32 * b2n a5 + 64 * b2n a6 + 128 * b2n a7)
theorem or8 : ∀ (k : Fin 8) (a0 a1 a2 a3 a4 a5 a6 a7 : Bool), toU8 (((BitVec.ofInt 8 ((w8 a0 a1 a2 a3 a4 a5 a6 a7).toNat : Int) ||| BitVec.ofInt 8 ((toU8 (((1 : UInt8).toNat : Int) * 2 ^ (min ((k.val : Nat) : Int).toNat 8))).toNat : Int)).toNat : Int)) =
    w8 (a0 || k.val == 0) (a1 || k.val == 1) (a2 || k.val == 2) (a3 || k.val == 3) (a4 || k.val == 4) (a5 || k.val == 5) (a6 || k.val == 6) (a7 || k.val == 7) := by decide +kernel
def sel8 (k : Nat) (a0 a1 a2 a3 a4 a5 a6 a7 : Bool) : Bool := match k with
  | 0 => a0 | 1 => a1 | 2 => a2 | 3 => a3 | 4 => a4 | 5 => a5 | 6 => a6 | _ => a7
theorem add8 : ∀ (k : Fin 8) (a0 a1 a2 a3 a4 a5 a6 a7 : Bool), sel8 k.val a0 a1 a2 a3 a4 a5 a6 a7 = false → toU8 (((w8 a0 a1 a2 a3 a4 a5 a6 a7).toNat : Int) + ((toU8 (((1 : UInt8).toNat : Int) * 2 ^ (min ((k.val : Nat) : Int).toNat 8))).toNat : Int)) =
    w8 (a0 || k.val == 0) (a1 || k.val == 1) (a2 || k.val == 2) (a3 || k.val == 3) (a4 || k.val == 4) (a5 || k.val == 5) (a6 || k.val == 6) (a7 || k.val == 7) := by decide +kernel
def byteOf (p : Nat → Bool) (j : Nat) : UInt8 := w8 (p (8 * j)) (p (8 * j + 1)) (p (8 * j + 2)) (p (8 * j + 3)) (p (8 * j + 4)) (p (8 * j + 5)) (p (8 * j + 6)) (p (8 * j + 7))
def bytesOf (p : Nat → Bool) (n : Nat) : List UInt8 := (List.range n).map (byteOf p)
theorem bytesOf_len (p : Nat → Bool) (n : Nat) : (bytesOf p n).length = n := by simp [bytesOf]
theorem bytesOf_get (p : Nat → Bool) (n j : Nat) (h : j < n) : lget (bytesOf p n) (j : Int) = byteOf p j := by
  rw [lget_nat _ j (by rw [bytesOf_len]; exact h)]
  simp [bytesOf]
theorem bytesOf_congr {p q : Nat → Bool} (n : Nat) (h : ∀ i, i < 8 * n → p i = q i) : bytesOf p n = bytesOf q n := by
  unfold bytesOf
  apply List.map_congr_left
  intro j hj
  have hj : j < n := by simpa using hj
  unfold byteOf
  rw [h (8 * j) (by omega), h (8 * j + 1) (by omega), h (8 * j + 2) (by omega), h (8 * j + 3) (by omega), h (8 * j + 4) (by omega), h (8 * j + 5) (by omega), h (8 * j + 6) (by omega), h (8 * j + 7) (by omega)]
def setP (p : Nat → Bool) (s : Nat) : Nat → Bool := fun i => p i || i == s
theorem beq_off (j k i : Nat) (hk : k < 8) (hi : i < 8) : (8 * j + i == 8 * j + k) = (k == i) := by
  rw [Bool.eq_iff_iff]; simp; omega
theorem byteOf_set (p : Nat → Bool) (j k : Nat) (hk : k < 8) : byteOf (setP p (8 * j + k)) j =
    w8 (p (8 * j) || k == 0) (p (8 * j + 1) || k == 1) (p (8 * j + 2) || k == 2) (p (8 * j + 3) || k == 3) (p (8 * j + 4) || k == 4) (p (8 * j + 5) || k == 5) (p (8 * j + 6) || k == 6) (p (8 * j + 7) || k == 7) := by
  have e0 : (8 * j == 8 * j + k) = (k == 0) := by have := beq_off j k 0 hk (by omega); simpa using this
  unfold byteOf setP
  rw [e0, beq_off j k 1 hk (by omega), beq_off j k 2 hk (by omega), beq_off j k 3 hk (by omega), beq_off j k 4 hk (by omega), beq_off j k 5 hk (by omega), beq_off j k 6 hk (by omega), beq_off j k 7 hk (by omega)]
theorem byteOf_other (p : Nat → Bool) (j s : Nat) (h : s / 8 ≠ j) : byteOf (setP p s) j = byteOf p j := by
  have key : ∀ i, i < 8 → (setP p s (8 * j + i)) = p (8 * j + i) := by
    intro i hi
    have : (8 * j + i == s) = false := by rw [beq_eq_false_iff_ne]; omega
    unfold setP; rw [this, Bool.or_false]
  have k0 := key 0 (by omega)
  unfold byteOf
  rw [key 1 (by omega), key 2 (by omega), key 3 (by omega), key 4 (by omega), key 5 (by omega), key 6 (by omega), key 7 (by omega)]
  rw [Nat.add_zero] at k0
  rw [k0]
/-- a bit is set -/
theorem bytesOf_set (p : Nat → Bool) (n s : Nat) (hs : s < 8 * n) : lset (bytesOf p n) ((s / 8 : Nat) : Int) (byteOf (setP p s) (s / 8)) = bytesOf (setP p s) n := by
  have hl : s / 8 < n := by omega
  apply List.ext_getElem?
  intro j
  have e : lset (bytesOf p n) ((s / 8 : Nat) : Int) (byteOf (setP p s) (s / 8)) = (bytesOf p n).set (s / 8) (byteOf (setP p s) (s / 8)) := rfl
  rw [e, List.getElem?_set, bytesOf_len]
  by_cases hj : s / 8 = j
  · subst hj
    rw [if_pos rfl, if_pos hl]
    simp [bytesOf, hl]
  · rw [if_neg hj]
    by_cases h2 : j < n
    · simp [bytesOf, h2, byteOf_other p j s hj]
    · simp [bytesOf, h2]
theorem div_w (s : Nat) (h : s ≤ 1000000) : w64 (Int.tdiv (s : Int) 8) = ((s / 8 : Nat) : Int) := by
  have : Int.tdiv (s : Int) 8 = ((s / 8 : Nat) : Int) := rfl
  rw [this, w64_id (by omega) (by omega)]
theorem or_set (p : Nat → Bool) (n s : Nat) (hs : s < 8 * n) :
    toU8 (((BitVec.ofInt 8 ((lget (bytesOf p n) ((s / 8 : Nat) : Int)).toNat : Int) ||| BitVec.ofInt 8 ((toU8 (((1 : UInt8).toNat : Int) * 2 ^ (min (Int.tmod (s : Int) 8).toNat 8))).toNat : Int)).toNat : Int)) = byteOf (setP p s) (s / 8) := by
  have hk : s % 8 < 8 := Nat.mod_lt _ (by decide)
  have e : Int.tmod (s : Int) 8 = ((s % 8 : Nat) : Int) := rfl
  have h := or8 ⟨s % 8, hk⟩ (p (8 * (s / 8))) (p (8 * (s / 8) + 1)) (p (8 * (s / 8) + 2)) (p (8 * (s / 8) + 3)) (p (8 * (s / 8) + 4)) (p (8 * (s / 8) + 5)) (p (8 * (s / 8) + 6)) (p (8 * (s / 8) + 7))
  have e2 : byteOf (setP p s) (s / 8) = byteOf (setP p (8 * (s / 8) + s % 8)) (s / 8) := by rw [Nat.div_add_mod]
  rw [bytesOf_get _ _ _ (by omega), e, e2, byteOf_set p _ _ hk]
  exact h
theorem add_set (p : Nat → Bool) (n s : Nat) (hs : s < 8 * n) (hp : p s = false) :
    toU8 (((lget (bytesOf p n) ((s / 8 : Nat) : Int)).toNat : Int) + ((toU8 (((1 : UInt8).toNat : Int) * 2 ^ (min (Int.tmod (s : Int) 8).toNat 8))).toNat : Int)) = byteOf (setP p s) (s / 8) := by
  have hk : s % 8 < 8 := Nat.mod_lt _ (by decide)
  have e : Int.tmod (s : Int) 8 = ((s % 8 : Nat) : Int) := rfl
  have hps : p (8 * (s / 8) + s % 8) = false := by rw [Nat.div_add_mod]; exact hp
  have hsel : sel8 (s % 8) (p (8 * (s / 8))) (p (8 * (s / 8) + 1)) (p (8 * (s / 8) + 2)) (p (8 * (s / 8) + 3)) (p (8 * (s / 8) + 4)) (p (8 * (s / 8) + 5)) (p (8 * (s / 8) + 6)) (p (8 * (s / 8) + 7)) = false := by
    generalize s % 8 = k at *
    generalize s / 8 = j at *
    match k, hk, hps with
    | 0, _, h => exact h
    | 1, _, h => exact h
    | 2, _, h => exact h
    | 3, _, h => exact h
    | 4, _, h => exact h
    | 5, _, h => exact h
    | 6, _, h => exact h
    | 7, _, h => exact h
  have h := add8 ⟨s % 8, hk⟩ _ _ _ _ _ _ _ _ hsel
  have e2 : byteOf (setP p s) (s / 8) = byteOf (setP p (8 * (s / 8) + s % 8)) (s / 8) := by rw [Nat.div_add_mod]
  rw [bytesOf_get _ _ _ (by omega), e, e2, byteOf_set p _ _ hk]
  exact h
theorem bytesOf_zero (n : Nat) : List.replicate n (0 : UInt8) = bytesOf (fun _ => false) n := by
  apply List.ext_getElem?
  intro j
  by_cases h : j < n
  · simp [bytesOf, byteOf, h, w8, b2n]
  · simp [bytesOf, h]
end G
end Go.Proofs.Ytollmifjbcccgaa
