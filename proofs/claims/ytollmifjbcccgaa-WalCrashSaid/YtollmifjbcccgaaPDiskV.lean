/- Disks: what each of their functions says. -/
import Derived.Test.YtollmifjbcccgaaPSumV
namespace Go.Proofs.Ytollmifjbcccgaa
open Go Go.Dm
set_option linter.unusedVariables false
set_option linter.unusedSimpArgs false
namespace G
theorem cat_L1 (ls : List (List UInt8)) (hl : ls.flatten.length ≤ 100000) (hn : ls.length ≤ 1000) : ∀ (m n : Nat) (acc : List UInt8), ls.length - n = m → n ≤ ls.length → acc ++ (ls.drop n).flatten = ls.flatten → slices_Concat_byte_byte_L1 ls (acc, (n : Int)) = some ls.flatten
  | 0, n, acc, hm, hi, he => by
    have : n = ls.length := by omega
    subst this
    refine loopO_inr ?_
    simp only [slices_Concat_byte_byte_B1]
    rw [if_neg (d_f (by omega)), ← he]
    simp [slices_Concat_byte_byte_J2, inrO]
  | m + 1, n, acc, hm, hi, he => by
    have hlt : n < ls.length := by omega
    have hw : w64 ((n : Int) + 1) = ((n + 1 : Nat) : Int) := by rw [w64_id (by omega) (by omega)]; omega
    rw [lget_drop ls n hlt, List.flatten_cons, ← List.append_assoc] at he
    refine (loopO_inl (y := (acc ++ lget ls (n : Int), ((n + 1 : Nat) : Int))) ?_).trans (cat_L1 ls hl hn m (n + 1) _ (by omega) (by omega) he)
    have h2 := congrArg List.length he
    rw [List.length_append] at h2
    simp only [slices_Concat_byte_byte_B1]
    rw [if_pos (d_t (by omega)), asrt_pos (by omega), asrt_pos (by omega), hw]
theorem grow_eq (n : Nat) (h : n ≤ 100000) : slices_Grow_byte_byte_v1 (n : Int) = some [] := by
  have hw : w64 ((n : Int) - w64 (0 - 0)) = (n : Int) := by
    have : w64 (0 - 0) = 0 := by decide
    rw [this, w64_id (by omega) (by omega)]; omega
  unfold slices_Grow_byte_byte_v1
  rw [hw, if_neg (d_f (by omega)), ob_some]
  by_cases h0 : n = 0
  · subst h0; rfl
  · rw [if_pos (d_t (by omega)), asrt_pos (by simp; omega), asrt_pos (by simp)]
    dsimp only [lt]
    rw [asrt_pos (show Int.toNat 0 ≤ _ from Nat.zero_le _)]; rfl
theorem cat_L2 (ls : List (List UInt8)) (hl : ls.flatten.length ≤ 100000) (hn : ls.length ≤ 1000) : ∀ (m n : Nat) (s : Nat), ls.length - n = m → n ≤ ls.length → s + (ls.drop n).flatten.length = ls.flatten.length → slices_Concat_byte_byte_L2 ls ((s : Int), (n : Int)) = some ls.flatten
  | 0, n, s, hm, hi, he => by
    have : n = ls.length := by omega
    subst this
    refine loopO_inr ?_
    simp only [slices_Concat_byte_byte_B2]
    rw [if_neg (d_f (by omega))]
    unfold slices_Concat_byte_byte_J1
    rw [grow_eq s (by omega), ob_some]
    have := cat_L1 ls hl hn ls.length 0 [] (by omega) (by omega) (by simp)
    have h0 : ((0 : Nat) : Int) = 0 := rfl
    rw [h0] at this
    rw [this]; rfl
  | m + 1, n, s, hm, hi, he => by
    have hlt : n < ls.length := by omega
    have hw : w64 ((n : Int) + 1) = ((n + 1 : Nat) : Int) := by rw [w64_id (by omega) (by omega)]; omega
    rw [lget_drop ls n hlt, List.flatten_cons, List.length_append] at he
    have hw2 : w64 ((s : Int) + ((lget ls (n : Int)).length : Int)) = ((s + (lget ls (n : Int)).length : Nat) : Int) := by rw [w64_id (by omega) (by omega)]; omega
    refine (loopO_inl (y := (((s + (lget ls (n : Int)).length : Nat) : Int), ((n + 1 : Nat) : Int))) ?_).trans (cat_L2 ls hl hn m (n + 1) _ (by omega) (by omega) (by omega))
    simp only [slices_Concat_byte_byte_B2, hw2]
    rw [if_pos (d_t (by omega)), asrt_pos (by omega), if_neg (d_f (by omega)), ob_some, hw]
theorem cat_eq (ls : List (List UInt8)) (hl : ls.flatten.length ≤ 100000) (hn : ls.length ≤ 1000) : slices_Concat_byte_byte ls = some ls.flatten := by
  have := cat_L2 ls hl hn ls.length 0 0 (by omega) (by omega) (by simp)
  exact this

def dF (d : Disk) : Fault := if 60000 < d.Bytes.length then ⟨8, 0⟩ else if d.Kept < 0 ∨ (d.Bytes.length : Int) < d.Kept then ⟨3, 0⟩ else ⟨0, 0⟩
theorem dcheck_eq (d : Disk) : disk_Check d = dF d := by
  unfold disk_Check dF
  by_cases c : 60000 < d.Bytes.length
  · rw [if_pos (d_t (by omega)), if_pos c]; rfl
  · rw [if_neg (d_f (by omega)), if_neg c]
    by_cases c2 : d.Kept < 0 ∨ (d.Bytes.length : Int) < d.Kept
    · rw [if_pos (or_t c2), if_pos c2]; rfl
    · rw [if_neg (or_f c2), if_neg c2]
theorem rdisk_eq (d : Disk) : R_DiskFault d = dF d := by
  unfold R_DiskFault dF
  by_cases c : 60000 < d.Bytes.length
  · rw [if_pos (d_t (by omega)), if_pos c]; rfl
  · rw [if_neg (d_f (by omega)), if_neg c]
    by_cases c2 : d.Kept < 0 ∨ (d.Bytes.length : Int) < d.Kept
    · rw [if_pos (or_t c2), if_pos c2]; rfl
    · rw [if_neg (or_f c2), if_neg c2]
structure DGood (d : Disk) : Prop where
  len : d.Bytes.length ≤ 60000
  k0 : 0 ≤ d.Kept
  k1 : d.Kept ≤ (d.Bytes.length : Int)
theorem dF_good {d : Disk} : (dF d).Code = 0 ↔ DGood d := by
  unfold dF
  by_cases c : 60000 < d.Bytes.length
  · rw [if_pos c]; exact ⟨fun h => (by cases h), fun h => by have := h.len; omega⟩
  · rw [if_neg c]
    by_cases c2 : d.Kept < 0 ∨ (d.Bytes.length : Int) < d.Kept
    · rw [if_pos c2]; exact ⟨fun h => (by cases h), fun h => by have := h.k0; have := h.k1; omega⟩
    · rw [if_neg c2]; exact ⟨fun _ => ⟨by omega, by omega, by omega⟩, fun _ => rfl⟩
theorem dF_zero {d : Disk} (h : DGood d) : dF d = ⟨0, 0⟩ := by
  unfold dF
  rw [if_neg (by have := h.len; omega), if_neg (by have := h.k0; have := h.k1; omega)]
def dE : Disk := ⟨[], 0⟩
def apS (d : Disk) (b : List UInt8) : Disk × Fault := if 60000 < d.Bytes.length + b.length then (dE, ⟨9, 0⟩) else (⟨d.Bytes ++ b, d.Kept⟩, ⟨0, 0⟩)
theorem opn_le : ∀ (k : Nat) (b : List UInt8) (acc : List (List UInt8)) (g : Nat), (opn k b acc g).2 ≤ g + b.length
  | 0, b, acc, g => by simp [opn]
  | k + 1, b, acc, g => by
    cases hr : rdF b with
    | none => rw [opn_none hr]; simp
    | some p =>
      obtain ⟨x, r⟩ := p
      rw [opn_some hr]
      have h1 := (rdF_some hr).1
      have h2 := opn_le k r (acc ++ [x]) (g + (x.length + 6))
      have h3 := congrArg List.length h1
      rw [List.length_append, frame_len] at h3
      omega
theorem sameDisk_iff (a b : Disk) : R_SameDisk a b = decide (a = b) := by
  unfold R_SameDisk R_Same lt
  obtain ⟨x, k⟩ := a
  obtain ⟨y, j⟩ := b
  by_cases h1 : x = y <;> by_cases h2 : k = j <;> simp [h1, h2]
end G
end Go.Proofs.Ytollmifjbcccgaa
