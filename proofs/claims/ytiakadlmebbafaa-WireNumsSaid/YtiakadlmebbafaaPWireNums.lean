/- Numbers are written and read as the document says. -/
import Derived.Test.YtiakadlmebbafaaPWireA
namespace Go.Proofs.Ytiakadlmebbafaa
open Go Go.Dm
set_option linter.unusedVariables false
set_option linter.unusedSimpArgs false
namespace G
theorem bad_none : ∀ (l : List Int) (i : Int), bad l i = none → ∀ x ∈ l, 0 ≤ x ∧ x ≤ 1000000000
  | [], i, h => by simp
  | n :: l, i, h => by
    rw [bad] at h
    by_cases c : n < 0 ∨ 1000000000 < n
    · rw [if_pos c] at h; cases h
    · rw [if_neg c] at h
      intro x hx
      rcases List.mem_cons.1 hx with rfl | hx
      · omega
      · exact bad_none l _ h x hx
theorem enc_loop (l : List Int) (hl : l.length ≤ 1000) (hr : ∀ x ∈ l, 0 ≤ x ∧ x ≤ 1000000000) : ∀ (m k : Nat) (acc : List UInt8), l.length - k = m → k ≤ l.length → acc.length ≤ 5 * k →
    law_WireNums_1_v1_L1 l (acc, (k : Int)) = some (acc ++ encN (l.drop k))
  | 0, k, acc, e, hk, ha => by
    have : k = l.length := by omega
    subst this
    refine loopO_inr ?_
    simp only [law_WireNums_1_v1_B1]
    rw [if_neg (d_f (by omega))]
    simp [inrO, law_WireNums_1_v1_J1, encN, wrAll]
  | m + 1, k, acc, e, hk, ha => by
    have hlt : k < l.length := by omega
    have hw : w64 ((k : Int) + 1) = ((k + 1 : Nat) : Int) := by rw [w64_id (by omega) (by omega)]; omega
    rw [lget_drop l k hlt, encN_cons]
    have hx := hr _ (lget_mem l (k : Int) (by omega))
    obtain ⟨n, hn⟩ : ∃ n : Nat, lget l (k : Int) = (n : Int) := ⟨(lget l (k : Int)).toNat, by omega⟩
    have h5 := num_len5 (n := n) (by omega)
    have ih := enc_loop l hl hr m (k + 1) (acc ++ num n) (by omega) (by omega) (by simp; omega)
    refine (loopO_inl (y := (acc ++ num n, ((k + 1 : Nat) : Int))) ?_).trans (ih.trans ?_)
    · simp only [law_WireNums_1_v1_B1]
      rw [if_pos (d_t (by omega)), asrt_pos (by omega), hn, rnumber1 n (by omega), ob_some, asrt_pos (by simp; omega), hw]
    · rw [hn, Int.toNat_natCast, List.append_assoc]
def badF (l : List Int) (k : Int) : Fault := match bad l k with
  | some i => ⟨3, i⟩
  | none => ⟨0, 0⟩
theorem fault_loop (l : List Int) (b : List UInt8) (x2 : List UInt8 × Fault) (x4 : List Int × Fault) (f1 f2 : Fault) (hl : l.length ≤ 1000) : ∀ (m k : Nat), l.length - k = m → k ≤ l.length →
    law_WireNums_L1 l b x2 x4 (f1, f2, ⟨0, 0⟩, (k : Int)) = law_WireNums_J1 l b x2 x4 (f1, f2, badF (l.drop k) k)
  | 0, k, e, hk => by
    have : k = l.length := by omega
    subst this
    have hb : badF (l.drop l.length) (l.length : Int) = ⟨0, 0⟩ := by simp [badF, bad]
    rw [hb]
    unfold law_WireNums_L1
    rw [loopO_eq]
    simp only [law_WireNums_B1]
    rw [if_neg (by simp)]
    cases law_WireNums_J1 l b x2 x4 (f1, f2, ⟨0, 0⟩) <;> rfl
  | m + 1, k, e, hk => by
    have hlt : k < l.length := by omega
    have hw : w64 ((k : Int) + 1) = ((k + 1 : Nat) : Int) := by rw [w64_id (by omega) (by omega)]; omega
    rw [lget_drop l k hlt]
    by_cases c : lget l (k : Int) < 0 ∨ 1000000000 < lget l (k : Int)
    · have hb : badF (lget l (k : Int) :: l.drop (k + 1)) (k : Int) = ⟨3, k⟩ := by simp only [badF, bad, if_pos c]
      rw [hb]
      have h1 : law_WireNums_B1 l b x2 x4 (f1, f2, ⟨0, 0⟩, (k : Int)) = some (.inl (f1, f2, ⟨3, k⟩, ((k + 1 : Nat) : Int))) := by
        simp only [law_WireNums_B1]
        rw [if_pos (by simp; omega), asrt_pos (by omega), asrt_pos (fun _ => by omega), if_pos (or_t c), hw]
        rfl
      refine (loopO_inl h1).trans ?_
      rw [loopO_eq]
      simp only [law_WireNums_B1]
      rw [if_neg (by simp)]
      cases law_WireNums_J1 l b x2 x4 (f1, f2, ⟨3, k⟩) <;> rfl
    · have ih := fault_loop l b x2 x4 f1 f2 hl m (k + 1) (by omega) (by omega)
      have e1 : (k : Int) + 1 = ((k + 1 : Nat) : Int) := by omega
      have hb : badF (lget l (k : Int) :: l.drop (k + 1)) (k : Int) = badF (l.drop (k + 1)) ((k + 1 : Nat) : Int) := by simp only [badF, bad, if_neg c, e1]
      rw [hb]
      refine (loopO_inl (y := (f1, f2, (⟨0, 0⟩ : Fault), ((k + 1 : Nat) : Int))) ?_).trans ih
      simp only [law_WireNums_B1]
      rw [if_pos (by simp; omega), asrt_pos (by omega), asrt_pos (fun _ => by omega), if_neg (or_f c), hw]
      rfl
def wantF (l : List Int) : Fault := if 1000 < l.length then ⟨2, 0⟩ else badF l 0
theorem bytes_eq (l : List Int) : law_bytesAs (numsS l).1 (numsS l).2 (wantF l) l = some true := by
  unfold law_bytesAs numsS wantF
  by_cases c : 1000 < l.length
  · simp [c]
  · simp only [if_neg c]
    cases hb : bad l 0 with
    | some i => simp [badF, hb]
    | none =>
      have he := enc_loop l (by omega) (bad_none l 0 hb) l.length 0 [] (by omega) (by omega) (by simp)
      have he : law_WireNums_1_v1 l = some (encN l) := he.trans (by simp)
      simp [badF, hb, he, ob_some, lt, R_Same]
theorem nums_J1 (l : List Int) (b : List UInt8) : law_WireNums_J1 l b (numsS l) (readNumsS b) ((numsS l).2, (readNumsS b).2, wantF l) = some true := by
  simp only [law_WireNums_J1]
  rw [bytes_eq, ob_some, if_neg (by simp)]
  by_cases c : 60000 < b.length
  · rw [if_pos (d_t (by omega))]
    simp [readNumsS, c, lt, R_F]
  · rw [if_neg (d_f (by omega)), readNumbers_eq b (by omega), ob_some]
    simp only [readNumsS, if_neg c]
    cases hr : rdAll rdI b.length b [] with
    | inr n => simp [rnS, rnR, lt, R_F]
    | inl m =>
      have h1 : ¬ (0 : Int) ≤ -1 := by omega
      by_cases c2 : 1000 < m.length
      · have e1 : rnS (.inl m) = ([], ⟨2, 0⟩) := by simp [rnS, c2]
        have e2 : rnR (.inl m) = (m, -1) := rfl
        rw [e1, e2]
        dsimp only
        rw [if_neg (d_f h1), if_pos (d_t (by omega))]
        simp [lt, R_F]
      · have e1 : rnS (.inl m) = (m, ⟨0, 0⟩) := by simp [rnS, c2]
        have e2 : rnR (.inl m) = (m, -1) := rfl
        rw [e1, e2]
        dsimp only
        rw [if_neg (d_f h1), if_neg (d_f (by omega))]
        simp [ints_eq m m (by omega), ob_some]
theorem WireNums_eq (l : List Int) (b : List UInt8) : law_WireNums l b = some true := by
  unfold law_WireNums
  simp only [wbegun, ob_some, Bool.not_true, Bool.false_eq_true, if_false]
  by_cases v : 3000 < (l.length : Int) ∨ 100000 < (b.length : Int)
  · have hv : (decide (3000 < (l.length : Int)) || decide (100000 < (b.length : Int))) = true := or_t v
    simp only [hv, if_true]
  · have hv : (decide (3000 < (l.length : Int)) || decide (100000 < (b.length : Int))) = false := by simp; omega
    simp only [hv, Bool.false_eq_true, if_false, law_own_v1, law_ownBytes_v1]
    rw [asrt_pos (by omega), ob_some, nums_eq, ob_some, asrt_pos (by omega), ob_some, readNums_eq, ob_some]
    by_cases c : 1000 < l.length
    · rw [if_pos (d_t (by omega))]
      simp only [lt, R_F, ob_some]
      have hw : wantF l = ⟨2, 0⟩ := by simp [wantF, c]
      have := nums_J1 l b
      rw [hw] at this
      refine loopO_inr ?_
      simp only [law_WireNums_B1]
      rw [if_neg (by simp), this]; rfl
    · rw [if_neg (d_f (by omega))]
      simp only [ob_some]
      have h := fault_loop l b (numsS l) (readNumsS b) (numsS l).2 (readNumsS b).2 (by omega) l.length 0 (by omega) (by omega)
      have hw : wantF l = badF (l.drop 0) ((0 : Nat) : Int) := by simp [wantF, c]
      rw [← hw, nums_J1 l b] at h
      exact h
end G
end Go.Proofs.Ytiakadlmebbafaa
