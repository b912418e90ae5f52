/- Every Check and Sort is as the document says. -/
import Derived.Test.YtkbgkkbinnclmaaPSortG
namespace Go.Proofs.Ytkbgkkbinnclmaa
open Go Go.Dm
set_option linter.unusedVariables false
set_option linter.unusedSectionVars false
set_option linter.unusedSimpArgs false
namespace G
/-- the first cell that is not fine -/
noncomputable def cdF : List Cell → Int → Fault
  | [], _ => ⟨0, 0⟩
  | c :: l, i => if R_CellCode c = 0 then cdF l (i + 1) else ⟨R_CellCode c, i⟩
noncomputable def sortS (l : List Cell) : List Cell × Fault := if (cdF l 0).Code = 0 then (firsts l.reverse, ⟨0, 0⟩) else ([], cdF l 0)
theorem cdF_code : ∀ (l : List Cell) (i : Int), (cdF l i).Code = 0 → cdF l i = ⟨0, 0⟩
  | [], _, _ => rfl
  | c :: l, i, h => by
    rw [cdF] at h ⊢
    by_cases q : R_CellCode c = 0
    · rw [if_pos q] at h ⊢; exact cdF_code l _ h
    · rw [if_neg q] at h; exact absurd h q
theorem sort_loop (l : List Cell) (hl : l.length ≤ 1000) (f0 : Fault) : ∀ (m k : Nat), l.length - k = m → k ≤ l.length →
    cell_Sort_v1_L1 l (f0, (k : Int)) = some (if (cdF (l.drop k) k).Code = 0 then (firsts l.reverse, ⟨0, 0⟩) else ([], cdF (l.drop k) k)) := by
  intro m
  induction m with
  | zero =>
    intro k e hk
    have : k = l.length := by omega
    subst this
    refine loopO_inr ?_
    unfold cell_Sort_v1_B1
    dsimp only
    rw [if_neg (d_f (by omega)), List.drop_length, cdF, if_pos rfl]
    unfold cell_Sort_v1_J1
    rw [clone_eq l (by omega), ob_some, reverse_eq l (by omega), ob_some, merge_eq [l.reverse] (by simp; omega) (by simp), ob_some]
    simp only [List.flatten_cons, List.flatten_nil, List.append_nil]
    rfl
  | succ m ih =>
    intro k e hk
    have hd := lget_drop l k (by omega)
    rw [hd, cdF]
    by_cases q : R_CellCode (lget l (k : Int)) = 0
    · rw [if_pos q]
      refine (loopO_inl ?_).trans (ih (k + 1) (by omega) (by omega))
      unfold cell_Sort_v1_B1
      dsimp only
      rw [if_pos (d_t (by omega)), asrt_pos (by omega)]
      simp only [cell_eta, lt]
      rw [if_neg (n_f ((code_eq _).trans q)), w64_id (by omega) (by omega)]; rfl
    · rw [if_neg q, if_neg q]
      refine loopO_inr ?_
      unfold cell_Sort_v1_B1
      dsimp only
      rw [if_pos (d_t (by omega)), asrt_pos (by omega)]
      simp only [cell_eta, lt]
      rw [if_pos (n_t (fun z => q ((code_eq _).symm.trans z)))]; rfl
theorem sort_eq (l : List Cell) (hl : l.length ≤ 1000) : cell_Sort_v1 l = some (sortS l) := by
  unfold cell_Sort_v1
  rw [if_neg (d_f (by omega))]
  have := sort_loop l hl ⟨0, 0⟩ l.length 0 (by omega) (by omega)
  exact this
theorem sort_many (l : List Cell) (hl : 1000 < l.length) : cell_Sort_v1 l = some ([], ⟨2, 0⟩) := by
  unfold cell_Sort_v1
  rw [if_pos (d_t (by omega))]; rfl
theorem as_bad {f : Fault} (hf : ¬ f.Code = 0) (x : List Cell) : law_cellsAs_v1 [] f f x = some true := by
  unfold law_cellsAs_v1
  rw [if_neg (by simp), if_pos (n_t hf)]; rfl
theorem as_ok (l : List Cell) (hl : l.length ≤ 150) : law_cellsAs_v1 (firsts l.reverse) ⟨0, 0⟩ ⟨0, 0⟩ l = some true := by
  have hp := rputs_eq [] l [] firsts_nil (by simp; omega)
  have hln := firsts_len l.reverse
  rw [List.length_reverse] at hln
  unfold law_cellsAs_v1 law_CellSorts_1
  rw [if_neg (by simp), if_neg (n_f rfl), hp, ob_some]
  simp only [ob_some, List.append_nil]
  rw [sameCells_self _ (by omega), ob_some]
theorem law_end (l : List Cell) (x : List Cell × Fault) (f : Fault) (v : Fault × Fault) (h : law_CellSorts_J1 l x v = some true) : inrO (σ := Fault × Fault × Int) (law_CellSorts_J1 l x v) = some (.inr true) := by rw [h]; rfl
theorem law_loop (l : List Cell) (hl : l.length ≤ 1000) (h1 : l.length ≤ 150 ∨ l.length = 1000) (x : List Cell × Fault) (hx : x = sortS l) : ∀ (m k : Nat), l.length - k = m → k ≤ l.length → cdF l 0 = cdF (l.drop k) k →
    law_CellSorts_L1 l x (x.2, ⟨0, 0⟩, (k : Int)) = some true := by
  have fin : (cdF l 0).Code = 0 → law_CellSorts_J1 l x (x.2, ⟨0, 0⟩) = some true := by
    intro h
    have hs : x = (firsts l.reverse, ⟨0, 0⟩) := by rw [hx]; unfold sortS; rw [if_pos h]
    unfold law_CellSorts_J1
    rw [hs]
    dsimp only
    rcases h1 with q | q
    · rw [if_neg (by simp; omega), as_ok l q, ob_some]
    · rw [if_pos (by simp; omega)]; rfl
  have bad : ¬ (cdF l 0).Code = 0 → law_CellSorts_J1 l x (x.2, cdF l 0) = some true := by
    intro h
    have hs : x = ([], cdF l 0) := by rw [hx]; unfold sortS; rw [if_neg h]
    unfold law_CellSorts_J1
    rw [hs]
    dsimp only
    rw [if_neg (by simp [h]), as_bad h, ob_some]
  intro m
  induction m with
  | zero =>
    intro k e hk hc
    have : k = l.length := by omega
    subst this
    refine loopO_inr ?_
    rw [List.drop_length, cdF] at hc
    unfold law_CellSorts_B1
    dsimp only
    rw [if_neg (by simp)]
    exact law_end l x x.2 _ (fin (by rw [hc]))
  | succ m ih =>
    intro k e hk hc
    have hd := lget_drop l k (by omega)
    rw [hd, cdF] at hc
    by_cases q : R_CellCode (lget l (k : Int)) = 0
    · rw [if_pos q] at hc
      refine (loopO_inl ?_).trans (ih (k + 1) (by omega) (by omega) (by rw [hc]; rfl))
      unfold law_CellSorts_B1
      dsimp only
      rw [if_pos (by simp; omega), asrt_pos (by omega)]
      simp only [cell_eta, lt]
      rw [if_neg (n_f q), ob_some, w64_id (by omega) (by omega)]; rfl
    · rw [if_neg q] at hc
      have hnz : ¬ (cdF l 0).Code = 0 := by rw [hc]; exact q
      refine (loopO_inl (y := (x.2, cdF l 0, ((k + 1 : Nat) : Int))) ?_).trans (loopO_inr ?_)
      · unfold law_CellSorts_B1
        dsimp only
        rw [if_pos (by simp; omega), asrt_pos (by omega)]
        simp only [cell_eta, lt]
        rw [if_pos (n_t q), asrt_pos (by omega)]
        simp only [ob_some, R_F]
        rw [w64_id (by omega) (by omega), hc]; rfl
      · unfold law_CellSorts_B1
        dsimp only
        rw [if_neg (by simp [hnz])]
        exact law_end l x x.2 _ (bad hnz)
theorem CellSorts_eq (l : List Cell) : law_CellSorts l = some true := by
  unfold law_CellSorts
  rw [cbegun, ob_some, if_neg (by decide)]
  dsimp only [lt]
  by_cases c0 : law_many (l.length : Int) = true
  · rw [if_pos c0]
  · have hb : l.length ≤ 150 ∨ l.length = 1000 ∨ (1000 < l.length ∧ l.length ≤ 2000) := by
      unfold law_many at c0
      simp only [lt, Bool.or_eq_true, Bool.and_eq_true, decide_eq_true_eq, not_or] at c0
      omega
    have ho : law_ownCells_v1 l = some l := by unfold law_ownCells_v1; rw [asrt_pos (by omega)]
    rw [if_neg c0, ho, ob_some, check_eq, ob_some]
    have hsort : ∃ s, cell_Sort_v1 l = some s ∧ (1000 < l.length → s = ([], ⟨2, 0⟩)) ∧ (l.length ≤ 1000 → s = sortS l) := by
      by_cases c : 1000 < l.length
      · exact ⟨_, sort_many l c, fun _ => rfl, fun h => by omega⟩
      · exact ⟨_, sort_eq l (by omega), fun h => by omega, fun _ => rfl⟩
    obtain ⟨s, s1, s2, s3⟩ := hsort
    rw [s1, ob_some, rcheck_eq, ob_some, if_pos (by simp), sameCells_self l (by omega), ob_some, if_neg (by simp)]
    by_cases c : 1000 < l.length
    · have hs := s2 c
      subst hs
      rw [if_pos (d_t (by omega))]
      simp only [ob_some, R_F]
      refine loopO_inr ?_
      unfold law_CellSorts_B1
      dsimp only
      rw [if_neg (by simp)]
      refine law_end l _ ⟨0, 0⟩ _ ?_
      unfold law_CellSorts_J1
      dsimp only
      rw [if_neg (by simp), as_bad (by decide), ob_some]
    · have hs := s3 (by omega)
      rw [if_neg (d_f (by omega))]
      simp only [ob_some]
      exact law_loop l (by omega) (by omega) s hs l.length 0 (by omega) (by omega) rfl
end G
end Go.Proofs.Ytkbgkkbinnclmaa
