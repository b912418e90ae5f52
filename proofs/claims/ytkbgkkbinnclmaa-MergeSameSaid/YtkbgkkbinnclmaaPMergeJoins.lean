/- Every Join and Scan is of all cells that count. -/
import Derived.Test.YtkbgkkbinnclmaaPMergeE
namespace Go.Proofs.Ytkbgkkbinnclmaa
open Go Go.Dm
set_option linter.unusedVariables false
set_option linter.unusedSectionVars false
set_option linter.unusedSimpArgs false
namespace G
theorem as1_bad {f : Fault} (hf : ¬ f.Code = 0) (x : List Cell) : law_cellsAs_v1 [] f f x = some true := by
  unfold law_cellsAs_v1
  rw [if_neg (by simp), if_pos (n_t hf)]; rfl
theorem as1_ok (l : List Cell) (hl : l.length ≤ 1000000) : law_cellsAs_v1 l ⟨0, 0⟩ ⟨0, 0⟩ l = some true := by
  unfold law_cellsAs_v1 law_MergeJoins_1
  rw [if_neg (by simp), if_neg (n_f rfl)]
  dsimp only [lt]
  rw [sameCells_self l hl]; rfl
theorem as2_bad {f : Fault} (hf : ¬ f.Code = 0) (x : List Cell) (a : Ask) : law_cellsAs_v2 [] f f x a = some true := by
  unfold law_cellsAs_v2
  rw [if_neg (by simp), if_pos (n_t hf)]; rfl
theorem as2_ok (l : List Cell) (hg : Gw l) (a : Ask) (hm : 0 ≤ a.Many) : law_cellsAs_v2 ((l.filter (vis l a)).take a.Many.toNat) ⟨0, 0⟩ ⟨0, 0⟩ l a = some true := by
  have hl := hg.len
  have h1 : ((l.filter (vis l a)).take a.Many.toNat).length ≤ l.length := by
    rw [List.length_take]
    have := List.length_filter_le (vis l a) l
    omega
  unfold law_cellsAs_v2 law_MergeJoins_2
  rw [if_neg (by simp), if_neg (n_f rfl), scanned_eq l hg a hm, ob_some]
  simp only [ob_some]
  rw [sameCells_self _ (by omega), ob_some]
/-- what Scan tells of lists -/
noncomputable def scanM (l : List (List Cell)) (a : Ask) : List Cell × Fault :=
  if ¬ (listsS l).Code = 0 then ([], listsS l) else if ¬ (askF a).Code = 0 then ([], askF a) else (((firsts l.flatten).filter (vis (firsts l.flatten) a)).take a.Many.toNat, ⟨0, 0⟩)
theorem scanM_eq (l : List (List Cell)) (a : Ask) : merge_Scan l a = some (scanM l a) := by
  unfold merge_Scan scanM
  rw [lists_eq, ob_some]
  by_cases c : (listsS l).Code = 0
  · obtain ⟨h1, h2⟩ := listsS_good c
    rw [if_neg (n_f c), if_neg (not_not_intro c), asked_eq]
    dsimp only [lt]
    by_cases c2 : (askF a).Code = 0
    · obtain ⟨_, _, _, hm, _⟩ := askF_good c2
      rw [if_neg (n_f c2), if_neg (not_not_intro c2), h2.joined, ob_some, seenA_eq _ h2.gw a hm, ob_some]
    · rw [if_pos (n_t c2), if_pos c2]
  · rw [if_pos (n_t c), if_pos c]
theorem scanM1_eq (l : List (List Cell)) (a : Ask) : merge_Scan_v1 l a = some (scanM l a) := scanM_eq l a
theorem MergeJoins_eq (l : List (List Cell)) (a : Ask) (hl : l.length ≤ 140737488351232) (hg : ∀ g ∈ l, g.length ≤ 140737488351232) : law_MergeJoins l a = some true := by
  obtain ⟨b, hb, hv⟩ := vast_eq l hl hg
  unfold law_MergeJoins
  rw [mbegun, ob_some, if_neg (by decide), hb, ob_some]
  cases b with
  | true => rw [if_pos rfl]
  | false =>
    obtain ⟨v1, v2, v3⟩ := hv rfl
    rw [if_neg (by decide), own_eq l v1 v2, ob_some, join1_eq, ob_some]
    simp only [ob_some]
    rw [scanM1_eq, ob_some, listsFault_eq, ob_some]
    by_cases c : (listsS l).Code = 0
    · obtain ⟨h1, h2⟩ := listsS_good c
      have hs : scanM l a = if ¬ (askF a).Code = 0 then ([], askF a) else (((firsts l.flatten).filter (vis (firsts l.flatten) a)).take a.Many.toNat, ⟨0, 0⟩) := by unfold scanM; rw [if_neg (not_not_intro c)]
      have hfl := firsts_len l.flatten
      have tail : ∀ f8 : Fault, (ob (if (decide ((listsS l).Code = 0)) = true then lt (R_AskFault a) fun x10 => some (a, (scanM l a).2, x10) else some (a, (scanM l a).2, listsS l)) fun (v1 : Ask × Fault × Fault) =>
          if ((decide (v1.2.2.Code = 0)) && (decide (300 < ((firsts l.flatten).length : Int)))) = true then some (decide (v1.2.1.Code = 0))
          else ob (law_cellsAs_v2 (scanM l a).1 v1.2.1 v1.2.2 (firsts l.flatten) v1.1) fun x11 => some x11) = some true := by
        intro f8
        rw [if_pos (d_t c), rasked_eq]
        dsimp only [lt]
        rw [ob_some, hs]
        by_cases c2 : (askF a).Code = 0
        · obtain ⟨hz, _, _, hm, _⟩ := askF_good c2
          rw [if_neg (not_not_intro c2)]
          dsimp only
          by_cases c3 : 300 < (firsts l.flatten).length
          · rw [if_pos (an_t ⟨c2, by omega⟩)]; rfl
          · rw [if_neg (by simp; omega), hz, as2_ok _ h2.gw a hm]; rfl
        · rw [if_pos c2]
          dsimp only
          rw [if_neg (by simp [c2]), as2_bad c2]; rfl
      rw [if_pos (d_t c), together_eq h2, ob_some]
      by_cases c4 : 1000 < (firsts l.flatten).length
      · have hj : joinS l = ([], ⟨9, -1⟩) := by unfold joinS; rw [if_neg (not_not_intro c), if_pos c4]
        rw [if_pos (d_t (by omega)), hj]
        dsimp only [lt]
        rw [ob_some]
        dsimp only [R_F]
        rw [as1_bad (by decide), ob_some, if_neg (by decide)]
        exact tail ⟨0, 0⟩
      · have hj : joinS l = (firsts l.flatten, ⟨0, 0⟩) := joinS_is h2 (by omega)
        rw [if_neg (d_f (by omega)), hj, ob_some]
        dsimp only
        have h10 : law_cellsAs_v1 (firsts l.flatten) ⟨0, 0⟩ (listsS l) (firsts l.flatten) = some true := by rw [h1]; exact as1_ok _ (by omega)
        rw [h10, ob_some, if_neg (by decide)]
        exact tail ⟨0, 0⟩
    · have hj : joinS l = ([], listsS l) := by unfold joinS; rw [if_pos c]
      have hs : scanM l a = ([], listsS l) := by unfold scanM; rw [if_pos c]
      rw [if_neg (d_f c), ob_some, hj, hs]
      dsimp only
      rw [as1_bad c, ob_some, if_neg (by decide), if_neg (d_f c), ob_some]
      dsimp only
      rw [if_neg (by simp [c]), as2_bad c, ob_some]
end G
end Go.Proofs.Ytkbgkkbinnclmaa
