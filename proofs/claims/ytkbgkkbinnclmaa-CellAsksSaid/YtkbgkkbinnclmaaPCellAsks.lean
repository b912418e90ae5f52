/- Every Get and Scan tells what is seen. -/
import Derived.Test.YtkbgkkbinnclmaaPCellB
namespace Go.Proofs.Ytkbgkkbinnclmaa
open Go Go.Dm
set_option linter.unusedVariables false
set_option linter.unusedSimpArgs false
namespace G
theorem asks_J1 (l : List Cell) (a : Ask) (g : Fault) (hl : l.length ≤ 2000) : law_CellAsks_J1 l (scanS l a) (a, (scanS l a).2, cellF l) = some true := by
  unfold law_CellAsks_J1
  have e : (if decide ((cellF l).Code = 0) = true then lt (R_AskFault a) fun x8 => some (a, (scanS l a).2, x8) else some (a, (scanS l a).2, cellF l)) = some (a, (scanS l a).2, scanF l a) := by
    unfold scanF
    by_cases c : (cellF l).Code = 0
    · rw [if_pos (d_t c), if_pos c, rasked_eq]; rfl
    · rw [if_neg (d_f c), if_neg c]
  dsimp only
  rw [e, ob_some]
  dsimp only
  have hf : (scanS l a).2 = scanF l a := by
    unfold scanS
    by_cases c : (scanF l a).Code = 0
    · rw [if_pos c]
      unfold scanF at c ⊢
      by_cases c1 : (cellF l).Code = 0
      · rw [if_pos c1] at c ⊢; exact (askF_good c).1.symm
      · rw [if_neg c1] at c; exact absurd c c1
    · rw [if_neg c]
  rw [hf]
  by_cases cc : (scanF l a).Code = 0 ∧ 150 < (l.length : Int)
  · rw [if_pos (an_t cc), decide_eq_true cc.1]
  · rw [if_neg (an_f cc)]
    unfold law_cellsAs
    rw [if_neg (by simp)]
    by_cases c : (scanF l a).Code = 0
    · have hc : (cellF l).Code = 0 := by
        unfold scanF at c
        by_cases c1 : (cellF l).Code = 0
        · exact c1
        · rw [if_neg c1] at c; exact c
      have ha : (askF a).Code = 0 := by unfold scanF at c; rwa [if_pos hc] at c
      have hg := cellF_good hc
      have hs : (scanS l a).1 = (l.filter (vis l a)).take a.Many.toNat := by unfold scanS; rw [if_pos c]
      have hle : ((l.filter (vis l a)).take a.Many.toNat).length ≤ 1000000 := by
        have h1 : ((l.filter (vis l a)).take a.Many.toNat).length ≤ (l.filter (vis l a)).length := by simp; omega
        have h2 := List.length_filter_le (vis l a) l
        omega
      unfold law_CellAsks_1
      rw [if_neg (n_f c), scanned_eq l hg a (askF_good ha).2.2.2.1, ob_some, ob_some, hs, sameCells_self _ hle]; rfl
    · have hs : (scanS l a).1 = [] := by unfold scanS; rw [if_neg c]
      rw [if_pos (n_t c), hs]; rfl
theorem CellAsks_eq (l : List Cell) (row col : List UInt8) (a : Ask) : law_CellAsks l row col a = some true := by
  unfold law_CellAsks
  simp only [cbegun, ob_some, Bool.not_true, Bool.false_eq_true, if_false, lt]
  cases hm : law_many (l.length : Int) with
  | true => simp
  | false =>
    have hl : l.length ≤ 2000 := by
      unfold law_many at hm
      simp [lt] at hm; omega
    have ho : law_ownCells_v1 l = some l := by unfold law_ownCells_v1; rw [asrt_pos (by omega)]
    rw [if_neg (by simp), ho, ob_some, get_eq, ob_some, ob_some, scan_eq, ob_some, rcheck_eq, ob_some]
    have e : (if (decide ((cellF l).Code = 0) && (decide (a.Time < 0) || decide (1000000000 < a.Time))) = true then some (a, (getS l row col a.Time).2.2, (scanS l a).2, cellF l, R_F 3 (-1)) else some (a, (getS l row col a.Time).2.2, (scanS l a).2, cellF l, cellF l)) = some (a, (getS l row col a.Time).2.2, (scanS l a).2, cellF l, getF l a.Time) := by
      unfold getF R_F
      by_cases c : (cellF l).Code = 0 ∧ (a.Time < 0 ∨ 1000000000 < a.Time)
      · rw [if_pos c, if_pos]
        simp only [Bool.and_eq_true, Bool.or_eq_true, decide_eq_true_eq]; exact c
      · rw [if_neg c, if_neg]
        simp only [Bool.and_eq_true, Bool.or_eq_true, decide_eq_true_eq]; exact c
    rw [e, ob_some]
    dsimp only
    have hJ := asks_J1 l a ⟨0, 0⟩ hl
    by_cases c : (getF l a.Time).Code = 0
    · have hc : (cellF l).Code = 0 := by
        unfold getF at c
        by_cases c1 : (cellF l).Code = 0 ∧ (a.Time < 0 ∨ 1000000000 < a.Time)
        · exact c1.1
        · rw [if_neg c1] at c; exact c
      have hg := cellF_good hc
      have hgf : getF l a.Time = ⟨0, 0⟩ := by
        unfold getF at c ⊢
        by_cases c1 : (cellF l).Code = 0 ∧ (a.Time < 0 ∨ 1000000000 < a.Time)
        · rw [if_pos c1] at c; cases c
        · rw [if_neg c1]; exact hg.f
      have hs : getS l row col a.Time = ((seenS l row col a.Time).1.Value, (seenS l row col a.Time).2, ⟨0, 0⟩) := by unfold getS; rw [if_pos c]
      rw [hs, hgf, seen_eq l hg]
      simp only [decide_true, Bool.and_true, Bool.not_true, Bool.false_and, Bool.or_false, Bool.false_eq_true, if_false, if_true, ob_some, beq_self_eq_true]
      exact hJ
    · have hs : getS l row col a.Time = ([], false, getF l a.Time) := by unfold getS; rw [if_neg c]
      rw [hs]
      rw [if_neg (by simp), if_neg (d_f c)]
      exact hJ
end G
end Go.Proofs.Ytkbgkkbinnclmaa
