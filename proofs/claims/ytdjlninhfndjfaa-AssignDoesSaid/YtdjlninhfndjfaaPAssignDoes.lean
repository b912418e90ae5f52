/- AssignDoes. -/
import Derived.Test.YtdjlninhfndjfaaPAssQ
import Derived.Test.YtdjlninhfndjfaaPAssT
namespace Go.Proofs.Ytdjlninhfndjfaa
open Go Go.Dm
set_option linter.unusedVariables false
set_option linter.unusedSimpArgs false
namespace G
theorem dsame (a : Fault) : (decide (a.Code = a.Code) && (decide (a.At = a.At) && true)) = true := by simp
theorem AssignDoes_eq (b : Board) (o : Order) : law_AssignDoes b o = some true := by
  unfold law_AssignDoes
  rw [begun_eq, ob_some, if_neg (by decide)]
  have hv : law_vastBoard b = decide (100 < b.Hosts.length ∨ 400 < b.Slots.length) := by
    refine b_iff ?_
    unfold law_vastBoard
    dsimp only [lt]
    simp only [Bool.or_eq_true, decide_eq_true_eq]
    omega
  dsimp only [lt]
  rw [hv]
  by_cases c : 100 < b.Hosts.length ∨ 400 < b.Slots.length
  · rw [if_pos (d_t c)]
  · have hc : R_CopyBoard_v1 b = some b := by
      unfold R_CopyBoard_v1
      rw [asrt_pos (by omega), asrt_pos (by omega)]
    rw [if_neg (d_f c), hc, ob_some, bcheck_eq b (by omega), ob_some, do_eq b (by omega) (by omega), ob_some, due_eq b (by omega), ob_some, rboard_eq b (by omega), ob_some, board_self b (by omega) (by omega), ob_some]
    have h2 : (if (boardF b).Code = 0 then (dueF b.Hosts [] b.Slots, (⟨0, 0⟩ : Fault)) else ([], boardF b)).2 = boardF b := by
      by_cases e0 : (boardF b).Code = 0
      · rw [if_pos e0]; exact (boardF_zero e0).symm
      · rw [if_neg e0]
    rw [h2, dsame, if_neg (by decide), ordered_eq b (by omega), ob_some, dsame]
    have hl : (ordF b o).1.Hosts.length ≤ 100000 ∧ (ordF b o).1.Slots.length ≤ 100000 := by
      by_cases e0 : (boardF b).Code = 0
      · exact ordF_len (bg_iff.1 (boardF_good.1 e0)) o
      · unfold ordF
        rw [if_pos e0]; exact ⟨Nat.zero_le _, Nat.zero_le _⟩
    rw [if_pos (by decide), board_self _ hl.1 hl.2, ob_some, if_neg (by decide)]
    by_cases e0 : (boardF b).Code = 0
    · have h := bg_iff.1 (boardF_good.1 e0)
      have hs := slot_len (bg_iff.2 h)
      have hd := dueF_len b.Hosts b.Slots []
      rw [if_neg (n_f e0), if_pos e0, rdue_eq h, ob_some, orders_self _ (by show (dueF b.Hosts [] b.Slots).length ≤ 100000; omega), ob_some]
    · rw [if_pos (n_t e0), if_neg e0]
      rfl
end G
end Go.Proofs.Ytdjlninhfndjfaa
