/- AssignPlays. -/
import Derived.Test.YtdjlninhfndjfaaPAssU
namespace Go.Proofs.Ytdjlninhfndjfaa
open Go Go.Dm
set_option linter.unusedVariables false
set_option linter.unusedSimpArgs false
namespace G
theorem AssignPlays_eq (os : List Order) (hos : os.length * 48 ≤ 140737488351232) : law_AssignPlays os = some true := by
  unfold law_AssignPlays
  rw [begun_eq, ob_some, if_neg (by decide)]
  by_cases c : (300 < os.length ∧ os.length < 2001) ∨ 3000 < os.length
  · rw [if_pos (by simp; omega)]
  · have hs := orders_self os (by omega)
    rw [if_neg (by simp; omega), asrt_pos (by omega)]
    by_cases c2 : 2000 < os.length
    · have hp : assign_Play_v1 os = some (⟨[], [], 0, 0⟩, [], ⟨2, -1⟩) := by
        unfold assign_Play_v1
        rw [if_pos (d_t (by omega))]; rfl
      rw [hp, ob_some, hs, ob_some, if_neg (by decide), if_pos (d_t (by omega))]
      dsimp only [lt, R_F]
      rw [if_pos (by decide), board_self _ (by decide) (by decide), ob_some]
      rfl
    · have hl : os.length ≤ 300 := by omega
      rw [play_eq os (by omega), ob_some, hs, ob_some, if_neg (by decide), if_neg (d_f (by omega)), boards_eq os (by omega), ob_some]
      have hbl := boardsTo_len os os.length
      have hsl := saidAt_len os os.length
      have hw : w64 (((boardsTo os os.length).length : Int) - 1) = (os.length : Int) := by rw [hbl, w64_id (by omega) (by omega)]; omega
      have hc : ((!decide ((0 : Int) = 0)) || (!decide (((saidAt os os.length).length : Int) = ((saidAt os os.length).length : Int)))) = false := by simp
      have hb : ∀ b : Board, (⟨b.Hosts, b.Slots, b.Turn, b.Next⟩ : Board) = b := fun b => rfl
      have hg := boardAt_good os os.length
      have hgl := slot_len (bg_iff.2 hg)
      have hgh := hg.hosts
      have hself := fun b hh hs => board_self b hh hs
      dsimp only [lt]
      rw [hc, hw, asrt_pos (fun _ => by omega), if_pos (by decide), hb, boardsTo_get os os.length os.length (Nat.le_refl _), board_self _ (by omega) (by omega), ob_some]
      have hn : assign_New_v1 = newB := rfl
      have h0 : lget (boardsTo os os.length) 0 = newB := boardsTo_get os os.length 0 (Nat.zero_le _)
      rw [asrt_pos (fun _ => by omega), if_pos (by decide), hb, h0, hn, board_self _ (by decide) (by decide), ob_some, if_neg (by decide)]
      refine loop_run (step := fun y => law_AssignPlays_B1 (boardAt os os.length, saidAt os os.length, ⟨0, 0⟩) (boardsTo os os.length, saidAt os os.length) y) os.length (fun k => (k : Int)) (fun k hk => ?_) ?_
      · have hw2 : w64 ((k : Int) + 1) = ((k + 1 : Nat) : Int) := by rw [w64_id (by omega) (by omega)]; omega
        show law_AssignPlays_B1 _ _ (k : Int) = _
        unfold law_AssignPlays_B1
        dsimp only
        rw [if_pos (d_t (by omega)), asrt_pos (by omega), asrt_pos (by omega), hw2, if_neg (by simp)]
      · show law_AssignPlays_B1 _ _ (os.length : Int) = _
        unfold law_AssignPlays_B1
        dsimp only
        rw [hsl, if_neg (d_f (by omega))]; rfl
end G
end Go.Proofs.Ytdjlninhfndjfaa
