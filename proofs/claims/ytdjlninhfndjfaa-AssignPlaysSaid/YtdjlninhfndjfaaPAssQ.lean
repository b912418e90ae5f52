/- Assign: the new board; the example of the document. -/
import Derived.Test.YtdjlninhfndjfaaPAssL
import Derived.Test.YtdjlninhfndjfaaPAssP
namespace Go.Proofs.Ytdjlninhfndjfaa
open Go Go.Dm
set_option linter.unusedVariables false
set_option linter.unusedSimpArgs false
namespace G
def newB : Board := ⟨[], [⟨⟨[], [], 1⟩, 0, 0, 0⟩], 0, 2⟩
theorem new_good : BG newB := by
  refine ⟨by decide, by simp [newB], by simp [newB], by decide, by unfold numOk newB; decide, ?_, ?_, by simp [newB]⟩
  · refine ⟨by decide, ?_, by simp [newB, partsOf], ⟨rfl, .inl ⟨rfl, rfl⟩⟩⟩
    intro p hp
    simp [newB, partsOf] at hp
    subst hp
    unfold okp; decide
  · intro s hs
    simp [newB] at hs
    subst hs
    unfold sOk newB
    exact ⟨by decide, fun _ => rfl, fun h => absurd rfl h⟩
theorem good0 {b : Board} (h : BG b) : (boardF b).Code = 0 := boardF_good.2 (bg_iff.2 h)
theorem begun_eq : law_assignBegun = some true := by
  have h0 := good0 new_good
  have hA : hostAt newB 7 = -1 := rfl
  have hK : hostK newB 7 = -1 := rfl
  have e1 : ordF newB ⟨1, 7, 0, 0, []⟩ = (⟨[⟨7, 1, true⟩], newB.Slots, 0, 2⟩, ⟨0, 0⟩) := by
    unfold ordF comeF
    dsimp only
    rw [if_neg (not_not_intro h0), if_neg (by decide), if_pos rfl, if_neg (by unfold numOk; decide), hA, if_neg (by decide), hK, if_pos (by decide), if_neg (by decide)]
    rfl
  have h1 : BG ⟨[⟨7, 1, true⟩], newB.Slots, 0, 2⟩ := new_good.come (id := 7) (by unfold numOk; decide) (by simp [newB]) (by decide)
  have e2 : assign_Due_v1 ⟨[⟨7, 1, true⟩], newB.Slots, 0, 2⟩ = some ([⟨3, 1, 7, 0, []⟩], ⟨0, 0⟩) := by
    rw [due_eq _ (by decide), if_pos (good0 h1)]
    rfl
  unfold law_assignBegun
  have e3 : assign_New_v1 = newB := rfl
  dsimp only [lt]
  rw [e3, do_eq newB (by decide) (by decide), e1, ob_some]
  dsimp only
  rw [e2, ob_some, if_pos (by decide), orders_self _ (by decide), ob_some]
  rfl
end G
end Go.Proofs.Ytdjlninhfndjfaa
