/- Locate: where a row's slot is. -/
import Derived.Test.YtdjlninhfndjfaaPKnownC
import Derived.Test.YtdjlninhfndjfaaPBoardB
namespace Go.Proofs.Ytdjlninhfndjfaa
open Go Go.Dm
set_option linter.unusedVariables false
set_option linter.unusedSimpArgs false
namespace G
theorem slot_eta (s : Slot) : (⟨⟨s.Part.From, s.Part.To, s.Part.ID⟩, s.State, s.Host, s.Turn⟩ : Slot) = s := rfl
def slotJ (l : List Slot) (row : List UInt8) (k : Nat) : Option Int := if hasP (lget l (k : Int)).Part row then some (k : Int) else none
def slotI (l : List Slot) (row : List UInt8) : Int := firstFrom (slotJ l row) (-1) 0 l.length
theorem slotI_eq (l : List Slot) (hl : l.length ≤ 100000) (row : List UInt8) : slices_IndexFunc_api_Slot_api_Slot l row = some (slotI l row) := by
  unfold slices_IndexFunc_api_Slot_api_Slot
  refine loop_firstF (step := fun y => slices_IndexFunc_api_Slot_api_Slot_B1 l row y) (slotJ l row) (-1) l.length (fun k hk => ?_) ?_
  · have hw : w64 ((k : Int) + 1) = ((k + 1 : Nat) : Int) := by rw [w64_id (by omega) (by omega)]; omega
    show slices_IndexFunc_api_Slot_api_Slot_B1 l row (k : Int) = _
    unfold slices_IndexFunc_api_Slot_api_Slot_B1 slotJ
    rw [if_pos (d_t (by omega)), asrt_pos (by omega), slot_eta]
    dsimp only [lt, locate_slot_1]
    rw [has_eq, hw]
    by_cases c : hasP (lget l (k : Int)).Part row
    · rw [if_pos (d_t c), if_pos c]
    · rw [if_neg (d_f c), if_neg c]
  · show slices_IndexFunc_api_Slot_api_Slot_B1 l row (l.length : Int) = _
    unfold slices_IndexFunc_api_Slot_api_Slot_B1
    rw [if_neg (d_f (by omega))]; rfl
theorem slot_at (b : Board) (hl : b.Slots.length ≤ 100000) (row : List UInt8) (h : 0 ≤ slotI b.Slots row ∧ slotI b.Slots row < (b.Slots.length : Int)) : locate_slot b row = some (lget b.Slots (slotI b.Slots row)) := by
  unfold locate_slot
  rw [slotI_eq _ hl, ob_some, asrt_pos h]
end G
end Go.Proofs.Ytdjlninhfndjfaa
