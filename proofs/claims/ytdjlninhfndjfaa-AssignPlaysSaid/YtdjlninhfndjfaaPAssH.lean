/- For the Assign laws: rows in parts (as in PKnownB, PLocateF). -/
import Derived.Test.YtdjlninhfndjfaaPBoardB
namespace Go.Proofs.Ytdjlninhfndjfaa
open Go Go.Dm
set_option linter.unusedVariables false
set_option linter.unusedSimpArgs false
namespace G
theorem slot_eta (s : Slot) : (⟨⟨s.Part.From, s.Part.To, s.Part.ID⟩, s.State, s.Host, s.Turn⟩ : Slot) = s := rfl
def hasP (p : Part) (row : List UInt8) : Prop := Op.bytesLess row p.From = false ∧ (p.To = [] ∨ Op.bytesLess row p.To = true)
instance (p : Part) (row : List UInt8) : Decidable (hasP p row) := by unfold hasP; infer_instance
theorem inPart_eq (p : Part) (row : List UInt8) : R_InPart p row = decide (hasP p row) := by
  refine b_iff ?_
  unfold R_InPart hasP
  dsimp only [lt]
  simp only [Bool.and_eq_true, Bool.not_eq_true', Bool.or_eq_true, decide_eq_true_eq]
theorem lset_mid {α : Type} (a : List α) (x y : α) (b : List α) : lset (a ++ x :: b) (a.length : Int) y = a ++ y :: b := by
  unfold lset
  rw [Int.toNat_natCast, List.set_append_right _ _ (Nat.le_refl _), Nat.sub_self, List.set_cons_zero]
theorem part_at (b : Board) (k : Nat) (hk : k < b.Slots.length) : lget (partsOf b) (k : Int) = (lget b.Slots (k : Int)).Part := by
  rw [lget_nat _ k (by simpa [partsOf] using hk), lget_nat _ k hk]
  simp [partsOf]
theorem slot_len {b : Board} (hg : BGood b) : b.Slots.length ≤ 200 := by
  have := hg.parts.len
  simpa [partsOf] using this
end G
end Go.Proofs.Ytdjlninhfndjfaa
