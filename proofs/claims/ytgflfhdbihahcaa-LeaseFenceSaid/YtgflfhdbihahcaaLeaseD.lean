/- 'LeaseFence' holds: of every list of epochs the law returns true, and the list reads behind the call as it did. No condition. -/
import Derived.Test.YtgflfhdbihahcaaLeaseC
import Derived.Test.YtgflfhdbihahcaaAbLift
namespace Go.Proofs.Ytgflfhdbihahcaa
open Go Go.Ab
set_option linter.unusedVariables false
namespace LeaseD
open LeaseA

theorem own : ownKnob Try.prog.godebug = none := by kernel_rfl
set_option maxRecDepth 100000 in
theorem fenceLifted (os : Os) (started : os.Started) (H : Type) (enc : TypeId × Value → H) :
    ReturnsInHanded {} Try.checked os 3 .any (Rows.leaseFenceSpec.pre6 enc Try.prog Try.f3 Rows.leaseFenceRow.domain false) (Rows.leaseFenceSpec.post enc Try.prog Try.f3 false true false false) :=
  law_lift (C := Try.checked) own started (by kernel_rfl) Try.func3
    (ChangeSpec.witness6 (enc := enc) (C := Try.checked) false ⟨#[], #[.slice none 0 0], []⟩ 8 (by kernel_rfl) (by kernel_rfl) (by kernel_rfl) (by kernel_rfl))
    (by kernel_rfl) (by kernel_rfl) (tb := 4) (by kernel_rfl) (by kernel_rfl) rfl Try.params3
    (fun ds h => by
      match ds, h with
      | [_], _ => rfl)
    (argsOk_cons (t := 22) ((rd_slice (t := 22) (e := 3) (sz := 1) (by kernel_rfl) (by kernel_rfl) (by decide) (rd_i64 (t := 3) (by kernel_rfl)) (fun _ => rfl)).argC (by kernel_rfl) (fun _ => rfl)) argsOk_nil)
    (fun x _ => LeaseC.fence x.1)
theorem LeaseFence_holds : Rows.LeaseFenceSaid :=
  OpenClaim.holds_of_wide 3 Try.f3 rfl rfl rfl rfl rfl rfl rfl ⟨rfl, rfl, rfl, rfl, rfl⟩ rfl rfl rfl rfl rfl (by kernel_rfl) Try.func3 (by kernel_rfl)
    (of_decide_eq_true (by kernel_rfl)) (by unfold Func.isWrapper; first | (rw [if_pos (by decide +kernel)]; kernel_rfl) | (rw [if_neg (by decide +kernel)]; exact ⟨rfl, rfl⟩))
    (fun os started H enc _ => fenceLifted os started H enc)
end LeaseD
end Go.Proofs.Ytgflfhdbihahcaa
