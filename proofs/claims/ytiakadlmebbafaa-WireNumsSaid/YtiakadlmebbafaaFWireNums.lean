/- 'WireNums' holds: of every input the law returns true, and the input reads behind the call as it did. No condition. -/
import Derived.Test.YtiakadlmebbafaaPWireNums
namespace Go.Proofs.Ytiakadlmebbafaa
open Go Go.Dm
set_option linter.unusedVariables false
set_option maxRecDepth 100000
namespace FWireNums
open G


theorem own : ownKnob Try.prog.godebug = none := by kernel_rfl
theorem lifted (os : Os) (started : os.Started) (H : Type) (enc : TypeId × Value → H) :
    ReturnsInHanded {} Try.checked os 3 .any (Rows.wireNumsSpec.pre6 enc Try.prog Try.f3 Rows.wireNumsRow.domain false) (Rows.wireNumsSpec.post enc Try.prog Try.f3 false true false false) :=
  law_lift (C := Try.checked) own started (by kernel_rfl) Try.func3
    (ChangeSpec.witness6 (enc := enc) (C := Try.checked) false ⟨#[], #[.slice none 0 0, .slice none 0 0], []⟩ 8 (by kernel_rfl) (by kernel_rfl) (by kernel_rfl) (by kernel_rfl))
    (by kernel_rfl) (by kernel_rfl) (tb := 4) (by kernel_rfl) (by kernel_rfl) rfl Try.params3
    (fun ds h => by
      match ds, h with
      | [_, _], _ => rfl)
    (argsOk_cons (t := 22) (Rd.argC (rd_slice (t := 22) (e := 3) (sz := 1) (by kernel_rfl) (by kernel_rfl) (by decide) (rd_i64 (t := 3) (by kernel_rfl)) (fun _ => rfl)) (by kernel_rfl) (fun _ => rfl)) (argsOk_cons (t := 23) (Rd.argC (rd_slice (t := 23) (e := 5) (sz := 1) (by kernel_rfl) (by kernel_rfl) (by decide) (rd_u8 (t := 5) (by kernel_rfl)) (fun _ => rfl)) (by kernel_rfl) (fun _ => rfl)) argsOk_nil))
    (fun x hx => law_WireNums_ok x.1 x.2.1 true (WireNums_eq x.1 x.2.1))
theorem WireNums_holds : Rows.WireNumsSaid :=
  OpenClaim.holds_of_wide 3 Try.f3 rfl rfl rfl rfl rfl rfl rfl ⟨rfl, rfl, rfl, rfl, rfl⟩ rfl rfl rfl rfl rfl (by kernel_rfl) Try.func3 (by kernel_rfl)
    (of_decide_eq_true (by kernel_rfl)) (by unfold Func.isWrapper; first | (rw [if_pos (by decide +kernel)]; kernel_rfl) | (rw [if_neg (by decide +kernel)]; exact ⟨rfl, rfl⟩))
    (fun os started H enc _ => lifted os started H enc)
end FWireNums
end Go.Proofs.Ytiakadlmebbafaa
