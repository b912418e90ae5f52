/- 'LeaseGrants' holds: of every input the law returns true, and the input reads behind the call as it did. No condition. -/
import Derived.Test.YtgflfhdbihahcaaPLeaseA
namespace Go.Proofs.Ytgflfhdbihahcaa
open Go Go.Dm
set_option linter.unusedVariables false
set_option maxRecDepth 100000
namespace FLeaseGrants
open G
def ok_Lease (x : Lease) : Prop := (fun n : Int => -9223372036854775808 ≤ n ∧ n ≤ 9223372036854775807) x.Holder ∧ (fun n : Int => -9223372036854775808 ≤ n ∧ n ≤ 9223372036854775807) x.Epoch ∧ (fun n : Int => -9223372036854775808 ≤ n ∧ n ≤ 9223372036854775807) x.Until ∧ True
theorem rd_Lease : Rd Try.prog 30 (fun x : Lease => .agg [.int .i64 x.Holder, .int .i64 x.Epoch, .int .i64 x.Until]) ok_Lease :=
  rd_struct (β := Int × Int × Int × Unit) (t := 30) (fl := [(3, 0), (3, 1), (3, 2)]) (fun b => (⟨b.1, b.2.1, b.2.2.1⟩ : Lease)) _ _ (by kernel_rfl) (rdf_cons (sz := 1) (by kernel_rfl) (rd_i64 (t := 3) (by kernel_rfl)) (rdf_cons (sz := 1) (by kernel_rfl) (rd_i64 (t := 3) (by kernel_rfl)) (rdf_cons (sz := 1) (by kernel_rfl) (rd_i64 (t := 3) (by kernel_rfl)) rdf_nil (fun _ => rfl)) (fun _ => rfl)) (fun _ => rfl)) (sz := 3) (by kernel_rfl) (fun _ => rfl) (fun _ => rfl) (fun _ h => by exact h)

theorem own : ownKnob Try.prog.godebug = none := by kernel_rfl
theorem lifted (os : Os) (started : os.Started) (H : Type) (enc : TypeId × Value → H) :
    ReturnsInHanded {} Try.checked os 4 .any (Rows.leaseGrantsSpec.pre6 enc Try.prog Try.f4 Rows.leaseGrantsRow.domain false) (Rows.leaseGrantsSpec.post enc Try.prog Try.f4 false true false false) :=
  law_lift (C := Try.checked) own started (by kernel_rfl) Try.func4
    (ChangeSpec.witness6 (enc := enc) (C := Try.checked) false ⟨#[], #[.agg #[.int .i64 0, .int .i64 0, .int .i64 0], .int .i64 0, .int .i64 0, .int .i64 0, .int .i64 0], []⟩ 8 (by kernel_rfl) (by kernel_rfl) (by kernel_rfl) (by kernel_rfl))
    (by kernel_rfl) (by kernel_rfl) (tb := 4) (by kernel_rfl) (by kernel_rfl) rfl Try.params4
    (fun ds h => by
      match ds, h with
      | [_, _, _, _, _], _ => rfl)
    (argsOk_cons (t := 30) (Rd.argS (rd_Lease) (by kernel_rfl) (fun _ => ⟨_, rfl⟩)) (argsOk_cons (t := 3) (Rd.argC (rd_i64 (t := 3) (by kernel_rfl)) (by kernel_rfl) (fun _ => rfl)) (argsOk_cons (t := 3) (Rd.argC (rd_i64 (t := 3) (by kernel_rfl)) (by kernel_rfl) (fun _ => rfl)) (argsOk_cons (t := 3) (Rd.argC (rd_i64 (t := 3) (by kernel_rfl)) (by kernel_rfl) (fun _ => rfl)) (argsOk_cons (t := 3) (Rd.argC (rd_i64 (t := 3) (by kernel_rfl)) (by kernel_rfl) (fun _ => rfl)) argsOk_nil)))))
    (fun x _ => (law_LeaseGrants_ok x.1 x.2.1 x.2.2.1 x.2.2.2.1 x.2.2.2.2.1 true (grants_true ..)).c)
theorem LeaseGrants_holds : Rows.LeaseGrantsSaid :=
  OpenClaim.holds_of_wide 4 Try.f4 rfl rfl rfl rfl rfl rfl rfl ⟨rfl, rfl, rfl, rfl, rfl⟩ rfl rfl rfl rfl rfl (by kernel_rfl) Try.func4 (by kernel_rfl)
    (of_decide_eq_true (by kernel_rfl)) (by unfold Func.isWrapper; first | (rw [if_pos (by decide +kernel)]; kernel_rfl) | (rw [if_neg (by decide +kernel)]; exact ⟨rfl, rfl⟩))
    (fun os started H enc _ => lifted os started H enc)
end FLeaseGrants
end Go.Proofs.Ytgflfhdbihahcaa
