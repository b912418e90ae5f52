/- 'EntryDoes' holds: of every input the law returns true, and the input reads behind the call as it did. No condition. -/
import Derived.Test.YtcnngkigpfpalaaPEntryDoes
namespace Go.Proofs.Ytcnngkigpfpalaa
open Go Go.Dm
set_option linter.unusedVariables false
set_option maxRecDepth 100000
namespace FEntryDoes
open G
def ok_Entry (x : Entry) : Prop := (fun n : Int => -9223372036854775808 ≤ n ∧ n ≤ 9223372036854775807) x.Term ∧ (fun s : List UInt8 => s.length ≤ 9223372036854775807) x.Text ∧ True
theorem rd_Entry : Rd Try.prog 31 (fun x : Entry => .agg [.int .i64 x.Term, .str x.Text]) ok_Entry :=
  rd_struct (β := Int × (List UInt8) × Unit) (t := 31) (fl := [(3, 0), (9, 1)]) (fun b => (⟨b.1, b.2.1⟩ : Entry)) _ _ (by kernel_rfl) (rdf_cons (sz := 1) (by kernel_rfl) (rd_i64 (t := 3) (by kernel_rfl)) (rdf_cons (sz := 1) (by kernel_rfl) (rd_str (t := 9) (by kernel_rfl)) rdf_nil (fun _ => rfl)) (fun _ => rfl)) (sz := 2) (by kernel_rfl) (fun _ => rfl) (fun _ => rfl) (fun _ h => by exact h)

theorem own : ownKnob Try.prog.godebug = none := by kernel_rfl
theorem lifted (os : Os) (started : os.Started) (H : Type) (enc : TypeId × Value → H) :
    ReturnsInHanded {} Try.checked os 5 .any (Rows.entryDoesSpec.pre6 enc Try.prog Try.f5 Rows.entryDoesRow.domain false) (Rows.entryDoesSpec.post enc Try.prog Try.f5 false true false false) :=
  law_lift (C := Try.checked) own started (by kernel_rfl) Try.func5
    (ChangeSpec.witness6 (enc := enc) (C := Try.checked) false ⟨#[], #[.slice none 0 0, .slice none 0 0, .int .i64 0, .int .i64 0], []⟩ 8 (by kernel_rfl) (by kernel_rfl) (by kernel_rfl) (by kernel_rfl))
    (by kernel_rfl) (by kernel_rfl) (tb := 4) (by kernel_rfl) (by kernel_rfl) rfl Try.params5
    (fun ds h => by
      match ds, h with
      | [_, _, _, _], _ => rfl)
    (argsOk_cons (t := 22) (Rd.argC (rd_slice (t := 22) (e := 31) (sz := 2) (by kernel_rfl) (by kernel_rfl) (by decide) (rd_Entry) (fun _ => rfl)) (by kernel_rfl) (fun _ => rfl)) (argsOk_cons (t := 22) (Rd.argC (rd_slice (t := 22) (e := 31) (sz := 2) (by kernel_rfl) (by kernel_rfl) (by decide) (rd_Entry) (fun _ => rfl)) (by kernel_rfl) (fun _ => rfl)) (argsOk_cons (t := 3) (Rd.argC (rd_i64 (t := 3) (by kernel_rfl)) (by kernel_rfl) (fun _ => rfl)) (argsOk_cons (t := 3) (Rd.argC (rd_i64 (t := 3) (by kernel_rfl)) (by kernel_rfl) (fun _ => rfl)) argsOk_nil))))
    (fun x hx => law_EntryDoes_ok x.1 x.2.1 x.2.2.1 x.2.2.2.1 true (EntryDoes_eq x.1 x.2.1 x.2.2.1 x.2.2.2.1))
theorem EntryDoes_holds : Rows.EntryDoesSaid :=
  OpenClaim.holds_of_wide 5 Try.f5 rfl rfl rfl rfl rfl rfl rfl ⟨rfl, rfl, rfl, rfl, rfl⟩ rfl rfl rfl rfl rfl (by kernel_rfl) Try.func5 (by kernel_rfl)
    (of_decide_eq_true (by kernel_rfl)) (by unfold Func.isWrapper; first | (rw [if_pos (by decide +kernel)]; kernel_rfl) | (rw [if_neg (by decide +kernel)]; exact ⟨rfl, rfl⟩))
    (fun os started H enc _ => lifted os started H enc)
end FEntryDoes
end Go.Proofs.Ytcnngkigpfpalaa
