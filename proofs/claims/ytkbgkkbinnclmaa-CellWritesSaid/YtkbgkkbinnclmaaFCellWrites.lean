/- 'CellWrites' holds: of every input the law returns true, and the input reads behind the call as it did. No condition. -/
import Derived.Test.YtkbgkkbinnclmaaPCellWrites
namespace Go.Proofs.Ytkbgkkbinnclmaa
open Go Go.Dm
set_option linter.unusedVariables false
set_option maxRecDepth 100000
namespace FCellWrites
open G
def ok_Cell (x : Cell) : Prop := (fun s : List UInt8 => s.length ≤ 9223372036854775807) x.Row ∧ (fun s : List UInt8 => s.length ≤ 9223372036854775807) x.Col ∧ (fun n : Int => -9223372036854775808 ≤ n ∧ n ≤ 9223372036854775807) x.Time ∧ (fun _ : Bool => True) x.Gone ∧ (fun s : List UInt8 => s.length ≤ 9223372036854775807) x.Value ∧ True
theorem rd_Cell : Rd Try.prog 37 (fun x : Cell => .agg [.str x.Row, .str x.Col, .int .i64 x.Time, .bool x.Gone, .str x.Value]) ok_Cell :=
  rd_struct (β := (List UInt8) × (List UInt8) × Int × Bool × (List UInt8) × Unit) (t := 37) (fl := [(9, 0), (9, 1), (3, 2), (4, 3), (9, 4)]) (fun b => (⟨b.1, b.2.1, b.2.2.1, b.2.2.2.1, b.2.2.2.2.1⟩ : Cell)) _ _ (by kernel_rfl) (rdf_cons (sz := 1) (by kernel_rfl) (rd_str (t := 9) (by kernel_rfl)) (rdf_cons (sz := 1) (by kernel_rfl) (rd_str (t := 9) (by kernel_rfl)) (rdf_cons (sz := 1) (by kernel_rfl) (rd_i64 (t := 3) (by kernel_rfl)) (rdf_cons (sz := 1) (by kernel_rfl) (rd_bool (t := 4) (by kernel_rfl)) (rdf_cons (sz := 1) (by kernel_rfl) (rd_str (t := 9) (by kernel_rfl)) rdf_nil (fun _ => rfl)) (fun _ => rfl)) (fun _ => rfl)) (fun _ => rfl)) (fun _ => rfl)) (sz := 5) (by kernel_rfl) (fun _ => rfl) (fun _ => rfl) (fun _ h => by exact h)

theorem own : ownKnob Try.prog.godebug = none := by kernel_rfl
theorem lifted (os : Os) (started : os.Started) (H : Type) (enc : TypeId × Value → H) :
    ReturnsInHanded {} Try.checked os 7 .any (Rows.cellWritesSpec.pre6 enc Try.prog Try.f7 Rows.cellWritesRow.domain false) (Rows.cellWritesSpec.post enc Try.prog Try.f7 false true false false) :=
  law_lift (C := Try.checked) own started (by kernel_rfl) Try.func7
    (ChangeSpec.witness6 (enc := enc) (C := Try.checked) false ⟨#[], #[.slice none 0 0, .slice none 0 0], []⟩ 8 (by kernel_rfl) (by kernel_rfl) (by kernel_rfl) (by kernel_rfl))
    (by kernel_rfl) (by kernel_rfl) (tb := 4) (by kernel_rfl) (by kernel_rfl) rfl Try.params7
    (fun ds h => by
      match ds, h with
      | [_, _], _ => rfl)
    (argsOk_cons (t := 22) (Rd.argC (rd_slice (t := 22) (e := 37) (sz := 5) (by kernel_rfl) (by kernel_rfl) (by decide) (rd_Cell) (fun _ => rfl)) (by kernel_rfl) (fun _ => rfl)) (argsOk_cons (t := 56) (Rd.argC (rd_slice (t := 56) (e := 5) (sz := 1) (by kernel_rfl) (by kernel_rfl) (by decide) (rd_u8 (t := 5) (by kernel_rfl)) (fun _ => rfl)) (by kernel_rfl) (fun _ => rfl)) argsOk_nil))
    (fun x hx => law_CellWrites_ok x.1 x.2.1 true (CellWrites_eq x.1 x.2.1))
theorem CellWrites_holds : Rows.CellWritesSaid :=
  OpenClaim.holds_of_wide 7 Try.f7 rfl rfl rfl rfl rfl rfl rfl ⟨rfl, rfl, rfl, rfl, rfl⟩ rfl rfl rfl rfl rfl (by kernel_rfl) Try.func7 (by kernel_rfl)
    (of_decide_eq_true (by kernel_rfl)) (by unfold Func.isWrapper; first | (rw [if_pos (by decide +kernel)]; kernel_rfl) | (rw [if_neg (by decide +kernel)]; exact ⟨rfl, rfl⟩))
    (fun os started H enc _ => lifted os started H enc)
end FCellWrites
end Go.Proofs.Ytkbgkkbinnclmaa
