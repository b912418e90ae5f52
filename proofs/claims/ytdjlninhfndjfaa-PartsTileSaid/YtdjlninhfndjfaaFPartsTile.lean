/- 'PartsTile' holds: of every input the law returns true, and the input reads behind the call as it did. No condition. -/
import Derived.Test.YtdjlninhfndjfaaPPartsTile
import Derived.Test.YtdjlninhfndjfaaEm37
namespace Go.Proofs.Ytdjlninhfndjfaa
open Go Go.Dm
set_option linter.unusedVariables false
set_option maxRecDepth 100000
namespace FPartsTile
open G
theorem one_le {H : Type} (d : DataW H) : 1 ≤ Rows.uptoBulk d := by
  cases d with
  | lit l => cases l <;> simp [Rows.uptoBulk]
  | nil => simp [Rows.uptoBulk]
  | ptr d => simp [Rows.uptoBulk]
  | slice elems spare => simp [Rows.uptoBulk]
  | agg parts => simp [Rows.uptoBulk]
  | iface t d => simp [Rows.uptoBulk]
  | map entries => simp [Rows.uptoBulk]
  | held h => simp [Rows.uptoBulk]
noncomputable def K : Bk where
  b := fun H d => Rows.uptoBulk d
  all := fun H l => Rows.uptoBulkAll l
  str := fun H s => by simp [Rows.uptoBulk]
  one := fun H d => one_le d
  slice := fun H e s => by simp only [Rows.uptoBulk]; omega
  agg := fun H e => by simp only [Rows.uptoBulk]; omega
  cons := fun H d r => by simp only [Rows.uptoBulkAll]; omega
def ok_PartStep (x : PartStep) : Prop := (fun _ : Bool => True) x.Join ∧ (fun n : Int => -9223372036854775808 ≤ n ∧ n ≤ 9223372036854775807) x.At ∧ (fun s : List UInt8 => s.length ≤ 140737488351232) x.Row ∧ (fun n : Int => -9223372036854775808 ≤ n ∧ n ≤ 9223372036854775807) x.Left ∧ (fun n : Int => -9223372036854775808 ≤ n ∧ n ≤ 9223372036854775807) x.Right ∧ True
def sz_PartStep (x : PartStep) : Nat := ((fun _ : Bool => 1) x.Join + ((fun _ : Int => 1) x.At + ((fun s : List UInt8 => s.length + 1) x.Row + ((fun _ : Int => 1) x.Left + ((fun _ : Int => 1) x.Right + (0)))))) + 1
theorem rd_PartStep : Rz K Try.prog 50 (fun x : PartStep => .agg [.bool x.Join, .int .i64 x.At, .str x.Row, .int .i64 x.Left, .int .i64 x.Right]) ok_PartStep sz_PartStep :=
  rz_struct (β := Bool × Int × (List UInt8) × Int × Int × Unit) (t := 50) (fl := [(4, 0), (3, 1), (9, 2), (3, 3), (3, 4)]) (fun b => (⟨b.1, b.2.1, b.2.2.1, b.2.2.2.1, b.2.2.2.2.1⟩ : PartStep)) _ _ _ (by kernel_rfl) (rzf_cons (sz := 1) (by kernel_rfl) (Rz.of (rd_bool (t := 4) (by kernel_rfl))) (rzf_cons (sz := 1) (by kernel_rfl) (Rz.of (rd_i64 (t := 3) (by kernel_rfl))) (rzf_cons (sz := 1) (by kernel_rfl) (rz_str (t := 9) (by kernel_rfl)) (rzf_cons (sz := 1) (by kernel_rfl) (Rz.of (rd_i64 (t := 3) (by kernel_rfl))) (rzf_cons (sz := 1) (by kernel_rfl) (Rz.of (rd_i64 (t := 3) (by kernel_rfl))) rzf_nil (fun _ => rfl)) (fun _ => rfl)) (fun _ => rfl)) (fun _ => rfl)) (fun _ => rfl)) (sz := 5) (by kernel_rfl) (fun _ => rfl) (fun _ => rfl) (fun _ h => by exact h) (fun _ => Nat.le_refl _)
theorem own : ownKnob Try.prog.godebug = none := by kernel_rfl
theorem lifted (os : Os) (started : os.Started) (H : Type) (enc : TypeId × Value → H) :
    ReturnsInHanded {} Try.checked os 5 .any (Rows.partsTileSpec.pre6 enc Try.prog Try.f5 Rows.partsTileRow.domain false) (Rows.partsTileSpec.post enc Try.prog Try.f5 false true false false) :=
  law_liftS (K := K) (C := Try.checked) own started (by kernel_rfl) Try.func5
    (ChangeSpec.witness6 (enc := enc) (C := Try.checked) false ⟨#[], #[.slice none 0 0, .slice none 0 0], []⟩ 8 (by kernel_rfl) (by kernel_rfl) (by kernel_rfl) (by kernel_rfl))
    (by kernel_rfl) (by kernel_rfl) (tb := 4) (by kernel_rfl) (by kernel_rfl) rfl Try.params5
    (fun ds h => by
      match ds, h with
      | [_, _], _ => rfl)
    (argsZ_cons (t := 47) (Rz.argC (rz_slice (t := 47) (e := 50) (sz := 5) (by' := 48) (by kernel_rfl) (by kernel_rfl) (by decide) (by kernel_rfl) (rd_PartStep) (fun _ => rfl)) (by kernel_rfl) (fun _ => rfl)) (argsZ_cons (t := 48) (Rz.argC (rz_slice (t := 48) (e := 9) (sz := 1) (by' := 16) (by kernel_rfl) (by kernel_rfl) (by decide) (by kernel_rfl) (rz_str (t := 9) (by kernel_rfl)) (fun _ => rfl)) (by kernel_rfl) (fun _ => rfl)) argsZ_nil))
    ((fun x hx => law_PartsTile_ok x.1 x.2.1 true (PartsTile_eq x.1 x.2.1)))
theorem PartsTile_holds : Rows.PartsTileSaid :=
  OpenClaim.holds_of_wide 5 Try.f5 rfl rfl rfl rfl rfl rfl rfl ⟨rfl, rfl, rfl, rfl, rfl⟩ rfl rfl rfl rfl rfl (by kernel_rfl) Try.func5 (by kernel_rfl)
    (of_decide_eq_true (by kernel_rfl)) (by unfold Func.isWrapper; first | (rw [if_pos (by decide +kernel)]; kernel_rfl) | (rw [if_neg (by decide +kernel)]; exact ⟨rfl, rfl⟩))
    (fun os started H enc _ => lifted os started H enc)
end FPartsTile
end Go.Proofs.Ytdjlninhfndjfaa
