/- 'SealChooses' holds: of every input the law returns true, and the input reads behind the call as it did. No condition. -/
import Derived.Test.YteckapomkemglaaPSealChooses
import Derived.Test.YteckapomkemglaaEmF
namespace Go.Proofs.Yteckapomkemglaa
open Go Go.Dm
set_option linter.unusedVariables false
set_option maxRecDepth 100000
namespace FSealChooses
open G
theorem one_le {H : Type} (d : DataW H) : 1 ≤ Rows.uptoBulk d := by
  cases d with
  | lit l => cases l <;> simp [Rows.uptoBulk]
  | nil => simp [Rows.uptoBulk]
  | ptr d => simp [Rows.uptoBulk]
  | slice elems spare => simp [Rows.uptoBulk]
  | agg parts => simp [Rows.uptoBulk]
  | iface t d => simp [Rows.uptoBulk]
  | map entries => simp [Rows.uptoBulk]
  | held h => simp [Rows.uptoBulk]
noncomputable def K : Bk where
  b := fun H d => Rows.uptoBulk d
  all := fun H l => Rows.uptoBulkAll l
  str := fun H s => by simp [Rows.uptoBulk]
  one := fun H d => one_le d
  slice := fun H e s => by simp only [Rows.uptoBulk]; omega
  agg := fun H e => by simp only [Rows.uptoBulk]; omega
  cons := fun H d r => by simp only [Rows.uptoBulkAll]; omega
def ok_Copy (x : G.Copy) : Prop := (fun n : Int => -9223372036854775808 ≤ n ∧ n ≤ 9223372036854775807) x.Epoch ∧ (fun _ : Bool => True) x.Closed ∧ (fun l : List (List UInt8) => (∀ x ∈ l, (fun s : List UInt8 => s.length ≤ 140737488351232) x) ∧ l.length * 16 ≤ 140737488351232) x.Recs ∧ (fun n : Int => -9223372036854775808 ≤ n ∧ n ≤ 9223372036854775807) x.Ended ∧ True
def sz_Copy (x : G.Copy) : Nat := ((fun _ : Int => 1) x.Epoch + ((fun _ : Bool => 1) x.Closed + ((fun l : List (List UInt8) => (l.map (fun s : List UInt8 => s.length + 1)).sum + 1) x.Recs + ((fun _ : Int => 1) x.Ended + (0))))) + 1
theorem rd_Copy : Rz K Try.prog 24 (fun x : G.Copy => .agg [.int .i64 x.Epoch, .bool x.Closed, .sl 1 (x.Recs.map e_str), .int .i64 x.Ended]) ok_Copy sz_Copy :=
  rz_struct (β := Int × Bool × (List (List UInt8)) × Int × Unit) (t := 24) (fl := [(3, 0), (4, 1), (22, 2), (3, 3)]) (fun b => (⟨b.1, b.2.1, b.2.2.1, b.2.2.2.1⟩ : G.Copy)) _ _ _ (by kernel_rfl) (rzf_cons (sz := 1) (by kernel_rfl) (Rz.of (rd_i64 (t := 3) (by kernel_rfl))) (rzf_cons (sz := 1) (by kernel_rfl) (Rz.of (rd_bool (t := 4) (by kernel_rfl))) (rzf_cons (sz := 1) (by kernel_rfl) (rz_slice (t := 22) (e := 9) (sz := 1) (by' := 16) (by kernel_rfl) (by kernel_rfl) (by decide) (by kernel_rfl) (rz_str (t := 9) (by kernel_rfl)) (fun _ => rfl)) (rzf_cons (sz := 1) (by kernel_rfl) (Rz.of (rd_i64 (t := 3) (by kernel_rfl))) rzf_nil (fun _ => rfl)) (fun _ => rfl)) (fun _ => rfl)) (fun _ => rfl)) (sz := 4) (by kernel_rfl) (fun _ => rfl) (fun _ => rfl) (fun _ h => by exact h) (fun _ => Nat.le_refl _)
theorem own : ownKnob Try.prog.godebug = none := by kernel_rfl
theorem lifted (os : Os) (started : os.Started) (H : Type) (enc : TypeId × Value → H) :
    ReturnsInHanded {} Try.checked os 4 .any (Rows.sealChoosesSpec.pre6 enc Try.prog Try.f4 Rows.sealChoosesRow.domain false) (Rows.sealChoosesSpec.post enc Try.prog Try.f4 false true false false) :=
  law_liftS (K := K) (C := Try.checked) own started (by kernel_rfl) Try.func4
    (ChangeSpec.witness6 (enc := enc) (C := Try.checked) false ⟨#[], #[.int .i64 0, .slice none 0 0], []⟩ 8 (by kernel_rfl) (by kernel_rfl) (by kernel_rfl) (by kernel_rfl))
    (by kernel_rfl) (by kernel_rfl) (tb := 4) (by kernel_rfl) (by kernel_rfl) rfl Try.params4
    (fun ds h => by
      match ds, h with
      | [_, _], _ => rfl)
    (argsZ_cons (t := 3) (Rz.argC (Rz.of (rd_i64 (t := 3) (by kernel_rfl))) (by kernel_rfl) (fun _ => rfl)) (argsZ_cons (t := 38) (Rz.argC (rz_slice (t := 38) (e := 24) (sz := 4) (by' := 48) (by kernel_rfl) (by kernel_rfl) (by decide) (by kernel_rfl) (rd_Copy) (fun _ => rfl)) (by kernel_rfl) (fun _ => rfl)) argsZ_nil))
    ((fun x hx => law_SealChooses_ok (SealChooses_eq x.1 x.2.1)))
theorem SealChooses_holds : Rows.SealChoosesSaid :=
  OpenClaim.holds_of_wide 4 Try.f4 rfl rfl rfl rfl rfl rfl rfl ⟨rfl, rfl, rfl, rfl, rfl⟩ rfl rfl rfl rfl rfl (by kernel_rfl) Try.func4 (by kernel_rfl)
    (of_decide_eq_true (by kernel_rfl)) (by unfold Func.isWrapper; first | (rw [if_pos (by decide +kernel)]; kernel_rfl) | (rw [if_neg (by decide +kernel)]; exact ⟨rfl, rfl⟩))
    (fun os started H enc _ => lifted os started H enc)
end FSealChooses
end Go.Proofs.Yteckapomkemglaa
