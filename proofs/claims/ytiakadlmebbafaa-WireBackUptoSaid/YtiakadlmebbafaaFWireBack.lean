/- 'WireBack' holds of every input of bulk at most 1048576 (the second form, ..UptoSaid): the law returns true, and the input reads behind the call as it did. -/
import Derived.Test.YtiakadlmebbafaaPWireBack
import Derived.Test.YtiakadlmebbafaaEm37
namespace Go.Proofs.Ytiakadlmebbafaa
open Go Go.Dm
set_option linter.unusedVariables false
set_option maxRecDepth 100000
namespace FWireBack
open G
theorem one_le {H : Type} (d : DataW H) : 1 ≤ Rows.uptoBulk d := by
  cases d with
  | lit l => cases l <;> simp [Rows.uptoBulk]
  | nil => simp [Rows.uptoBulk]
  | ptr d => simp [Rows.uptoBulk]
  | slice elems spare => simp [Rows.uptoBulk]
  | agg parts => simp [Rows.uptoBulk]
  | iface t d => simp [Rows.uptoBulk]
  | map entries => simp [Rows.uptoBulk]
  | held h => simp [Rows.uptoBulk]
noncomputable def K : Bk where
  b := fun H d => Rows.uptoBulk d
  all := fun H l => Rows.uptoBulkAll l
  str := fun H s => by simp [Rows.uptoBulk]
  one := fun H d => one_le d
  slice := fun H e s => by simp only [Rows.uptoBulk]; omega
  agg := fun H e => by simp only [Rows.uptoBulk]; omega
  cons := fun H d r => by simp only [Rows.uptoBulkAll]; omega

theorem own : ownKnob Try.prog.godebug = none := by kernel_rfl
theorem lifted (os : Os) (started : os.Started) (H : Type) (enc : TypeId × Value → H) (F : Stop.Interp) :
    ReturnsInHanded {} Try.checked os 6 .any ((Rows.OpenSpec.upto Rows.wireBackSpec).pre6 enc Try.prog Try.f6 Rows.wireBackUptoRow.domain false) (((Rows.OpenSpec.upto Rows.wireBackSpec).at F).post enc Try.prog Try.f6 false true false false) :=
  law_liftU (K := K) (N := 1048576) (C := Try.checked) (s := Rows.wireBackSpec) (k := Rows.uptoSmall) (fun ds h => of_decide_eq_true h) own started (by kernel_rfl) Try.func6
    (OpenSpec.witness (enc := enc) (C := Try.checked) (s := Rows.OpenSpec.upto Rows.wireBackSpec) (k := Rows.uptoSmall) rfl false ⟨#[], #[.slice none 0 0, .slice none 0 0, .slice none 0 0], []⟩ 8 (by kernel_rfl) (by kernel_rfl) (by kernel_rfl)
      (x := ([.nil, .nil, .nil], [], [])) (by kernel_rfl) rfl (by kernel_rfl))
    (by kernel_rfl) (by kernel_rfl) (tb := 4) (by kernel_rfl) (by kernel_rfl) rfl Try.params6
    (fun ds h => by
      match ds, h with
      | [_, _, _], _ => rfl)
    (argsZ_cons (t := 22) (Rz.argC (rz_slice (t := 22) (e := 3) (sz := 1) (by' := 8) (by kernel_rfl) (by kernel_rfl) (by decide) (by kernel_rfl) (Rz.of (rd_i64 (t := 3) (by kernel_rfl))) (fun _ => rfl)) (by kernel_rfl) (fun _ => rfl)) (argsZ_cons (t := 50) (Rz.argC (rz_slice (t := 50) (e := 9) (sz := 1) (by' := 16) (by kernel_rfl) (by kernel_rfl) (by decide) (by kernel_rfl) (rz_str (t := 9) (by kernel_rfl)) (fun _ => rfl)) (by kernel_rfl) (fun _ => rfl)) (argsZ_cons (t := 23) (Rz.argC (rz_slice (t := 23) (e := 5) (sz := 1) (by' := 1) (by kernel_rfl) (by kernel_rfl) (by decide) (by kernel_rfl) (Rz.of (rd_u8 (t := 5) (by kernel_rfl))) (fun _ => rfl)) (by kernel_rfl) (fun _ => rfl)) argsZ_nil)))
    (fun x hx hz => law_WireBack_ok x.1 x.2.1 x.2.2.1 true (WireBack_eq x.1 x.2.1 x.2.2.1 (fun s hs => by have h1 : s.length + 1 ≤ _ := sum_mem (fun s : List UInt8 => s.length + 1) hs; omega)))
theorem WireBack_holds : Rows.WireBackUptoSaid :=
  OpenClaim.holds_of_cond 6 Try.f6 rfl rfl rfl rfl rfl rfl rfl ⟨rfl, rfl, rfl, rfl, rfl⟩ rfl rfl rfl rfl rfl (by kernel_rfl) Try.func6 (by kernel_rfl)
    (of_decide_eq_true (by kernel_rfl)) (by unfold Func.isWrapper; first | (rw [if_pos (by decide +kernel)]; kernel_rfl) | (rw [if_neg (by decide +kernel)]; exact ⟨rfl, rfl⟩))
    (fun os started H enc _ F => lifted os started H enc F)
end FWireBack
end Go.Proofs.Ytiakadlmebbafaa
