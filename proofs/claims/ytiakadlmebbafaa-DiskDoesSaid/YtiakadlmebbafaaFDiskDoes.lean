/- 'DiskDoes' holds: of every input the law returns true, and the input reads behind the call as it did. No condition. -/
import Derived.Test.YtiakadlmebbafaaPDiskDoes
import Derived.Test.YtiakadlmebbafaaEm37
namespace Go.Proofs.Ytiakadlmebbafaa
open Go Go.Dm
set_option linter.unusedVariables false
set_option maxRecDepth 100000
namespace FDiskDoes
open G
theorem one_le {H : Type} (d : DataW H) : 1 ≤ Rows.uptoBulk d := by
  cases d with
  | lit l => cases l <;> simp [Rows.uptoBulk]
  | nil => simp [Rows.uptoBulk]
  | ptr d => simp [Rows.uptoBulk]
  | slice elems spare => simp [Rows.uptoBulk]
  | agg parts => simp [Rows.uptoBulk]
  | iface t d => simp [Rows.uptoBulk]
  | map entries => simp [Rows.uptoBulk]
  | held h => simp [Rows.uptoBulk]
noncomputable def K : Bk where
  b := fun H d => Rows.uptoBulk d
  all := fun H l => Rows.uptoBulkAll l
  str := fun H s => by simp [Rows.uptoBulk]
  one := fun H d => one_le d
  slice := fun H e s => by simp only [Rows.uptoBulk]; omega
  agg := fun H e => by simp only [Rows.uptoBulk]; omega
  cons := fun H d r => by simp only [Rows.uptoBulkAll]; omega
def ok_Disk (x : Disk) : Prop := (fun l : List UInt8 => (∀ x ∈ l, (fun _ : UInt8 => True) x) ∧ l.length * 1 ≤ 140737488351232) x.Bytes ∧ (fun n : Int => -9223372036854775808 ≤ n ∧ n ≤ 9223372036854775807) x.Kept ∧ True
def sz_Disk (x : Disk) : Nat := ((fun l : List UInt8 => (l.map (fun _ : UInt8 => 1)).sum + 1) x.Bytes + ((fun _ : Int => 1) x.Kept + (0))) + 1
theorem rd_Disk : Rz K Try.prog 43 (fun x : Disk => .agg [.sl 1 (x.Bytes.map e_u8), .int .i64 x.Kept]) ok_Disk sz_Disk :=
  rz_struct (β := (List UInt8) × Int × Unit) (t := 43) (fl := [(23, 0), (3, 1)]) (fun b => (⟨b.1, b.2.1⟩ : Disk)) _ _ _ (by kernel_rfl) (rzf_cons (sz := 1) (by kernel_rfl) (rz_slice (t := 23) (e := 5) (sz := 1) (by' := 1) (by kernel_rfl) (by kernel_rfl) (by decide) (by kernel_rfl) (Rz.of (rd_u8 (t := 5) (by kernel_rfl))) (fun _ => rfl)) (rzf_cons (sz := 1) (by kernel_rfl) (Rz.of (rd_i64 (t := 3) (by kernel_rfl))) rzf_nil (fun _ => rfl)) (fun _ => rfl)) (sz := 2) (by kernel_rfl) (fun _ => rfl) (fun _ => rfl) (fun _ h => by exact h) (fun _ => Nat.le_refl _)
theorem own : ownKnob Try.prog.godebug = none := by kernel_rfl
theorem lifted (os : Os) (started : os.Started) (H : Type) (enc : TypeId × Value → H) :
    ReturnsInHanded {} Try.checked os 10 .any (Rows.diskDoesSpec.pre6 enc Try.prog Try.f10 Rows.diskDoesRow.domain false) (Rows.diskDoesSpec.post enc Try.prog Try.f10 false true false false) :=
  law_liftS (K := K) (C := Try.checked) own started (by kernel_rfl) Try.func10
    (ChangeSpec.witness6 (enc := enc) (C := Try.checked) false ⟨#[], #[.agg #[.slice none 0 0, .int .i64 0], .slice none 0 0, .int .i64 0], []⟩ 8 (by kernel_rfl) (by kernel_rfl) (by kernel_rfl) (by kernel_rfl))
    (by kernel_rfl) (by kernel_rfl) (tb := 4) (by kernel_rfl) (by kernel_rfl) rfl Try.params10
    (fun ds h => by
      match ds, h with
      | [_, _, _], _ => rfl)
    (argsZ_cons (t := 43) (Rz.argS (rd_Disk) (by kernel_rfl) (fun _ => ⟨_, rfl⟩)) (argsZ_cons (t := 23) (Rz.argC (rz_slice (t := 23) (e := 5) (sz := 1) (by' := 1) (by kernel_rfl) (by kernel_rfl) (by decide) (by kernel_rfl) (Rz.of (rd_u8 (t := 5) (by kernel_rfl))) (fun _ => rfl)) (by kernel_rfl) (fun _ => rfl)) (argsZ_cons (t := 3) (Rz.argC (Rz.of (rd_i64 (t := 3) (by kernel_rfl))) (by kernel_rfl) (fun _ => rfl)) argsZ_nil)))
    ((fun x hx => law_DiskDoes_ok x.1 x.2.1 x.2.2.1 true (DiskDoes_eq x.1 x.2.1 x.2.2.1)))
theorem DiskDoes_holds : Rows.DiskDoesSaid :=
  OpenClaim.holds_of_wide 10 Try.f10 rfl rfl rfl rfl rfl rfl rfl ⟨rfl, rfl, rfl, rfl, rfl⟩ rfl rfl rfl rfl rfl (by kernel_rfl) Try.func10 (by kernel_rfl)
    (of_decide_eq_true (by kernel_rfl)) (by unfold Func.isWrapper; first | (rw [if_pos (by decide +kernel)]; kernel_rfl) | (rw [if_neg (by decide +kernel)]; exact ⟨rfl, rfl⟩))
    (fun os started H enc _ => lifted os started H enc)
end FDiskDoes
end Go.Proofs.Ytiakadlmebbafaa
