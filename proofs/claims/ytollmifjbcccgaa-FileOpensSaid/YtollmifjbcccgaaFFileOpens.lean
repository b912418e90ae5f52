/- 'FileOpens' holds: of every input the law returns true, and the input reads behind the call as it did. No condition. -/
import Derived.Test.YtollmifjbcccgaaPFileOpens
import Derived.Test.YtollmifjbcccgaaEmF
namespace Go.Proofs.Ytollmifjbcccgaa
open Go Go.Dm
set_option linter.unusedVariables false
set_option maxRecDepth 100000
namespace FFileOpens
open G
theorem one_le {H : Type} (d : DataW H) : 1 ≤ Rows.uptoBulk d := by
  cases d with
  | lit l => cases l <;> simp [Rows.uptoBulk]
  | nil => simp [Rows.uptoBulk]
  | ptr d => simp [Rows.uptoBulk]
  | slice elems spare => simp [Rows.uptoBulk]
  | agg parts => simp [Rows.uptoBulk]
  | iface t d => simp [Rows.uptoBulk]
  | map entries => simp [Rows.uptoBulk]
  | held h => simp [Rows.uptoBulk]
noncomputable def K : Bk where
  b := fun H d => Rows.uptoBulk d
  all := fun H l => Rows.uptoBulkAll l
  str := fun H s => by simp [Rows.uptoBulk]
  one := fun H d => one_le d
  slice := fun H e s => by simp only [Rows.uptoBulk]; omega
  agg := fun H e => by simp only [Rows.uptoBulk]; omega
  cons := fun H d r => by simp only [Rows.uptoBulkAll]; omega

theorem own : ownKnob Try.prog.godebug = none := by kernel_rfl
theorem lifted (os : Os) (started : os.Started) (H : Type) (enc : TypeId × Value → H) :
    ReturnsInHanded {} Try.checked os 9 .any (Rows.fileOpensSpec.pre6 enc Try.prog Try.f9 Rows.fileOpensRow.domain false) (Rows.fileOpensSpec.post enc Try.prog Try.f9 false true false false) :=
  law_liftS (K := K) (C := Try.checked) own started (by kernel_rfl) Try.func9
    (ChangeSpec.witness6 (enc := enc) (C := Try.checked) false ⟨#[], #[.slice none 0 0, .string ⟨#[]⟩, .string ⟨#[]⟩, .int .i64 0], []⟩ 8 (by kernel_rfl) (by kernel_rfl) (by kernel_rfl) (by kernel_rfl))
    (by kernel_rfl) (by kernel_rfl) (tb := 4) (by kernel_rfl) (by kernel_rfl) rfl Try.params9
    (fun ds h => by
      match ds, h with
      | [_, _, _, _], _ => rfl)
    (argsZ_cons (t := 25) (Rz.argC (rz_slice (t := 25) (e := 5) (sz := 1) (by' := 1) (by kernel_rfl) (by kernel_rfl) (by decide) (by kernel_rfl) (Rz.of (rd_u8 (t := 5) (by kernel_rfl))) (fun _ => rfl)) (by kernel_rfl) (fun _ => rfl)) (argsZ_cons (t := 9) (Rz.argC (rz_str (t := 9) (by kernel_rfl)) (by kernel_rfl) (fun _ => rfl)) (argsZ_cons (t := 9) (Rz.argC (rz_str (t := 9) (by kernel_rfl)) (by kernel_rfl) (fun _ => rfl)) (argsZ_cons (t := 3) (Rz.argC (Rz.of (rd_i64 (t := 3) (by kernel_rfl))) (by kernel_rfl) (fun _ => rfl)) argsZ_nil))))
    ((fun x hx => law_FileOpens_ok x.1 x.2.1 x.2.2.1 x.2.2.2.1 true (FileOpens_eq x.1 x.2.1 x.2.2.1 x.2.2.2.1 hx.2.1)))
theorem FileOpens_holds : Rows.FileOpensSaid :=
  OpenClaim.holds_of_wide 9 Try.f9 rfl rfl rfl rfl rfl rfl rfl ⟨rfl, rfl, rfl, rfl, rfl⟩ rfl rfl rfl rfl rfl (by kernel_rfl) Try.func9 (by kernel_rfl)
    (of_decide_eq_true (by kernel_rfl)) (by unfold Func.isWrapper; first | (rw [if_pos (by decide +kernel)]; kernel_rfl) | (rw [if_neg (by decide +kernel)]; exact ⟨rfl, rfl⟩))
    (fun os started H enc _ => lifted os started H enc)
end FFileOpens
end Go.Proofs.Ytollmifjbcccgaa
