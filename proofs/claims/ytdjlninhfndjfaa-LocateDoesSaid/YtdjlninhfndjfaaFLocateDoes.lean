/- 'LocateDoes' holds: of every input the law returns true, and the input reads behind the call as it did. No condition. -/
import Derived.Test.YtdjlninhfndjfaaPLocateDoes
import Derived.Test.YtdjlninhfndjfaaEmF
namespace Go.Proofs.Ytdjlninhfndjfaa
open Go Go.Dm
set_option linter.unusedVariables false
set_option maxRecDepth 100000
namespace FLocateDoes
open G
theorem one_le {H : Type} (d : DataW H) : 1 ≤ Rows.uptoBulk d := by
  cases d with
  | lit l => cases l <;> simp [Rows.uptoBulk]
  | nil => simp [Rows.uptoBulk]
  | ptr d => simp [Rows.uptoBulk]
  | slice elems spare => simp [Rows.uptoBulk]
  | agg parts => simp [Rows.uptoBulk]
  | iface t d => simp [Rows.uptoBulk]
  | map entries => simp [Rows.uptoBulk]
  | held h => simp [Rows.uptoBulk]
noncomputable def K : Bk where
  b := fun H d => Rows.uptoBulk d
  all := fun H l => Rows.uptoBulkAll l
  str := fun H s => by simp [Rows.uptoBulk]
  one := fun H d => one_le d
  slice := fun H e s => by simp only [Rows.uptoBulk]; omega
  agg := fun H e => by simp only [Rows.uptoBulk]; omega
  cons := fun H d r => by simp only [Rows.uptoBulkAll]; omega
def ok_Part (x : G.Part) : Prop := (fun s : List UInt8 => s.length ≤ 140737488351232) x.From ∧ (fun s : List UInt8 => s.length ≤ 140737488351232) x.To ∧ (fun n : Int => -9223372036854775808 ≤ n ∧ n ≤ 9223372036854775807) x.ID ∧ True
def sz_Part (x : G.Part) : Nat := ((fun s : List UInt8 => s.length + 1) x.From + ((fun s : List UInt8 => s.length + 1) x.To + ((fun _ : Int => 1) x.ID + (0)))) + 1
theorem rd_Part : Rz K Try.prog 34 (fun x : G.Part => .agg [.str x.From, .str x.To, .int .i64 x.ID]) ok_Part sz_Part :=
  rz_struct (β := (List UInt8) × (List UInt8) × Int × Unit) (t := 34) (fl := [(9, 0), (9, 1), (3, 2)]) (fun b => (⟨b.1, b.2.1, b.2.2.1⟩ : G.Part)) _ _ _ (by kernel_rfl) (rzf_cons (sz := 1) (by kernel_rfl) (rz_str (t := 9) (by kernel_rfl)) (rzf_cons (sz := 1) (by kernel_rfl) (rz_str (t := 9) (by kernel_rfl)) (rzf_cons (sz := 1) (by kernel_rfl) (Rz.of (rd_i64 (t := 3) (by kernel_rfl))) rzf_nil (fun _ => rfl)) (fun _ => rfl)) (fun _ => rfl)) (sz := 3) (by kernel_rfl) (fun _ => rfl) (fun _ => rfl) (fun _ h => by exact h) (fun _ => Nat.le_refl _)
def ok_Known (x : G.Known) : Prop := ok_Part x.Part ∧ (fun n : Int => -9223372036854775808 ≤ n ∧ n ≤ 9223372036854775807) x.Host ∧ (fun n : Int => -9223372036854775808 ≤ n ∧ n ≤ 9223372036854775807) x.Turn ∧ True
def sz_Known (x : G.Known) : Nat := (sz_Part x.Part + ((fun _ : Int => 1) x.Host + ((fun _ : Int => 1) x.Turn + (0)))) + 1
theorem rd_Known : Rz K Try.prog 67 (fun x : G.Known => .agg [.str x.Part.From, .str x.Part.To, .int .i64 x.Part.ID, .int .i64 x.Host, .int .i64 x.Turn]) ok_Known sz_Known :=
  rz_struct (β := G.Part × Int × Int × Unit) (t := 67) (fl := [(34, 0), (3, 3), (3, 4)]) (fun b => (⟨b.1, b.2.1, b.2.2.1⟩ : G.Known)) _ _ _ (by kernel_rfl) (rzf_cons (sz := 3) (by kernel_rfl) (rd_Part) (rzf_cons (sz := 1) (by kernel_rfl) (Rz.of (rd_i64 (t := 3) (by kernel_rfl))) (rzf_cons (sz := 1) (by kernel_rfl) (Rz.of (rd_i64 (t := 3) (by kernel_rfl))) rzf_nil (fun _ => rfl)) (fun _ => rfl)) (fun _ => rfl)) (sz := 5) (by kernel_rfl) (fun _ => rfl) (fun _ => rfl) (fun _ h => by exact h) (fun _ => Nat.le_refl _)
theorem own : ownKnob Try.prog.godebug = none := by kernel_rfl
theorem lifted (os : Os) (started : os.Started) (H : Type) (enc : TypeId × Value → H) :
    ReturnsInHanded {} Try.checked os 8 .any (Rows.locateDoesSpec.pre6 enc Try.prog Try.f8 Rows.locateDoesRow.domain false) (Rows.locateDoesSpec.post enc Try.prog Try.f8 false true false false) :=
  law_liftS (K := K) (C := Try.checked) own started (by kernel_rfl) Try.func8
    (ChangeSpec.witness6 (enc := enc) (C := Try.checked) false ⟨#[], #[.slice none 0 0, .string ⟨#[]⟩, .agg #[.string ⟨#[]⟩, .string ⟨#[]⟩, .int .i64 0, .int .i64 0, .int .i64 0]], []⟩ 8 (by kernel_rfl) (by kernel_rfl) (by kernel_rfl) (by kernel_rfl))
    (by kernel_rfl) (by kernel_rfl) (tb := 4) (by kernel_rfl) (by kernel_rfl) rfl Try.params8
    (fun ds h => by
      match ds, h with
      | [_, _, _], _ => rfl)
    (argsZ_cons (t := 58) (Rz.argC (rz_slice (t := 58) (e := 67) (sz := 5) (by' := 56) (by kernel_rfl) (by kernel_rfl) (by decide) (by kernel_rfl) (rd_Known) (fun _ => rfl)) (by kernel_rfl) (fun _ => rfl)) (argsZ_cons (t := 9) (Rz.argC (rz_str (t := 9) (by kernel_rfl)) (by kernel_rfl) (fun _ => rfl)) (argsZ_cons (t := 67) (Rz.argS (rd_Known) (by kernel_rfl) (fun _ => ⟨_, rfl⟩)) argsZ_nil)))
    ((fun x hx => law_LocateDoes_ok x.1 x.2.1 x.2.2.1 true (LocateDoes_eq x.1 x.2.1 x.2.2.1)))
theorem LocateDoes_holds : Rows.LocateDoesSaid :=
  OpenClaim.holds_of_wide 8 Try.f8 rfl rfl rfl rfl rfl rfl rfl ⟨rfl, rfl, rfl, rfl, rfl⟩ rfl rfl rfl rfl rfl (by kernel_rfl) Try.func8 (by kernel_rfl)
    (of_decide_eq_true (by kernel_rfl)) (by unfold Func.isWrapper; first | (rw [if_pos (by decide +kernel)]; kernel_rfl) | (rw [if_neg (by decide +kernel)]; exact ⟨rfl, rfl⟩))
    (fun os started H enc _ => lifted os started H enc)
end FLocateDoes
end Go.Proofs.Ytdjlninhfndjfaa
