/- 'OnceOnly' holds: of every input the law returns true, and the input reads behind the call as it did. No condition. -/
import Derived.Test.YtipeimcdjijkgaaPOnceOnly
import Derived.Test.YtipeimcdjijkgaaEm37
namespace Go.Proofs.Ytipeimcdjijkgaa
open Go Go.Dm
set_option linter.unusedVariables false
set_option maxRecDepth 100000
namespace FOnceOnly
open G
theorem one_le {H : Type} (d : DataW H) : 1 ≤ Rows.uptoBulk d := by
  cases d with
  | lit l => cases l <;> simp [Rows.uptoBulk]
  | nil => simp [Rows.uptoBulk]
  | ptr d => simp [Rows.uptoBulk]
  | slice elems spare => simp [Rows.uptoBulk]
  | agg parts => simp [Rows.uptoBulk]
  | iface t d => simp [Rows.uptoBulk]
  | map entries => simp [Rows.uptoBulk]
  | held h => simp [Rows.uptoBulk]
noncomputable def K : Bk where
  b := fun H d => Rows.uptoBulk d
  all := fun H l => Rows.uptoBulkAll l
  str := fun H s => by simp [Rows.uptoBulk]
  one := fun H d => one_le d
  slice := fun H e s => by simp only [Rows.uptoBulk]; omega
  agg := fun H e => by simp only [Rows.uptoBulk]; omega
  cons := fun H d r => by simp only [Rows.uptoBulkAll]; omega
def ok_Call (x : G.Call) : Prop := (fun n : Int => -9223372036854775808 ≤ n ∧ n ≤ 9223372036854775807) x.Client ∧ (fun n : Int => -9223372036854775808 ≤ n ∧ n ≤ 9223372036854775807) x.Seq ∧ (fun n : Int => -9223372036854775808 ≤ n ∧ n ≤ 9223372036854775807) x.Kind ∧ (fun s : List UInt8 => s.length ≤ 140737488351232) x.Row ∧ (fun s : List UInt8 => s.length ≤ 140737488351232) x.Value ∧ (fun s : List UInt8 => s.length ≤ 140737488351232) x.Old ∧ True
def sz_Call (x : G.Call) : Nat := ((fun _ : Int => 1) x.Client + ((fun _ : Int => 1) x.Seq + ((fun _ : Int => 1) x.Kind + ((fun s : List UInt8 => s.length + 1) x.Row + ((fun s : List UInt8 => s.length + 1) x.Value + ((fun s : List UInt8 => s.length + 1) x.Old + (0))))))) + 1
theorem rd_Call : Rz K Try.prog 30 (fun x : G.Call => .agg [.int .i64 x.Client, .int .i64 x.Seq, .int .i64 x.Kind, .str x.Row, .str x.Value, .str x.Old]) ok_Call sz_Call :=
  rz_struct (β := Int × Int × Int × (List UInt8) × (List UInt8) × (List UInt8) × Unit) (t := 30) (fl := [(3, 0), (3, 1), (3, 2), (9, 3), (9, 4), (9, 5)]) (fun b => (⟨b.1, b.2.1, b.2.2.1, b.2.2.2.1, b.2.2.2.2.1, b.2.2.2.2.2.1⟩ : G.Call)) _ _ _ (by kernel_rfl) (rzf_cons (sz := 1) (by kernel_rfl) (Rz.of (rd_i64 (t := 3) (by kernel_rfl))) (rzf_cons (sz := 1) (by kernel_rfl) (Rz.of (rd_i64 (t := 3) (by kernel_rfl))) (rzf_cons (sz := 1) (by kernel_rfl) (Rz.of (rd_i64 (t := 3) (by kernel_rfl))) (rzf_cons (sz := 1) (by kernel_rfl) (rz_str (t := 9) (by kernel_rfl)) (rzf_cons (sz := 1) (by kernel_rfl) (rz_str (t := 9) (by kernel_rfl)) (rzf_cons (sz := 1) (by kernel_rfl) (rz_str (t := 9) (by kernel_rfl)) rzf_nil (fun _ => rfl)) (fun _ => rfl)) (fun _ => rfl)) (fun _ => rfl)) (fun _ => rfl)) (fun _ => rfl)) (sz := 6) (by kernel_rfl) (fun _ => rfl) (fun _ => rfl) (fun _ h => by exact h) (fun _ => Nat.le_refl _)
theorem own : ownKnob Try.prog.godebug = none := by kernel_rfl
theorem lifted (os : Os) (started : os.Started) (H : Type) (enc : TypeId × Value → H) :
    ReturnsInHanded {} Try.checked os 3 .any (Rows.onceOnlySpec.pre6 enc Try.prog Try.f3 Rows.onceOnlyRow.domain false) (Rows.onceOnlySpec.post enc Try.prog Try.f3 false true false false) :=
  law_liftS (K := K) (C := Try.checked) own started (by kernel_rfl) Try.func3
    (ChangeSpec.witness6 (enc := enc) (C := Try.checked) false ⟨#[], #[.slice none 0 0], []⟩ 8 (by kernel_rfl) (by kernel_rfl) (by kernel_rfl) (by kernel_rfl))
    (by kernel_rfl) (by kernel_rfl) (tb := 4) (by kernel_rfl) (by kernel_rfl) rfl Try.params3
    (fun ds h => by
      match ds, h with
      | [_], _ => rfl)
    (argsZ_cons (t := 22) (Rz.argC (rz_slice (t := 22) (e := 30) (sz := 6) (by' := 72) (by kernel_rfl) (by kernel_rfl) (by decide) (by kernel_rfl) (rd_Call) (fun _ => rfl)) (by kernel_rfl) (fun _ => rfl)) argsZ_nil)
    ((fun x hx => law_OnceOnly_ok x.1 true (OnceOnly_eq x.1)))
theorem OnceOnly_holds : Rows.OnceOnlySaid :=
  OpenClaim.holds_of_wide 3 Try.f3 rfl rfl rfl rfl rfl rfl rfl ⟨rfl, rfl, rfl, rfl, rfl⟩ rfl rfl rfl rfl rfl (by kernel_rfl) Try.func3 (by kernel_rfl)
    (of_decide_eq_true (by kernel_rfl)) (by unfold Func.isWrapper; first | (rw [if_pos (by decide +kernel)]; kernel_rfl) | (rw [if_neg (by decide +kernel)]; exact ⟨rfl, rfl⟩))
    (fun os started H enc _ => lifted os started H enc)
end FOnceOnly
end Go.Proofs.Ytipeimcdjijkgaa
