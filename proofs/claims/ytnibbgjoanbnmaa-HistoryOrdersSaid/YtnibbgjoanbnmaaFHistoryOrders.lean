/- 'HistoryOrders' holds: of every input the law returns true, and the input reads behind the call as it did. No condition. -/
import Derived.Test.YtnibbgjoanbnmaaPAll
import Derived.Test.YtnibbgjoanbnmaaEmF
namespace Go.Proofs.Ytnibbgjoanbnmaa
open Go Go.Dm
set_option linter.unusedVariables false
set_option maxRecDepth 100000
namespace FHistoryOrders
open G
theorem one_le {H : Type} (d : DataW H) : 1 ≤ Rows.uptoBulk d := by
  cases d with
  | lit l => cases l <;> simp [Rows.uptoBulk]
  | nil => simp [Rows.uptoBulk]
  | ptr d => simp [Rows.uptoBulk]
  | slice elems spare => simp [Rows.uptoBulk]
  | agg parts => simp [Rows.uptoBulk]
  | iface t d => simp [Rows.uptoBulk]
  | map entries => simp [Rows.uptoBulk]
  | held h => simp [Rows.uptoBulk]
noncomputable def K : Bk where
  b := fun H d => Rows.uptoBulk d
  all := fun H l => Rows.uptoBulkAll l
  str := fun H s => by simp [Rows.uptoBulk]
  one := fun H d => one_le d
  slice := fun H e s => by simp only [Rows.uptoBulk]; omega
  agg := fun H e => by simp only [Rows.uptoBulk]; omega
  cons := fun H d r => by simp only [Rows.uptoBulkAll]; omega
def ok_Span (x : G.Span) : Prop := (fun n : Int => -9223372036854775808 ≤ n ∧ n ≤ 9223372036854775807) x.Kind ∧ (fun n : Int => -9223372036854775808 ≤ n ∧ n ≤ 9223372036854775807) x.Value ∧ (fun n : Int => -9223372036854775808 ≤ n ∧ n ≤ 9223372036854775807) x.From ∧ (fun n : Int => -9223372036854775808 ≤ n ∧ n ≤ 9223372036854775807) x.To ∧ True
def sz_Span (x : G.Span) : Nat := ((fun _ : Int => 1) x.Kind + ((fun _ : Int => 1) x.Value + ((fun _ : Int => 1) x.From + ((fun _ : Int => 1) x.To + (0))))) + 1
theorem rd_Span : Rz K Try.prog 43 (fun x : G.Span => .agg [.int .i64 x.Kind, .int .i64 x.Value, .int .i64 x.From, .int .i64 x.To]) ok_Span sz_Span :=
  rz_struct (β := Int × Int × Int × Int × Unit) (t := 43) (fl := [(3, 0), (3, 1), (3, 2), (3, 3)]) (fun b => (⟨b.1, b.2.1, b.2.2.1, b.2.2.2.1⟩ : G.Span)) _ _ _ (by kernel_rfl) (rzf_cons (sz := 1) (by kernel_rfl) (Rz.of (rd_i64 (t := 3) (by kernel_rfl))) (rzf_cons (sz := 1) (by kernel_rfl) (Rz.of (rd_i64 (t := 3) (by kernel_rfl))) (rzf_cons (sz := 1) (by kernel_rfl) (Rz.of (rd_i64 (t := 3) (by kernel_rfl))) (rzf_cons (sz := 1) (by kernel_rfl) (Rz.of (rd_i64 (t := 3) (by kernel_rfl))) rzf_nil (fun _ => rfl)) (fun _ => rfl)) (fun _ => rfl)) (fun _ => rfl)) (sz := 4) (by kernel_rfl) (fun _ => rfl) (fun _ => rfl) (fun _ h => by exact h) (fun _ => Nat.le_refl _)
theorem own : ownKnob Try.prog.godebug = none := by kernel_rfl
theorem lifted (os : Os) (started : os.Started) (H : Type) (enc : TypeId × Value → H) :
    ReturnsInHanded {} Try.checked os 5 .any (Rows.historyOrdersSpec.pre6 enc Try.prog Try.f5 Rows.historyOrdersRow.domain false) (Rows.historyOrdersSpec.post enc Try.prog Try.f5 false true false false) :=
  law_liftS (K := K) (C := Try.checked) own started (by kernel_rfl) Try.func5
    (ChangeSpec.witness6 (enc := enc) (C := Try.checked) false ⟨#[], #[.slice none 0 0], []⟩ 8 (by kernel_rfl) (by kernel_rfl) (by kernel_rfl) (by kernel_rfl))
    (by kernel_rfl) (by kernel_rfl) (tb := 4) (by kernel_rfl) (by kernel_rfl) rfl Try.params5
    (fun ds h => by
      match ds, h with
      | [_], _ => rfl)
    (argsZ_cons (t := 22) (Rz.argC (rz_slice (t := 22) (e := 43) (sz := 4) (by' := 32) (by kernel_rfl) (by kernel_rfl) (by decide) (by kernel_rfl) (rd_Span) (fun _ => rfl)) (by kernel_rfl) (fun _ => rfl)) argsZ_nil)
    ((fun x hx => law_HistoryOrders_ok (HistoryOrders_eq x.1)))
theorem HistoryOrders_holds : Rows.HistoryOrdersSaid :=
  OpenClaim.holds_of_wide 5 Try.f5 rfl rfl rfl rfl rfl rfl rfl ⟨rfl, rfl, rfl, rfl, rfl⟩ rfl rfl rfl rfl rfl (by kernel_rfl) Try.func5 (by kernel_rfl)
    (of_decide_eq_true (by kernel_rfl)) (by unfold Func.isWrapper; first | (rw [if_pos (by decide +kernel)]; kernel_rfl) | (rw [if_neg (by decide +kernel)]; exact ⟨rfl, rfl⟩))
    (fun os started H enc _ => lifted os started H enc)
end FHistoryOrders
end Go.Proofs.Ytnibbgjoanbnmaa
