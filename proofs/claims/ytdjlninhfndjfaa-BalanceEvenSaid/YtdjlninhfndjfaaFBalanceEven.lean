/- 'BalanceEven' holds: of every input the law returns true, and the input reads behind the call as it did. No condition. -/
import Derived.Test.YtdjlninhfndjfaaPAll
import Derived.Test.YtdjlninhfndjfaaEmF
namespace Go.Proofs.Ytdjlninhfndjfaa
open Go Go.Dm
set_option linter.unusedVariables false
set_option maxRecDepth 100000
namespace FBalanceEven
open G
theorem one_le {H : Type} (d : DataW H) : 1 ≤ Rows.uptoBulk d := by
  cases d with
  | lit l => cases l <;> simp [Rows.uptoBulk]
  | nil => simp [Rows.uptoBulk]
  | ptr d => simp [Rows.uptoBulk]
  | slice elems spare => simp [Rows.uptoBulk]
  | agg parts => simp [Rows.uptoBulk]
  | iface t d => simp [Rows.uptoBulk]
  | map entries => simp [Rows.uptoBulk]
  | held h => simp [Rows.uptoBulk]
noncomputable def K : Bk where
  b := fun H d => Rows.uptoBulk d
  all := fun H l => Rows.uptoBulkAll l
  str := fun H s => by simp [Rows.uptoBulk]
  one := fun H d => one_le d
  slice := fun H e s => by simp only [Rows.uptoBulk]; omega
  agg := fun H e => by simp only [Rows.uptoBulk]; omega
  cons := fun H d r => by simp only [Rows.uptoBulkAll]; omega
def ok_Order (x : G.Order) : Prop := (fun n : Int => -9223372036854775808 ≤ n ∧ n ≤ 9223372036854775807) x.Kind ∧ (fun n : Int => -9223372036854775808 ≤ n ∧ n ≤ 9223372036854775807) x.ID ∧ (fun n : Int => -9223372036854775808 ≤ n ∧ n ≤ 9223372036854775807) x.Host ∧ (fun n : Int => -9223372036854775808 ≤ n ∧ n ≤ 9223372036854775807) x.Turn ∧ (fun s : List UInt8 => s.length ≤ 140737488351232) x.Row ∧ True
def sz_Order (x : G.Order) : Nat := ((fun _ : Int => 1) x.Kind + ((fun _ : Int => 1) x.ID + ((fun _ : Int => 1) x.Host + ((fun _ : Int => 1) x.Turn + ((fun s : List UInt8 => s.length + 1) x.Row + (0)))))) + 1
theorem rd_Order : Rz K Try.prog 91 (fun x : G.Order => .agg [.int .i64 x.Kind, .int .i64 x.ID, .int .i64 x.Host, .int .i64 x.Turn, .str x.Row]) ok_Order sz_Order :=
  rz_struct (β := Int × Int × Int × Int × (List UInt8) × Unit) (t := 91) (fl := [(3, 0), (3, 1), (3, 2), (3, 3), (9, 4)]) (fun b => (⟨b.1, b.2.1, b.2.2.1, b.2.2.2.1, b.2.2.2.2.1⟩ : G.Order)) _ _ _ (by kernel_rfl) (rzf_cons (sz := 1) (by kernel_rfl) (Rz.of (rd_i64 (t := 3) (by kernel_rfl))) (rzf_cons (sz := 1) (by kernel_rfl) (Rz.of (rd_i64 (t := 3) (by kernel_rfl))) (rzf_cons (sz := 1) (by kernel_rfl) (Rz.of (rd_i64 (t := 3) (by kernel_rfl))) (rzf_cons (sz := 1) (by kernel_rfl) (Rz.of (rd_i64 (t := 3) (by kernel_rfl))) (rzf_cons (sz := 1) (by kernel_rfl) (rz_str (t := 9) (by kernel_rfl)) rzf_nil (fun _ => rfl)) (fun _ => rfl)) (fun _ => rfl)) (fun _ => rfl)) (fun _ => rfl)) (sz := 5) (by kernel_rfl) (fun _ => rfl) (fun _ => rfl) (fun _ h => by exact h) (fun _ => Nat.le_refl _)
theorem own : ownKnob Try.prog.godebug = none := by kernel_rfl
theorem lifted (os : Os) (started : os.Started) (H : Type) (enc : TypeId × Value → H) :
    ReturnsInHanded {} Try.checked os 14 .any (Rows.balanceEvenSpec.pre6 enc Try.prog Try.f14 Rows.balanceEvenRow.domain false) (Rows.balanceEvenSpec.post enc Try.prog Try.f14 false true false false) :=
  law_liftS (K := K) (C := Try.checked) own started (by kernel_rfl) Try.func14
    (ChangeSpec.witness6 (enc := enc) (C := Try.checked) false ⟨#[], #[.slice none 0 0], []⟩ 8 (by kernel_rfl) (by kernel_rfl) (by kernel_rfl) (by kernel_rfl))
    (by kernel_rfl) (by kernel_rfl) (tb := 4) (by kernel_rfl) (by kernel_rfl) rfl Try.params14
    (fun ds h => by
      match ds, h with
      | [_], _ => rfl)
    (argsZ_cons (t := 53) (Rz.argC (rz_slice (t := 53) (e := 91) (sz := 5) (by' := 48) (by kernel_rfl) (by kernel_rfl) (by decide) (by kernel_rfl) (rd_Order) (fun _ => rfl)) (by kernel_rfl) (fun _ => rfl)) argsZ_nil)
    ((fun x hx => law_BalanceEven_ok x.1 true (BalanceEven_eq x.1)))
theorem BalanceEven_holds : Rows.BalanceEvenSaid :=
  OpenClaim.holds_of_wide 14 Try.f14 rfl rfl rfl rfl rfl rfl rfl ⟨rfl, rfl, rfl, rfl, rfl⟩ rfl rfl rfl rfl rfl (by kernel_rfl) Try.func14 (by kernel_rfl)
    (of_decide_eq_true (by kernel_rfl)) (by unfold Func.isWrapper; first | (rw [if_pos (by decide +kernel)]; kernel_rfl) | (rw [if_neg (by decide +kernel)]; exact ⟨rfl, rfl⟩))
    (fun os started H enc _ => lifted os started H enc)
end FBalanceEven
end Go.Proofs.Ytdjlninhfndjfaa
