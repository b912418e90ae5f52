/- 'WalApplies' holds: of every input the law returns true, and the input reads behind the call as it did. No condition. -/
import Derived.Test.YtollmifjbcccgaaPWalApplies
import Derived.Test.YtollmifjbcccgaaEmF
namespace Go.Proofs.Ytollmifjbcccgaa
open Go Go.Dm
set_option linter.unusedVariables false
set_option maxRecDepth 100000
namespace FWalApplies
open G
theorem one_le {H : Type} (d : DataW H) : 1 ≤ Rows.uptoBulk d := by
  cases d with
  | lit l => cases l <;> simp [Rows.uptoBulk]
  | nil => simp [Rows.uptoBulk]
  | ptr d => simp [Rows.uptoBulk]
  | slice elems spare => simp [Rows.uptoBulk]
  | agg parts => simp [Rows.uptoBulk]
  | iface t d => simp [Rows.uptoBulk]
  | map entries => simp [Rows.uptoBulk]
  | held h => simp [Rows.uptoBulk]
noncomputable def K : Bk where
  b := fun H d => Rows.uptoBulk d
  all := fun H l => Rows.uptoBulkAll l
  str := fun H s => by simp [Rows.uptoBulk]
  one := fun H d => one_le d
  slice := fun H e s => by simp only [Rows.uptoBulk]; omega
  agg := fun H e => by simp only [Rows.uptoBulk]; omega
  cons := fun H d r => by simp only [Rows.uptoBulkAll]; omega
def ok_Cell (x : G.Cell) : Prop := (fun s : List UInt8 => s.length ≤ 140737488351232) x.Row ∧ (fun s : List UInt8 => s.length ≤ 140737488351232) x.Col ∧ (fun n : Int => -9223372036854775808 ≤ n ∧ n ≤ 9223372036854775807) x.Time ∧ (fun _ : Bool => True) x.Gone ∧ (fun s : List UInt8 => s.length ≤ 140737488351232) x.Value ∧ True
def sz_Cell (x : G.Cell) : Nat := ((fun s : List UInt8 => s.length + 1) x.Row + ((fun s : List UInt8 => s.length + 1) x.Col + ((fun _ : Int => 1) x.Time + ((fun _ : Bool => 1) x.Gone + ((fun s : List UInt8 => s.length + 1) x.Value + (0)))))) + 1
theorem rd_Cell : Rz K Try.prog 96 (fun x : G.Cell => .agg [.str x.Row, .str x.Col, .int .i64 x.Time, .bool x.Gone, .str x.Value]) ok_Cell sz_Cell :=
  rz_struct (β := (List UInt8) × (List UInt8) × Int × Bool × (List UInt8) × Unit) (t := 96) (fl := [(9, 0), (9, 1), (3, 2), (4, 3), (9, 4)]) (fun b => (⟨b.1, b.2.1, b.2.2.1, b.2.2.2.1, b.2.2.2.2.1⟩ : G.Cell)) _ _ _ (by kernel_rfl) (rzf_cons (sz := 1) (by kernel_rfl) (rz_str (t := 9) (by kernel_rfl)) (rzf_cons (sz := 1) (by kernel_rfl) (rz_str (t := 9) (by kernel_rfl)) (rzf_cons (sz := 1) (by kernel_rfl) (Rz.of (rd_i64 (t := 3) (by kernel_rfl))) (rzf_cons (sz := 1) (by kernel_rfl) (Rz.of (rd_bool (t := 4) (by kernel_rfl))) (rzf_cons (sz := 1) (by kernel_rfl) (rz_str (t := 9) (by kernel_rfl)) rzf_nil (fun _ => rfl)) (fun _ => rfl)) (fun _ => rfl)) (fun _ => rfl)) (fun _ => rfl)) (sz := 5) (by kernel_rfl) (fun _ => rfl) (fun _ => rfl) (fun _ h => by exact h) (fun _ => Nat.le_refl _)
def ok_Note (x : G.Note) : Prop := (fun n : Int => -9223372036854775808 ≤ n ∧ n ≤ 9223372036854775807) x.Seq ∧ (fun l : List G.Cell => (∀ x ∈ l, ok_Cell x) ∧ l.length * 64 ≤ 140737488351232) x.Cells ∧ True
def sz_Note (x : G.Note) : Nat := ((fun _ : Int => 1) x.Seq + ((fun l : List G.Cell => (l.map sz_Cell).sum + 1) x.Cells + (0))) + 1
theorem rd_Note : Rz K Try.prog 24 (fun x : G.Note => .agg [.int .i64 x.Seq, .sl 5 (x.Cells.map e_Cell)]) ok_Note sz_Note :=
  rz_struct (β := Int × (List G.Cell) × Unit) (t := 24) (fl := [(3, 0), (22, 1)]) (fun b => (⟨b.1, b.2.1⟩ : G.Note)) _ _ _ (by kernel_rfl) (rzf_cons (sz := 1) (by kernel_rfl) (Rz.of (rd_i64 (t := 3) (by kernel_rfl))) (rzf_cons (sz := 1) (by kernel_rfl) (rz_slice (t := 22) (e := 96) (sz := 5) (by' := 64) (by kernel_rfl) (by kernel_rfl) (by decide) (by kernel_rfl) (rd_Cell) (fun _ => rfl)) rzf_nil (fun _ => rfl)) (fun _ => rfl)) (sz := 2) (by kernel_rfl) (fun _ => rfl) (fun _ => rfl) (fun _ h => by exact h) (fun _ => Nat.le_refl _)
theorem own : ownKnob Try.prog.godebug = none := by kernel_rfl
theorem lifted (os : Os) (started : os.Started) (H : Type) (enc : TypeId × Value → H) :
    ReturnsInHanded {} Try.checked os 6 .any (Rows.walAppliesSpec.pre6 enc Try.prog Try.f6 Rows.walAppliesRow.domain false) (Rows.walAppliesSpec.post enc Try.prog Try.f6 false true false false) :=
  law_liftS (K := K) (C := Try.checked) own started (by kernel_rfl) Try.func6
    (ChangeSpec.witness6 (enc := enc) (C := Try.checked) false ⟨#[], #[.slice none 0 0, .slice none 0 0, .int .i64 0], []⟩ 8 (by kernel_rfl) (by kernel_rfl) (by kernel_rfl) (by kernel_rfl))
    (by kernel_rfl) (by kernel_rfl) (tb := 4) (by kernel_rfl) (by kernel_rfl) rfl Try.params6
    (fun ds h => by
      match ds, h with
      | [_, _, _], _ => rfl)
    (argsZ_cons (t := 22) (Rz.argC (rz_slice (t := 22) (e := 96) (sz := 5) (by' := 64) (by kernel_rfl) (by kernel_rfl) (by decide) (by kernel_rfl) (rd_Cell) (fun _ => rfl)) (by kernel_rfl) (fun _ => rfl)) (argsZ_cons (t := 56) (Rz.argC (rz_slice (t := 56) (e := 24) (sz := 2) (by' := 32) (by kernel_rfl) (by kernel_rfl) (by decide) (by kernel_rfl) (rd_Note) (fun _ => rfl)) (by kernel_rfl) (fun _ => rfl)) (argsZ_cons (t := 3) (Rz.argC (Rz.of (rd_i64 (t := 3) (by kernel_rfl))) (by kernel_rfl) (fun _ => rfl)) argsZ_nil)))
    ((fun x hx => law_WalApplies_ok x.1 x.2.1 x.2.2.1 true (WalApplies_eq x.1 x.2.1 x.2.2.1 (by have := hx.2.1.2; omega) (fun n h => by have := (hx.2.1.1 n h).2.1.2; omega))))
theorem WalApplies_holds : Rows.WalAppliesSaid :=
  OpenClaim.holds_of_wide 6 Try.f6 rfl rfl rfl rfl rfl rfl rfl ⟨rfl, rfl, rfl, rfl, rfl⟩ rfl rfl rfl rfl rfl (by kernel_rfl) Try.func6 (by kernel_rfl)
    (of_decide_eq_true (by kernel_rfl)) (by unfold Func.isWrapper; first | (rw [if_pos (by decide +kernel)]; kernel_rfl) | (rw [if_neg (by decide +kernel)]; exact ⟨rfl, rfl⟩))
    (fun os started H enc _ => lifted os started H enc)
end FWalApplies
end Go.Proofs.Ytollmifjbcccgaa
