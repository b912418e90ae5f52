/- 'OnceDoes' holds: of every input the law returns true, and the input reads behind the call as it did. No condition. -/
import Derived.Test.YtipeimcdjijkgaaPOnceDoes
import Derived.Test.YtipeimcdjijkgaaEm37
namespace Go.Proofs.Ytipeimcdjijkgaa
open Go Go.Dm
set_option linter.unusedVariables false
set_option maxRecDepth 100000
namespace FOnceDoes
open G
theorem one_le {H : Type} (d : DataW H) : 1 ≤ Rows.uptoBulk d := by
  cases d with
  | lit l => cases l <;> simp [Rows.uptoBulk]
  | nil => simp [Rows.uptoBulk]
  | ptr d => simp [Rows.uptoBulk]
  | slice elems spare => simp [Rows.uptoBulk]
  | agg parts => simp [Rows.uptoBulk]
  | iface t d => simp [Rows.uptoBulk]
  | map entries => simp [Rows.uptoBulk]
  | held h => simp [Rows.uptoBulk]
noncomputable def K : Bk where
  b := fun H d => Rows.uptoBulk d
  all := fun H l => Rows.uptoBulkAll l
  str := fun H s => by simp [Rows.uptoBulk]
  one := fun H d => one_le d
  slice := fun H e s => by simp only [Rows.uptoBulk]; omega
  agg := fun H e => by simp only [Rows.uptoBulk]; omega
  cons := fun H d r => by simp only [Rows.uptoBulkAll]; omega
def ok_Pair (x : G.Pair) : Prop := (fun s : List UInt8 => s.length ≤ 140737488351232) x.Row ∧ (fun s : List UInt8 => s.length ≤ 140737488351232) x.Value ∧ True
def sz_Pair (x : G.Pair) : Nat := ((fun s : List UInt8 => s.length + 1) x.Row + ((fun s : List UInt8 => s.length + 1) x.Value + (0))) + 1
theorem rd_Pair : Rz K Try.prog 70 (fun x : G.Pair => .agg [.str x.Row, .str x.Value]) ok_Pair sz_Pair :=
  rz_struct (β := (List UInt8) × (List UInt8) × Unit) (t := 70) (fl := [(9, 0), (9, 1)]) (fun b => (⟨b.1, b.2.1⟩ : G.Pair)) _ _ _ (by kernel_rfl) (rzf_cons (sz := 1) (by kernel_rfl) (rz_str (t := 9) (by kernel_rfl)) (rzf_cons (sz := 1) (by kernel_rfl) (rz_str (t := 9) (by kernel_rfl)) rzf_nil (fun _ => rfl)) (fun _ => rfl)) (sz := 2) (by kernel_rfl) (fun _ => rfl) (fun _ => rfl) (fun _ h => by exact h) (fun _ => Nat.le_refl _)
def ok_Memo (x : G.Memo) : Prop := (fun n : Int => -9223372036854775808 ≤ n ∧ n ≤ 9223372036854775807) x.Client ∧ (fun n : Int => -9223372036854775808 ≤ n ∧ n ≤ 9223372036854775807) x.Seq ∧ (fun s : List UInt8 => s.length ≤ 140737488351232) x.Said ∧ True
def sz_Memo (x : G.Memo) : Nat := ((fun _ : Int => 1) x.Client + ((fun _ : Int => 1) x.Seq + ((fun s : List UInt8 => s.length + 1) x.Said + (0)))) + 1
theorem rd_Memo : Rz K Try.prog 37 (fun x : G.Memo => .agg [.int .i64 x.Client, .int .i64 x.Seq, .str x.Said]) ok_Memo sz_Memo :=
  rz_struct (β := Int × Int × (List UInt8) × Unit) (t := 37) (fl := [(3, 0), (3, 1), (9, 2)]) (fun b => (⟨b.1, b.2.1, b.2.2.1⟩ : G.Memo)) _ _ _ (by kernel_rfl) (rzf_cons (sz := 1) (by kernel_rfl) (Rz.of (rd_i64 (t := 3) (by kernel_rfl))) (rzf_cons (sz := 1) (by kernel_rfl) (Rz.of (rd_i64 (t := 3) (by kernel_rfl))) (rzf_cons (sz := 1) (by kernel_rfl) (rz_str (t := 9) (by kernel_rfl)) rzf_nil (fun _ => rfl)) (fun _ => rfl)) (fun _ => rfl)) (sz := 3) (by kernel_rfl) (fun _ => rfl) (fun _ => rfl) (fun _ h => by exact h) (fun _ => Nat.le_refl _)
def ok_Ledger (x : G.Ledger) : Prop := (fun l : List G.Pair => (∀ x ∈ l, ok_Pair x) ∧ l.length * 32 ≤ 140737488351232) x.Rows ∧ (fun l : List G.Memo => (∀ x ∈ l, ok_Memo x) ∧ l.length * 32 ≤ 140737488351232) x.Memos ∧ True
def sz_Ledger (x : G.Ledger) : Nat := ((fun l : List G.Pair => (l.map sz_Pair).sum + 1) x.Rows + ((fun l : List G.Memo => (l.map sz_Memo).sum + 1) x.Memos + (0))) + 1
theorem rd_Ledger : Rz K Try.prog 27 (fun x : G.Ledger => .agg [.sl 2 (x.Rows.map e_Pair), .sl 3 (x.Memos.map e_Memo)]) ok_Ledger sz_Ledger :=
  rz_struct (β := (List G.Pair) × (List G.Memo) × Unit) (t := 27) (fl := [(24, 0), (25, 1)]) (fun b => (⟨b.1, b.2.1⟩ : G.Ledger)) _ _ _ (by kernel_rfl) (rzf_cons (sz := 1) (by kernel_rfl) (rz_slice (t := 24) (e := 70) (sz := 2) (by' := 32) (by kernel_rfl) (by kernel_rfl) (by decide) (by kernel_rfl) (rd_Pair) (fun _ => rfl)) (rzf_cons (sz := 1) (by kernel_rfl) (rz_slice (t := 25) (e := 37) (sz := 3) (by' := 32) (by kernel_rfl) (by kernel_rfl) (by decide) (by kernel_rfl) (rd_Memo) (fun _ => rfl)) rzf_nil (fun _ => rfl)) (fun _ => rfl)) (sz := 2) (by kernel_rfl) (fun _ => rfl) (fun _ => rfl) (fun _ h => by exact h) (fun _ => Nat.le_refl _)
def ok_Call (x : G.Call) : Prop := (fun n : Int => -9223372036854775808 ≤ n ∧ n ≤ 9223372036854775807) x.Client ∧ (fun n : Int => -9223372036854775808 ≤ n ∧ n ≤ 9223372036854775807) x.Seq ∧ (fun n : Int => -9223372036854775808 ≤ n ∧ n ≤ 9223372036854775807) x.Kind ∧ (fun s : List UInt8 => s.length ≤ 140737488351232) x.Row ∧ (fun s : List UInt8 => s.length ≤ 140737488351232) x.Value ∧ (fun s : List UInt8 => s.length ≤ 140737488351232) x.Old ∧ True
def sz_Call (x : G.Call) : Nat := ((fun _ : Int => 1) x.Client + ((fun _ : Int => 1) x.Seq + ((fun _ : Int => 1) x.Kind + ((fun s : List UInt8 => s.length + 1) x.Row + ((fun s : List UInt8 => s.length + 1) x.Value + ((fun s : List UInt8 => s.length + 1) x.Old + (0))))))) + 1
theorem rd_Call : Rz K Try.prog 30 (fun x : G.Call => .agg [.int .i64 x.Client, .int .i64 x.Seq, .int .i64 x.Kind, .str x.Row, .str x.Value, .str x.Old]) ok_Call sz_Call :=
  rz_struct (β := Int × Int × Int × (List UInt8) × (List UInt8) × (List UInt8) × Unit) (t := 30) (fl := [(3, 0), (3, 1), (3, 2), (9, 3), (9, 4), (9, 5)]) (fun b => (⟨b.1, b.2.1, b.2.2.1, b.2.2.2.1, b.2.2.2.2.1, b.2.2.2.2.2.1⟩ : G.Call)) _ _ _ (by kernel_rfl) (rzf_cons (sz := 1) (by kernel_rfl) (Rz.of (rd_i64 (t := 3) (by kernel_rfl))) (rzf_cons (sz := 1) (by kernel_rfl) (Rz.of (rd_i64 (t := 3) (by kernel_rfl))) (rzf_cons (sz := 1) (by kernel_rfl) (Rz.of (rd_i64 (t := 3) (by kernel_rfl))) (rzf_cons (sz := 1) (by kernel_rfl) (rz_str (t := 9) (by kernel_rfl)) (rzf_cons (sz := 1) (by kernel_rfl) (rz_str (t := 9) (by kernel_rfl)) (rzf_cons (sz := 1) (by kernel_rfl) (rz_str (t := 9) (by kernel_rfl)) rzf_nil (fun _ => rfl)) (fun _ => rfl)) (fun _ => rfl)) (fun _ => rfl)) (fun _ => rfl)) (fun _ => rfl)) (sz := 6) (by kernel_rfl) (fun _ => rfl) (fun _ => rfl) (fun _ h => by exact h) (fun _ => Nat.le_refl _)
theorem own : ownKnob Try.prog.godebug = none := by kernel_rfl
theorem lifted (os : Os) (started : os.Started) (H : Type) (enc : TypeId × Value → H) :
    ReturnsInHanded {} Try.checked os 4 .any (Rows.onceDoesSpec.pre6 enc Try.prog Try.f4 Rows.onceDoesRow.domain false) (Rows.onceDoesSpec.post enc Try.prog Try.f4 false true false false) :=
  law_liftS (K := K) (C := Try.checked) own started (by kernel_rfl) Try.func4
    (ChangeSpec.witness6 (enc := enc) (C := Try.checked) false ⟨#[], #[.agg #[.slice none 0 0, .slice none 0 0], .agg #[.int .i64 0, .int .i64 0, .int .i64 0, .string ⟨#[]⟩, .string ⟨#[]⟩, .string ⟨#[]⟩]], []⟩ 8 (by kernel_rfl) (by kernel_rfl) (by kernel_rfl) (by kernel_rfl))
    (by kernel_rfl) (by kernel_rfl) (tb := 4) (by kernel_rfl) (by kernel_rfl) rfl Try.params4
    (fun ds h => by
      match ds, h with
      | [_, _], _ => rfl)
    (argsZ_cons (t := 27) (Rz.argS (rd_Ledger) (by kernel_rfl) (fun _ => ⟨_, rfl⟩)) (argsZ_cons (t := 30) (Rz.argS (rd_Call) (by kernel_rfl) (fun _ => ⟨_, rfl⟩)) argsZ_nil))
    ((fun x hx => law_OnceDoes_ok x.1 x.2.1 true (OnceDoes_eq x.1 x.2.1)))
theorem OnceDoes_holds : Rows.OnceDoesSaid :=
  OpenClaim.holds_of_wide 4 Try.f4 rfl rfl rfl rfl rfl rfl rfl ⟨rfl, rfl, rfl, rfl, rfl⟩ rfl rfl rfl rfl rfl (by kernel_rfl) Try.func4 (by kernel_rfl)
    (of_decide_eq_true (by kernel_rfl)) (by unfold Func.isWrapper; first | (rw [if_pos (by decide +kernel)]; kernel_rfl) | (rw [if_neg (by decide +kernel)]; exact ⟨rfl, rfl⟩))
    (fun os started H enc _ => lifted os started H enc)
end FOnceDoes
end Go.Proofs.Ytipeimcdjijkgaa
