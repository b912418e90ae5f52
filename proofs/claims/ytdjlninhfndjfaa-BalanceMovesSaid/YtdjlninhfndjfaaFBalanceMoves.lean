/- 'BalanceMoves' holds: of every input the law returns true, and the input reads behind the call as it did. No condition. -/
import Derived.Test.YtdjlninhfndjfaaPAll
import Derived.Test.YtdjlninhfndjfaaEmF
namespace Go.Proofs.Ytdjlninhfndjfaa
open Go Go.Dm
set_option linter.unusedVariables false
set_option maxRecDepth 100000
namespace FBalanceMoves
open G
theorem one_le {H : Type} (d : DataW H) : 1 ≤ Rows.uptoBulk d := by
  cases d with
  | lit l => cases l <;> simp [Rows.uptoBulk]
  | nil => simp [Rows.uptoBulk]
  | ptr d => simp [Rows.uptoBulk]
  | slice elems spare => simp [Rows.uptoBulk]
  | agg parts => simp [Rows.uptoBulk]
  | iface t d => simp [Rows.uptoBulk]
  | map entries => simp [Rows.uptoBulk]
  | held h => simp [Rows.uptoBulk]
noncomputable def K : Bk where
  b := fun H d => Rows.uptoBulk d
  all := fun H l => Rows.uptoBulkAll l
  str := fun H s => by simp [Rows.uptoBulk]
  one := fun H d => one_le d
  slice := fun H e s => by simp only [Rows.uptoBulk]; omega
  agg := fun H e => by simp only [Rows.uptoBulk]; omega
  cons := fun H d r => by simp only [Rows.uptoBulkAll]; omega
def ok_Host (x : G.Host) : Prop := (fun n : Int => -9223372036854775808 ≤ n ∧ n ≤ 9223372036854775807) x.ID ∧ (fun n : Int => -9223372036854775808 ≤ n ∧ n ≤ 9223372036854775807) x.Epoch ∧ (fun _ : Bool => True) x.Alive ∧ True
def sz_Host (x : G.Host) : Nat := ((fun _ : Int => 1) x.ID + ((fun _ : Int => 1) x.Epoch + ((fun _ : Bool => 1) x.Alive + (0)))) + 1
theorem rd_Host : Rz K Try.prog 108 (fun x : G.Host => .agg [.int .i64 x.ID, .int .i64 x.Epoch, .bool x.Alive]) ok_Host sz_Host :=
  rz_struct (β := Int × Int × Bool × Unit) (t := 108) (fl := [(3, 0), (3, 1), (4, 2)]) (fun b => (⟨b.1, b.2.1, b.2.2.1⟩ : G.Host)) _ _ _ (by kernel_rfl) (rzf_cons (sz := 1) (by kernel_rfl) (Rz.of (rd_i64 (t := 3) (by kernel_rfl))) (rzf_cons (sz := 1) (by kernel_rfl) (Rz.of (rd_i64 (t := 3) (by kernel_rfl))) (rzf_cons (sz := 1) (by kernel_rfl) (Rz.of (rd_bool (t := 4) (by kernel_rfl))) rzf_nil (fun _ => rfl)) (fun _ => rfl)) (fun _ => rfl)) (sz := 3) (by kernel_rfl) (fun _ => rfl) (fun _ => rfl) (fun _ h => by exact h) (fun _ => Nat.le_refl _)
def ok_Part (x : G.Part) : Prop := (fun s : List UInt8 => s.length ≤ 140737488351232) x.From ∧ (fun s : List UInt8 => s.length ≤ 140737488351232) x.To ∧ (fun n : Int => -9223372036854775808 ≤ n ∧ n ≤ 9223372036854775807) x.ID ∧ True
def sz_Part (x : G.Part) : Nat := ((fun s : List UInt8 => s.length + 1) x.From + ((fun s : List UInt8 => s.length + 1) x.To + ((fun _ : Int => 1) x.ID + (0)))) + 1
theorem rd_Part : Rz K Try.prog 34 (fun x : G.Part => .agg [.str x.From, .str x.To, .int .i64 x.ID]) ok_Part sz_Part :=
  rz_struct (β := (List UInt8) × (List UInt8) × Int × Unit) (t := 34) (fl := [(9, 0), (9, 1), (3, 2)]) (fun b => (⟨b.1, b.2.1, b.2.2.1⟩ : G.Part)) _ _ _ (by kernel_rfl) (rzf_cons (sz := 1) (by kernel_rfl) (rz_str (t := 9) (by kernel_rfl)) (rzf_cons (sz := 1) (by kernel_rfl) (rz_str (t := 9) (by kernel_rfl)) (rzf_cons (sz := 1) (by kernel_rfl) (Rz.of (rd_i64 (t := 3) (by kernel_rfl))) rzf_nil (fun _ => rfl)) (fun _ => rfl)) (fun _ => rfl)) (sz := 3) (by kernel_rfl) (fun _ => rfl) (fun _ => rfl) (fun _ h => by exact h) (fun _ => Nat.le_refl _)
def ok_Slot (x : G.Slot) : Prop := ok_Part x.Part ∧ (fun n : Int => -9223372036854775808 ≤ n ∧ n ≤ 9223372036854775807) x.State ∧ (fun n : Int => -9223372036854775808 ≤ n ∧ n ≤ 9223372036854775807) x.Host ∧ (fun n : Int => -9223372036854775808 ≤ n ∧ n ≤ 9223372036854775807) x.Turn ∧ True
def sz_Slot (x : G.Slot) : Nat := (sz_Part x.Part + ((fun _ : Int => 1) x.State + ((fun _ : Int => 1) x.Host + ((fun _ : Int => 1) x.Turn + (0))))) + 1
theorem rd_Slot : Rz K Try.prog 64 (fun x : G.Slot => .agg [.str x.Part.From, .str x.Part.To, .int .i64 x.Part.ID, .int .i64 x.State, .int .i64 x.Host, .int .i64 x.Turn]) ok_Slot sz_Slot :=
  rz_struct (β := G.Part × Int × Int × Int × Unit) (t := 64) (fl := [(34, 0), (3, 3), (3, 4), (3, 5)]) (fun b => (⟨b.1, b.2.1, b.2.2.1, b.2.2.2.1⟩ : G.Slot)) _ _ _ (by kernel_rfl) (rzf_cons (sz := 3) (by kernel_rfl) (rd_Part) (rzf_cons (sz := 1) (by kernel_rfl) (Rz.of (rd_i64 (t := 3) (by kernel_rfl))) (rzf_cons (sz := 1) (by kernel_rfl) (Rz.of (rd_i64 (t := 3) (by kernel_rfl))) (rzf_cons (sz := 1) (by kernel_rfl) (Rz.of (rd_i64 (t := 3) (by kernel_rfl))) rzf_nil (fun _ => rfl)) (fun _ => rfl)) (fun _ => rfl)) (fun _ => rfl)) (sz := 6) (by kernel_rfl) (fun _ => rfl) (fun _ => rfl) (fun _ h => by exact h) (fun _ => Nat.le_refl _)
def ok_Board (x : G.Board) : Prop := (fun l : List G.Host => (∀ x ∈ l, ok_Host x) ∧ l.length * 24 ≤ 140737488351232) x.Hosts ∧ (fun l : List G.Slot => (∀ x ∈ l, ok_Slot x) ∧ l.length * 64 ≤ 140737488351232) x.Slots ∧ (fun n : Int => -9223372036854775808 ≤ n ∧ n ≤ 9223372036854775807) x.Turn ∧ (fun n : Int => -9223372036854775808 ≤ n ∧ n ≤ 9223372036854775807) x.Next ∧ True
def sz_Board (x : G.Board) : Nat := ((fun l : List G.Host => (l.map sz_Host).sum + 1) x.Hosts + ((fun l : List G.Slot => (l.map sz_Slot).sum + 1) x.Slots + ((fun _ : Int => 1) x.Turn + ((fun _ : Int => 1) x.Next + (0))))) + 1
theorem rd_Board : Rz K Try.prog 62 (fun x : G.Board => .agg [.sl 3 (x.Hosts.map e_Host), .sl 6 (x.Slots.map e_Slot), .int .i64 x.Turn, .int .i64 x.Next]) ok_Board sz_Board :=
  rz_struct (β := (List G.Host) × (List G.Slot) × Int × Int × Unit) (t := 62) (fl := [(59, 0), (60, 1), (3, 2), (3, 3)]) (fun b => (⟨b.1, b.2.1, b.2.2.1, b.2.2.2.1⟩ : G.Board)) _ _ _ (by kernel_rfl) (rzf_cons (sz := 1) (by kernel_rfl) (rz_slice (t := 59) (e := 108) (sz := 3) (by' := 24) (by kernel_rfl) (by kernel_rfl) (by decide) (by kernel_rfl) (rd_Host) (fun _ => rfl)) (rzf_cons (sz := 1) (by kernel_rfl) (rz_slice (t := 60) (e := 64) (sz := 6) (by' := 64) (by kernel_rfl) (by kernel_rfl) (by decide) (by kernel_rfl) (rd_Slot) (fun _ => rfl)) (rzf_cons (sz := 1) (by kernel_rfl) (Rz.of (rd_i64 (t := 3) (by kernel_rfl))) (rzf_cons (sz := 1) (by kernel_rfl) (Rz.of (rd_i64 (t := 3) (by kernel_rfl))) rzf_nil (fun _ => rfl)) (fun _ => rfl)) (fun _ => rfl)) (fun _ => rfl)) (sz := 4) (by kernel_rfl) (fun _ => rfl) (fun _ => rfl) (fun _ h => by exact h) (fun _ => Nat.le_refl _)
def ok_Order (x : G.Order) : Prop := (fun n : Int => -9223372036854775808 ≤ n ∧ n ≤ 9223372036854775807) x.Kind ∧ (fun n : Int => -9223372036854775808 ≤ n ∧ n ≤ 9223372036854775807) x.ID ∧ (fun n : Int => -9223372036854775808 ≤ n ∧ n ≤ 9223372036854775807) x.Host ∧ (fun n : Int => -9223372036854775808 ≤ n ∧ n ≤ 9223372036854775807) x.Turn ∧ (fun s : List UInt8 => s.length ≤ 140737488351232) x.Row ∧ True
def sz_Order (x : G.Order) : Nat := ((fun _ : Int => 1) x.Kind + ((fun _ : Int => 1) x.ID + ((fun _ : Int => 1) x.Host + ((fun _ : Int => 1) x.Turn + ((fun s : List UInt8 => s.length + 1) x.Row + (0)))))) + 1
theorem rd_Order : Rz K Try.prog 91 (fun x : G.Order => .agg [.int .i64 x.Kind, .int .i64 x.ID, .int .i64 x.Host, .int .i64 x.Turn, .str x.Row]) ok_Order sz_Order :=
  rz_struct (β := Int × Int × Int × Int × (List UInt8) × Unit) (t := 91) (fl := [(3, 0), (3, 1), (3, 2), (3, 3), (9, 4)]) (fun b => (⟨b.1, b.2.1, b.2.2.1, b.2.2.2.1, b.2.2.2.2.1⟩ : G.Order)) _ _ _ (by kernel_rfl) (rzf_cons (sz := 1) (by kernel_rfl) (Rz.of (rd_i64 (t := 3) (by kernel_rfl))) (rzf_cons (sz := 1) (by kernel_rfl) (Rz.of (rd_i64 (t := 3) (by kernel_rfl))) (rzf_cons (sz := 1) (by kernel_rfl) (Rz.of (rd_i64 (t := 3) (by kernel_rfl))) (rzf_cons (sz := 1) (by kernel_rfl) (Rz.of (rd_i64 (t := 3) (by kernel_rfl))) (rzf_cons (sz := 1) (by kernel_rfl) (rz_str (t := 9) (by kernel_rfl)) rzf_nil (fun _ => rfl)) (fun _ => rfl)) (fun _ => rfl)) (fun _ => rfl)) (fun _ => rfl)) (sz := 5) (by kernel_rfl) (fun _ => rfl) (fun _ => rfl) (fun _ h => by exact h) (fun _ => Nat.le_refl _)
theorem own : ownKnob Try.prog.godebug = none := by kernel_rfl
theorem lifted (os : Os) (started : os.Started) (H : Type) (enc : TypeId × Value → H) :
    ReturnsInHanded {} Try.checked os 13 .any (Rows.balanceMovesSpec.pre6 enc Try.prog Try.f13 Rows.balanceMovesRow.domain false) (Rows.balanceMovesSpec.post enc Try.prog Try.f13 false true false false) :=
  law_liftS (K := K) (C := Try.checked) own started (by kernel_rfl) Try.func13
    (ChangeSpec.witness6 (enc := enc) (C := Try.checked) false ⟨#[], #[.agg #[.slice none 0 0, .slice none 0 0, .int .i64 0, .int .i64 0], .agg #[.int .i64 0, .int .i64 0, .int .i64 0, .int .i64 0, .string ⟨#[]⟩]], []⟩ 8 (by kernel_rfl) (by kernel_rfl) (by kernel_rfl) (by kernel_rfl))
    (by kernel_rfl) (by kernel_rfl) (tb := 4) (by kernel_rfl) (by kernel_rfl) rfl Try.params13
    (fun ds h => by
      match ds, h with
      | [_, _], _ => rfl)
    (argsZ_cons (t := 62) (Rz.argS (rd_Board) (by kernel_rfl) (fun _ => ⟨_, rfl⟩)) (argsZ_cons (t := 91) (Rz.argS (rd_Order) (by kernel_rfl) (fun _ => ⟨_, rfl⟩)) argsZ_nil))
    ((fun x hx => law_BalanceMoves_ok x.1 x.2.1 true (BalanceMoves_eq x.1 x.2.1)))
theorem BalanceMoves_holds : Rows.BalanceMovesSaid :=
  OpenClaim.holds_of_wide 13 Try.f13 rfl rfl rfl rfl rfl rfl rfl ⟨rfl, rfl, rfl, rfl, rfl⟩ rfl rfl rfl rfl rfl (by kernel_rfl) Try.func13 (by kernel_rfl)
    (of_decide_eq_true (by kernel_rfl)) (by unfold Func.isWrapper; first | (rw [if_pos (by decide +kernel)]; kernel_rfl) | (rw [if_neg (by decide +kernel)]; exact ⟨rfl, rfl⟩))
    (fun os started H enc _ => lifted os started H enc)
end FBalanceMoves
end Go.Proofs.Ytdjlninhfndjfaa
