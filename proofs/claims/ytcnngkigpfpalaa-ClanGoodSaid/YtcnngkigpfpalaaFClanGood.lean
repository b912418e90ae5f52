/- 'ClanGood' holds: of every input the law returns true, and the input reads behind the call as it did. No condition. -/
import Derived.Test.YtcnngkigpfpalaaPClanGoodM
import Derived.Test.YtcnngkigpfpalaaEm37
namespace Go.Proofs.Ytcnngkigpfpalaa
open Go Go.Dm
set_option linter.unusedVariables false
set_option maxRecDepth 100000
namespace FClanGood
open G
theorem one_le {H : Type} (d : DataW H) : 1 ≤ Rows.uptoBulk d := by
  cases d with
  | lit l => cases l <;> simp [Rows.uptoBulk]
  | nil => simp [Rows.uptoBulk]
  | ptr d => simp [Rows.uptoBulk]
  | slice elems spare => simp [Rows.uptoBulk]
  | agg parts => simp [Rows.uptoBulk]
  | iface t d => simp [Rows.uptoBulk]
  | map entries => simp [Rows.uptoBulk]
  | held h => simp [Rows.uptoBulk]
noncomputable def K : Bk where
  b := fun H d => Rows.uptoBulk d
  all := fun H l => Rows.uptoBulkAll l
  str := fun H s => by simp [Rows.uptoBulk]
  one := fun H d => one_le d
  slice := fun H e s => by simp only [Rows.uptoBulk]; omega
  agg := fun H e => by simp only [Rows.uptoBulk]; omega
  cons := fun H d r => by simp only [Rows.uptoBulkAll]; omega
def ok_Entry (x : G.Entry) : Prop := (fun n : Int => -9223372036854775808 ≤ n ∧ n ≤ 9223372036854775807) x.Term ∧ (fun s : List UInt8 => s.length ≤ 140737488351232) x.Text ∧ True
def sz_Entry (x : G.Entry) : Nat := ((fun _ : Int => 1) x.Term + ((fun s : List UInt8 => s.length + 1) x.Text + (0))) + 1
theorem rd_Entry : Rz K Try.prog 31 (fun x : G.Entry => .agg [.int .i64 x.Term, .str x.Text]) ok_Entry sz_Entry :=
  rz_struct (β := Int × (List UInt8) × Unit) (t := 31) (fl := [(3, 0), (9, 1)]) (fun b => (⟨b.1, b.2.1⟩ : G.Entry)) _ _ _ (by kernel_rfl) (rzf_cons (sz := 1) (by kernel_rfl) (Rz.of (rd_i64 (t := 3) (by kernel_rfl))) (rzf_cons (sz := 1) (by kernel_rfl) (rz_str (t := 9) (by kernel_rfl)) rzf_nil (fun _ => rfl)) (fun _ => rfl)) (sz := 2) (by kernel_rfl) (fun _ => rfl) (fun _ => rfl) (fun _ h => by exact h) (fun _ => Nat.le_refl _)
def ok_Node (x : G.Node) : Prop := (fun n : Int => -9223372036854775808 ≤ n ∧ n ≤ 9223372036854775807) x.N ∧ (fun n : Int => -9223372036854775808 ≤ n ∧ n ≤ 9223372036854775807) x.ID ∧ (fun n : Int => -9223372036854775808 ≤ n ∧ n ≤ 9223372036854775807) x.Term ∧ (fun n : Int => -9223372036854775808 ≤ n ∧ n ≤ 9223372036854775807) x.Vote ∧ (fun l : List G.Entry => (∀ x ∈ l, ok_Entry x) ∧ l.length * 24 ≤ 140737488351232) x.Log ∧ (fun n : Int => -9223372036854775808 ≤ n ∧ n ≤ 9223372036854775807) x.Role ∧ (fun n : Int => -9223372036854775808 ≤ n ∧ n ≤ 9223372036854775807) x.Commit ∧ (fun l : List Int => (∀ x ∈ l, (fun n : Int => -9223372036854775808 ≤ n ∧ n ≤ 9223372036854775807) x) ∧ l.length * 8 ≤ 140737488351232) x.Votes ∧ (fun l : List Int => (∀ x ∈ l, (fun n : Int => -9223372036854775808 ≤ n ∧ n ≤ 9223372036854775807) x) ∧ l.length * 8 ≤ 140737488351232) x.Next ∧ (fun l : List Int => (∀ x ∈ l, (fun n : Int => -9223372036854775808 ≤ n ∧ n ≤ 9223372036854775807) x) ∧ l.length * 8 ≤ 140737488351232) x.Have ∧ True
def sz_Node (x : G.Node) : Nat := ((fun _ : Int => 1) x.N + ((fun _ : Int => 1) x.ID + ((fun _ : Int => 1) x.Term + ((fun _ : Int => 1) x.Vote + ((fun l : List G.Entry => (l.map sz_Entry).sum + 1) x.Log + ((fun _ : Int => 1) x.Role + ((fun _ : Int => 1) x.Commit + ((fun l : List Int => (l.map (fun _ : Int => 1)).sum + 1) x.Votes + ((fun l : List Int => (l.map (fun _ : Int => 1)).sum + 1) x.Next + ((fun l : List Int => (l.map (fun _ : Int => 1)).sum + 1) x.Have + (0))))))))))) + 1
theorem rd_Node : Rz K Try.prog 46 (fun x : G.Node => .agg [.int .i64 x.N, .int .i64 x.ID, .int .i64 x.Term, .int .i64 x.Vote, .sl 2 (x.Log.map e_Entry), .int .i64 x.Role, .int .i64 x.Commit, .sl 1 (x.Votes.map e_i64), .sl 1 (x.Next.map e_i64), .sl 1 (x.Have.map e_i64)]) ok_Node sz_Node :=
  rz_struct (β := Int × Int × Int × Int × (List G.Entry) × Int × Int × (List Int) × (List Int) × (List Int) × Unit) (t := 46) (fl := [(3, 0), (3, 1), (3, 2), (3, 3), (22, 4), (3, 5), (3, 6), (44, 7), (44, 8), (44, 9)]) (fun b => (⟨b.1, b.2.1, b.2.2.1, b.2.2.2.1, b.2.2.2.2.1, b.2.2.2.2.2.1, b.2.2.2.2.2.2.1, b.2.2.2.2.2.2.2.1, b.2.2.2.2.2.2.2.2.1, b.2.2.2.2.2.2.2.2.2.1⟩ : G.Node)) _ _ _ (by kernel_rfl) (rzf_cons (sz := 1) (by kernel_rfl) (Rz.of (rd_i64 (t := 3) (by kernel_rfl))) (rzf_cons (sz := 1) (by kernel_rfl) (Rz.of (rd_i64 (t := 3) (by kernel_rfl))) (rzf_cons (sz := 1) (by kernel_rfl) (Rz.of (rd_i64 (t := 3) (by kernel_rfl))) (rzf_cons (sz := 1) (by kernel_rfl) (Rz.of (rd_i64 (t := 3) (by kernel_rfl))) (rzf_cons (sz := 1) (by kernel_rfl) (rz_slice (t := 22) (e := 31) (sz := 2) (by' := 24) (by kernel_rfl) (by kernel_rfl) (by decide) (by kernel_rfl) (rd_Entry) (fun _ => rfl)) (rzf_cons (sz := 1) (by kernel_rfl) (Rz.of (rd_i64 (t := 3) (by kernel_rfl))) (rzf_cons (sz := 1) (by kernel_rfl) (Rz.of (rd_i64 (t := 3) (by kernel_rfl))) (rzf_cons (sz := 1) (by kernel_rfl) (rz_slice (t := 44) (e := 3) (sz := 1) (by' := 8) (by kernel_rfl) (by kernel_rfl) (by decide) (by kernel_rfl) (Rz.of (rd_i64 (t := 3) (by kernel_rfl))) (fun _ => rfl)) (rzf_cons (sz := 1) (by kernel_rfl) (rz_slice (t := 44) (e := 3) (sz := 1) (by' := 8) (by kernel_rfl) (by kernel_rfl) (by decide) (by kernel_rfl) (Rz.of (rd_i64 (t := 3) (by kernel_rfl))) (fun _ => rfl)) (rzf_cons (sz := 1) (by kernel_rfl) (rz_slice (t := 44) (e := 3) (sz := 1) (by' := 8) (by kernel_rfl) (by kernel_rfl) (by decide) (by kernel_rfl) (Rz.of (rd_i64 (t := 3) (by kernel_rfl))) (fun _ => rfl)) rzf_nil (fun _ => rfl)) (fun _ => rfl)) (fun _ => rfl)) (fun _ => rfl)) (fun _ => rfl)) (fun _ => rfl)) (fun _ => rfl)) (fun _ => rfl)) (fun _ => rfl)) (fun _ => rfl)) (sz := 10) (by kernel_rfl) (fun _ => rfl) (fun _ => rfl) (fun _ h => by exact h) (fun _ => Nat.le_refl _)
def ok_Mail (x : G.Mail) : Prop := (fun n : Int => -9223372036854775808 ≤ n ∧ n ≤ 9223372036854775807) x.Kind ∧ (fun n : Int => -9223372036854775808 ≤ n ∧ n ≤ 9223372036854775807) x.From ∧ (fun n : Int => -9223372036854775808 ≤ n ∧ n ≤ 9223372036854775807) x.To ∧ (fun n : Int => -9223372036854775808 ≤ n ∧ n ≤ 9223372036854775807) x.Term ∧ (fun n : Int => -9223372036854775808 ≤ n ∧ n ≤ 9223372036854775807) x.A ∧ (fun n : Int => -9223372036854775808 ≤ n ∧ n ≤ 9223372036854775807) x.B ∧ (fun n : Int => -9223372036854775808 ≤ n ∧ n ≤ 9223372036854775807) x.C0 ∧ (fun l : List G.Entry => (∀ x ∈ l, ok_Entry x) ∧ l.length * 24 ≤ 140737488351232) x.Entries ∧ (fun _ : Bool => True) x.Ok ∧ True
def sz_Mail (x : G.Mail) : Nat := ((fun _ : Int => 1) x.Kind + ((fun _ : Int => 1) x.From + ((fun _ : Int => 1) x.To + ((fun _ : Int => 1) x.Term + ((fun _ : Int => 1) x.A + ((fun _ : Int => 1) x.B + ((fun _ : Int => 1) x.C0 + ((fun l : List G.Entry => (l.map sz_Entry).sum + 1) x.Entries + ((fun _ : Bool => 1) x.Ok + (0)))))))))) + 1
theorem rd_Mail : Rz K Try.prog 62 (fun x : G.Mail => .agg [.int .i64 x.Kind, .int .i64 x.From, .int .i64 x.To, .int .i64 x.Term, .int .i64 x.A, .int .i64 x.B, .int .i64 x.C0, .sl 2 (x.Entries.map e_Entry), .bool x.Ok]) ok_Mail sz_Mail :=
  rz_struct (β := Int × Int × Int × Int × Int × Int × Int × (List G.Entry) × Bool × Unit) (t := 62) (fl := [(3, 0), (3, 1), (3, 2), (3, 3), (3, 4), (3, 5), (3, 6), (22, 7), (4, 8)]) (fun b => (⟨b.1, b.2.1, b.2.2.1, b.2.2.2.1, b.2.2.2.2.1, b.2.2.2.2.2.1, b.2.2.2.2.2.2.1, b.2.2.2.2.2.2.2.1, b.2.2.2.2.2.2.2.2.1⟩ : G.Mail)) _ _ _ (by kernel_rfl) (rzf_cons (sz := 1) (by kernel_rfl) (Rz.of (rd_i64 (t := 3) (by kernel_rfl))) (rzf_cons (sz := 1) (by kernel_rfl) (Rz.of (rd_i64 (t := 3) (by kernel_rfl))) (rzf_cons (sz := 1) (by kernel_rfl) (Rz.of (rd_i64 (t := 3) (by kernel_rfl))) (rzf_cons (sz := 1) (by kernel_rfl) (Rz.of (rd_i64 (t := 3) (by kernel_rfl))) (rzf_cons (sz := 1) (by kernel_rfl) (Rz.of (rd_i64 (t := 3) (by kernel_rfl))) (rzf_cons (sz := 1) (by kernel_rfl) (Rz.of (rd_i64 (t := 3) (by kernel_rfl))) (rzf_cons (sz := 1) (by kernel_rfl) (Rz.of (rd_i64 (t := 3) (by kernel_rfl))) (rzf_cons (sz := 1) (by kernel_rfl) (rz_slice (t := 22) (e := 31) (sz := 2) (by' := 24) (by kernel_rfl) (by kernel_rfl) (by decide) (by kernel_rfl) (rd_Entry) (fun _ => rfl)) (rzf_cons (sz := 1) (by kernel_rfl) (Rz.of (rd_bool (t := 4) (by kernel_rfl))) rzf_nil (fun _ => rfl)) (fun _ => rfl)) (fun _ => rfl)) (fun _ => rfl)) (fun _ => rfl)) (fun _ => rfl)) (fun _ => rfl)) (fun _ => rfl)) (fun _ => rfl)) (sz := 9) (by kernel_rfl) (fun _ => rfl) (fun _ => rfl) (fun _ h => by exact h) (fun _ => Nat.le_refl _)
def ok_Clan (x : G.Clan) : Prop := (fun l : List G.Node => (∀ x ∈ l, ok_Node x) ∧ l.length * 144 ≤ 140737488351232) x.Nodes ∧ (fun l : List G.Mail => (∀ x ∈ l, ok_Mail x) ∧ l.length * 88 ≤ 140737488351232) x.Way ∧ True
def sz_Clan (x : G.Clan) : Nat := ((fun l : List G.Node => (l.map sz_Node).sum + 1) x.Nodes + ((fun l : List G.Mail => (l.map sz_Mail).sum + 1) x.Way + (0))) + 1
theorem rd_Clan : Rz K Try.prog 71 (fun x : G.Clan => .agg [.sl 10 (x.Nodes.map e_Node), .sl 9 (x.Way.map e_Mail)]) ok_Clan sz_Clan :=
  rz_struct (β := (List G.Node) × (List G.Mail) × Unit) (t := 71) (fl := [(69, 0), (50, 1)]) (fun b => (⟨b.1, b.2.1⟩ : G.Clan)) _ _ _ (by kernel_rfl) (rzf_cons (sz := 1) (by kernel_rfl) (rz_slice (t := 69) (e := 46) (sz := 10) (by' := 144) (by kernel_rfl) (by kernel_rfl) (by decide) (by kernel_rfl) (rd_Node) (fun _ => rfl)) (rzf_cons (sz := 1) (by kernel_rfl) (rz_slice (t := 50) (e := 62) (sz := 9) (by' := 88) (by kernel_rfl) (by kernel_rfl) (by decide) (by kernel_rfl) (rd_Mail) (fun _ => rfl)) rzf_nil (fun _ => rfl)) (fun _ => rfl)) (sz := 2) (by kernel_rfl) (fun _ => rfl) (fun _ => rfl) (fun _ h => by exact h) (fun _ => Nat.le_refl _)
theorem own : ownKnob Try.prog.godebug = none := by kernel_rfl
theorem lifted (os : Os) (started : os.Started) (H : Type) (enc : TypeId × Value → H) :
    ReturnsInHanded {} Try.checked os 10 .any (Rows.clanGoodSpec.pre6 enc Try.prog Try.f10 Rows.clanGoodRow.domain false) (Rows.clanGoodSpec.post enc Try.prog Try.f10 false true false false) :=
  law_liftS (K := K) (C := Try.checked) own started (by kernel_rfl) Try.func10
    (ChangeSpec.witness6 (enc := enc) (C := Try.checked) false ⟨#[], #[.agg #[.slice none 0 0, .slice none 0 0]], []⟩ 8 (by kernel_rfl) (by kernel_rfl) (by kernel_rfl) (by kernel_rfl))
    (by kernel_rfl) (by kernel_rfl) (tb := 4) (by kernel_rfl) (by kernel_rfl) rfl Try.params10
    (fun ds h => by
      match ds, h with
      | [_], _ => rfl)
    (argsZ_cons (t := 71) (Rz.argS (rd_Clan) (by kernel_rfl) (fun _ => ⟨_, rfl⟩)) argsZ_nil)
    ((fun x hx => law_ClanGood_ok x.1 true (ClanGood_eq x.1 (by have := hx.1.1.2; omega))))
theorem ClanGood_holds : Rows.ClanGoodSaid :=
  OpenClaim.holds_of_wide 10 Try.f10 rfl rfl rfl rfl rfl rfl rfl ⟨rfl, rfl, rfl, rfl, rfl⟩ rfl rfl rfl rfl rfl (by kernel_rfl) Try.func10 (by kernel_rfl)
    (of_decide_eq_true (by kernel_rfl)) (by unfold Func.isWrapper; first | (rw [if_pos (by decide +kernel)]; kernel_rfl) | (rw [if_neg (by decide +kernel)]; exact ⟨rfl, rfl⟩))
    (fun os started H enc _ => lifted os started H enc)
end FClanGood
end Go.Proofs.Ytcnngkigpfpalaa
