/- The program's types as plain structures, and how they stand in its memory. Written by a program (dec2.py). -/
import Derived.Test.YthiighaapaomcaaFn
import Derived.Test.YthiighaapaomcaaEmQ
namespace Go.Proofs.Ythiighaapaomcaa
open Go Go.Dm
set_option linter.unusedVariables false
set_option linter.unusedSimpArgs false
set_option maxRecDepth 100000
/-- a run of some operations of a region -/
def runE (τ : Dm.TyTab) (P : Program) (N : Nat) (all ops : List Oper) (an : List An) (s : S) : Option (List Prop × List (Bool × Bool) × S) :=
  match Dm.dstB N ops with
  | true => match Dm.runK τ P all ops s an with
    | some (gs, es, s1, _) => some (gs, es, s1)
    | none => none
  | false => none
section
variable {Q : Exit → Act → World → Prop} {g : Gh} {N : Nat} {k : List It} {s : S} {all ops : List Oper}
theorem ER {an : List An} {gs : List Prop} (j : J an gs) (hk : Wk ⟨Try.prog, Q, g, N⟩ (flt 99 k) (nxt (runE Ty.τ Try.prog N all ops an s))) (h : outG (runE Ty.τ Try.prog N all ops an s) = some (gs, Dm.outR (runE Ty.τ Try.prog N all ops an s)) := by kernel_rfl) :
    ∀ a w, H g N s a w → wpList Try.prog all.toArray (mean ⟨Try.prog, Q, g, N⟩ k) ops a w := by
  cases hr : runE Ty.τ Try.prog N all ops an s with
  | none => rw [hr] at h; cases h
  | some p =>
    obtain ⟨gs', es, t'⟩ := p
    rw [hr] at h hk
    simp only [outG, Dm.outR, Option.some.injEq, Prod.mk.injEq] at h
    obtain ⟨rfl, he⟩ := h
    unfold runE at hr
    split at hr
    · rename_i hd
      split at hr
      · rename_i gs1 es1 s1 ks hrk
        cases hr
        exact fun a w hx => runK_text (C := ⟨Try.prog, Q, g, N⟩) Ty.ok hd hrk (HL.all j) (AllE_of he) (flt_ok 99 _ hk) a w hx
      · cases hr
    · cases hr
theorem ER0 (hk : Wk ⟨Try.prog, Q, g, N⟩ (flt 99 k) (nxt (runE Ty.τ Try.prog N all ops [] s))) (h : outG (runE Ty.τ Try.prog N all ops [] s) = some ([], Dm.outR (runE Ty.τ Try.prog N all ops [] s)) := by kernel_rfl) :
    ∀ a w, H g N s a w → wpList Try.prog all.toArray (mean ⟨Try.prog, Q, g, N⟩ k) ops a w := ER J.z hk h
theorem Nmend {t : S} (hend : ∀ a w, H g N t a w → Q .normal a w) (h : trimS (ks t.fr) (ks t.bx) (ks t.rw) (ks t.mp) (ks t.ar) [] s = some t := by kernel_rfl) : Wk ⟨Try.prog, Q, g, N⟩ [] s := Wk_trim h fun a w hx => hend a w hx
/-- the state without a map -/
def mrD (fs bs rs ms aa : List Nat) (s : S) : S := (mrS fs bs rs ms aa s).getD S.none
theorem mrD_eq {fs bs rs ms aa : List Nat} (h : (mrS fs bs rs ms aa s).isSome = true) : mrS fs bs rs ms aa s = some (mrD fs bs rs ms aa s) := by
  unfold mrD
  cases hh : mrS fs bs rs ms aa s with
  | none => rw [hh] at h; cases h
  | some t => rfl
def mrIn (s : S) (pr : Nat) (p : AV × AV) : S := { s with fr := (pr, .tup [p.1, p.2]) :: s.fr }
theorem MRA {i0 out nb i1 i2 : Nat} {o_mv o_rg o_nx o_ex o_en : Oper} {os2 : List Oper} {body : Code} {k0 : List It} (x t0 it nx mr pr i : Nat) (mt kt et : TypeId) (es : List (AV × AV)) (fs bs rs ms aa : List Nat)
    (hk0 : flt 99 k0 = .code (.block out (.loop (.seq (.region i1 [o_nx, o_ex].toArray false) (.seq (.cond (.tmp mr) .skip (.exit out)) (.block nb (.seq (.region i2 (o_en :: os2).toArray false) body)))))) :: k)
    (hk : Wk ⟨Try.prog, Q, g, N⟩ (flt 99 k) ((mrD fs bs rs ms aa s).uni x i es))
    (hbody : ∀ (r r0 : Nat) (Q2 : Exit → Act → World → Prop) (g2 : Gh), (∀ a w, H g2 N ((mrD fs bs rs ms aa s).itr it r x r0) a w → Q2 .normal a w) → ∀ p ∈ es, ∀ a w, H g2 N (mrIn ((mrD fs bs rs ms aa s).itr it r x r0) pr p) a w → wpList Try.prog (o_en :: os2).toArray (mean ⟨Try.prog, Q2, g2, N⟩ [.code body]) os2 a w)
    (hx : aget s.fr x = some (.mp i) := by kernel_rfl) (hes : aget s.mp i = some es := by kernel_rfl) (hsub : (mrS fs bs rs ms aa s).isSome = true := by kernel_rfl) (hki : hasKey (mrD fs bs rs ms aa s).mp i = false := by kernel_rfl) (hno : noK (mrD fs bs rs ms aa s) [t0, it, nx, mr] = true := by kernel_rfl)
    (hdis : Nat.beq nx it = false ∧ Nat.beq mr it = false ∧ Nat.beq nx x = false ∧ Nat.beq mr x = false ∧ Nat.beq x it = false ∧ Nat.beq t0 x = false := by exact ⟨rfl, rfl, rfl, rfl, rfl, rfl⟩)
    (hmt : Try.prog.underlying mt = some (.map kt et) := by kernel_rfl) (m1 : o_mv.op = .move (.tmp x) := by rfl) (m2 : o_mv.dst = some t0 := by rfl) (m3 : o_mv.guard = none := by rfl) (g1 : o_rg.op = .range mt (.tmp t0) := by rfl) (g2 : o_rg.dst = some it := by rfl) (g3 : o_rg.guard = none := by rfl)
    (n1 : o_nx.op = .next (.tmp it) false := by rfl) (n2 : o_nx.dst = some nx := by rfl) (n3 : o_nx.guard = none := by rfl) (e1 : o_ex.op = .extract (.tmp nx) 0 := by rfl) (e2 : o_ex.dst = some mr := by rfl) (e3 : o_ex.guard = none := by rfl) (t1 : o_en.op = .entry (.tmp it) := by rfl) (t2 : o_en.dst = some pr := by rfl) (t3 : o_en.guard = none := by rfl)
    (hN : Nat.blt t0 N = true ∧ Nat.blt it N = true ∧ Nat.blt nx N = true ∧ Nat.blt mr N = true ∧ Nat.blt pr N = true := by exact ⟨rfl, rfl, rfl, rfl, rfl⟩) :
    Wk ⟨Try.prog, Q, g, N⟩ (.code (.region i0 [o_mv, o_rg].toArray false) :: k0) s := by
  have hb : ∀ {a b : Nat}, Nat.blt a b = true → a < b := fun h => Nat.le_of_ble_eq_true h
  have h1 := Wk_mrange (C := ⟨Try.prog, Q, g, N⟩) (i0 := i0) (out := out) (nb := nb) (i1 := i1) (i2 := i2) (body := body) fs bs rs ms aa hx hes (mrD_eq hsub) hki hno hdis hmt m1 m2 m3 g1 g2 g3 n1 n2 n3 e1 e2 e3 t1 t2 t3 ⟨hb hN.1, hb hN.2.1, hb hN.2.2.1, hb hN.2.2.2.1, hb hN.2.2.2.2⟩ (flt_ok 99 _ hk) hk0 hbody
  exact h1
end
namespace G
def e_i64 (n : Int) : AV := .int .i64 n
def e_u8 (b : UInt8) : AV := .int .u8 (b.toNat : Int)
def e_u32 (n : Int) : AV := .int .u32 n
def e_u64 (n : Int) : AV := .int .u64 n
def e_bool (b : Bool) : AV := .bool b
def e_str (l : List UInt8) : AV := .str l
def e_L_str (l : List (List UInt8)) : AV := .sl 1 (l.map e_str)
structure Deed where
  Kind : Int
  Who : Int
  N : Int
  deriving Inhabited, DecidableEq
def e_Deed (x : Deed) : AV := .agg [.int .i64 x.Kind, .int .i64 x.Who, .int .i64 x.N]
abbrev c_Deed (x : Deed) : List AV := [.int .i64 x.Kind, .int .i64 x.Who, .int .i64 x.N]
def e_L_Deed (l : List Deed) : AV := .sl 3 (l.map e_Deed)
structure Entry where
  Term : Int
  Text : List UInt8
  deriving Inhabited, DecidableEq
def e_Entry (x : Entry) : AV := .agg [.int .i64 x.Term, .str x.Text]
abbrev c_Entry (x : Entry) : List AV := [.int .i64 x.Term, .str x.Text]
def e_L_Entry (l : List Entry) : AV := .sl 2 (l.map e_Entry)
def e_L_i64 (l : List Int) : AV := .sl 1 (l.map e_i64)
structure Node where
  N : Int
  ID : Int
  Term : Int
  Vote : Int
  Log : List Entry
  Role : Int
  Commit : Int
  Votes : List Int
  Next : List Int
  Have : List Int
  deriving Inhabited, DecidableEq
def e_Node (x : Node) : AV := .agg [.int .i64 x.N, .int .i64 x.ID, .int .i64 x.Term, .int .i64 x.Vote, .sl 2 (x.Log.map e_Entry), .int .i64 x.Role, .int .i64 x.Commit, .sl 1 (x.Votes.map e_i64), .sl 1 (x.Next.map e_i64), .sl 1 (x.Have.map e_i64)]
abbrev c_Node (x : Node) : List AV := [.int .i64 x.N, .int .i64 x.ID, .int .i64 x.Term, .int .i64 x.Vote, .sl 2 (x.Log.map e_Entry), .int .i64 x.Role, .int .i64 x.Commit, .sl 1 (x.Votes.map e_i64), .sl 1 (x.Next.map e_i64), .sl 1 (x.Have.map e_i64)]
def e_L_Node (l : List Node) : AV := .sl 10 (l.map e_Node)
structure Mail where
  Kind : Int
  From : Int
  To : Int
  Term : Int
  A : Int
  B : Int
  C0 : Int
  Entries : List Entry
  Ok : Bool
  deriving Inhabited, DecidableEq
def e_Mail (x : Mail) : AV := .agg [.int .i64 x.Kind, .int .i64 x.From, .int .i64 x.To, .int .i64 x.Term, .int .i64 x.A, .int .i64 x.B, .int .i64 x.C0, .sl 2 (x.Entries.map e_Entry), .bool x.Ok]
abbrev c_Mail (x : Mail) : List AV := [.int .i64 x.Kind, .int .i64 x.From, .int .i64 x.To, .int .i64 x.Term, .int .i64 x.A, .int .i64 x.B, .int .i64 x.C0, .sl 2 (x.Entries.map e_Entry), .bool x.Ok]
def e_L_Mail (l : List Mail) : AV := .sl 9 (l.map e_Mail)
structure Clan where
  Nodes : List Node
  Way : List Mail
  deriving Inhabited, DecidableEq
def e_Clan (x : Clan) : AV := .agg [.sl 10 (x.Nodes.map e_Node), .sl 9 (x.Way.map e_Mail)]
abbrev c_Clan (x : Clan) : List AV := [.sl 10 (x.Nodes.map e_Node), .sl 9 (x.Way.map e_Mail)]
structure Fault where
  Code : Int
  At : Int
  deriving Inhabited, DecidableEq
def e_Fault (x : Fault) : AV := .agg [.int .i64 x.Code, .int .i64 x.At]
abbrev c_Fault (x : Fault) : List AV := [.int .i64 x.Code, .int .i64 x.At]
structure Game where
  C0 : Clan
  K : Int
  deriving Inhabited, DecidableEq
def e_Game (x : Game) : AV := .agg [.sl 10 (x.C0.Nodes.map e_Node), .sl 9 (x.C0.Way.map e_Mail), .int .i64 x.K]
abbrev c_Game (x : Game) : List AV := [.sl 10 (x.C0.Nodes.map e_Node), .sl 9 (x.C0.Way.map e_Mail), .int .i64 x.K]
def e_L_Game (l : List Game) : AV := .sl 3 (l.map e_Game)
structure goodAt where
  place : Int
  term : Int
  e : Entry
  deriving Inhabited, DecidableEq
def e_goodAt (x : goodAt) : AV := .agg [.int .i64 x.place, .int .i64 x.term, .int .i64 x.e.Term, .str x.e.Text]
abbrev c_goodAt (x : goodAt) : List AV := [.int .i64 x.place, .int .i64 x.term, .int .i64 x.e.Term, .str x.e.Text]
structure game where
  Clan : Clan
  texts : List (List UInt8)
  deriving Inhabited, DecidableEq
def e_game (x : game) : AV := .agg [.sl 10 (x.Clan.Nodes.map e_Node), .sl 9 (x.Clan.Way.map e_Mail), .sl 1 (x.texts.map e_str)]
abbrev c_game (x : game) : List AV := [.sl 10 (x.Clan.Nodes.map e_Node), .sl 9 (x.Clan.Way.map e_Mail), .sl 1 (x.texts.map e_str)]
def o_L_i64 (x : List Int) : AV := .own 3 1 (x.map e_i64).length (x.map e_i64)
end G
end Go.Proofs.Ythiighaapaomcaa
