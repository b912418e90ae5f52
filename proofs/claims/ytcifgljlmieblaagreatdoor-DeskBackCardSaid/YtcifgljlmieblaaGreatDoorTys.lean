/- The program's types as plain structures, and how they stand in its memory. Written by a program (dec2.py). -/
import Derived.Test.YtcifgljlmieblaaGreatDoorFn
import Derived.Test.YtcifgljlmieblaaGreatDoorLeafW
import Derived.Test.YtcifgljlmieblaaGreatDoorCmP
import Derived.Test.YtcifgljlmieblaaGreatDoorEmS
namespace Go.Proofs.YtcifgljlmieblaaGreatDoor
open Go Go.Dm
set_option linter.unusedVariables false
set_option linter.unusedSimpArgs false
set_option maxRecDepth 100000
/-- a run of some operations of a region -/
def runE (τ : Dm.TyTab) (P : Program) (N : Nat) (all ops : List Oper) (an : List An) (s : S) : Option (List Prop × List (Bool × Bool) × S) :=
  match Dm.dstB N ops with
  | true => match Dm.runK τ P all ops s an with
    | some (gs, es, s1, _) => some (gs, es, s1)
    | none => none
  | false => none
section
variable {Q : Exit → Act → World → Prop} {g : Gh} {N : Nat} {k : List It} {s : S}
/-- a region whose last operation begins a range over a text, and the range -/
theorem SRG {σ ρ : Type} {i0 out nb i1 : Nat} {all : List Oper} {o_rg o_nx o_ex : Oper} {B : Code} {k0 : List It} {gs : List Prop} (n : Nat) (an : List An) (hg : HL gs) {fin : σ → Option ρ} {f : Int → Int → σ → Option (σ ⊕ ρ)} {l : List UInt8} {res : ρ} (xs it nx mr : Nat) (tt : TypeId) (st : σ → S) (x0 : σ) (fs bs rs ms : List Nat) (nv : NV)
    (hF : (asrt (∀ b ∈ l, b.toNat < 128) (rngO fin f 0 l x0)) = some res)
    (hk0 : flt 99 k0 = .code (.block out (.loop (srB out nb i1 o_nx o_ex mr B))) :: k)
    (hfin : ∀ x, fin x = some res → Wk ⟨Tryz.prog, Q, g, N⟩ (flt 99 k) (st x))
    (hbody : ∀ (r : Nat) (g' : Gh) (Q' : Exit → Act → World → Prop), (∀ s, Fin ⟨Tryz.prog, Q, g, N⟩ s → Fin ⟨Tryz.prog, Q', g', N⟩ s) → ∀ (j : Int) (b : UInt8) x y, f j b.toNat x = some y → (∀ r', y = .inr r' → r' = res) →
      Wk ⟨Tryz.prog, Q', g', N⟩ (flt 99 [.code (.block nb B), .cut (fun s' => ∃ x', y = .inl x' ∧ s' = (st x').itS it r)]) (((st x).itS it r).inS nx j b.toNat))
    (h : outG (runE Ty.τ Tryz.prog N all (all.take n) an s) = some (gs, Dm.outR (runE Ty.τ Tryz.prog N all (all.take n) an s)) := by kernel_rfl)
    (ht : trimS fs bs rs ms [] nv (nxt (runE Ty.τ Tryz.prog N all (all.take n) an s)) = some (st x0) := by kernel_rfl)
    (ho : all.drop n = [o_rg] := by rfl)
    (hx : aget (st x0).fr xs = some (.str l) := by kernel_rfl) (htt : Tryz.prog.underlying tt = some .string := by kernel_rfl) (g1 : o_rg.op = .range tt (.tmp xs) := by rfl) (g2 : o_rg.dst = some it := by rfl) (g3 : o_rg.guard = none := by rfl)
    (n1 : o_nx.op = .next (.tmp it) true := by rfl) (n2 : o_nx.dst = some nx := by rfl) (n3 : o_nx.guard = none := by rfl) (e1 : o_ex.op = .extract (.tmp nx) 0 := by rfl) (e2 : o_ex.dst = some mr := by rfl) (e3 : o_ex.guard = none := by rfl)
    (hit0 : ∀ x, aget (st x).fr it = none := by intro x; rfl) (hnx : ∀ x, aget (st x).fr nx = none := by intro x; rfl) (hmr : ∀ x, aget (st x).fr mr = none := by intro x; rfl) (hdis : nx ≠ it ∧ mr ≠ it ∧ mr ≠ nx := by decide) (hN : it < N ∧ nx < N ∧ mr < N := by decide) :
    Wk ⟨Tryz.prog, Q, g, N⟩ (.code (.region i0 all.toArray false) :: k0) s := by
  obtain ⟨hasc, hF⟩ := asrt_elim hF
  cases hr : runE Ty.τ Tryz.prog N all (all.take n) an s with
  | none => rw [hr] at h; cases h
  | some p =>
    obtain ⟨gs', es, t'⟩ := p
    rw [hr] at h ht
    simp only [outG, Dm.outR, Option.some.injEq, Prod.mk.injEq] at h
    obtain ⟨rfl, he⟩ := h
    unfold runE at hr
    split at hr
    · rename_i hd
      split at hr
      · rename_i gs1 es1 s1 ks hrk
        cases hr
        intro a w hx0
        refine wp_region_lit ?_
        have hall : all = all.take n ++ [o_rg] := by rw [← ho]; exact (List.take_append_drop n all).symm
        have main : ∀ a w, H g N s a w → wpList Tryz.prog all.toArray (mean ⟨Tryz.prog, Q, g, N⟩ k0) (all.take n ++ [o_rg]) a w :=
          runK_pre (C := ⟨Tryz.prog, Q, g, N⟩) Ty.ok hd hrk (HL.all hg) (AllE_of he) fun a w hx1 =>
          Wk_srange (C := ⟨Tryz.prog, Q, g, N⟩) x0 hasc hF hx htt g1 g2 g3 n1 n2 n3 e1 e2 e3 hit0 hnx hmr hdis hN hk0 (fun x hx => flt_ok 99 _ (hfin x hx)) (fun r g' Q' h1 j b x y h3 h4 => flt_ok 99 _ (hbody r g' Q' h1 j b x y h3 h4)) a w (trimS_H ht hx1)
        rw [← hall] at main
        exact main a w hx0
      · cases hr
    · cases hr
theorem SRGJ {σ ρ : Type} {i0 out nb i1 : Nat} {all : List Oper} {o_rg o_nx o_ex : Oper} {B : Code} {k0 : List It} {gs : List Prop} (n : Nat) {an : List An} (hg : J an gs) {fin : σ → Option ρ} {f : Int → Int → σ → Option (σ ⊕ ρ)} {l : List UInt8} {res : ρ} (xs it nx mr : Nat) (tt : TypeId) (st : σ → S) (x0 : σ) (fs bs rs ms : List Nat) (nv : NV)
    (hF : (asrt (∀ b ∈ l, b.toNat < 128) (rngO fin f 0 l x0)) = some res)
    (hk0 : flt 99 k0 = .code (.block out (.loop (srB out nb i1 o_nx o_ex mr B))) :: k)
    (hfin : ∀ x, fin x = some res → Wk ⟨Tryz.prog, Q, g, N⟩ (flt 99 k) (st x))
    (hbody : ∀ (r : Nat) (g' : Gh) (Q' : Exit → Act → World → Prop), (∀ s, Fin ⟨Tryz.prog, Q, g, N⟩ s → Fin ⟨Tryz.prog, Q', g', N⟩ s) → ∀ (j : Int) (b : UInt8) x y, f j b.toNat x = some y → (∀ r', y = .inr r' → r' = res) →
      Wk ⟨Tryz.prog, Q', g', N⟩ (flt 99 [.code (.block nb B), .cut (fun s' => ∃ x', y = .inl x' ∧ s' = (st x').itS it r)]) (((st x).itS it r).inS nx j b.toNat))
    (h : outG (runE Ty.τ Tryz.prog N all (all.take n) an s) = some (gs, Dm.outR (runE Ty.τ Tryz.prog N all (all.take n) an s)) := by kernel_rfl)
    (ht : trimS fs bs rs ms [] nv (nxt (runE Ty.τ Tryz.prog N all (all.take n) an s)) = some (st x0) := by kernel_rfl)
    (ho : all.drop n = [o_rg] := by rfl)
    (hx : aget (st x0).fr xs = some (.str l) := by kernel_rfl) (htt : Tryz.prog.underlying tt = some .string := by kernel_rfl) (g1 : o_rg.op = .range tt (.tmp xs) := by rfl) (g2 : o_rg.dst = some it := by rfl) (g3 : o_rg.guard = none := by rfl)
    (n1 : o_nx.op = .next (.tmp it) true := by rfl) (n2 : o_nx.dst = some nx := by rfl) (n3 : o_nx.guard = none := by rfl) (e1 : o_ex.op = .extract (.tmp nx) 0 := by rfl) (e2 : o_ex.dst = some mr := by rfl) (e3 : o_ex.guard = none := by rfl)
    (hit0 : ∀ x, aget (st x).fr it = none := by intro x; rfl) (hnx : ∀ x, aget (st x).fr nx = none := by intro x; rfl) (hmr : ∀ x, aget (st x).fr mr = none := by intro x; rfl) (hdis : nx ≠ it ∧ mr ≠ it ∧ mr ≠ nx := by decide) (hN : it < N ∧ nx < N ∧ mr < N := by decide) :
    Wk ⟨Tryz.prog, Q, g, N⟩ (.code (.region i0 all.toArray false) :: k0) s := SRG n an hg xs it nx mr tt st x0 fs bs rs ms nv hF hk0 hfin hbody h ht ho hx htt g1 g2 g3 n1 n2 n3 e1 e2 e3 hit0 hnx hmr hdis hN
/-- a round is at its end -/
theorem Nsr {σ ρ : Type} {y : σ ⊕ ρ} {st : σ → S} {it r : Nat} {x' : σ} (nv : NV) (hF : some (Sum.inl x') = some y) (h : trimS (it :: ks (st x').fr) (ks (st x').bx) (ks (st x').rw) (ks (st x').mp) [] nv s = some ((st x').itS it r) := by kernel_rfl) :
    Wk ⟨Tryz.prog, Q, g, N⟩ [.cut (fun s' => ∃ x', y = .inl x' ∧ s' = (st x').itS it r)] s :=
  Wk_cut (fun a w hx => trimS_H h hx) ⟨x', (Option.some.inj hF).symm, rfl⟩
end
namespace G
def e_i64 (n : Int) : AV := .int .i64 n
def e_u8 (b : UInt8) : AV := .int .u8 (b.toNat : Int)
def e_u32 (n : Int) : AV := .int .u32 n
def e_u64 (n : Int) : AV := .int .u64 n
def e_bool (b : Bool) : AV := .bool b
def e_str (l : List UInt8) : AV := .str l
structure Order where
  Kind : Int
  ID : Int
  Host : Int
  Turn : Int
  Row : List UInt8
  deriving Inhabited, DecidableEq
def e_Order (x : Order) : AV := .agg [.int .i64 x.Kind, .int .i64 x.ID, .int .i64 x.Host, .int .i64 x.Turn, .str x.Row]
abbrev c_Order (x : Order) : List AV := [.int .i64 x.Kind, .int .i64 x.ID, .int .i64 x.Host, .int .i64 x.Turn, .str x.Row]
structure Act where
  Kind : Int
  Order : Order
  Host : Int
  N : Int
  Row : List UInt8
  deriving Inhabited, DecidableEq
def e_Act (x : Act) : AV := .agg [.int .i64 x.Kind, .int .i64 x.Order.Kind, .int .i64 x.Order.ID, .int .i64 x.Order.Host, .int .i64 x.Order.Turn, .str x.Order.Row, .int .i64 x.Host, .int .i64 x.N, .str x.Row]
abbrev c_Act (x : Act) : List AV := [.int .i64 x.Kind, .int .i64 x.Order.Kind, .int .i64 x.Order.ID, .int .i64 x.Order.Host, .int .i64 x.Order.Turn, .str x.Order.Row, .int .i64 x.Host, .int .i64 x.N, .str x.Row]
structure Fault where
  Code : Int
  At : Int
  deriving Inhabited, DecidableEq
def e_Fault (x : Fault) : AV := .agg [.int .i64 x.Code, .int .i64 x.At]
abbrev c_Fault (x : Fault) : List AV := [.int .i64 x.Code, .int .i64 x.At]
def e_L_str (l : List (List UInt8)) : AV := .sl 1 (l.map e_str)
structure verb where
  word : List UInt8
  words : List UInt8
  act : Act
  deriving Inhabited, DecidableEq
def e_verb (x : verb) : AV := .agg [.str x.word, .str x.words, .int .i64 x.act.Kind, .int .i64 x.act.Order.Kind, .int .i64 x.act.Order.ID, .int .i64 x.act.Order.Host, .int .i64 x.act.Order.Turn, .str x.act.Order.Row, .int .i64 x.act.Host, .int .i64 x.act.N, .str x.act.Row]
abbrev c_verb (x : verb) : List AV := [.str x.word, .str x.words, .int .i64 x.act.Kind, .int .i64 x.act.Order.Kind, .int .i64 x.act.Order.ID, .int .i64 x.act.Order.Host, .int .i64 x.act.Order.Turn, .str x.act.Order.Row, .int .i64 x.act.Host, .int .i64 x.act.N, .str x.act.Row]
def e_L_verb (l : List verb) : AV := .sl 11 (l.map e_verb)
def e_L_i64 (l : List Int) : AV := .sl 1 (l.map e_i64)
structure Host where
  ID : Int
  Epoch : Int
  Alive : Bool
  deriving Inhabited, DecidableEq
def e_Host (x : Host) : AV := .agg [.int .i64 x.ID, .int .i64 x.Epoch, .bool x.Alive]
abbrev c_Host (x : Host) : List AV := [.int .i64 x.ID, .int .i64 x.Epoch, .bool x.Alive]
def e_L_Host (l : List Host) : AV := .sl 3 (l.map e_Host)
structure Part where
  From : List UInt8
  To : List UInt8
  ID : Int
  deriving Inhabited, DecidableEq
def e_Part (x : Part) : AV := .agg [.str x.From, .str x.To, .int .i64 x.ID]
abbrev c_Part (x : Part) : List AV := [.str x.From, .str x.To, .int .i64 x.ID]
structure Slot where
  Part : Part
  State : Int
  Host : Int
  Turn : Int
  deriving Inhabited, DecidableEq
def e_Slot (x : Slot) : AV := .agg [.str x.Part.From, .str x.Part.To, .int .i64 x.Part.ID, .int .i64 x.State, .int .i64 x.Host, .int .i64 x.Turn]
abbrev c_Slot (x : Slot) : List AV := [.str x.Part.From, .str x.Part.To, .int .i64 x.Part.ID, .int .i64 x.State, .int .i64 x.Host, .int .i64 x.Turn]
def e_L_Slot (l : List Slot) : AV := .sl 6 (l.map e_Slot)
structure Board where
  Hosts : List Host
  Slots : List Slot
  Turn : Int
  Next : Int
  deriving Inhabited, DecidableEq
def e_Board (x : Board) : AV := .agg [.sl 3 (x.Hosts.map e_Host), .sl 6 (x.Slots.map e_Slot), .int .i64 x.Turn, .int .i64 x.Next]
abbrev c_Board (x : Board) : List AV := [.sl 3 (x.Hosts.map e_Host), .sl 6 (x.Slots.map e_Slot), .int .i64 x.Turn, .int .i64 x.Next]
def e_L_bool (l : List Bool) : AV := .sl 1 (l.map e_bool)
def e_L_u8 (l : List UInt8) : AV := .sl 1 (l.map e_u8)
structure Disk where
  Bytes : List UInt8
  Kept : Int
  deriving Inhabited, DecidableEq
def e_Disk (x : Disk) : AV := .agg [.sl 1 (x.Bytes.map e_u8), .int .i64 x.Kept]
abbrev c_Disk (x : Disk) : List AV := [.sl 1 (x.Bytes.map e_u8), .int .i64 x.Kept]
def e_L_L_u8 (l : List (List UInt8)) : AV := .sl 1 (l.map e_L_u8)
structure Tablet where
  Log : Disk
  Files : List (List UInt8)
  Done : Int
  Since : Int
  deriving Inhabited, DecidableEq
def e_Tablet (x : Tablet) : AV := .agg [.sl 1 (x.Log.Bytes.map e_u8), .int .i64 x.Log.Kept, .sl 1 (x.Files.map e_L_u8), .int .i64 x.Done, .int .i64 x.Since]
abbrev c_Tablet (x : Tablet) : List AV := [.sl 1 (x.Log.Bytes.map e_u8), .int .i64 x.Log.Kept, .sl 1 (x.Files.map e_L_u8), .int .i64 x.Done, .int .i64 x.Since]
structure Serve where
  ID : Int
  Turn : Int
  Part : Part
  Tablet : Tablet
  deriving Inhabited, DecidableEq
def e_Serve (x : Serve) : AV := .agg [.int .i64 x.ID, .int .i64 x.Turn, .str x.Part.From, .str x.Part.To, .int .i64 x.Part.ID, .sl 1 (x.Tablet.Log.Bytes.map e_u8), .int .i64 x.Tablet.Log.Kept, .sl 1 (x.Tablet.Files.map e_L_u8), .int .i64 x.Tablet.Done, .int .i64 x.Tablet.Since]
abbrev c_Serve (x : Serve) : List AV := [.int .i64 x.ID, .int .i64 x.Turn, .str x.Part.From, .str x.Part.To, .int .i64 x.Part.ID, .sl 1 (x.Tablet.Log.Bytes.map e_u8), .int .i64 x.Tablet.Log.Kept, .sl 1 (x.Tablet.Files.map e_L_u8), .int .i64 x.Tablet.Done, .int .i64 x.Tablet.Since]
def e_L_Serve (l : List Serve) : AV := .sl 10 (l.map e_Serve)
def e_L_L_Serve (l : List (List Serve)) : AV := .sl 1 (l.map e_L_Serve)
def e_L_Tablet (l : List Tablet) : AV := .sl 5 (l.map e_Tablet)
structure Post where
  Call : Int
  ID : Int
  Turn : Int
  deriving Inhabited, DecidableEq
def e_Post (x : Post) : AV := .agg [.int .i64 x.Call, .int .i64 x.ID, .int .i64 x.Turn]
abbrev c_Post (x : Post) : List AV := [.int .i64 x.Call, .int .i64 x.ID, .int .i64 x.Turn]
def e_L_Post (l : List Post) : AV := .sl 3 (l.map e_Post)
structure Span where
  Kind : Int
  Value : Int
  From : Int
  To : Int
  deriving Inhabited, DecidableEq
def e_Span (x : Span) : AV := .agg [.int .i64 x.Kind, .int .i64 x.Value, .int .i64 x.From, .int .i64 x.To]
abbrev c_Span (x : Span) : List AV := [.int .i64 x.Kind, .int .i64 x.Value, .int .i64 x.From, .int .i64 x.To]
structure Told where
  Row : List UInt8
  Span : Span
  deriving Inhabited, DecidableEq
def e_Told (x : Told) : AV := .agg [.str x.Row, .int .i64 x.Span.Kind, .int .i64 x.Span.Value, .int .i64 x.Span.From, .int .i64 x.Span.To]
abbrev c_Told (x : Told) : List AV := [.str x.Row, .int .i64 x.Span.Kind, .int .i64 x.Span.Value, .int .i64 x.Span.From, .int .i64 x.Span.To]
def e_L_Told (l : List Told) : AV := .sl 5 (l.map e_Told)
structure Store where
  Board : Board
  Trust : List Bool
  Serves : List (List Serve)
  Tablets : List Tablet
  Fences : List Int
  Posts : List Post
  Told : List Told
  deriving Inhabited, DecidableEq
def e_Store (x : Store) : AV := .agg [.sl 3 (x.Board.Hosts.map e_Host), .sl 6 (x.Board.Slots.map e_Slot), .int .i64 x.Board.Turn, .int .i64 x.Board.Next, .sl 1 (x.Trust.map e_bool), .sl 1 (x.Serves.map e_L_Serve), .sl 5 (x.Tablets.map e_Tablet), .sl 1 (x.Fences.map e_i64), .sl 3 (x.Posts.map e_Post), .sl 5 (x.Told.map e_Told)]
abbrev c_Store (x : Store) : List AV := [.sl 3 (x.Board.Hosts.map e_Host), .sl 6 (x.Board.Slots.map e_Slot), .int .i64 x.Board.Turn, .int .i64 x.Board.Next, .sl 1 (x.Trust.map e_bool), .sl 1 (x.Serves.map e_L_Serve), .sl 5 (x.Tablets.map e_Tablet), .sl 1 (x.Fences.map e_i64), .sl 3 (x.Posts.map e_Post), .sl 5 (x.Told.map e_Told)]
structure world where
  Store : Store
  now : Int
  puts : Int
  deriving Inhabited, DecidableEq
def e_world (x : world) : AV := .agg [.sl 3 (x.Store.Board.Hosts.map e_Host), .sl 6 (x.Store.Board.Slots.map e_Slot), .int .i64 x.Store.Board.Turn, .int .i64 x.Store.Board.Next, .sl 1 (x.Store.Trust.map e_bool), .sl 1 (x.Store.Serves.map e_L_Serve), .sl 5 (x.Store.Tablets.map e_Tablet), .sl 1 (x.Store.Fences.map e_i64), .sl 3 (x.Store.Posts.map e_Post), .sl 5 (x.Store.Told.map e_Told), .int .i64 x.now, .int .i64 x.puts]
abbrev c_world (x : world) : List AV := [.sl 3 (x.Store.Board.Hosts.map e_Host), .sl 6 (x.Store.Board.Slots.map e_Slot), .int .i64 x.Store.Board.Turn, .int .i64 x.Store.Board.Next, .sl 1 (x.Store.Trust.map e_bool), .sl 1 (x.Store.Serves.map e_L_Serve), .sl 5 (x.Store.Tablets.map e_Tablet), .sl 1 (x.Store.Fences.map e_i64), .sl 3 (x.Store.Posts.map e_Post), .sl 5 (x.Store.Told.map e_Told), .int .i64 x.now, .int .i64 x.puts]
structure Cell where
  Row : List UInt8
  Col : List UInt8
  Time : Int
  Gone : Bool
  Value : List UInt8
  deriving Inhabited, DecidableEq
def e_Cell (x : Cell) : AV := .agg [.str x.Row, .str x.Col, .int .i64 x.Time, .bool x.Gone, .str x.Value]
abbrev c_Cell (x : Cell) : List AV := [.str x.Row, .str x.Col, .int .i64 x.Time, .bool x.Gone, .str x.Value]
def e_L_Cell (l : List Cell) : AV := .sl 5 (l.map e_Cell)
structure Note where
  Seq : Int
  Cells : List Cell
  deriving Inhabited, DecidableEq
def e_Note (x : Note) : AV := .agg [.int .i64 x.Seq, .sl 5 (x.Cells.map e_Cell)]
abbrev c_Note (x : Note) : List AV := [.int .i64 x.Seq, .sl 5 (x.Cells.map e_Cell)]
def e_L_Note (l : List Note) : AV := .sl 2 (l.map e_Note)
def e_L_L_Cell (l : List (List Cell)) : AV := .sl 1 (l.map e_L_Cell)
structure tab where
  Tablet : Tablet
  notes : List Note
  last : Int
  mem : List Cell
  files : List (List Cell)
  deriving Inhabited, DecidableEq
def e_tab (x : tab) : AV := .agg [.sl 1 (x.Tablet.Log.Bytes.map e_u8), .int .i64 x.Tablet.Log.Kept, .sl 1 (x.Tablet.Files.map e_L_u8), .int .i64 x.Tablet.Done, .int .i64 x.Tablet.Since, .sl 2 (x.notes.map e_Note), .int .i64 x.last, .sl 5 (x.mem.map e_Cell), .sl 1 (x.files.map e_L_Cell)]
abbrev c_tab (x : tab) : List AV := [.sl 1 (x.Tablet.Log.Bytes.map e_u8), .int .i64 x.Tablet.Log.Kept, .sl 1 (x.Tablet.Files.map e_L_u8), .int .i64 x.Tablet.Done, .int .i64 x.Tablet.Since, .sl 2 (x.notes.map e_Note), .int .i64 x.last, .sl 5 (x.mem.map e_Cell), .sl 1 (x.files.map e_L_Cell)]
structure opened where
  bodies : List (List UInt8)
  rows : List (List UInt8)
  filter : List UInt8
  deriving Inhabited, DecidableEq
def e_opened (x : opened) : AV := .agg [.sl 1 (x.bodies.map e_L_u8), .sl 1 (x.rows.map e_str), .sl 1 (x.filter.map e_u8)]
abbrev c_opened (x : opened) : List AV := [.sl 1 (x.bodies.map e_L_u8), .sl 1 (x.rows.map e_str), .sl 1 (x.filter.map e_u8)]
def e_L_Part (l : List Part) : AV := .sl 3 (l.map e_Part)
structure Arr3_3 where
  p0 : Int
  p1 : Int
  p2 : Int
  deriving Inhabited, DecidableEq
def e_Arr3_3 (x : Arr3_3) : AV := .agg [.int .i64 x.p0, .int .i64 x.p1, .int .i64 x.p2]
abbrev c_Arr3_3 (x : Arr3_3) : List AV := [.int .i64 x.p0, .int .i64 x.p1, .int .i64 x.p2]
structure Reader where
  b : List UInt8
  bad : Bool
  deriving Inhabited, DecidableEq
def e_Reader (x : Reader) : AV := .agg [.sl 1 (x.b.map e_u8), .bool x.bad]
abbrev c_Reader (x : Reader) : List AV := [.sl 1 (x.b.map e_u8), .bool x.bad]
def e_L_L_Part (l : List (List Part)) : AV := .sl 1 (l.map e_L_Part)
structure source where
  cells : List Cell
  rank : Int
  deriving Inhabited, DecidableEq
def e_source (x : source) : AV := .agg [.sl 5 (x.cells.map e_Cell), .int .i64 x.rank]
abbrev c_source (x : source) : List AV := [.sl 5 (x.cells.map e_Cell), .int .i64 x.rank]
structure Arr2_3 where
  p0 : Int
  p1 : Int
  deriving Inhabited, DecidableEq
def e_Arr2_3 (x : Arr2_3) : AV := .agg [.int .i64 x.p0, .int .i64 x.p1]
abbrev c_Arr2_3 (x : Arr2_3) : List AV := [.int .i64 x.p0, .int .i64 x.p1]
def o_L_i64 (x : List Int) : AV := .own 3 1 (x.map e_i64).length (x.map e_i64)
def o_L_u8 (x : List UInt8) : AV := .own 5 1 (x.map e_u8).length (x.map e_u8)
end G
end Go.Proofs.YtcifgljlmieblaaGreatDoor
