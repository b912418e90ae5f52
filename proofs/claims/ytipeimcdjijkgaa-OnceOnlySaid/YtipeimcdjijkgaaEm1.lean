/- An abstract machine over the model's code: abstract values, states, and how they stand for the concrete ones. Over any program. -/
import Derived.WalkKit
namespace Go.Dm
open Go
set_option linter.unnecessarySimpa false
set_option linter.constructorNameAsVariable false
set_option linter.unusedSectionVars false

abbrev Mem := Nat → Nat → Option Value

inductive AV where
  | int (k : IntKind) (n : Int)
  | bool (b : Bool)
  | str (s : List UInt8)
  | nils
  | sl (sz : Nat) (xs : List AV)
  | rp (x : AV)
  | nilp
  | nilfn
  | nilmp
  | row (i vr : Nat)
  | rowv (i vr off n : Nat)
  | ptr (i off : Nat)
  | ep (i vr k off : Nat)
  | aptr (i k off : Nat)
  | mp (i : Nat)
  | fn (f : FuncId) (caps : List AV)
  | popt (b : Bool) (x : AV)
  | own (ty sz k : Nat) (xs : List AV)
  | ub (p q : Bool)
  | agg (cs : List AV)
  | tup (vs : List AV)
  | any
  | when (cs : List (Nat × Bool)) (x : AV)

instance : Inhabited AV := ⟨.any⟩

/-- all of some conditions -/
def allB : List (Nat × Bool) → Bool
  | [] => true
  | (_, c) :: l => c && allB l

def AV.cells : AV → List AV
  | .agg cs => cs
  | x => [x]

def flat (xs : List AV) : List AV := xs.flatMap AV.cells

/-- values that hang on sealed memory alone -/
inductive RelP (M : Mem) : Value → AV → Prop
  | int (k : IntKind) (n : Int) : RelP M (.int k n) (.int k n)
  | bool (b : Bool) : RelP M (.bool b) (.bool b)
  | str (s : List UInt8) : RelP M (.string ⟨s.toArray⟩) (.str s)
  | nils : RelP M (.slice none 0 0) .nils
  | sl (a : Option Addr) (n c sz : Nat) (xs : List AV) (f : Nat → Value) (hn : xs.length = n) (hc : n ≤ c) (hb : c ≤ maxLen)
      (hz : ∀ x ∈ xs, x.cells.length = sz)
      (ha : xs ≠ [] → ∃ blk off, a = some ⟨blk, off, none⟩ ∧ ∀ j, j < (flat xs).length → M blk (off + j) = some (f j))
      (hf : ∀ (j : Nat) (u : AV), (flat xs)[j]? = some u → RelP M (f j) u) : RelP M (.slice a n c) (.sl sz xs)
  | rp (blk off : Nat) (x : AV) (f : Nat → Value) (ha : ∀ j, j < x.cells.length → M blk (off + j) = some (f j))
      (hf : ∀ (j : Nat) (u : AV), x.cells[j]? = some u → RelP M (f j) u) : RelP M (.pointer (some ⟨blk, off, none⟩)) (.rp x)
  | nilp : RelP M (.pointer none) .nilp
  | nilfn : RelP M .nilFunc .nilfn
  | nilmp : RelP M (.map none) .nilmp
  | ub (b p q : Bool) (h1 : b = true → p = true) (h2 : b = false → q = true) : RelP M (.bool b) (.ub p q)

structure RwE where
  a : Option Addr
  n : Nat
  c : Nat
  sz : Nat
  ver : Nat

structure Env where
  bx : Nat → Option Nat
  rw : Nat → Option RwE
  mp : Nat → Option Nat
  ar : Nat → Option (List Nat)
  own : Nat → Option (Nat × Nat × Nat)

def viewA (q : RwE) (off : Nat) : Option Addr := if off = 0 then q.a else q.a.map (·.add (off * q.sz))

/-- values of one cell -/
inductive RelS (M : Mem) (E : Env) : Value → AV → Prop
  | pure {v : Value} {x : AV} (h : RelP M v x) : RelS M E v x
  | ptr (i off b : Nat) (h : E.bx i = some b) : RelS M E (.pointer (some ⟨b, off, none⟩)) (.ptr i off)
  | row (i vr n c : Nat) (a : Option Addr) (q : RwE) (hq : E.rw i = some q) (hv : vr ≤ q.ver) (h : vr = q.ver → a = q.a ∧ n = q.n ∧ c = q.c) : RelS M E (.slice a n c) (.row i vr)
  | rowv (i vr off m n c : Nat) (a : Option Addr) (q : RwE) (hq : E.rw i = some q) (hv : vr ≤ q.ver) (h : vr = q.ver → n = m ∧ (off = 0 → a = q.a) ∧ (c ≠ 0 → a = viewA q off) ∧ off + c = q.c ∧ n ≤ c) : RelS M E (.slice a n c) (.rowv i vr off m)
  | ep (i vr k off : Nat) (ad : Addr) (q : RwE) (hq : E.rw i = some q) (hv : vr ≤ q.ver) (h : vr = q.ver → ∃ blk, q.a = some ⟨blk, 0, none⟩ ∧ ad = ⟨blk, k * q.sz + off, none⟩) : RelS M E (.pointer (some ad)) (.ep i vr k off)
  | aptr (i k off : Nat) (bs : List Nat) (b : Nat) (h : E.ar i = some bs) (hk : bs[k]? = some b) : RelS M E (.pointer (some ⟨b, off, none⟩)) (.aptr i k off)
  | mp (i r : Nat) (h : E.mp i = some r) : RelS M E (.map (some r)) (.mp i)
  | any {v : Value} (h : v.oneCell' = true) : RelS M E v .any
  | popt {v : Value} (b : Bool) (x : AV) (ht : b = true → RelS M E v x) (hf : b = false → v = .pointer none) : RelS M E v (.popt b x)
  | fn (f : FuncId) (vs : List Value) (cs : List AV) (hl : vs.length = cs.length)
      (h : ∀ (j : Nat) (v : Value) (c : AV), vs[j]? = some v → cs[j]? = some c → RelS M E v c) : RelS M E (.func (.func f) #[] vs.toArray) (.fn f cs)

inductive Rel (M : Mem) (E : Env) : Value → AV → Prop
  | cell {v : Value} {x : AV} (h : RelS M E v x) : Rel M E v x
  | agg (vs : List Value) (cs : List AV) (hl : vs.length = cs.length)
      (h : ∀ (j : Nat) (v : Value) (c : AV), vs[j]? = some v → cs[j]? = some c → RelS M E v c) : Rel M E (.agg vs.toArray) (.agg cs)
  | tup (vs : List Value) (cs : List AV) (hl : vs.length = cs.length)
      (h : ∀ (j : Nat) (v : Value) (c : AV), vs[j]? = some v → cs[j]? = some c → Rel M E v c) : Rel M E (.tuple vs.toArray) (.tup cs)
  | any (v : Value) : Rel M E v .any
  | when (v : Value) (c : List (Nat × Bool)) (x : AV) (h : allB c = true → Rel M E v x) (hu : allB c = false → v = undef) : Rel M E v (.when c x)

/-- an own row: what its cells are of, how many one element has, its header's number, how many of its first elements may be sealed, what its capacity is at least,
  whether it is nil just when it is empty, whether its elements hang on sealed memory alone (else: which arenas they name), its elements -/
structure Rw where
  ty : TypeId
  sz : Nat
  ver : Nat
  k : Nat
  cm : Nat
  nl : Bool
  pu : Nat
  ns : List Nat
  xs : List AV

/-- variables that were made one by one, each in a block of its own -/
structure Arn where
  ty : TypeId
  sz : Nat
  ns : List Nat
  xs : List AV

structure S where
  fr : List (Nat × AV)
  bx : List (Nat × List AV)
  rw : List (Nat × Rw)
  mp : List (Nat × List (AV × AV))
  ar : List (Nat × Arn)

def aget {α : Type} : List (Nat × α) → Nat → Option α
  | [], _ => none
  | (j, v) :: l, i => match Nat.beq i j with
    | true => some v
    | false => aget l i

def memN (i : Nat) : List Nat → Bool
  | [] => false
  | j :: l => match Nat.beq i j with
    | true => true
    | false => memN i l

theorem beq_true {i j : Nat} (h : Nat.beq i j = true) : i = j := Nat.eq_of_beq_eq_true h
theorem beq_false {i j : Nat} (h : Nat.beq i j = false) : i ≠ j := Nat.ne_of_beq_eq_false h

theorem aget_cons {α : Type} (j : Nat) (v : α) (l : List (Nat × α)) (i : Nat) : aget ((j, v) :: l) i = if i = j then some v else aget l i := by
  simp only [aget]
  split
  · rename_i h; rw [if_pos (beq_true h)]
  · rename_i h; rw [if_neg (beq_false h)]
theorem aget_append {α : Type} (a b : List (Nat × α)) (i : Nat) : aget (a ++ b) i = match aget a i with | some v => some v | none => aget b i := by
  induction a with
  | nil => rfl
  | cons p a ih =>
    obtain ⟨j, v⟩ := p
    rw [List.cons_append, aget_cons, aget_cons]
    split
    · rfl
    · exact ih

/-- of what is named, some arenas alone -/
def Env.arO (E : Env) (ns : List Nat) : Env := ⟨fun _ => none, fun _ => none, fun _ => none, fun i => if memN i ns then E.ar i else none, E.own⟩

/-- a cell inside an object: a value, or a row that is this cell's own -/
inductive RelC (M : Mem) (E : Env) (w : World) (kd i p : Nat) : Value → AV → Prop
  | rel {v : Value} {x : AV} (h : RelS M E v x) : RelC M E w kd i p v x
  | own (ty sz k : Nat) (ys : List AV) (a : Option Addr) (n c : Nat) (hn : n = ys.length) (hc : n ≤ c) (hm : c ≤ maxLen) (hz : ∀ x ∈ ys, x.cells.length = sz) (hk : k ≤ n)
      (hb : c = 0 ∨ ∃ (blk : Nat) (vs : Array Value), a = some ⟨blk, 0, none⟩ ∧ E.own blk = some (kd, i, p) ∧ w.heap[blk]? = some (.cells vs ty (0, 0)) ∧ vs.size = c * sz ∧
        ∀ (j : Nat) (u : AV), (flat ys)[j]? = some u → ∃ v, vs[j]? = some v ∧ RelP M v u) : RelC M E w kd i p (.slice a n c) (.own ty sz k ys)

def BxOk (M : Mem) (E : Env) (w : World) (b : Nat) (cs : List AV) : Prop :=
  ∃ (t : TypeId) (vs : Array Value), w.heap[b]? = some (.cells vs t (0, 0)) ∧ vs.size = cs.length ∧
    ∀ (j : Nat) (v : Value) (c : AV), vs[j]? = some v → cs[j]? = some c → RelS M E v c

/-- what may be put into an object's cells: 0 what hangs on sealed memory alone, 1 what names arenas too -/
def eR (M : Mem) (E : Env) (pu : Nat) (ns : List Nat) (v : Value) (u : AV) : Prop := match pu with
  | 0 => RelP M v u
  | _ => RelS M (E.arO ns) v u
/-- what stands in an object's cells: 2 may be rows that are the cell's own -/
def cR (M : Mem) (E : Env) (w : World) (pu : Nat) (ns : List Nat) (kd i p : Nat) (v : Value) (u : AV) : Prop := match pu with
  | 0 => RelP M v u
  | 1 => RelS M (E.arO ns) v u
  | _ => RelC M (E.arO ns) w kd i p v u
theorem eR.c {M : Mem} {E : Env} {pu : Nat} {ns : List Nat} {v : Value} {u : AV} (h : eR M E pu ns v u) (w : World) (kd i p : Nat) : cR M E w pu ns kd i p v u := by
  match pu, h with
  | 0, h => exact h
  | 1, h => exact h
  | n + 2, h => exact .rel h
/-- what a row's cells say -/
def CsOk (M : Mem) (E : Env) (w : World) (pu : Nat) (ns : List Nat) (kd i p : Nat) (vs : Array Value) (cs : List AV) : Prop :=
  ∀ (j : Nat) (u : AV), cs[j]? = some u → ∃ v, vs[j]? = some v ∧ cR M E w pu ns kd i (p + j) v u

structure RwOk (M : Mem) (E : Env) (w : World) (i : Nat) (q : RwE) (r : Rw) : Prop where
  sz : q.sz = r.sz
  ver : q.ver = r.ver
  n : q.n = r.xs.length
  nc : q.n ≤ q.c
  cap : q.c ≤ maxLen
  es : ∀ x ∈ r.xs, x.cells.length = r.sz
  k : r.k ≤ r.xs.length
  cm : r.cm ≤ q.c
  nl : r.nl = true → (q.a = none ↔ r.xs = [])
  blk : q.c = 0 ∨ ∃ (blk : Nat) (vs : Array Value), q.a = some ⟨blk, 0, none⟩ ∧ E.own blk = some (1, i, 0) ∧
      w.heap[blk]? = some (.cells vs r.ty (0, 0)) ∧ vs.size = q.c * q.sz ∧ CsOk M E w r.pu r.ns 5 i 0 vs (flat r.xs)

structure ArOk (M : Mem) (E : Env) (w : World) (i : Nat) (bs : List Nat) (r : Arn) : Prop where
  n : bs.length = r.xs.length
  es : ∀ x ∈ r.xs, x.cells.length = r.sz
  el : ∀ (k : Nat) (x : AV), r.xs[k]? = some x → ∃ (b : Nat) (vs : Array Value), bs[k]? = some b ∧ E.own b = some (3, i, k) ∧ w.heap[b]? = some (.cells vs r.ty (0, 0)) ∧ vs.size = r.sz ∧ CsOk M E w 2 r.ns 6 i (k * r.sz) vs x.cells

def Env.none : Env := ⟨fun _ => Option.none, fun _ => Option.none, fun _ => Option.none, fun _ => Option.none, fun _ => Option.none⟩
def MpOk (M : Mem) (E : Env) (w : World) (r : Nat) (es : List (AV × AV)) : Prop :=
  ∃ (ents : Array MapEntry) (clock : Nat), w.heap[r]? = some (.map ents clock) ∧ ents.size = es.length ∧
    ∀ (j : Nat) (e : MapEntry) (p : AV × AV), ents[j]? = some e → es[j]? = some p → RelP M e.key p.1 ∧ Rel M Env.none e.val p.2

structure Gh where
  w0 : World
  F : Nat → Prop
  M0 : Mem
  E0 : Env

/-- names from here on are of what a function was handed -/
def nB : Nat := 100000

/-- what was handed is still where it was: boxes, maps; rows whose header has number 0; arenas, with more behind them -/
structure Env.p0 (E0 E : Env) : Prop where
  bx : ∀ i b, nB ≤ i → E.bx i = some b → E0.bx i = some b
  rw : ∀ i q, nB ≤ i → E.rw i = some q → q.ver = 0 → E0.rw i = some q
  mp : ∀ i r, nB ≤ i → E.mp i = some r → E0.mp i = some r
  ar : ∀ i bs, nB ≤ i → E.ar i = some bs → ∃ bs0 l, E0.ar i = some bs0 ∧ bs = bs0 ++ l

def ownK : Option AV → Nat
  | some (.own _ sz k _) => k * sz
  | _ => 0

/-- how many cells of a block that is owned may be sealed -/
def sealN (s : S) (o : Nat × Nat × Nat) : Nat :=
  if o.1 = 1 ∧ o.2.2 = 0 then (match aget s.rw o.2.1 with | some r => r.k * r.sz | none => 0)
  else if o.1 = 5 then (match aget s.rw o.2.1 with | some r => ownK (flat r.xs)[o.2.2]? | none => 0)
  else if o.1 = 6 then (match aget s.ar o.2.1 with | some r => ownK (flat r.xs)[o.2.2]? | none => 0)
  else 0

structure St (g : Gh) (N : Nat) (M : Mem) (E : Env) (s : S) (tmps : Array Value) (w : World) : Prop where
  size : tmps.size = N
  fr : ∀ i av, aget s.fr i = some av → i < N ∧ Rel M E (tmps.getD i undef) av
  mem : ∀ b j v, M b j = some v → w.cell? ⟨b, j, none⟩ = some v ∧ ∀ o, E.own b = some o → j < sealN s o
  bx : ∀ i cs, aget s.bx i = some cs → ∃ b, E.bx i = some b ∧ E.own b = some (0, i, 0) ∧ BxOk M E w b cs
  bxn : ∀ i, aget s.bx i = none → E.bx i = none
  rw : ∀ i r, aget s.rw i = some r → ∃ q, E.rw i = some q ∧ RwOk M E w i q r
  rwn : ∀ i, aget s.rw i = none → E.rw i = none
  mp : ∀ i es, aget s.mp i = some es → ∃ r, E.mp i = some r ∧ E.own r = some (2, i, 0) ∧ MpOk M E w r es
  mpn : ∀ i, aget s.mp i = none → E.mp i = none
  ar : ∀ i r, aget s.ar i = some r → ∃ bs, E.ar i = some bs ∧ ArOk M E w i bs r
  arn : ∀ i, aget s.ar i = none → E.ar i = none
  live : ∀ b o, E.own b = some o → b < w.heap.size
  foreign : ∀ b, g.F b → b < w.heap.size ∧ w.heap[b]? = g.w0.heap[b]? ∧ E.own b = none
  m0 : ∀ b j v, g.M0 b j = some v → M b j = some v
  mf : ∀ b j v, M b j = some v → g.F b → g.M0 b j = some v
  os : w.os = g.w0.os
  tape : w.tape = g.w0.tape
  output : w.output = g.w0.output
  grow : g.w0.heap.size ≤ w.heap.size

/-- the concrete states for which an abstract one stands -/
def H (g : Gh) (N : Nat) (s : S) (a : Act) (w : World) : Prop := a.defers = [] ∧ ∃ M E, St g N M E s a.tmps w ∧ Env.p0 g.E0 E

/- what the relations keep -/

theorem RelP.mono {M M' : Mem} (hM : ∀ b j v, M b j = some v → M' b j = some v) {v : Value} {x : AV} (h : RelP M v x) : RelP M' v x := by
  induction h with
  | int k n => exact .int k n
  | bool b => exact .bool b
  | str s => exact .str s
  | nils => exact .nils
  | sl a n c sz xs f hn hc hb hz ha hf ih =>
    refine .sl a n c sz xs f hn hc hb hz (fun h => ?_) ih
    obtain ⟨blk, off, e, hj⟩ := ha h
    exact ⟨blk, off, e, fun j hlt => hM _ _ _ (hj j hlt)⟩
  | rp blk off x f ha hf ih => exact .rp blk off x f (fun j hlt => hM _ _ _ (ha j hlt)) ih
  | nilp => exact .nilp
  | nilfn => exact .nilfn
  | nilmp => exact .nilmp
  | ub b p q h1 h2 => exact .ub b p q h1 h2

/- names -/
mutual
/-- all names that a value has are of these -/
def AV.okIn (kb kr km ka : Nat → Bool) : AV → Bool
  | .ptr i _ => kb i
  | .row i _ => kr i
  | .rowv i _ _ _ => kr i
  | .ep i _ _ _ => kr i
  | .aptr i _ _ => ka i
  | .mp i => km i
  | .fn _ caps => AV.okInL kb kr km ka caps
  | .popt _ x => AV.okIn kb kr km ka x
  | .agg cs => AV.okInL kb kr km ka cs
  | .tup vs => AV.okInL kb kr km ka vs
  | .when _ x => AV.okIn kb kr km ka x
  | _ => true
def AV.okInL (kb kr km ka : Nat → Bool) : List AV → Bool
  | [] => true
  | x :: l => match AV.okIn kb kr km ka x with
    | true => AV.okInL kb kr km ka l
    | false => false
end

theorem okInL_cons {kb kr km ka : Nat → Bool} {x : AV} {l : List AV} (h : AV.okInL kb kr km ka (x :: l) = true) : x.okIn kb kr km ka = true ∧ AV.okInL kb kr km ka l = true := by
  simp only [AV.okInL] at h
  split at h
  · rename_i hx; exact ⟨hx, h⟩
  · cases h
theorem okInL_get {kb kr km ka : Nat → Bool} : ∀ {l : List AV} {j : Nat} {x : AV}, AV.okInL kb kr km ka l = true → l[j]? = some x → x.okIn kb kr km ka = true
  | [], j, x, _, h => by simp at h
  | y :: l, 0, x, hl, h => by simp at h; subst h; exact (okInL_cons hl).1
  | y :: l, j + 1, x, hl, h => by
    simp only [List.getElem?_cons_succ] at h
    exact okInL_get (okInL_cons hl).2 h
theorem okInL_of {kb kr km ka : Nat → Bool} : ∀ {l : List AV}, (∀ (j : Nat) (x : AV), l[j]? = some x → x.okIn kb kr km ka = true) → AV.okInL kb kr km ka l = true
  | [], _ => rfl
  | y :: l, h => by
    simp only [AV.okInL, h 0 y rfl]
    exact okInL_of fun j x hx => h (j + 1) x (by simpa using hx)

/-- what is named in the first environment is so in the second; a row's header may have a later number -/
structure Env.le (E E' : Env) : Prop where
  bx : ∀ i b, E.bx i = some b → E'.bx i = some b
  rw : ∀ i q, E.rw i = some q → ∃ q', E'.rw i = some q' ∧ q.ver ≤ q'.ver ∧ (q.ver = q'.ver → q'.a = q.a ∧ q'.n = q.n ∧ q'.c = q.c ∧ q'.sz = q.sz)
  mp : ∀ i r, E.mp i = some r → E'.mp i = some r
  ar : ∀ i bs, E.ar i = some bs → ∃ l, E'.ar i = some (bs ++ l)

theorem Env.le_refl (E : Env) : E.le E := ⟨fun _ _ h => h, fun _ q h => ⟨q, h, Nat.le_refl _, fun _ => ⟨rfl, rfl, rfl, rfl⟩⟩, fun _ _ h => h, fun _ bs h => ⟨[], by simpa using h⟩⟩
theorem Env.le_trans {E E' E'' : Env} (h : E.le E') (h' : E'.le E'') : E.le E'' := by
  refine ⟨fun i b e => h'.bx i b (h.bx i b e), fun i q e => ?_, fun i r e => h'.mp i r (h.mp i r e), fun i bs e => ?_⟩
  · obtain ⟨q', e', l1, s1⟩ := h.rw i q e
    obtain ⟨q'', e'', l2, s2⟩ := h'.rw i q' e'
    refine ⟨q'', e'', Nat.le_trans l1 l2, fun ev => ?_⟩
    obtain ⟨a1, a2, a3, a4⟩ := s1 (by omega)
    obtain ⟨b1, b2, b3, b4⟩ := s2 (by omega)
    exact ⟨b1.trans a1, b2.trans a2, b3.trans a3, b4.trans a4⟩
  · obtain ⟨l, e'⟩ := h.ar i bs e
    obtain ⟨l', e''⟩ := h'.ar i _ e'
    exact ⟨l ++ l', by rw [e'', List.append_assoc]⟩

/-- what is named stays so, and what was handed stays where it was -/
structure Env.up (E E' : Env) : Prop where
  le : E.le E'
  p : ∀ E0, Env.p0 E0 E → Env.p0 E0 E'
theorem Env.up_refl (E : Env) : E.up E := ⟨Env.le_refl E, fun _ h => h⟩
theorem Env.up_trans {E E' E'' : Env} (h : E.up E') (h' : E'.up E'') : E.up E'' := ⟨Env.le_trans h.le h'.le, fun E0 hp => h'.p E0 (h.p E0 hp)⟩

theorem Env.arO_le {E E' : Env} (h : E.le E') (ns : List Nat) : (E.arO ns).le (E'.arO ns) := by
  refine ⟨fun i b e => (by cases e), fun i q e => (by cases e), fun i r e => (by cases e), fun i bs e => ?_⟩
  simp only [Env.arO] at e ⊢
  split at e
  · rename_i hm; rw [if_pos hm]; exact h.ar i bs e
  · cases e
theorem Env.arO_sub (E : Env) (ns : List Nat) : (E.arO ns).le E := by
  refine ⟨fun i b e => (by cases e), fun i q e => (by cases e), fun i r e => (by cases e), fun i bs e => ?_⟩
  simp only [Env.arO] at e
  split at e
  · exact ⟨[], by simpa using e⟩
  · cases e

abbrev yes : Nat → Bool := fun _ => true

theorem viewA_eq {q q' : RwE} (h : q'.a = q.a ∧ q'.n = q.n ∧ q'.c = q.c ∧ q'.sz = q.sz) (off : Nat) : viewA q' off = viewA q off := by
  obtain ⟨h1, _, h3, h4⟩ := h
  unfold viewA
  rw [h1, h4]

theorem RelS.mono {M M' : Mem} {E E' : Env} (hM : ∀ b j v, M b j = some v → M' b j = some v) (hE : E.le E') {v : Value} {x : AV}
    (h : RelS M E v x) : RelS M' E' v x := by
  induction h with
  | pure h => exact .pure (h.mono hM)
  | any h => exact .any h
  | ptr i off b h => exact .ptr i off b (hE.bx i b h)
  | row i vr n c a q hq hv h =>
    obtain ⟨q', e', hl, hs⟩ := hE.rw i q hq
    refine .row i vr n c a q' e' (Nat.le_trans hv hl) fun e => ?_
    have h1 := hs (by omega)
    obtain ⟨g1, g2, g3⟩ := h (by omega)
    exact ⟨by rw [h1.1]; exact g1, by rw [h1.2.1]; exact g2, by rw [h1.2.2.1]; exact g3⟩
  | rowv i vr off m n c a q hq hv h =>
    obtain ⟨q', e', hl, hs⟩ := hE.rw i q hq
    refine .rowv i vr off m n c a q' e' (Nat.le_trans hv hl) fun e => ?_
    have h1 := hs (by omega)
    obtain ⟨g0, gz, g1, g2, g3⟩ := h (by omega)
    exact ⟨g0, by rw [h1.1]; exact gz, by rw [viewA_eq h1]; exact g1, by rw [h1.2.2.1]; exact g2, g3⟩
  | ep i vr k off ad q hq hv h =>
    obtain ⟨q', e', hl, hs⟩ := hE.rw i q hq
    refine .ep i vr k off ad q' e' (Nat.le_trans hv hl) fun e => ?_
    have h1 := hs (by omega)
    obtain ⟨blk, g1, g2⟩ := h (by omega)
    exact ⟨blk, by rw [h1.1]; exact g1, by rw [h1.2.2.2]; exact g2⟩
  | aptr i k off bs b h hk =>
    obtain ⟨l, e⟩ := hE.ar i bs h
    refine .aptr i k off _ b e ?_
    rw [List.getElem?_append_left (List.getElem?_eq_some_iff.1 hk).1]; exact hk
  | mp i r h => exact .mp i r (hE.mp i r h)
  | popt b x ht hf ih => exact .popt b x ih hf
  | fn f vs cs hl h ih => exact .fn f vs cs hl ih

theorem Rel.mono {M M' : Mem} {E E' : Env} (hM : ∀ b j v, M b j = some v → M' b j = some v) (hE : E.le E') {v : Value} {x : AV}
    (h : Rel M E v x) : Rel M' E' v x := by
  induction h with
  | cell h => exact .cell (h.mono hM hE)
  | agg vs cs hl h => exact .agg vs cs hl fun j v c hv hc => (h j v c hv hc).mono hM hE
  | tup vs cs hl h ih => exact .tup vs cs hl ih
  | any v => exact .any v
  | when v c x h hu ih => exact .when v c x ih hu

mutual
theorem okIn_yes : ∀ x : AV, x.okIn yes yes yes yes = true
  | .int _ _ => rfl
  | .bool _ => rfl
  | .str _ => rfl
  | .nils => rfl
  | .sl _ _ => rfl
  | .rp _ => rfl
  | .nilp => rfl
  | .nilfn => rfl
  | .nilmp => rfl
  | .ub _ _ => rfl
  | .row _ _ => rfl
  | .rowv _ _ _ _ => rfl
  | .ptr _ _ => rfl
  | .ep _ _ _ _ => rfl
  | .aptr _ _ _ => rfl
  | .mp _ => rfl
  | .fn _ caps => by simp only [AV.okIn]; exact okInL_yes caps
  | .popt _ x => by simp only [AV.okIn]; exact okIn_yes x
  | .own _ _ _ _ => rfl
  | .agg cs => by simp only [AV.okIn]; exact okInL_yes cs
  | .tup cs => by simp only [AV.okIn]; exact okInL_yes cs
  | .any => rfl
  | .when _ x => by simp only [AV.okIn]; exact okIn_yes x
theorem okInL_yes : ∀ l : List AV, AV.okInL yes yes yes yes l = true
  | [] => rfl
  | x :: l => by simp only [AV.okInL, okIn_yes x]; exact okInL_yes l
end

theorem RelS.monoM {M M' : Mem} {E : Env} (hM : ∀ b j v, M b j = some v → M' b j = some v) {v : Value} {x : AV} (h : RelS M E v x) : RelS M' E v x :=
  h.mono hM (Env.le_refl E)
theorem Rel.monoM {M M' : Mem} {E : Env} (hM : ∀ b j v, M b j = some v → M' b j = some v) {v : Value} {x : AV} (h : Rel M E v x) : Rel M' E v x :=
  h.mono hM (Env.le_refl E)
theorem RelS.monoE {M : Mem} {E E' : Env} (hE : E.le E') {v : Value} {x : AV} (h : RelS M E v x) : RelS M E' v x :=
  h.mono (fun _ _ _ h => h) hE
theorem Rel.monoE {M : Mem} {E E' : Env} (hE : E.le E') {v : Value} {x : AV} (h : Rel M E v x) : Rel M E' v x :=
  h.mono (fun _ _ _ h => h) hE

theorem RelC.mono {M M' : Mem} {E E' : Env} {w w' : World} {kd i i' p : Nat} (hM : ∀ b j v, M b j = some v → M' b j = some v) (hE : E.le E')
    (ho : ∀ b, E.own b = some (kd, i, p) → E'.own b = some (kd, i', p) ∧ w'.heap[b]? = w.heap[b]?) {v : Value} {x : AV} (h : RelC M E w kd i p v x) : RelC M' E' w' kd i' p v x := by
  cases h with
  | rel h => exact .rel (h.mono hM hE)
  | own ty sz k ys a n c hn hc hm hz hk hb =>
    refine .own ty sz k ys a n c hn hc hm hz hk ?_
    rcases hb with hb | ⟨blk, vs, h1, h2, h3, h4, h5⟩
    · exact .inl hb
    · obtain ⟨g1, g2⟩ := ho blk h2
      exact .inr ⟨blk, vs, h1, g1, by rw [g2]; exact h3, h4, fun j u hu => let ⟨v, hv, hr⟩ := h5 j u hu; ⟨v, hv, hr.mono hM⟩⟩

theorem CsOk.mono {M M' : Mem} {E E' : Env} {w w' : World} {pu : Nat} {ns : List Nat} {kd i i' p : Nat} {vs : Array Value} {cs : List AV} (h : CsOk M E w pu ns kd i p vs cs)
    (hM : ∀ b j v, M b j = some v → M' b j = some v) (hE : pu ≠ 0 → (E.arO ns).le (E'.arO ns)) (ho : ∀ b j, E.own b = some (kd, i, j) → E'.own b = some (kd, i', j) ∧ w'.heap[b]? = w.heap[b]?) : CsOk M' E' w' pu ns kd i' p vs cs := by
  intro j u hu
  obtain ⟨v, hv, hr⟩ := h j u hu
  refine ⟨v, hv, ?_⟩
  match pu, hE, hr with
  | 0, _, hr => exact RelP.mono hM hr
  | 1, hE, hr => exact RelS.mono hM (hE (by simp)) hr
  | n + 2, hE, hr => exact RelC.mono hM (hE (by simp)) (fun b hb => ho b _ hb) hr

theorem RwOk.mono {M M' : Mem} {E E' : Env} {w w' : World} {i : Nat} {q : RwE} {r : Rw} (h : RwOk M E w i q r)
    (hM : ∀ b j v, M b j = some v → M' b j = some v) (hE : E.le E')
    (h1 : ∀ b, E.own b = some (1, i, 0) → E'.own b = some (1, i, 0) ∧ w'.heap[b]? = w.heap[b]?) (h5 : ∀ b j, E.own b = some (5, i, j) → E'.own b = some (5, i, j) ∧ w'.heap[b]? = w.heap[b]?) : RwOk M' E' w' i q r := by
  refine { h with blk := ?_ }
  rcases h.blk with hb | ⟨blk, vs, g1, g2, g3, g4, g5⟩
  · exact .inl hb
  · obtain ⟨e1, e2⟩ := h1 blk g2
    exact .inr ⟨blk, vs, g1, e1, by rw [e2]; exact g3, g4, g5.mono hM (fun _ => Env.arO_le hE _) h5⟩

theorem ArOk.mono {M M' : Mem} {E E' : Env} {w w' : World} {i : Nat} {bs : List Nat} {r : Arn} (h : ArOk M E w i bs r)
    (hM : ∀ b j v, M b j = some v → M' b j = some v) (hE : E.le E')
    (h3 : ∀ b j, E.own b = some (3, i, j) → E'.own b = some (3, i, j) ∧ w'.heap[b]? = w.heap[b]?) (h6 : ∀ b j, E.own b = some (6, i, j) → E'.own b = some (6, i, j) ∧ w'.heap[b]? = w.heap[b]?) : ArOk M' E' w' i bs r := by
  refine { h with el := fun k x hx => ?_ }
  obtain ⟨b, vs, g1, g2, g3, g4, g5⟩ := h.el k x hx
  obtain ⟨e1, e2⟩ := h3 b k g2
  exact ⟨b, vs, g1, e1, by rw [e2]; exact g3, g4, g5.mono hM (fun _ => Env.arO_le hE _) h6⟩

theorem RelP.one {M : Mem} {v : Value} {x : AV} (h : RelP M v x) : v.oneCell' = true ∧ x.cells = [x] := by
  cases h <;> exact ⟨rfl, rfl⟩
theorem RelS.one {M : Mem} {E : Env} {v : Value} {x : AV} (h : RelS M E v x) : v.oneCell' = true ∧ x.cells = [x] := by
  induction h with
  | pure h => exact h.one
  | any h => exact ⟨h, rfl⟩
  | popt b x ht hf ih =>
    refine ⟨?_, rfl⟩
    cases b with
    | true => exact (ih rfl).1
    | false => rw [hf rfl]; rfl
  | _ => exact ⟨rfl, rfl⟩
theorem RelC.one {M : Mem} {E : Env} {w : World} {kd i p : Nat} {v : Value} {x : AV} (h : RelC M E w kd i p v x) : v.oneCell' = true ∧ x.cells = [x] := by
  cases h with
  | rel h => exact h.one
  | own => exact ⟨rfl, rfl⟩
theorem cells_of_one {v : Value} (h : v.oneCell' = true) : v.cells = #[v] := by
  cases v <;> first | rfl | (simp [Value.oneCell'] at h)

/-- a value of one cell -/
def AV.isCell : AV → Bool
  | .agg _ | .tup _ | .any | .when _ _ | .own _ _ _ _ => false
  | _ => true

theorem Rel.of_cell {M : Mem} {E : Env} {v : Value} {x : AV} (h : Rel M E v x) (hx : x.isCell = true) : RelS M E v x := by
  cases h with
  | cell h => exact h
  | _ => cases hx

/-- the cells of a value, each as it is said -/
theorem Rel.cells {M : Mem} {E : Env} {v : Value} {x : AV} (h : Rel M E v x) (hx : x.cells.all AV.isCell = true) :
    v.cells.size = x.cells.length ∧ ∀ (j : Nat) (u : Value) (c : AV), v.cells[j]? = some u → x.cells[j]? = some c → RelS M E u c := by
  cases h with
  | cell h =>
    obtain ⟨h1, h2⟩ := h.one
    rw [cells_of_one h1, h2]
    refine ⟨rfl, fun j u c hu hc => ?_⟩
    cases j with
    | zero => simp at hu hc; subst hu; subst hc; exact h
    | succ j => simp at hu
  | agg vs cs hl h =>
    refine ⟨by simpa [Value.cells, AV.cells] using hl, fun j u c hu hc => h j u c (by simpa [Value.cells] using hu) hc⟩
  | tup vs cs _ _ => simp [AV.cells, AV.isCell] at hx
  | any => simp [AV.cells, AV.isCell] at hx
  | when => simp [AV.cells, AV.isCell] at hx

/- inversions -/
section
variable {M : Mem} {E : Env} {v : Value}
theorem Rel.bool_inv {b : Bool} (h : Rel M E v (.bool b)) : v = .bool b := by
  cases h with
  | cell h => cases h with
    | pure h => cases h; rfl
theorem Rel.int_inv {k : IntKind} {n : Int} (h : Rel M E v (.int k n)) : v = .int k n := by
  cases h with
  | cell h => cases h with
    | pure h => cases h; rfl
theorem Rel.str_inv {x : List UInt8} (h : Rel M E v (.str x)) : v = .string ⟨x.toArray⟩ := by
  cases h with
  | cell h => cases h with
    | pure h => cases h; rfl
theorem Rel.nils_inv (h : Rel M E v .nils) : v = .slice none 0 0 := by
  cases h with
  | cell h => cases h with
    | pure h => cases h; rfl
theorem Rel.nilp_inv (h : Rel M E v .nilp) : v = .pointer none := by
  cases h with
  | cell h => cases h with
    | pure h => cases h; rfl
theorem Rel.sl_inv {sz : Nat} {xs : List AV} (h : Rel M E v (.sl sz xs)) : RelP M v (.sl sz xs) ∧ ∃ a c, v = .slice a xs.length c ∧ xs.length ≤ c ∧ c ≤ maxLen := by
  cases h with
  | cell h => cases h with
    | pure h =>
      refine ⟨h, ?_⟩
      cases h with
      | sl a n c sz xs f hn hc hb hz ha hf => subst hn; exact ⟨a, c, rfl, hc, hb⟩
theorem Rel.ptr_inv {i o : Nat} (h : Rel M E v (.ptr i o)) : ∃ b, E.bx i = some b ∧ v = .pointer (some ⟨b, o, none⟩) := by
  cases h with
  | cell h => cases h with
    | pure h => cases h
    | ptr i off b h => exact ⟨b, h, rfl⟩
theorem Rel.rp_inv {x : AV} (h : Rel M E v (.rp x)) : ∃ blk off, v = .pointer (some ⟨blk, off, none⟩) ∧
    ∃ f : Nat → Value, (∀ j, j < x.cells.length → M blk (off + j) = some (f j)) ∧ ∀ (j : Nat) (u : AV), x.cells[j]? = some u → RelP M (f j) u := by
  cases h with
  | cell h => cases h with
    | pure h => cases h with
      | rp blk off x f ha hf => exact ⟨blk, off, rfl, f, ha, hf⟩
theorem Rel.row_inv {i vr : Nat} (h : Rel M E v (.row i vr)) : ∃ n c a q, v = .slice a n c ∧ E.rw i = some q ∧ vr ≤ q.ver ∧ (vr = q.ver → a = q.a ∧ n = q.n ∧ c = q.c) := by
  cases h with
  | cell h => cases h with
    | pure h => cases h
    | row i vr n c a q hq hv h => exact ⟨n, c, a, q, rfl, hq, hv, h⟩
theorem Rel.rowv_inv {i vr off m : Nat} (h : Rel M E v (.rowv i vr off m)) : ∃ n c a q, v = .slice a n c ∧ E.rw i = some q ∧ vr ≤ q.ver ∧ (vr = q.ver → n = m ∧ (off = 0 → a = q.a) ∧ (c ≠ 0 → a = viewA q off) ∧ off + c = q.c ∧ n ≤ c) := by
  cases h with
  | cell h => cases h with
    | pure h => cases h
    | rowv i vr off m n c a q hq hv h => exact ⟨n, c, a, q, rfl, hq, hv, h⟩
theorem Rel.ep_inv {i vr k o : Nat} (h : Rel M E v (.ep i vr k o)) : ∃ ad q, v = .pointer (some ad) ∧ E.rw i = some q ∧ vr ≤ q.ver ∧ (vr = q.ver → ∃ blk, q.a = some ⟨blk, 0, none⟩ ∧ ad = ⟨blk, k * q.sz + o, none⟩) := by
  cases h with
  | cell h => cases h with
    | pure h => cases h
    | ep i vr k off ad q hq hv h => exact ⟨ad, q, rfl, hq, hv, h⟩
theorem Rel.aptr_inv {i k o : Nat} (h : Rel M E v (.aptr i k o)) : ∃ bs b, E.ar i = some bs ∧ bs[k]? = some b ∧ v = .pointer (some ⟨b, o, none⟩) := by
  cases h with
  | cell h => cases h with
    | pure h => cases h
    | aptr i k off bs b h hk => exact ⟨bs, b, h, hk, rfl⟩
theorem Rel.mp_inv {i : Nat} (h : Rel M E v (.mp i)) : ∃ r, E.mp i = some r ∧ v = .map (some r) := by
  cases h with
  | cell h => cases h with
    | pure h => cases h
    | mp i r h => exact ⟨r, h, rfl⟩
theorem Rel.popt_inv {b : Bool} {x : AV} (h : Rel M E v (.popt b x)) : (b = true → RelS M E v x) ∧ (b = false → v = .pointer none) := by
  cases h with
  | cell h => cases h with
    | pure h => cases h
    | popt b x ht hf => exact ⟨ht, hf⟩
theorem Rel.agg_inv {cs : List AV} (h : Rel M E v (.agg cs)) : ∃ vs : List Value, v = .agg vs.toArray ∧ vs.length = cs.length ∧
    ∀ (j : Nat) (v : Value) (c : AV), vs[j]? = some v → cs[j]? = some c → RelS M E v c := by
  cases h with
  | cell h => cases h with
    | pure h => cases h
  | agg vs cs hl h => exact ⟨vs, rfl, hl, h⟩
theorem Rel.tup_inv {cs : List AV} (h : Rel M E v (.tup cs)) : ∃ vs : List Value, v = .tuple vs.toArray ∧ vs.length = cs.length ∧
    ∀ (j : Nat) (v : Value) (c : AV), vs[j]? = some v → cs[j]? = some c → Rel M E v c := by
  cases h with
  | cell h => cases h with
    | pure h => cases h
  | tup vs cs hl h => exact ⟨vs, rfl, hl, h⟩
theorem Rel.fn_inv {f : FuncId} {cs : List AV} (h : Rel M E v (.fn f cs)) : ∃ vs : List Value, v = .func (.func f) #[] vs.toArray ∧ vs.length = cs.length ∧
    ∀ (j : Nat) (v : Value) (c : AV), vs[j]? = some v → cs[j]? = some c → RelS M E v c := by
  cases h with
  | cell h => cases h with
    | pure h => cases h
    | fn f vs cs hl h => exact ⟨vs, rfl, hl, h⟩
theorem Rel.when_inv {c : List (Nat × Bool)} {x : AV} (h : Rel M E v (.when c x)) : allB c = true → Rel M E v x := by
  cases h with
  | cell h => cases h with
    | pure h => cases h
  | when v c x h => exact h
theorem Rel.when_undef {c : List (Nat × Bool)} {x : AV} (h : Rel M E v (.when c x)) : allB c = false → v = undef := by
  cases h with
  | cell h => cases h with
    | pure h => cases h
  | when v c x h hu => exact hu
end

end Go.Dm
