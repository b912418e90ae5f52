/- An abstract machine over the model's code: abstract values, states, and how they stand for the concrete ones. Over any program. -/
import Derived.WalkKit
namespace Go.Ab
open Go

abbrev Mem := Nat → Nat → Option Value

inductive AV where
  | int (k : IntKind) (n : Int)
  | bool (b : Bool)
  | str (s : List UInt8)
  | nils
  | sl (sz : Nat) (xs : List AV)
  | rp (x : AV)
  | nilp
  | nilfn
  | nilmp
  | row (i st : Nat)
  | rowv (i st off n : Nat)
  | ptr (i off : Nat)
  | ep (i st k off : Nat)
  | mp (i : Nat)
  | fn (f : FuncId) (caps : List AV)
  | agg (cs : List AV)
  | tup (vs : List AV)
  | any

instance : Inhabited AV := ⟨.any⟩

def AV.cells : AV → List AV
  | .agg cs => cs
  | x => [x]

def flat (xs : List AV) : List AV := xs.flatMap AV.cells

/-- values that hang on sealed memory alone -/
inductive RelP (M : Mem) : Value → AV → Prop
  | int (k : IntKind) (n : Int) : RelP M (.int k n) (.int k n)
  | bool (b : Bool) : RelP M (.bool b) (.bool b)
  | str (s : List UInt8) : RelP M (.string ⟨s.toArray⟩) (.str s)
  | nils : RelP M (.slice none 0 0) .nils
  | sl (a : Option Addr) (n c sz : Nat) (xs : List AV) (f : Nat → Value) (hn : xs.length = n) (hc : n ≤ c) (hb : c ≤ maxLen)
      (hz : ∀ x ∈ xs, x.cells.length = sz)
      (ha : xs ≠ [] → ∃ blk off, a = some ⟨blk, off, none⟩ ∧ ∀ j, j < (flat xs).length → M blk (off + j) = some (f j))
      (hf : ∀ (j : Nat) (u : AV), (flat xs)[j]? = some u → RelP M (f j) u) : RelP M (.slice a n c) (.sl sz xs)
  | rp (blk off : Nat) (x : AV) (f : Nat → Value) (ha : ∀ j, j < x.cells.length → M blk (off + j) = some (f j))
      (hf : ∀ (j : Nat) (u : AV), x.cells[j]? = some u → RelP M (f j) u) : RelP M (.pointer (some ⟨blk, off, none⟩)) (.rp x)
  | nilp : RelP M (.pointer none) .nilp
  | nilfn : RelP M .nilFunc .nilfn
  | nilmp : RelP M (.map none) .nilmp

structure RwE where
  st : Nat
  a : Option Addr
  n : Nat
  c : Nat
  sz : Nat

structure Env where
  bx : Nat → Option Nat
  rw : Nat → Option RwE
  mp : Nat → Option Nat
  own : Nat → Option (Nat × Nat)

def viewA (q : RwE) (off : Nat) : Option Addr := if off = 0 then q.a else if q.c = off then q.a else q.a.map (·.add (off * q.sz))

/-- values of one cell -/
inductive RelS (M : Mem) (E : Env) : Value → AV → Prop
  | pure {v : Value} {x : AV} (h : RelP M v x) : RelS M E v x
  | ptr (i off b : Nat) (h : E.bx i = some b) : RelS M E (.pointer (some ⟨b, off, none⟩)) (.ptr i off)
  | row (i st n c : Nat) (a : Option Addr) (q : RwE) (h : E.rw i = some q) (hs : st ≤ q.st)
      (hv : st = q.st → a = q.a ∧ n = q.n ∧ c = q.c) : RelS M E (.slice a n c) (.row i st)
  | rowv (i st off n c : Nat) (a : Option Addr) (q : RwE) (h : E.rw i = some q) (hs : st ≤ q.st)
      (hv : st = q.st → a = viewA q off ∧ off + c = q.c ∧ n ≤ c) : RelS M E (.slice a n c) (.rowv i st off n)
  | ep (i st k off : Nat) (ad : Addr) (q : RwE) (h : E.rw i = some q) (hs : st ≤ q.st)
      (hv : st = q.st → ∃ blk, q.a = some ⟨blk, 0, none⟩ ∧ ad = ⟨blk, k * q.sz + off, none⟩) : RelS M E (.pointer (some ad)) (.ep i st k off)
  | mp (i r : Nat) (h : E.mp i = some r) : RelS M E (.map (some r)) (.mp i)
  | fn (f : FuncId) (vs : List Value) (cs : List AV) (hl : vs.length = cs.length)
      (h : ∀ (j : Nat) (v : Value) (c : AV), vs[j]? = some v → cs[j]? = some c → RelS M E v c) : RelS M E (.func (.func f) #[] vs.toArray) (.fn f cs)

inductive Rel (M : Mem) (E : Env) : Value → AV → Prop
  | cell {v : Value} {x : AV} (h : RelS M E v x) : Rel M E v x
  | agg (vs : List Value) (cs : List AV) (hl : vs.length = cs.length)
      (h : ∀ (j : Nat) (v : Value) (c : AV), vs[j]? = some v → cs[j]? = some c → RelS M E v c) : Rel M E (.agg vs.toArray) (.agg cs)
  | tup (vs : List Value) (cs : List AV) (hl : vs.length = cs.length)
      (h : ∀ (j : Nat) (v : Value) (c : AV), vs[j]? = some v → cs[j]? = some c → Rel M E v c) : Rel M E (.tuple vs.toArray) (.tup cs)
  | any (v : Value) : Rel M E v .any

structure Rw where
  st : Nat
  sz : Nat
  xs : List AV

structure S where
  fr : List (Nat × AV)
  bx : List (Nat × List AV)
  rw : List (Nat × Rw)
  mp : List (Nat × List (AV × AV))

def aget {α : Type} : List (Nat × α) → Nat → Option α
  | [], _ => none
  | (j, v) :: l, i => if i = j then some v else aget l i

def aput {α : Type} : List (Nat × α) → Nat → α → List (Nat × α)
  | [], i, v => [(i, v)]
  | (j, u) :: l, i, v => if i = j then (i, v) :: l else if j < i then (i, v) :: (j, u) :: l else (j, u) :: aput l i v

theorem get_put {α : Type} (l : List (Nat × α)) (i : Nat) (v : α) (k : Nat) : aget (aput l i v) k = if k = i then some v else aget l k := by
  induction l with
  | nil => simp [aput, aget]
  | cons p l ih =>
    obtain ⟨j, u⟩ := p
    simp only [aput]
    split
    · rename_i h; subst h
      simp only [aget]
      split <;> simp_all
    · split
      · simp only [aget]
      · simp only [aget, ih]
        split
        · rename_i h h1 h2
          rw [if_neg (by omega)]
        · rfl

def BxOk (M : Mem) (E : Env) (w : World) (b : Nat) (cs : List AV) : Prop :=
  ∃ (t : TypeId) (vs : Array Value), w.heap[b]? = some (.cells vs t (0, 0)) ∧ vs.size = cs.length ∧
    ∀ (j : Nat) (v : Value) (c : AV), vs[j]? = some v → cs[j]? = some c → RelS M E v c

def RwOk (M : Mem) (E : Env) (w : World) (i : Nat) (q : RwE) (r : Rw) : Prop :=
  q.st = r.st ∧ q.sz = r.sz ∧ q.n = r.xs.length ∧ q.n ≤ q.c ∧ q.c ≤ maxLen ∧ (∀ x ∈ r.xs, x.cells.length = r.sz) ∧
    (q.c = 0 ∨ ∃ (blk : Nat) (t : TypeId) (vs : Array Value), q.a = some ⟨blk, 0, none⟩ ∧ E.own blk = some (1, i) ∧
      w.heap[blk]? = some (.cells vs t (0, 0)) ∧ vs.size = q.c * q.sz ∧
      ∀ (j : Nat) (u : AV), (flat r.xs)[j]? = some u → ∃ v, vs[j]? = some v ∧ RelP M v u)

def MpOk (M : Mem) (E : Env) (w : World) (r : Nat) (es : List (AV × AV)) : Prop :=
  ∃ (ents : Array MapEntry) (clock : Nat), w.heap[r]? = some (.map ents clock) ∧ ents.size = es.length ∧
    ∀ (j : Nat) (e : MapEntry) (p : AV × AV), ents[j]? = some e → es[j]? = some p → RelP M e.key p.1 ∧ Rel M E e.val p.2

structure Gh where
  w0 : World
  F : Nat → Prop
  M0 : Mem

structure St (g : Gh) (N : Nat) (M : Mem) (E : Env) (s : S) (tmps : Array Value) (w : World) : Prop where
  size : tmps.size = N
  fr : ∀ i av, aget s.fr i = some av → i < N ∧ Rel M E (tmps.getD i undef) av
  mem : ∀ b j v, M b j = some v → w.cell? ⟨b, j, none⟩ = some v ∧ E.own b = none
  bx : ∀ i cs, aget s.bx i = some cs → ∃ b, E.bx i = some b ∧ E.own b = some (0, i) ∧ BxOk M E w b cs
  bxn : ∀ i, aget s.bx i = none → E.bx i = none
  rw : ∀ i r, aget s.rw i = some r → ∃ q, E.rw i = some q ∧ RwOk M E w i q r
  rwn : ∀ i, aget s.rw i = none → E.rw i = none
  mp : ∀ i es, aget s.mp i = some es → ∃ r, E.mp i = some r ∧ E.own r = some (2, i) ∧ MpOk M E w r es
  mpn : ∀ i, aget s.mp i = none → E.mp i = none
  live : ∀ b o, E.own b = some o → b < w.heap.size
  foreign : ∀ b, g.F b → b < w.heap.size ∧ w.heap[b]? = g.w0.heap[b]? ∧ E.own b = none
  m0 : ∀ b j v, g.M0 b j = some v → M b j = some v
  mf : ∀ b j v, M b j = some v → g.F b → g.M0 b j = some v
  os : w.os = g.w0.os
  tape : w.tape = g.w0.tape
  output : w.output = g.w0.output
  grow : g.w0.heap.size ≤ w.heap.size

/-- the concrete states for which an abstract one stands -/
def H (g : Gh) (N : Nat) (s : S) (a : Act) (w : World) : Prop := a.defers = [] ∧ ∃ M E, St g N M E s a.tmps w

/- what the relations keep -/

theorem RelP.mono {M M' : Mem} (hM : ∀ b j v, M b j = some v → M' b j = some v) {v : Value} {x : AV} (h : RelP M v x) : RelP M' v x := by
  induction h with
  | int k n => exact .int k n
  | bool b => exact .bool b
  | str s => exact .str s
  | nils => exact .nils
  | sl a n c sz xs f hn hc hb hz ha hf ih =>
    refine .sl a n c sz xs f hn hc hb hz (fun h => ?_) ih
    obtain ⟨blk, off, e, hj⟩ := ha h
    exact ⟨blk, off, e, fun j hlt => hM _ _ _ (hj j hlt)⟩
  | rp blk off x f ha hf ih => exact .rp blk off x f (fun j hlt => hM _ _ _ (ha j hlt)) ih
  | nilp => exact .nilp
  | nilfn => exact .nilfn
  | nilmp => exact .nilmp

structure Env.le (E E' : Env) : Prop where
  bx : ∀ i b, E.bx i = some b → E'.bx i = some b
  rw : ∀ i q, E.rw i = some q → ∃ q', E'.rw i = some q' ∧ q.st ≤ q'.st ∧ (q.st = q'.st → q' = q)
  mp : ∀ i r, E.mp i = some r → E'.mp i = some r

theorem Env.le_refl (E : Env) : E.le E := ⟨fun _ _ h => h, fun _ q h => ⟨q, h, Nat.le_refl _, fun _ => rfl⟩, fun _ _ h => h⟩

theorem RelS.mono {M M' : Mem} {E E' : Env} (hM : ∀ b j v, M b j = some v → M' b j = some v) (hE : E.le E') {v : Value} {x : AV}
    (h : RelS M E v x) : RelS M' E' v x := by
  induction h with
  | pure h => exact .pure (h.mono hM)
  | ptr i off b h => exact .ptr i off b (hE.bx i b h)
  | row i st n c a q h hs hv =>
    obtain ⟨q', h', hle, heq⟩ := hE.rw i q h
    refine .row i st n c a q' h' (Nat.le_trans hs hle) (fun e => ?_)
    have e1 : q.st = q'.st := by omega
    rw [heq e1]
    exact hv (by omega)
  | rowv i st off n c a q h hs hv =>
    obtain ⟨q', h', hle, heq⟩ := hE.rw i q h
    refine .rowv i st off n c a q' h' (Nat.le_trans hs hle) (fun e => ?_)
    have e1 : q.st = q'.st := by omega
    rw [heq e1]
    exact hv (by omega)
  | ep i st k off ad q h hs hv =>
    obtain ⟨q', h', hle, heq⟩ := hE.rw i q h
    refine .ep i st k off ad q' h' (Nat.le_trans hs hle) (fun e => ?_)
    have e1 : q.st = q'.st := by omega
    rw [heq e1]
    exact hv (by omega)
  | mp i r h => exact .mp i r (hE.mp i r h)
  | fn f vs cs hl h ih => exact .fn f vs cs hl ih

theorem Rel.mono {M M' : Mem} {E E' : Env} (hM : ∀ b j v, M b j = some v → M' b j = some v) (hE : E.le E') {v : Value} {x : AV}
    (h : Rel M E v x) : Rel M' E' v x := by
  induction h with
  | cell h => exact .cell (h.mono hM hE)
  | agg vs cs hl h => exact .agg vs cs hl fun j v c hv hc => (h j v c hv hc).mono hM hE
  | tup vs cs hl h ih => exact .tup vs cs hl ih
  | any v => exact .any v

theorem RelP.one {M : Mem} {v : Value} {x : AV} (h : RelP M v x) : v.oneCell' = true ∧ x.cells = [x] := by
  cases h <;> exact ⟨rfl, rfl⟩
theorem RelS.one {M : Mem} {E : Env} {v : Value} {x : AV} (h : RelS M E v x) : v.oneCell' = true ∧ x.cells = [x] := by
  cases h with
  | pure h => exact h.one
  | _ => exact ⟨rfl, rfl⟩
theorem cells_of_one {v : Value} (h : v.oneCell' = true) : v.cells = #[v] := by
  cases v <;> first | rfl | (simp [Value.oneCell'] at h)

/-- the cells of a value, each as it is said -/
theorem Rel.cells {M : Mem} {E : Env} {v : Value} {x : AV} (h : Rel M E v x) (hx : x ≠ .any) (ht : ∀ l, x ≠ .tup l) :
    v.cells.size = x.cells.length ∧ ∀ (j : Nat) (u : Value) (c : AV), v.cells[j]? = some u → x.cells[j]? = some c → RelS M E u c := by
  cases h with
  | cell h =>
    obtain ⟨h1, h2⟩ := h.one
    rw [cells_of_one h1, h2]
    refine ⟨rfl, fun j u c hu hc => ?_⟩
    cases j with
    | zero => simp at hu hc; subst hu; subst hc; exact h
    | succ j => simp at hu
  | agg vs cs hl h =>
    refine ⟨by simpa [Value.cells, AV.cells] using hl, fun j u c hu hc => h j u c (by simpa [Value.cells] using hu) hc⟩
  | tup vs cs _ _ => exact absurd rfl (ht cs)
  | any => exact absurd rfl hx

theorem H.weaken {g : Gh} {N : Nat} {s : S} {a : Act} {w : World} (h : H g N s a w) {fr : List (Nat × AV)}
    (hf : ∀ i av, aget fr i = some av → aget s.fr i = some av ∨ (av = .any ∧ i < N)) : H g N { s with fr := fr } a w := by
  obtain ⟨hd, M, E, hs⟩ := h
  refine ⟨hd, M, E, { hs with fr := fun i av hi => ?_ }⟩
  rcases hf i av hi with h | ⟨rfl, h⟩
  · exact hs.fr i av h
  · exact ⟨h, .any _⟩

end Go.Ab
