/- An abstract machine over the model's code: abstract values, states, and how they stand for the concrete ones. Over any program. -/
import Derived.WalkKit
namespace Go.Dm
open Go

abbrev Mem := Nat → Nat → Option Value

inductive AV where
  | int (k : IntKind) (n : Int)
  | bool (b : Bool)
  | str (s : List UInt8)
  | nils
  | sl (sz : Nat) (xs : List AV)
  | rp (x : AV)
  | nilp
  | nilfn
  | nilmp
  | row (i : Nat)
  | rowv (i off n : Nat)
  | ptr (i off : Nat)
  | ep (i k off : Nat)
  | mp (i : Nat)
  | fn (f : FuncId) (caps : List AV)
  | agg (cs : List AV)
  | tup (vs : List AV)
  | any
  | when (cs : List (Nat × Bool)) (x : AV)

instance : Inhabited AV := ⟨.any⟩

/-- all of some conditions -/
def allB : List (Nat × Bool) → Bool
  | [] => true
  | (_, c) :: l => c && allB l

def AV.cells : AV → List AV
  | .agg cs => cs
  | x => [x]

def flat (xs : List AV) : List AV := xs.flatMap AV.cells

/-- values that hang on sealed memory alone -/
inductive RelP (M : Mem) : Value → AV → Prop
  | int (k : IntKind) (n : Int) : RelP M (.int k n) (.int k n)
  | bool (b : Bool) : RelP M (.bool b) (.bool b)
  | str (s : List UInt8) : RelP M (.string ⟨s.toArray⟩) (.str s)
  | nils : RelP M (.slice none 0 0) .nils
  | sl (a : Option Addr) (n c sz : Nat) (xs : List AV) (f : Nat → Value) (hn : xs.length = n) (hc : n ≤ c) (hb : c ≤ maxLen)
      (hz : ∀ x ∈ xs, x.cells.length = sz)
      (ha : xs ≠ [] → ∃ blk off, a = some ⟨blk, off, none⟩ ∧ ∀ j, j < (flat xs).length → M blk (off + j) = some (f j))
      (hf : ∀ (j : Nat) (u : AV), (flat xs)[j]? = some u → RelP M (f j) u) : RelP M (.slice a n c) (.sl sz xs)
  | rp (blk off : Nat) (x : AV) (f : Nat → Value) (ha : ∀ j, j < x.cells.length → M blk (off + j) = some (f j))
      (hf : ∀ (j : Nat) (u : AV), x.cells[j]? = some u → RelP M (f j) u) : RelP M (.pointer (some ⟨blk, off, none⟩)) (.rp x)
  | nilp : RelP M (.pointer none) .nilp
  | nilfn : RelP M .nilFunc .nilfn
  | nilmp : RelP M (.map none) .nilmp

structure RwE where
  a : Option Addr
  n : Nat
  c : Nat
  sz : Nat

structure Env where
  bx : Nat → Option Nat
  rw : Nat → Option RwE
  mp : Nat → Option Nat
  own : Nat → Option (Nat × Nat)

def viewA (q : RwE) (off : Nat) : Option Addr := if off = 0 then q.a else if q.c = off then q.a else q.a.map (·.add (off * q.sz))

/-- values of one cell -/
inductive RelS (M : Mem) (E : Env) : Value → AV → Prop
  | pure {v : Value} {x : AV} (h : RelP M v x) : RelS M E v x
  | ptr (i off b : Nat) (h : E.bx i = some b) : RelS M E (.pointer (some ⟨b, off, none⟩)) (.ptr i off)
  | row (i n c : Nat) (a : Option Addr) (hv : ∀ q, E.rw i = some q → a = q.a ∧ n = q.n ∧ c = q.c) : RelS M E (.slice a n c) (.row i)
  | rowv (i off n c : Nat) (a : Option Addr) (hv : ∀ q, E.rw i = some q → a = viewA q off ∧ off + c = q.c ∧ n ≤ c) : RelS M E (.slice a n c) (.rowv i off n)
  | ep (i k off : Nat) (ad : Addr) (hv : ∀ q, E.rw i = some q → ∃ blk, q.a = some ⟨blk, 0, none⟩ ∧ ad = ⟨blk, k * q.sz + off, none⟩) : RelS M E (.pointer (some ad)) (.ep i k off)
  | mp (i r : Nat) (h : E.mp i = some r) : RelS M E (.map (some r)) (.mp i)
  | fn (f : FuncId) (vs : List Value) (cs : List AV) (hl : vs.length = cs.length)
      (h : ∀ (j : Nat) (v : Value) (c : AV), vs[j]? = some v → cs[j]? = some c → RelS M E v c) : RelS M E (.func (.func f) #[] vs.toArray) (.fn f cs)

inductive Rel (M : Mem) (E : Env) : Value → AV → Prop
  | cell {v : Value} {x : AV} (h : RelS M E v x) : Rel M E v x
  | agg (vs : List Value) (cs : List AV) (hl : vs.length = cs.length)
      (h : ∀ (j : Nat) (v : Value) (c : AV), vs[j]? = some v → cs[j]? = some c → RelS M E v c) : Rel M E (.agg vs.toArray) (.agg cs)
  | tup (vs : List Value) (cs : List AV) (hl : vs.length = cs.length)
      (h : ∀ (j : Nat) (v : Value) (c : AV), vs[j]? = some v → cs[j]? = some c → Rel M E v c) : Rel M E (.tuple vs.toArray) (.tup cs)
  | any (v : Value) : Rel M E v .any
  | when (v : Value) (c : List (Nat × Bool)) (x : AV) (h : allB c = true → Rel M E v x) (hu : allB c = false → v = undef) : Rel M E v (.when c x)

/-- an own row: its elements' cells, its elements, and how many of its first elements may be sealed -/
structure Rw where
  sz : Nat
  xs : List AV
  k : Nat

structure S where
  fr : List (Nat × AV)
  bx : List (Nat × List AV)
  rw : List (Nat × Option Rw)
  mp : List (Nat × List (AV × AV))

def aget {α : Type} : List (Nat × α) → Nat → Option α
  | [], _ => none
  | (j, v) :: l, i => match Nat.beq i j with
    | true => some v
    | false => aget l i

def rget (l : List (Nat × Option Rw)) (i : Nat) : Option Rw :=
  match aget l i with
  | some (some r) => some r
  | _ => none

theorem beq_true {i j : Nat} (h : Nat.beq i j = true) : i = j := Nat.eq_of_beq_eq_true h
theorem beq_false {i j : Nat} (h : Nat.beq i j = false) : i ≠ j := Nat.ne_of_beq_eq_false h

theorem aget_cons {α : Type} (j : Nat) (v : α) (l : List (Nat × α)) (i : Nat) : aget ((j, v) :: l) i = if i = j then some v else aget l i := by
  simp only [aget]
  split
  · rename_i h; rw [if_pos (beq_true h)]
  · rename_i h; rw [if_neg (beq_false h)]
theorem aget_append {α : Type} (a b : List (Nat × α)) (i : Nat) : aget (a ++ b) i = match aget a i with | some v => some v | none => aget b i := by
  induction a with
  | nil => rfl
  | cons p a ih =>
    obtain ⟨j, v⟩ := p
    rw [List.cons_append, aget_cons, aget_cons]
    split
    · rfl
    · exact ih
theorem rget_cons (j : Nat) (v : Option Rw) (l : List (Nat × Option Rw)) (i : Nat) : rget ((j, v) :: l) i = if i = j then v else rget l i := by
  unfold rget
  rw [aget_cons]
  split
  · rename_i h; split at h
    · rename_i e; rw [if_pos e]; cases h; rfl
    · rename_i e; rw [if_neg e]; rw [h]
  · rename_i h
    by_cases e : i = j
    · rw [if_pos e] at h ⊢
      cases v with
      | none => rfl
      | some r => exact absurd rfl (h r)
    · rw [if_neg e] at h ⊢
      split
      · rename_i h'; exact absurd h' (h _)
      · rfl

def BxOk (M : Mem) (E : Env) (w : World) (b : Nat) (cs : List AV) : Prop :=
  ∃ (t : TypeId) (vs : Array Value), w.heap[b]? = some (.cells vs t (0, 0)) ∧ vs.size = cs.length ∧
    ∀ (j : Nat) (v : Value) (c : AV), vs[j]? = some v → cs[j]? = some c → RelS M E v c

def RwOk (M : Mem) (E : Env) (w : World) (i : Nat) (q : RwE) (r : Rw) : Prop :=
  q.sz = r.sz ∧ q.n = r.xs.length ∧ q.n ≤ q.c ∧ q.c ≤ maxLen ∧ (∀ x ∈ r.xs, x.cells.length = r.sz) ∧
    ((q.c = 0 ∧ q.a = none) ∨ ∃ (blk : Nat) (t : TypeId) (vs : Array Value), q.a = some ⟨blk, 0, none⟩ ∧ E.own blk = some (1, i) ∧
      w.heap[blk]? = some (.cells vs t (0, 0)) ∧ vs.size = q.c * q.sz ∧
      ∀ (j : Nat) (u : AV), (flat r.xs)[j]? = some u → ∃ v, vs[j]? = some v ∧ RelP M v u)

def MpOk (M : Mem) (E : Env) (w : World) (r : Nat) (es : List (AV × AV)) : Prop :=
  ∃ (ents : Array MapEntry) (clock : Nat), w.heap[r]? = some (.map ents clock) ∧ ents.size = es.length ∧
    ∀ (j : Nat) (e : MapEntry) (p : AV × AV), ents[j]? = some e → es[j]? = some p → RelP M e.key p.1 ∧ Rel M E e.val p.2

structure Gh where
  w0 : World
  F : Nat → Prop
  M0 : Mem

structure St (g : Gh) (N : Nat) (M : Mem) (E : Env) (s : S) (tmps : Array Value) (w : World) : Prop where
  size : tmps.size = N
  fr : ∀ i av, aget s.fr i = some av → i < N ∧ Rel M E (tmps.getD i undef) av
  mem : ∀ b j v, M b j = some v → w.cell? ⟨b, j, none⟩ = some v ∧ (E.own b = none ∨ ∃ i r, E.own b = some (1, i) ∧ rget s.rw i = some r ∧ j < r.k * r.sz)
  bx : ∀ i cs, aget s.bx i = some cs → ∃ b, E.bx i = some b ∧ E.own b = some (0, i) ∧ BxOk M E w b cs
  bxn : ∀ i, aget s.bx i = none → E.bx i = none
  rw : ∀ i r, rget s.rw i = some r → ∃ q, E.rw i = some q ∧ RwOk M E w i q r
  rwn : ∀ i, rget s.rw i = none → E.rw i = none
  mp : ∀ i es, aget s.mp i = some es → ∃ r, E.mp i = some r ∧ E.own r = some (2, i) ∧ MpOk M E w r es
  mpn : ∀ i, aget s.mp i = none → E.mp i = none
  live : ∀ b o, E.own b = some o → b < w.heap.size
  foreign : ∀ b, g.F b → b < w.heap.size ∧ w.heap[b]? = g.w0.heap[b]? ∧ E.own b = none
  m0 : ∀ b j v, g.M0 b j = some v → M b j = some v
  mf : ∀ b j v, M b j = some v → g.F b → g.M0 b j = some v
  os : w.os = g.w0.os
  tape : w.tape = g.w0.tape
  output : w.output = g.w0.output
  grow : g.w0.heap.size ≤ w.heap.size

/-- the concrete states for which an abstract one stands -/
def H (g : Gh) (N : Nat) (s : S) (a : Act) (w : World) : Prop := a.defers = [] ∧ ∃ M E, St g N M E s a.tmps w

/- what the relations keep -/

theorem RelP.mono {M M' : Mem} (hM : ∀ b j v, M b j = some v → M' b j = some v) {v : Value} {x : AV} (h : RelP M v x) : RelP M' v x := by
  induction h with
  | int k n => exact .int k n
  | bool b => exact .bool b
  | str s => exact .str s
  | nils => exact .nils
  | sl a n c sz xs f hn hc hb hz ha hf ih =>
    refine .sl a n c sz xs f hn hc hb hz (fun h => ?_) ih
    obtain ⟨blk, off, e, hj⟩ := ha h
    exact ⟨blk, off, e, fun j hlt => hM _ _ _ (hj j hlt)⟩
  | rp blk off x f ha hf ih => exact .rp blk off x f (fun j hlt => hM _ _ _ (ha j hlt)) ih
  | nilp => exact .nilp
  | nilfn => exact .nilfn
  | nilmp => exact .nilmp

/- names -/
mutual
/-- all names that a value has are of these -/
def AV.okIn (kb kr km : Nat → Bool) : AV → Bool
  | .ptr i _ => kb i
  | .row i => kr i
  | .rowv i _ _ => kr i
  | .ep i _ _ => kr i
  | .mp i => km i
  | .fn _ caps => AV.okInL kb kr km caps
  | .agg cs => AV.okInL kb kr km cs
  | .tup vs => AV.okInL kb kr km vs
  | .when _ x => AV.okIn kb kr km x
  | _ => true
def AV.okInL (kb kr km : Nat → Bool) : List AV → Bool
  | [] => true
  | x :: l => match AV.okIn kb kr km x with
    | true => AV.okInL kb kr km l
    | false => false
end

theorem okInL_cons {kb kr km : Nat → Bool} {x : AV} {l : List AV} (h : AV.okInL kb kr km (x :: l) = true) : x.okIn kb kr km = true ∧ AV.okInL kb kr km l = true := by
  simp only [AV.okInL] at h
  split at h
  · rename_i hx; exact ⟨hx, h⟩
  · cases h
theorem okInL_get {kb kr km : Nat → Bool} : ∀ {l : List AV} {j : Nat} {x : AV}, AV.okInL kb kr km l = true → l[j]? = some x → x.okIn kb kr km = true
  | [], j, x, _, h => by simp at h
  | y :: l, 0, x, hl, h => by simp at h; subst h; exact (okInL_cons hl).1
  | y :: l, j + 1, x, hl, h => by
    simp only [List.getElem?_cons_succ] at h
    exact okInL_get (okInL_cons hl).2 h
theorem okInL_of {kb kr km : Nat → Bool} : ∀ {l : List AV}, (∀ (j : Nat) (x : AV), l[j]? = some x → x.okIn kb kr km = true) → AV.okInL kb kr km l = true
  | [], _ => rfl
  | y :: l, h => by
    simp only [AV.okInL, h 0 y rfl]
    exact okInL_of fun j x hx => h (j + 1) x (by simpa using hx)

/-- of the names of some kinds the second environment says no more than the first -/
structure Env.le (kr : Nat → Bool) (E E' : Env) : Prop where
  bx : ∀ i b, E.bx i = some b → E'.bx i = some b
  rw : ∀ i q, kr i = true → E'.rw i = some q → E.rw i = some q
  mp : ∀ i r, E.mp i = some r → E'.mp i = some r

theorem Env.le_refl (kr : Nat → Bool) (E : Env) : E.le kr E := ⟨fun _ _ h => h, fun _ q _ h => h, fun _ _ h => h⟩

abbrev yes : Nat → Bool := fun _ => true

theorem RelS.mono {M M' : Mem} {E E' : Env} {kr : Nat → Bool} (hM : ∀ b j v, M b j = some v → M' b j = some v) (hE : E.le kr E') {v : Value} {x : AV}
    (h : RelS M E v x) : x.okIn yes kr yes = true → RelS M' E' v x := by
  induction h with
  | pure h => exact fun _ => .pure (h.mono hM)
  | ptr i off b h => exact fun _ => .ptr i off b (hE.bx i b h)
  | row i n c a hv => exact fun hk => .row i n c a fun q hq => hv q (hE.rw i q (by simpa [AV.okIn] using hk) hq)
  | rowv i off n c a hv => exact fun hk => .rowv i off n c a fun q hq => hv q (hE.rw i q (by simpa [AV.okIn] using hk) hq)
  | ep i k off ad hv => exact fun hk => .ep i k off ad fun q hq => hv q (hE.rw i q (by simpa [AV.okIn] using hk) hq)
  | mp i r h => exact fun _ => .mp i r (hE.mp i r h)
  | fn f vs cs hl h ih => exact fun hk => .fn f vs cs hl fun j v c hv hc => ih j v c hv hc (okInL_get (by simpa only [AV.okIn] using hk) hc)

theorem Rel.mono {M M' : Mem} {E E' : Env} {kr : Nat → Bool} (hM : ∀ b j v, M b j = some v → M' b j = some v) (hE : E.le kr E') {v : Value} {x : AV}
    (h : Rel M E v x) : x.okIn yes kr yes = true → Rel M' E' v x := by
  induction h with
  | cell h => exact fun hk => .cell (h.mono hM hE hk)
  | agg vs cs hl h => exact fun hk => .agg vs cs hl fun j v c hv hc => (h j v c hv hc).mono hM hE (okInL_get (by simpa only [AV.okIn] using hk) hc)
  | tup vs cs hl h ih => exact fun hk => .tup vs cs hl fun j v c hv hc => ih j v c hv hc (okInL_get (by simpa only [AV.okIn] using hk) hc)
  | any v => exact fun _ => .any v
  | when v c x h hu ih => exact fun hk => .when v c x (fun hc => ih hc (by simpa only [AV.okIn] using hk)) hu

mutual
theorem okIn_yes : ∀ x : AV, x.okIn yes yes yes = true
  | .int _ _ => rfl
  | .bool _ => rfl
  | .str _ => rfl
  | .nils => rfl
  | .sl _ _ => rfl
  | .rp _ => rfl
  | .nilp => rfl
  | .nilfn => rfl
  | .nilmp => rfl
  | .row _ => rfl
  | .rowv _ _ _ => rfl
  | .ptr _ _ => rfl
  | .ep _ _ _ => rfl
  | .mp _ => rfl
  | .fn _ caps => by simp only [AV.okIn]; exact okInL_yes caps
  | .agg cs => by simp only [AV.okIn]; exact okInL_yes cs
  | .tup cs => by simp only [AV.okIn]; exact okInL_yes cs
  | .any => rfl
  | .when _ x => by simp only [AV.okIn]; exact okIn_yes x
theorem okInL_yes : ∀ l : List AV, AV.okInL yes yes yes l = true
  | [] => rfl
  | x :: l => by simp only [AV.okInL, okIn_yes x]; exact okInL_yes l
end

theorem RelS.monoM {M M' : Mem} {E : Env} (hM : ∀ b j v, M b j = some v → M' b j = some v) {v : Value} {x : AV} (h : RelS M E v x) : RelS M' E v x :=
  h.mono (kr := yes) hM (Env.le_refl _ E) (okIn_yes x)
theorem Rel.monoM {M M' : Mem} {E : Env} (hM : ∀ b j v, M b j = some v → M' b j = some v) {v : Value} {x : AV} (h : Rel M E v x) : Rel M' E v x :=
  h.mono (kr := yes) hM (Env.le_refl _ E) (okIn_yes x)

theorem RelP.one {M : Mem} {v : Value} {x : AV} (h : RelP M v x) : v.oneCell' = true ∧ x.cells = [x] := by
  cases h <;> exact ⟨rfl, rfl⟩
theorem RelS.one {M : Mem} {E : Env} {v : Value} {x : AV} (h : RelS M E v x) : v.oneCell' = true ∧ x.cells = [x] := by
  cases h with
  | pure h => exact h.one
  | _ => exact ⟨rfl, rfl⟩
theorem cells_of_one {v : Value} (h : v.oneCell' = true) : v.cells = #[v] := by
  cases v <;> first | rfl | (simp [Value.oneCell'] at h)

/-- a value of one cell -/
def AV.isCell : AV → Bool
  | .agg _ | .tup _ | .any | .when _ _ => false
  | _ => true

theorem Rel.of_cell {M : Mem} {E : Env} {v : Value} {x : AV} (h : Rel M E v x) (hx : x.isCell = true) : RelS M E v x := by
  cases h with
  | cell h => exact h
  | _ => cases hx

/-- the cells of a value, each as it is said -/
theorem Rel.cells {M : Mem} {E : Env} {v : Value} {x : AV} (h : Rel M E v x) (hx : x.cells.all AV.isCell = true) :
    v.cells.size = x.cells.length ∧ ∀ (j : Nat) (u : Value) (c : AV), v.cells[j]? = some u → x.cells[j]? = some c → RelS M E u c := by
  cases h with
  | cell h =>
    obtain ⟨h1, h2⟩ := h.one
    rw [cells_of_one h1, h2]
    refine ⟨rfl, fun j u c hu hc => ?_⟩
    cases j with
    | zero => simp at hu hc; subst hu; subst hc; exact h
    | succ j => simp at hu
  | agg vs cs hl h =>
    refine ⟨by simpa [Value.cells, AV.cells] using hl, fun j u c hu hc => h j u c (by simpa [Value.cells] using hu) hc⟩
  | tup vs cs _ _ => simp [AV.cells, AV.isCell] at hx
  | any => simp [AV.cells, AV.isCell] at hx
  | when => simp [AV.cells, AV.isCell] at hx

/- inversions -/
section
variable {M : Mem} {E : Env} {v : Value}
theorem Rel.bool_inv {b : Bool} (h : Rel M E v (.bool b)) : v = .bool b := by
  cases h with
  | cell h => cases h with
    | pure h => cases h; rfl
theorem Rel.int_inv {k : IntKind} {n : Int} (h : Rel M E v (.int k n)) : v = .int k n := by
  cases h with
  | cell h => cases h with
    | pure h => cases h; rfl
theorem Rel.str_inv {x : List UInt8} (h : Rel M E v (.str x)) : v = .string ⟨x.toArray⟩ := by
  cases h with
  | cell h => cases h with
    | pure h => cases h; rfl
theorem Rel.nils_inv (h : Rel M E v .nils) : v = .slice none 0 0 := by
  cases h with
  | cell h => cases h with
    | pure h => cases h; rfl
theorem Rel.sl_inv {sz : Nat} {xs : List AV} (h : Rel M E v (.sl sz xs)) : RelP M v (.sl sz xs) ∧ ∃ a c, v = .slice a xs.length c ∧ xs.length ≤ c ∧ c ≤ maxLen := by
  cases h with
  | cell h => cases h with
    | pure h =>
      refine ⟨h, ?_⟩
      cases h with
      | sl a n c sz xs f hn hc hb hz ha hf => subst hn; exact ⟨a, c, rfl, hc, hb⟩
theorem Rel.ptr_inv {i o : Nat} (h : Rel M E v (.ptr i o)) : ∃ b, E.bx i = some b ∧ v = .pointer (some ⟨b, o, none⟩) := by
  cases h with
  | cell h => cases h with
    | pure h => cases h
    | ptr i off b h => exact ⟨b, h, rfl⟩
theorem Rel.rp_inv {x : AV} (h : Rel M E v (.rp x)) : ∃ blk off, v = .pointer (some ⟨blk, off, none⟩) ∧
    ∃ f : Nat → Value, (∀ j, j < x.cells.length → M blk (off + j) = some (f j)) ∧ ∀ (j : Nat) (u : AV), x.cells[j]? = some u → RelP M (f j) u := by
  cases h with
  | cell h => cases h with
    | pure h => cases h with
      | rp blk off x f ha hf => exact ⟨blk, off, rfl, f, ha, hf⟩
theorem Rel.row_inv {i : Nat} (h : Rel M E v (.row i)) : ∃ n c a, v = .slice a n c ∧ ∀ q, E.rw i = some q → a = q.a ∧ n = q.n ∧ c = q.c := by
  cases h with
  | cell h => cases h with
    | pure h => cases h
    | row i n c a hv => exact ⟨n, c, a, rfl, hv⟩
theorem Rel.rowv_inv {i off n : Nat} (h : Rel M E v (.rowv i off n)) : ∃ c a, v = .slice a n c ∧ ∀ q, E.rw i = some q → a = viewA q off ∧ off + c = q.c ∧ n ≤ c := by
  cases h with
  | cell h => cases h with
    | pure h => cases h
    | rowv i off n c a hv => exact ⟨c, a, rfl, hv⟩
theorem Rel.ep_inv {i k o : Nat} (h : Rel M E v (.ep i k o)) : ∃ ad, v = .pointer (some ad) ∧ ∀ q, E.rw i = some q → ∃ blk, q.a = some ⟨blk, 0, none⟩ ∧ ad = ⟨blk, k * q.sz + o, none⟩ := by
  cases h with
  | cell h => cases h with
    | pure h => cases h
    | ep i k off ad hv => exact ⟨ad, rfl, hv⟩
theorem Rel.agg_inv {cs : List AV} (h : Rel M E v (.agg cs)) : ∃ vs : List Value, v = .agg vs.toArray ∧ vs.length = cs.length ∧
    ∀ (j : Nat) (v : Value) (c : AV), vs[j]? = some v → cs[j]? = some c → RelS M E v c := by
  cases h with
  | cell h => cases h with
    | pure h => cases h
  | agg vs cs hl h => exact ⟨vs, rfl, hl, h⟩
theorem Rel.tup_inv {cs : List AV} (h : Rel M E v (.tup cs)) : ∃ vs : List Value, v = .tuple vs.toArray ∧ vs.length = cs.length ∧
    ∀ (j : Nat) (v : Value) (c : AV), vs[j]? = some v → cs[j]? = some c → Rel M E v c := by
  cases h with
  | cell h => cases h with
    | pure h => cases h
  | tup vs cs hl h => exact ⟨vs, rfl, hl, h⟩
theorem Rel.fn_inv {f : FuncId} {cs : List AV} (h : Rel M E v (.fn f cs)) : ∃ vs : List Value, v = .func (.func f) #[] vs.toArray ∧ vs.length = cs.length ∧
    ∀ (j : Nat) (v : Value) (c : AV), vs[j]? = some v → cs[j]? = some c → RelS M E v c := by
  cases h with
  | cell h => cases h with
    | pure h => cases h
    | fn f vs cs hl h => exact ⟨vs, rfl, hl, h⟩
theorem Rel.when_inv {c : List (Nat × Bool)} {x : AV} (h : Rel M E v (.when c x)) : allB c = true → Rel M E v x := by
  cases h with
  | cell h => cases h with
    | pure h => cases h
  | when v c x h => exact h
theorem Rel.when_undef {c : List (Nat × Bool)} {x : AV} (h : Rel M E v (.when c x)) : allB c = false → v = undef := by
  cases h with
  | cell h => cases h with
    | pure h => cases h
  | when v c x h hu => exact hu
end

end Go.Dm
