/- Contracts of functions. -/
import Derived.Test.YtgflfhdbihahcaaDm10
namespace Go.Dm
open Go Go.RowKit
set_option linter.unusedSimpArgs false
set_option linter.unusedVariables false

def RelL (M : Mem) (E : Env) (vs : List Value) (xs : List AV) : Prop :=
  vs.length = xs.length ∧ ∀ (j : Nat) (v : Value) (c : AV), vs[j]? = some v → xs[j]? = some c → Rel M E v c

def S.none : S := ⟨[], [], [], []⟩
def Env.none : Env := ⟨fun _ => Option.none, fun _ => Option.none, fun _ => Option.none, fun _ => Option.none⟩

def ACalls (P : Program) (f : FuncId) (s0 : S) (args : List AV) (R : AV → S → Prop) : Prop :=
  ∀ (w : World) (M : Mem) (E : Env) (F : Nat → Prop) (vs : List Value), St ⟨w, F, M⟩ 0 M E s0 #[] w → RelL M E vs args →
    Calls P f vs.toArray w fun e w' => ∃ M' E' v x s1, e = .returned v ∧ R x s1 ∧ St ⟨w, F, M⟩ 0 M' E' s1 #[] w' ∧ Rel M' E' v x

/-- a function that only tells something -/
def APure (P : Program) (f : FuncId) (args : List AV) (r : AV) : Prop := ACalls P f .none args fun x s1 => x = r ∧ s1 = .none

def Env.keep (E : Env) (kb kr km : Nat → Bool) : Env where
  bx i := if kb i then E.bx i else Option.none
  rw i := if kr i then E.rw i else Option.none
  mp i := if km i then E.mp i else Option.none
  own b := match E.own b with
    | some (0, i) => if kb i then some (0, i) else Option.none
    | some (1, i) => if kr i then some (1, i) else Option.none
    | some (2, i) => if km i then some (2, i) else Option.none
    | _ => Option.none

theorem RelS.keep {M : Mem} {E : Env} {kb kr km : Nat → Bool} {v : Value} {x : AV} (h : RelS M E v x) : x.okIn kb kr km = true → RelS M (E.keep kb kr km) v x := by
  have hrw : ∀ {i : Nat} {q : RwE}, (E.keep kb kr km).rw i = some q → E.rw i = some q := by
    intro i q h
    simp only [Env.keep] at h
    split at h
    · exact h
    · cases h
  induction h with
  | pure h => exact fun _ => .pure h
  | ptr i off b h => exact fun hx => .ptr i off b (by simp only [AV.okIn] at hx; simp [Env.keep, hx, h])
  | row i n c a hv => exact fun _ => .row i n c a fun q hq => hv q (hrw hq)
  | rowv i off n c a hv => exact fun _ => .rowv i off n c a fun q hq => hv q (hrw hq)
  | ep i k off ad hv => exact fun _ => .ep i k off ad fun q hq => hv q (hrw hq)
  | mp i r h => exact fun hx => .mp i r (by simp only [AV.okIn] at hx; simp [Env.keep, hx, h])
  | fn f vs cs hl h ih => exact fun hx => .fn f vs cs hl fun j v c hv hc => ih j v c hv hc (okInL_get (by simpa only [AV.okIn] using hx) hc)

theorem Rel.keep {M : Mem} {E : Env} {kb kr km : Nat → Bool} {v : Value} {x : AV} (h : Rel M E v x) : x.okIn kb kr km = true → Rel M (E.keep kb kr km) v x := by
  induction h with
  | cell h => exact fun hx => .cell (h.keep hx)
  | agg vs cs hl h => exact fun hx => .agg vs cs hl fun j v c hv hc => (h j v c hv hc).keep (okInL_get (by simpa only [AV.okIn] using hx) hc)
  | tup vs cs hl h ih => exact fun hx => .tup vs cs hl fun j v c hv hc => ih j v c hv hc (okInL_get (by simpa only [AV.okIn] using hx) hc)
  | any v => exact fun _ => .any v
  | when v c x h hu ih => exact fun hx => .when v c x (fun hc => ih hc (by simpa only [AV.okIn] using hx)) hu

abbrev no : Nat → Bool := fun _ => false
def AV.isPure (x : AV) : Bool := x.okIn no no no

theorem Env.keep_none (E : Env) : E.keep no no no = Env.none := by
  have : ∀ b, (match E.own b with
    | some (0, i) => if no i = true then some ((0 : Nat), i) else Option.none
    | some (1, i) => if no i = true then some (1, i) else Option.none
    | some (2, i) => if no i = true then some (2, i) else Option.none
    | _ => Option.none) = Option.none := by intro b; split <;> simp
  simp only [Env.keep, Env.none]
  congr 1
  funext b
  exact this b

theorem RelS.of_pure {M : Mem} {E : Env} (E' : Env) {v : Value} {x : AV} (h : RelS M E v x) : x.okIn no no no = true → RelS M E' v x := by
  induction h with
  | pure h => exact fun _ => .pure h
  | ptr i off b h => exact fun hx => by cases hx
  | row i n c a hv => exact fun hx => by cases hx
  | rowv i off n c a hv => exact fun hx => by cases hx
  | ep i k off ad hv => exact fun hx => by cases hx
  | mp i r h => exact fun hx => by cases hx
  | fn f vs cs hl h ih => exact fun hx => .fn f vs cs hl fun j v c hv hc => ih j v c hv hc (okInL_get (by simpa only [AV.okIn] using hx) hc)
theorem Rel.of_pure {M : Mem} {E : Env} (E' : Env) {v : Value} {x : AV} (h : Rel M E v x) : x.okIn no no no = true → Rel M E' v x := by
  induction h with
  | cell h => exact fun hx => .cell (h.of_pure E' hx)
  | agg vs cs hl h => exact fun hx => .agg vs cs hl fun j v c hv hc => (h j v c hv hc).of_pure E' (okInL_get (by simpa only [AV.okIn] using hx) hc)
  | tup vs cs hl h ih => exact fun hx => .tup vs cs hl fun j v c hv hc => ih j v c hv hc (okInL_get (by simpa only [AV.okIn] using hx) hc)
  | any v => exact fun _ => .any v
  | when v c x h hu ih => exact fun hx => .when v c x (fun hc => ih hc (by simpa only [AV.okIn] using hx)) hu

/-- ahead of a call that is handed nothing of ours -/
theorem St.outer {w : World} {M : Mem} (hM : ∀ b j v, M b j = some v → w.cell? ⟨b, j, Option.none⟩ = some v) : St ⟨w, fun b => b < w.heap.size, M⟩ 0 M Env.none S.none #[] w where
  size := rfl
  fr := fun i av hi => by cases hi
  mem := fun b j v h => ⟨hM b j v h, .inl rfl⟩
  bx := fun i cs hi => by cases hi
  bxn := fun i _ => rfl
  rw := fun i cs hi => by cases hi
  rwn := fun i _ => rfl
  mp := fun i cs hi => by cases hi
  mpn := fun i _ => rfl
  live := fun b o h => by cases h
  foreign := fun b h => ⟨h, rfl, rfl⟩
  m0 := fun b j v h => h
  mf := fun b j v h _ => h
  os := rfl
  tape := rfl
  output := rfl
  grow := Nat.le_refl _

/-- behind it -/
theorem St.after {g : Gh} {N : Nat} {M M' : Mem} {E E' : Env} {s : S} {tmps : Array Value} {w w' : World} (hs : St g N M E s tmps w)
    (hc : St ⟨w, fun b => b < w.heap.size, M⟩ 0 M' E' S.none #[] w') : St g N M' E s tmps w' := by
  have hm : ∀ b j v, M b j = some v → M' b j = some v := hc.m0
  have hb : ∀ b, b < w.heap.size → w'.heap[b]? = w.heap[b]? := fun b h => (hc.foreign b h).2.1
  refine ⟨hs.size, fun i av hi => ⟨(hs.fr i av hi).1, (hs.fr i av hi).2.monoM hm⟩, fun b j v hv => ⟨(hc.mem b j v hv).1, ?_⟩,
    fun i cs hi => ?_, hs.bxn, fun i r hi => ?_, hs.rwn, fun i es hi => ?_, hs.mpn, fun b o h => Nat.lt_of_lt_of_le (hs.live b o h) hc.grow,
    fun b h => ?_, fun b j v h => hm _ _ _ (hs.m0 b j v h), fun b j v hv hF => ?_, hc.os.trans hs.os, hc.tape.trans hs.tape, hc.output.trans hs.output, Nat.le_trans hs.grow hc.grow⟩
  · by_cases hlt : b < w.heap.size
    · exact (hs.mem b j v (hc.mf b j v hv hlt)).2
    · exact .inl (own_none hs (by omega))
  · obtain ⟨b, h1, h2, t, vs, h3, h4, h5⟩ := hs.bx i cs hi
    exact ⟨b, h1, h2, t, vs, by rw [hb b (hs.live b _ h2)]; exact h3, h4, fun j v c hv hc => (h5 j v c hv hc).monoM hm⟩
  · obtain ⟨q, h1, h2, h3, h4, h5, h6, h7⟩ := hs.rw i r hi
    refine ⟨q, h1, h2, h3, h4, h5, h6, ?_⟩
    rcases h7 with h8 | ⟨blk, t, vs, g1, g2, g3, g4, g5⟩
    · exact .inl h8
    · refine .inr ⟨blk, t, vs, g1, g2, by rw [hb blk (hs.live blk _ g2)]; exact g3, g4, fun j u hu => ?_⟩
      obtain ⟨v, hv, hr⟩ := g5 j u hu
      exact ⟨v, hv, hr.mono hm⟩
  · obtain ⟨r, h1, h2, ents, clock, h3, h4, h5⟩ := hs.mp i es hi
    exact ⟨r, h1, h2, ents, clock, by rw [hb r (hs.live r _ h2)]; exact h3, h4, fun j e p he hp => ⟨(h5 j e p he hp).1.mono hm, (h5 j e p he hp).2.monoM hm⟩⟩
  · obtain ⟨h1, h2, h3⟩ := hs.foreign b h
    exact ⟨Nat.lt_of_lt_of_le h1 hc.grow, by rw [hb b h1]; exact h2, h3⟩
  · exact hs.mf b j v (hc.mf b j v hv (hs.foreign b hF).1) hF

variable {C : Cx} {k : List It} {s : S} {τ : TyTab}

theorem run_call {P : Program} {o : Oper} {c : Call} {f : FuncId} (ho : o.op = .call c) (hc : c.callee = .value (.func f)) (a : Act) (w : World) :
    (execOp a.eval o).run P w = (callFunc f ((c.args.toList.map a.eval).toArray)).run P w := by
  have e : (List.map a.eval c.args.toList).toArray = Array.map a.eval c.args := by rw [← Array.toList_map]
  rw [e]
  simp [execOp, ho, resolve, hc, Act.eval, Deferred.ofValue, Sem.run_bind, Sem.run_pure, Result.andThen_ok, invoke]

/-- a function with a body, of no name that the model runs by itself -/
def Bodied (P : Program) (f : FuncId) : Prop := ∃ fn, P.funcs[f]? = some fn ∧ fn.body.isNone = false ∧ (fn.name == "runtime.NumGoroutine") = false

theorem run_callFunc {P : Program} {f : FuncId} (h : Bodied P f) (args : Array Value) (w : World) : (callFunc f args).run P w = .ok (.enter f args) w := by
  obtain ⟨fn, h1, h2, h3⟩ := h
  simp only [callFunc, Sem.run_bind, run_program, Result.andThen_ok, h1, h3, h2, Bool.false_eq_true, if_false, Sem.run_pure]

/- a function's end -/

def S.keep (s : S) (kb kr km : Nat → Bool) : S :=
  ⟨[], s.bx.filter (fun p => kb p.1), s.rw.filter (fun p => kr p.1), s.mp.filter (fun p => km p.1)⟩

theorem get_filter {α : Type} (p : Nat → Bool) (i : Nat) : ∀ l : List (Nat × α), aget (l.filter fun q => p q.1) i = if p i then aget l i else none
  | [] => by simp [aget]
  | (j, v) :: l => by
    have ih := get_filter p i l
    by_cases hp : p j = true
    · simp only [List.filter_cons, hp, if_true]
      simp only [aget_cons]
      by_cases hij : i = j
      · subst hij; simp [hp]
      · simp only [if_neg hij, ih]
    · simp only [List.filter_cons, hp, if_false, Bool.false_eq_true]
      simp only [aget_cons]
      by_cases hij : i = j
      · subst hij; simp [hp, ih]
      · simp only [if_neg hij, ih]

theorem rget_filter (p : Nat → Bool) (i : Nat) (l : List (Nat × Option Rw)) : rget (l.filter fun q => p q.1) i = if p i then rget l i else none := by
  unfold rget
  rw [get_filter]
  by_cases h : p i = true
  · simp only [h, if_true]
  · simp only [h, if_false, Bool.false_eq_true]

/-- the kept boxes name none that is let go -/
def S.keepOk (s : S) (kb kr km : Nat → Bool) : Bool :=
  s.bx.all (fun p => !kb p.1 || AV.okInL kb kr km p.2) && s.mp.all (fun p => !km p.1 || AV.okInL kb kr km (p.2.map (·.2)))

theorem get_mem {α : Type} {i : Nat} {v : α} : ∀ {l : List (Nat × α)}, aget l i = some v → (i, v) ∈ l
  | [], h => by cases h
  | (j, u) :: l, h => by
    rw [aget_cons] at h
    split at h
    · rename_i e; subst e; cases h; simp
    · exact List.mem_cons_of_mem _ (get_mem h)

theorem St.keep {g : Gh} {N : Nat} {M : Mem} {E : Env} {s : S} {tmps : Array Value} {w : World} (hs : St g N M E s tmps w) (kb kr km : Nat → Bool) (hk : s.keepOk kb kr km = true) :
    St g 0 M (E.keep kb kr km) (s.keep kb kr km) #[] w := by
  simp only [S.keepOk, Bool.and_eq_true] at hk
  have hown : ∀ b, E.own b = none → (E.keep kb kr km).own b = none := fun b h => by simp [Env.keep, h]
  refine ⟨rfl, fun i av hi => (by cases hi), fun b j v hv => ⟨(hs.mem b j v hv).1, ?_⟩, fun i cs hi => ?_, fun i hi => ?_, fun i r hi => ?_, fun i hi => ?_, fun i es hi => ?_, fun i hi => ?_, fun b o h => ?_,
    fun b h => ⟨(hs.foreign b h).1, (hs.foreign b h).2.1, hown b (hs.foreign b h).2.2⟩, hs.m0, hs.mf, hs.os, hs.tape, hs.output, hs.grow⟩
  · rcases (hs.mem b j v hv).2 with h | ⟨i, r, h1, h2, h3⟩
    · exact .inl (hown b h)
    · by_cases hk : kr i = true
      · exact .inr ⟨i, r, by simp [Env.keep, h1, hk], by simp only [S.keep, rget_filter, hk, if_true]; exact h2, h3⟩
      · exact .inl (by simp [Env.keep, h1, hk])
  · simp only [S.keep, get_filter] at hi
    split at hi
    · rename_i hki
      obtain ⟨b, h1, h2, t, vs, h3, h4, h5⟩ := hs.bx i cs hi
      have hok : AV.okInL kb kr km cs = true := by
        have := (List.all_eq_true.1 hk.1) (i, cs) (get_mem hi)
        simpa [hki] using this
      exact ⟨b, by simp [Env.keep, hki, h1], by simp [Env.keep, h2, hki], t, vs, h3, h4, fun j v c hv hc => (h5 j v c hv hc).keep (okInL_get hok hc)⟩
    · cases hi
  · simp only [S.keep, get_filter] at hi
    split at hi
    · simp [Env.keep, hs.bxn i hi]
    · rename_i hki; simp [Env.keep, hki]
  · simp only [S.keep, rget_filter] at hi
    split at hi
    · rename_i hki
      obtain ⟨q, h1, h2, h3, h4, h5, h6, h7⟩ := hs.rw i r hi
      refine ⟨q, by simp [Env.keep, hki, h1], h2, h3, h4, h5, h6, ?_⟩
      rcases h7 with h8 | ⟨blk, t, vs, g1, g2, g3, g4, g5⟩
      · exact .inl h8
      · exact .inr ⟨blk, t, vs, g1, by simp [Env.keep, g2, hki], g3, g4, g5⟩
    · cases hi
  · simp only [S.keep, rget_filter] at hi
    split at hi
    · simp [Env.keep, hs.rwn i hi]
    · rename_i hki; simp [Env.keep, hki]
  · simp only [S.keep, get_filter] at hi
    split at hi
    · rename_i hki
      obtain ⟨r, h1, h2, ents, clock, h3, h4, h5⟩ := hs.mp i es hi
      have hok : AV.okInL kb kr km (es.map (·.2)) = true := by
        have := (List.all_eq_true.1 hk.2) (i, es) (get_mem hi)
        simpa [hki] using this
      exact ⟨r, by simp [Env.keep, hki, h1], by simp [Env.keep, h2, hki], ents, clock, h3, h4, fun j e p he hp => ⟨(h5 j e p he hp).1, (h5 j e p he hp).2.keep (okInL_get hok (j := j) (by simp [hp]))⟩⟩
    · cases hi
  · simp only [S.keep, get_filter] at hi
    split at hi
    · simp [Env.keep, hs.mpn i hi]
    · rename_i hki; simp [Env.keep, hki]
  · have : E.own b ≠ none := by
      intro hn
      rw [hown b hn] at h; cases h
    obtain ⟨o', ho'⟩ := Option.ne_none_iff_exists'.1 this
    exact hs.live b o' ho'

/-- what a function's result slots say -/
def resOne (τ : TyTab) (s : S) : ResultVar → Option AV
  | .tmp t => aget s.fr t
  | .cell a t => match aget s.fr a, τ t with
    | some (.ptr i 0), some ti => match aget s.bx i with
      | some cs => partOf ti cs 0
      | none => none
    | _, _ => none
def resAll (τ : TyTab) (s : S) : List ResultVar → Option (List AV)
  | [] => some []
  | r :: l => match resOne τ s r, resAll τ s l with
    | some v, some vs => some (v :: vs)
    | _, _ => none
def resOf (τ : TyTab) (s : S) (l : List ResultVar) : Option AV :=
  match resAll τ s l with
  | some [v] => some v
  | some vs => some (.tup vs)
  | none => none

def resSem (tmps : Array Value) : ResultVar → Sem Value
  | .tmp t => pure (tmps.getD t undef)
  | .cell ad t => do loadVar t (← asAddr (tmps.getD ad undef))

theorem resOne_run (hτ : TyOk C.P τ) {M : Mem} {E : Env} {a : Act} {w : World} (hs : St C.g C.N M E s a.tmps w) {r : ResultVar} {x : AV} (h : resOne τ s r = some x) :
    ∃ v, (resSem a.tmps r).run C.P w = .ok v w ∧ Rel M E v x := by
  cases r with
  | tmp t => exact ⟨_, rfl, (hs.fr t x h).2⟩
  | cell ad t =>
    simp only [resOne] at h
    split at h
    · rename_i i ti hp hti
      split at h
      · rename_i cs hcs
        obtain ⟨b, hb, he⟩ := (hs.fr ad _ hp).2.ptr_inv
        obtain ⟨b', hb', hown, hbx⟩ := hs.bx i cs hcs
        rw [hb] at hb'; cases hb'
        obtain ⟨ty, vs, hh, hall⟩ := hbx.allR
        have hz : ti.sz ≠ 0 ∨ ti.k.agg = true := by
          cases hk : ti.k.agg with
          | true => exact .inr rfl
          | false => exact .inl (by have := (hτ _ _ hti).one hk; omega)
        obtain ⟨hlen, hrel, _⟩ := part_rel (hτ _ _ hti) hall h hz
        have hl := (hτ _ _ hti).loadVar w b 0 (fun j => vs.getD (0 + j) undef) (fun j hj => by
          rw [cell_of_heap hh]
          have : 0 + j < vs.length := by omega
          simp only [List.getD, List.getElem?_eq_getElem this, Option.getD_some])
        have e1 : (List.range ti.sz).map (fun j => vs.getD (0 + j) undef) = (vs.drop 0).take ti.sz := by
          apply List.ext_getElem?
          intro j
          rw [List.getElem?_take]
          by_cases hj : j < ti.sz
          · have : j < vs.length := by omega
            simp [hj, List.getD, this]
          · simp [hj]
        rw [e1] at hl
        refine ⟨_, ?_, hrel⟩
        simp only [resSem, he, asAddr, Sem.run_bind, Sem.run_pure, Result.andThen_ok]
        simpa using hl
      · cases h
    · cases h

theorem resAll_run (hτ : TyOk C.P τ) {M : Mem} {E : Env} {a : Act} {w : World} (hs : St C.g C.N M E s a.tmps w) : ∀ {l : List ResultVar} {xs : List AV}, resAll τ s l = some xs →
    ∃ vs : List Value, (l.mapM (resSem a.tmps)).run C.P w = .ok vs w ∧ RelL M E vs xs
  | [], xs, h => by simp only [resAll] at h; cases h; exact ⟨[], rfl, rfl, fun j v c hv => by simp at hv⟩
  | r :: l, xs, h => by
    simp only [resAll] at h
    split at h
    · rename_i v vs hv hvs
      cases h
      obtain ⟨u, h1, h2⟩ := resOne_run hτ hs hv
      obtain ⟨us, h3, h4⟩ := resAll_run hτ hs hvs
      refine ⟨u :: us, ?_, by simp [h4.1], fun j v' c hv' hc => ?_⟩
      · rw [List.mapM_cons]
        simp only [Sem.run_bind, h1, Result.andThen_ok, h3, Sem.run_pure]
      · cases j with
        | zero => simp at hv' hc; subst hv'; subst hc; exact h2
        | succ j => simp only [List.getElem?_cons_succ] at hv' hc; exact h4.2 j v' c hv' hc
    · cases h

theorem resOf_run (hτ : TyOk C.P τ) {M : Mem} {E : Env} {a : Act} {w : World} (hs : St C.g C.N M E s a.tmps w) {fn : Func} {x : AV} (h : resOf τ s fn.results.toList = some x) :
    ∃ v, (results fn a.tmps).run C.P w = .ok v w ∧ Rel M E v x := by
  unfold resOf at h
  have main : ∀ xs, resAll τ s fn.results.toList = some xs → ∃ vs : List Value, RelL M E vs xs ∧ (results fn a.tmps).run C.P w = .ok (if h : vs.toArray.size = 1 then vs.toArray[0] else .tuple vs.toArray) w := by
    intro xs hxs
    obtain ⟨vs, h1, h2⟩ := resAll_run hτ hs hxs
    refine ⟨vs, h2, ?_⟩
    unfold results
    have : (fn.results.mapM (resSem a.tmps)).run C.P w = .ok vs.toArray w := by
      rw [Array.mapM_eq_mapM_toList]
      simp only [Sem.run_map, h1, Result.andThen_ok]
    simp only [Sem.run_bind, Sem.run_pure]
    change ((Sem.run C.P (Array.mapM (resSem a.tmps) fn.results) w).andThen _) = _
    rw [this]
    rfl
  split at h
  · rename_i v hv
    cases h
    obtain ⟨vs, h2, h3⟩ := main _ hv
    have hl := h2.1
    match vs, hl with
    | [u], _ =>
      refine ⟨u, ?_, h2.2 0 u x rfl rfl⟩
      rw [h3]; rfl
  · rename_i vs' hne hv
    cases h
    obtain ⟨vs, h2, h3⟩ := main _ hv
    refine ⟨.tuple vs.toArray, ?_, .tup vs vs' h2.1 h2.2⟩
    rw [h3, dif_neg]
    intro h1
    have hl := h2.1
    simp at h1
    rw [h1] at hl
    match vs', hl with
    | [y], _ => exact hne y rfl
  · cases h


/-- the slots of the parameters -/
def argSlots : Nat → List AV → List (Nat × AV)
  | _, [] => []
  | i, x :: l => (i, x) :: argSlots (i + 1) l

theorem get_argSlots : ∀ (l : List AV) (i j : Nat), aget (argSlots i l) j = if i ≤ j then l[j - i]? else none
  | [], i, j => by simp [argSlots, aget]
  | x :: l, i, j => by
    simp only [argSlots, aget_cons, get_argSlots l (i + 1) j]
    by_cases h : j = i
    · subst h; simp
    · rw [if_neg h]
      by_cases h2 : i ≤ j
      · have : i + 1 ≤ j := by omega
        rw [if_pos this, if_pos h2]
        have e : j - i = (j - (i + 1)) + 1 := by omega
        rw [e]; simp
      · rw [if_neg h2, if_neg (by omega)]

/-- the end of a function: its results, and what it leaves of the named things -/
def Ends (C : Cx) (τ : TyTab) (res : List ResultVar) (R : AV → S → Prop) (s : S) : Prop :=
  ∃ x kb kr km, resOf τ s res = some x ∧ s.keepOk kb kr km = true ∧ x.okIn kb kr km = true ∧ R x (s.keep kb kr km)

/-- a contract, out of the body's walk -/
theorem ACalls_of {P : Program} {f : FuncId} {fn : Func} {c : Code} {N : Nat} {res : List ResultVar} (hty : TyOk P τ) (hfn : P.funcs[f]? = some fn) (hbody : fn.body = some c) (hN : fn.ntmps = N) (hres : fn.results.toList = res)
    {s0 : S} {args : List AV} {R : AV → S → Prop} (hlen : decide (args.length ≤ N) = true)
    (h : ∀ (Q : Exit → Act → World → Prop) (g : Gh), (∀ s, Ends ⟨P, Q, g, N⟩ τ res R s → Fin ⟨P, Q, g, N⟩ s) →
      Wk ⟨P, Q, g, N⟩ [.code c] { s0 with fr := argSlots 0 args }) : ACalls P f s0 args R := by
  have hlen := of_decide_eq_true hlen
  intro w M E F vs hs hrel
  refine calls_of_wp hfn hbody ?_
  let Q := bodyPost P fn (fun e w' => ∃ M' E' v x s1, e = .returned v ∧ R x s1 ∧ St ⟨w, F, M⟩ 0 M' E' s1 #[] w' ∧ Rel M' E' v x)
  have hfin : ∀ s, Ends ⟨P, Q, ⟨w, F, M⟩, N⟩ τ res R s → Fin ⟨P, Q, ⟨w, F, M⟩, N⟩ s := by
    intro s ⟨x, kb, kr, km, hx, hk, hxk, hR⟩ a w' ⟨hdf, M', E', hst⟩
    rw [← hres] at hx
    obtain ⟨v, hv, hr⟩ := resOf_run (C := ⟨P, Q, ⟨w, F, M⟩, N⟩) hty hst hx
    have : ∃ M' E' v' x s1, Ending.returned v = .returned v' ∧ R x s1 ∧ St ⟨w, F, M⟩ 0 M' E' s1 #[] w' ∧ Rel M' E' v' x :=
      ⟨M', E'.keep kb kr km, v, x, s.keep kb kr km, rfl, hR, hst.keep kb kr km hk, hr.keep hxk⟩
    exact ⟨⟨hdf, v, hv, this⟩, ⟨hdf, v, hv, this⟩⟩
  have hw := h Q ⟨w, F, M⟩ hfin
  have := hw { tmps := vs.toArray ++ Array.replicate (fn.ntmps - vs.toArray.size) undef, defers := [] } w ⟨rfl, M, E, ?_⟩
  · have e : mean ⟨P, Q, ⟨w, F, M⟩, N⟩ [.code c] .normal = c.wp P (mean ⟨P, Q, ⟨w, F, M⟩, N⟩ []) := rfl
    rw [e] at this
    exact this
  · have hl := hrel.1
    refine { hs with size := by simp; omega, fr := fun i av hi => ?_ }
    simp only [get_argSlots, Nat.zero_le, if_true, Nat.sub_zero] at hi
    have hlt := (List.getElem?_eq_some_iff.1 hi).1
    refine ⟨Nat.lt_of_lt_of_le hlt hlen, ?_⟩
    have hv : i < vs.length := by omega
    refine hrel.2 i _ av ?_ hi
    rw [List.getElem?_eq_getElem hv, Array.getD_eq_getD_getElem?, Array.getElem?_append_left (by simpa using hv)]
    simp [hv]

theorem APure_of {P : Program} {f : FuncId} {fn : Func} {c : Code} {N : Nat} {res : List ResultVar} (hty : TyOk P τ) (hfn : P.funcs[f]? = some fn) (hbody : fn.body = some c) (hN : fn.ntmps = N) (hres : fn.results.toList = res)
    {args : List AV} {r : AV} (hlen : decide (args.length ≤ N) = true)
    (h : ∀ (Q : Exit → Act → World → Prop) (g : Gh), (∀ s, resOf τ s res = some r → r.isPure = true → Fin ⟨P, Q, g, N⟩ s) →
      Wk ⟨P, Q, g, N⟩ [.code c] ⟨argSlots 0 args, [], [], []⟩) : APure P f args r := by
  refine ACalls_of hty hfn hbody hN hres hlen fun Q g hfin => h Q g fun s hs hp => hfin s ?_
  refine ⟨r, fun _ => false, fun _ => false, fun _ => false, hs, by simp [S.keepOk], hp, rfl, ?_⟩
  simp [S.keep, S.none]

theorem Bodied_of {P : Program} {f : FuncId} {fn : Func} {c : Code} (hfn : P.funcs[f]? = some fn) (hbody : fn.body = some c) (hname : (fn.name == "runtime.NumGoroutine") = false) : Bodied P f :=
  ⟨fn, hfn, by rw [hbody]; rfl, hname⟩

/- the table of types -/
def TyAll (P : Program) : Nat → List (Option TI) → Prop
  | _, [] => True
  | k, none :: l => TyAll P (k + 1) l
  | k, some i :: l => TyOk1 P k i ∧ TyAll P (k + 1) l
theorem TyAll.get {P : Program} : ∀ {l : List (Option TI)} {k j : Nat} {i : TI}, TyAll P k l → nth l j = some (some i) → TyOk1 P (k + j) i
  | [], k, j, i, _, h => by simp [nth] at h
  | none :: l, k, 0, i, _, h => by simp [nth] at h
  | none :: l, k, j + 1, i, hl, h => by
    have e : k + (j + 1) = k + 1 + j := by omega
    rw [e]; exact TyAll.get (l := l) hl h
  | some i' :: l, k, 0, i, hl, h => by simp [nth] at h; subst h; exact hl.1
  | some i' :: l, k, j + 1, i, hl, h => by
    have e : k + (j + 1) = k + 1 + j := by omega
    rw [e]; exact TyAll.get (l := l) hl.2 h
def tyTab (l : List (Option TI)) : TyTab := fun t => (nth l t).bind id
theorem TyAll.ok {P : Program} {l : List (Option TI)} (h : TyAll P 0 l) : TyOk P (tyTab l) := by
  intro t i ht
  unfold tyTab at ht
  obtain ⟨o, ho, e⟩ := Option.bind_eq_some_iff.1 ht
  simp only [id] at e
  subst e
  have := h.get ho
  rwa [Nat.zero_add] at this

theorem TyOk1.of {P : Program} {t : TypeId} {i : TI} (h1 : (P.info? t).map (fun x => (x.size, x.bytes, x.zero.map fun z => z.cells.toList)) = some (i.sz, i.bytes, some (i.zero.map AV.zv)))
    (h2 : i.zero.all AV.isZ = true) (h3 : i.zero.length = i.sz) (h4 : TKOk P t i.k) (h5 : (i.k.agg || decide (i.sz = 1)) = true) : TyOk1 P t i := by
  refine ⟨?_, h2, h3, h4, fun h => ?_⟩
  · obtain ⟨inf, hi, e⟩ := Option.map_eq_some_iff.1 h1
    simp only [Prod.mk.injEq] at e
    obtain ⟨z, hz, e3⟩ := Option.map_eq_some_iff.1 e.2.2
    exact ⟨inf, z, hi, e.1, e.2.1, hz, e3⟩
  · simpa [h] using h5
theorem TKOk_int {P : Program} {t : TypeId} {k : IntKind} (h : P.underlying t = some (.int k)) : TKOk P t (.int k) := h
theorem TKOk_bool {P : Program} {t : TypeId} (h : P.underlying t = some .bool) : TKOk P t .bool := h
theorem TKOk_str {P : Program} {t : TypeId} (h : P.underlying t = some .string) : TKOk P t .str := h
theorem TKOk_ptr {P : Program} {t e : TypeId} (h : P.underlying t = some (.pointer e)) : TKOk P t (.ptr e) := h
theorem TKOk_slice {P : Program} {t e : TypeId} (h : P.underlying t = some (.slice e)) : TKOk P t (.slice e) := h
theorem TKOk_map {P : Program} {t k e : TypeId} (h : P.underlying t = some (.map k e)) : TKOk P t (.map k e) := h
theorem TKOk_func {P : Program} {t : TypeId} (h : (match P.underlying t with | some (.func _ _ _) => true | _ => false) = true) : TKOk P t .func := by
  unfold TKOk
  split at h
  · rename_i ps rs v hu; exact ⟨ps, rs, v, hu⟩
  · cases h
theorem TKOk_struct {P : Program} {t : TypeId} {fl : List (TypeId × Nat)} {eq : Bool}
    (h : (match P.underlying t with | some (.struct fs) => some (fs.toList.map fun f => (f.type, f.offset)) | _ => none) = some fl)
    (he : (!eq || (!P.stoodInHeld t && !P.eqGuardType P.depth t && (match P.underlying t with | some (.struct fs) => fs.toList.all (fun f => decide (f.name ≠ "_")) | _ => false))) = true) : TKOk P t (.struct fl eq) := by
  unfold TKOk
  split at h
  · rename_i fs hu
    cases h
    refine ⟨fs, hu, rfl, fun e => ?_⟩
    subst e
    simp only [hu, Bool.not_true, Bool.false_or, Bool.and_eq_true, Bool.not_eq_true'] at he
    exact ⟨he.1.1, he.1.2, he.2⟩
  · cases h

end Go.Dm
