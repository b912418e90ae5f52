/- Regions: calls, guards; what a function's end says. -/
import Derived.Test.YtipeimcdjijkgaaEm23
namespace Go.Dm
open Go Go.RowKit
set_option linter.unnecessarySimpa false
set_option linter.constructorNameAsVariable false
set_option linter.unusedSectionVars false
set_option linter.unusedSimpArgs false
set_option linter.unusedVariables false

variable {C : Cx} {k : List It} {s : S} {τ : TyTab}

/-- what a function's result slots say -/
def resOne (τ : TyTab) (s : S) : ResultVar → Option AV
  | .tmp t => aget s.fr t
  | .cell a t => match aget s.fr a, τ t with
    | some (.ptr i 0), some ti => match aget s.bx i with
      | some cs => partOf ti cs 0
      | none => none
    | _, _ => none
def resAll (τ : TyTab) (s : S) : List ResultVar → Option (List AV)
  | [] => some []
  | r :: l => match resOne τ s r, resAll τ s l with
    | some v, some vs => some (v :: vs)
    | _, _ => none
def resSem (tmps : Array Value) : ResultVar → Sem Value
  | .tmp t => pure (tmps.getD t undef)
  | .cell ad t => do loadVar t (← asAddr (tmps.getD ad undef))

theorem resOne_run (hτ : TyOk C.P τ) {M : Mem} {E : Env} {a : Act} {w : World} (hs : St C.g C.N M E s a.tmps w) {r : ResultVar} {x : AV} (h : resOne τ s r = some x) :
    ∃ v, (resSem a.tmps r).run C.P w = .ok v w ∧ Rel M E v x := by
  cases r with
  | tmp t => exact ⟨_, rfl, (hs.fr t x h).2⟩
  | cell ad t =>
    simp only [resOne] at h
    split at h
    · rename_i i ti hp hti
      split at h
      · rename_i cs hcs
        obtain ⟨b, hb, he⟩ := (hs.fr ad _ hp).2.ptr_inv
        obtain ⟨b', hb', hown, hbx⟩ := hs.bx i cs hcs
        rw [hb] at hb'; cases hb'
        obtain ⟨ty, vs, hh, hall⟩ := hbx.allR
        have hz : ti.sz ≠ 0 ∨ ti.k.agg = true := by
          cases hk : ti.k.agg with
          | true => exact .inr rfl
          | false => exact .inl (by have := (hτ _ _ hti).one hk; omega)
        obtain ⟨hlen, hrel, _⟩ := part_rel (hτ _ _ hti) hall h hz
        have hl := (hτ _ _ hti).loadVar w b 0 (fun j => vs.getD (0 + j) undef) (fun j hj => by
          rw [cell_of_heap hh]
          have : 0 + j < vs.length := by omega
          simp only [List.getD, List.getElem?_eq_getElem this, Option.getD_some])
        have e1 : (List.range ti.sz).map (fun j => vs.getD (0 + j) undef) = (vs.drop 0).take ti.sz := by
          apply List.ext_getElem?
          intro j
          rw [List.getElem?_take]
          by_cases hj : j < ti.sz
          · have : j < vs.length := by omega
            simp [hj, List.getD, this]
          · simp [hj]
        rw [e1] at hl
        refine ⟨_, ?_, hrel⟩
        simp only [resSem, he, asAddr, Sem.run_bind, Sem.run_pure, Result.andThen_ok]
        simpa using hl
      · cases h
    · cases h

theorem resAll_run (hτ : TyOk C.P τ) {M : Mem} {E : Env} {a : Act} {w : World} (hs : St C.g C.N M E s a.tmps w) : ∀ {l : List ResultVar} {xs : List AV}, resAll τ s l = some xs →
    ∃ vs : List Value, (l.mapM (resSem a.tmps)).run C.P w = .ok vs w ∧ RelL M E vs xs
  | [], xs, h => by simp only [resAll] at h; cases h; exact ⟨[], rfl, rfl, fun j v c hv => by simp at hv⟩
  | r :: l, xs, h => by
    simp only [resAll] at h
    split at h
    · rename_i v vs hv hvs
      cases h
      obtain ⟨u, h1, h2⟩ := resOne_run hτ hs hv
      obtain ⟨us, h3, h4⟩ := resAll_run hτ hs hvs
      refine ⟨u :: us, ?_, by simp [h4.1], fun j v' c hv' hc => ?_⟩
      · rw [List.mapM_cons]
        simp only [Sem.run_bind, h1, Result.andThen_ok, h3, Sem.run_pure]
      · cases j with
        | zero => simp at hv' hc; subst hv'; subst hc; exact h2
        | succ j => simp only [List.getElem?_cons_succ] at hv' hc; exact h4.2 j v' c hv' hc
    · cases h

/-- the slots of the parameters -/
def argSlots : Nat → List AV → List (Nat × AV)
  | _, [] => []
  | i, x :: l => (i, x) :: argSlots (i + 1) l

theorem get_argSlots : ∀ (l : List AV) (i j : Nat), aget (argSlots i l) j = if i ≤ j then l[j - i]? else none
  | [], i, j => by simp [argSlots, aget]
  | x :: l, i, j => by
    simp only [argSlots, aget_cons, get_argSlots l (i + 1) j]
    by_cases h : j = i
    · subst h; simp
    · rw [if_neg h]
      by_cases h2 : i ≤ j
      · have : i + 1 ≤ j := by omega
        rw [if_pos this, if_pos h2]
        have e : j - i = (j - (i + 1)) + 1 := by omega
        rw [e]; simp
      · rw [if_neg h2, if_neg (by omega)]

theorem Bodied_of {P : Program} {f : FuncId} {fn : Func} {c : Code} (hfn : P.funcs[f]? = some fn) (hbody : fn.body = some c) (hname : (fn.name == "runtime.NumGoroutine") = false) : Bodied P f :=
  ⟨fn, hfn, by rw [hbody]; rfl, hname⟩

/- the table of types -/
def TyAll (P : Program) : Nat → List (Option TI) → Prop
  | _, [] => True
  | k, none :: l => TyAll P (k + 1) l
  | k, some i :: l => TyOk1 P k i ∧ TyAll P (k + 1) l
theorem TyAll.get {P : Program} : ∀ {l : List (Option TI)} {k j : Nat} {i : TI}, TyAll P k l → nth l j = some (some i) → TyOk1 P (k + j) i
  | [], k, j, i, _, h => by simp [nth] at h
  | none :: l, k, 0, i, _, h => by simp [nth] at h
  | none :: l, k, j + 1, i, hl, h => by
    have e : k + (j + 1) = k + 1 + j := by omega
    rw [e]; exact TyAll.get (l := l) hl h
  | some i' :: l, k, 0, i, hl, h => by simp [nth] at h; subst h; exact hl.1
  | some i' :: l, k, j + 1, i, hl, h => by
    have e : k + (j + 1) = k + 1 + j := by omega
    rw [e]; exact TyAll.get (l := l) hl.2 h
def tyTab (l : List (Option TI)) : TyTab := fun t => (nth l t).bind id
theorem TyAll.ok {P : Program} {l : List (Option TI)} (h : TyAll P 0 l) : TyOk P (tyTab l) := by
  intro t i ht
  unfold tyTab at ht
  obtain ⟨o, ho, e⟩ := Option.bind_eq_some_iff.1 ht
  simp only [id] at e
  subst e
  have := h.get ho
  rwa [Nat.zero_add] at this

theorem TyOk1.of {P : Program} {t : TypeId} {i : TI} (h1 : (P.info? t).map (fun x => (x.size, x.bytes, x.zero.map fun z => (z.cells.toList, z.isAgg'))) = some (i.sz, i.bytes, some (i.zero.map AV.zv, i.k.agg)))
    (h2 : i.zero.all AV.isZ = true) (h3 : i.zero.length = i.sz) (h4 : TKOk P t i.k) (h5 : (i.k.agg || decide (i.sz = 1)) = true) : TyOk1 P t i := by
  obtain ⟨inf, hi, e⟩ := Option.map_eq_some_iff.1 h1
  simp only [Prod.mk.injEq] at e
  obtain ⟨z, hz, e3⟩ := Option.map_eq_some_iff.1 e.2.2
  simp only [Prod.mk.injEq] at e3
  refine ⟨⟨inf, z, hi, e.1, e.2.1, hz, e3.1⟩, h2, h3, h4, fun h => ?_, fun inf' z' hi' hz' => ?_⟩
  · simpa [h] using h5
  · rw [hi] at hi'; cases hi'
    rw [hz] at hz'; cases hz'
    exact e3.2
theorem TKOk_int {P : Program} {t : TypeId} {k : IntKind} (h : P.underlying t = some (.int k)) : TKOk P t (.int k) := h
theorem TKOk_bool {P : Program} {t : TypeId} (h : P.underlying t = some .bool) : TKOk P t .bool := h
theorem TKOk_str {P : Program} {t : TypeId} (h : P.underlying t = some .string) : TKOk P t .str := h
theorem TKOk_ptr {P : Program} {t e : TypeId} (h : P.underlying t = some (.pointer e)) : TKOk P t (.ptr e) := h
theorem TKOk_slice {P : Program} {t e : TypeId} (h : P.underlying t = some (.slice e)) : TKOk P t (.slice e) := h
theorem TKOk_map {P : Program} {t k e : TypeId} (h : P.underlying t = some (.map k e)) : TKOk P t (.map k e) := h
theorem TKOk_func {P : Program} {t : TypeId} (h : (match P.underlying t with | some (.func _ _ _) => true | _ => false) = true) : TKOk P t .func := by
  unfold TKOk
  split at h
  · rename_i ps rs v hu; exact ⟨ps, rs, v, hu⟩
  · cases h
theorem TKOk_struct {P : Program} {t : TypeId} {fl : List (TypeId × Nat)} {eq : Bool}
    (h : (match P.underlying t with | some (.struct fs) => some (fs.toList.map fun f => (f.type, f.offset)) | _ => none) = some fl)
    (he : (!eq || (!P.stoodInHeld t && !P.eqGuardType P.depth t && (match P.underlying t with | some (.struct fs) => fs.toList.all (fun f => decide (f.name ≠ "_")) | _ => false))) = true) : TKOk P t (.struct fl eq) := by
  unfold TKOk
  split at h
  · rename_i fs hu
    cases h
    refine ⟨fs, hu, rfl, fun e => ?_⟩
    subst e
    simp only [hu, Bool.not_true, Bool.false_or, Bool.and_eq_true, Bool.not_eq_true'] at he
    exact ⟨he.1.1, he.1.2, he.2⟩
  · cases h

theorem run_call {P : Program} {o : Oper} {c : Call} {f : FuncId} (ho : o.op = .call c) (hc : c.callee = .value (.func f)) (a : Act) (w : World) :
    (execOp a.eval o).run P w = (callFunc f ((c.args.toList.map a.eval).toArray)).run P w := by
  have e : (List.map a.eval c.args.toList).toArray = Array.map a.eval c.args := by rw [← Array.toList_map]
  rw [e]
  simp [execOp, ho, resolve, hc, Act.eval, Deferred.ofValue, Sem.run_bind, Sem.run_pure, Result.andThen_ok, invoke]

theorem run_callFunc {P : Program} {f : FuncId} (h : Bodied P f) (args : Array Value) (w : World) : (callFunc f args).run P w = .ok (.enter f args) w := by
  obtain ⟨fn, h1, h2, h3⟩ := h
  simp only [callFunc, Sem.run_bind, run_program, Result.andThen_ok, h1, h3, h2, Bool.false_eq_true, if_false, Sem.run_pure]


theorem run_callV {P : Program} {o : Oper} {c : Call} {t : Nat} {f : FuncId} {cs : List Value} (ho : o.op = .call c) (hc : c.callee = .value (.tmp t)) (a : Act) (hv : a.eval (.tmp t) = .func (.func f) #[] cs.toArray) (w : World) :
    (execOp a.eval o).run P w = (callFunc f ((c.args.toList.map a.eval ++ cs).toArray)).run P w := by
  have e : (List.map a.eval c.args.toList).toArray = Array.map a.eval c.args := by rw [← Array.toList_map]
  have e2 : (c.args.toList.map a.eval ++ cs).toArray = Array.map a.eval c.args ++ cs.toArray := by rw [← e]; simp
  rw [e2]
  simp [execOp, ho, resolve, hc, hv, Deferred.ofValue, Sem.run_bind, Sem.run_pure, Result.andThen_ok, invoke]

def guardSlot (all : List Oper) (j : Nat) : Option Nat := match nth all j with
  | some o => o.dst
  | none => none

/-- when an operation is worked out: under these conditions -/
def gcond (all : List Oper) (s : S) (gd : Option (Nat × Bool)) : Option (List (Nat × Bool)) :=
  match gd with
  | none => some []
  | some (j, want) => match guardSlot all j with
    | some d => match aget s.fr d with
      | some (.bool b) => some [(d, match want with | true => b | false => !b)]
      | some (.when cs (.bool b)) => some ((d, match want with | true => b | false => !b) :: cs)
      | _ => none
    | none => none

def asB : Value → Option Bool
  | .bool b => some b
  | _ => none

theorem yielded_slot {all : List Oper} {a : Act} {w : World} {M : Mem} {E : Env} (hs : St C.g C.N M E s a.tmps w) {j d : Nat} (hd : guardSlot all j = some d) {x : AV} (hx : aget s.fr d = some x) {v : Value} (hv : a.tmps.getD d undef = v) :
    yielded all.toArray a.tmps j = asB v := by
  unfold guardSlot at hd
  rw [nth_eq] at hd
  split at hd
  · rename_i o ho
    have hlt : d < a.tmps.size := by rw [hs.size]; exact (hs.fr d x hx).1
    have hv' : (a.tmps[d]? : Option Value) = some v := by
      rw [Array.getD_eq_getD_getElem?, Array.getElem?_eq_getElem hlt] at hv
      rw [Array.getElem?_eq_getElem hlt]
      simpa using hv
    have ho' : all.toArray[j]? = some o := by simpa using ho
    unfold yielded
    simp only [ho', hd, Option.bind_some, hv']
    cases v <;> rfl
  · cases hd

theorem gcond_ok {all : List Oper} {o : Oper} {A : List (Nat × Bool)} (h : gcond all s o.guard = some A) {a : Act} {w : World} (hx : H C.g C.N s a w) : Region.wanted o (yielded all.toArray a.tmps) = allB A := by
  obtain ⟨_, M, E, hs, _⟩ := hx
  unfold gcond at h
  split at h
  · rename_i hg; cases h; simp [Region.wanted, hg, allB]
  · rename_i j want hg
    split at h
    · rename_i d hd
      split at h
      · rename_i b hb
        cases h
        have hv := (hs.fr d _ hb).2.bool_inv
        rw [Region.wanted, hg]
        simp only [yielded_slot hs hd hb hv, asB, allB]
        cases b <;> cases want <;> rfl
      · rename_i cs b hb
        cases h
        rw [Region.wanted, hg]
        have hr := (hs.fr d _ hb).2
        cases hcs : allB cs with
        | true =>
          have hv := (hr.when_inv hcs).bool_inv
          simp only [yielded_slot hs hd hb hv, asB, allB, hcs]
          cases b <;> cases want <;> rfl
        | false =>
          have hv := hr.when_undef hcs
          simp only [yielded_slot hs hd hb hv, undef, asB, allB, hcs]
          cases want <;> simp
      · cases h
    · cases h


/- calls -/

def selF {α : Type} : List Nat → List (Nat × α) → Option (List (Nat × α))
  | [], _ => some []
  | i :: l, m => match aget m i with
    | some v => match selF l m with
      | some r => some ((i, v) :: r)
      | none => none
    | none => none
theorem selF_get {α : Type} : ∀ {l : List Nat} {m r : List (Nat × α)}, selF l m = some r → ∀ {i : Nat} {v : α}, aget r i = some v → aget m i = some v
  | [], m, r, h, i, v, hi => by simp only [selF] at h; cases h; cases hi
  | j :: l, m, r, h, i, v, hi => by
    simp only [selF] at h
    split at h
    · rename_i u hu
      split at h
      · rename_i r' hr'
        cases h
        rw [aget_cons] at hi
        split at hi
        · rename_i e; cases hi; rw [e]; exact hu
        · exact selF_get hr' hi
      · cases h
    · cases h

mutual
/-- no memory hangs on it -/
def AV.scal : AV → Bool
  | .int _ _ | .bool _ | .str _ | .nils | .nilp | .nilfn | .nilmp => true
  | .sl _ [] => true
  | .agg cs => AV.scalL cs
  | .tup cs => AV.scalL cs
  | _ => false
def AV.scalL : List AV → Bool
  | [] => true
  | x :: l => match x.scal with
    | true => AV.scalL l
    | false => false
end
theorem scalL_get : ∀ {l : List AV} {j : Nat} {x : AV}, AV.scalL l = true → l[j]? = some x → x.scal = true
  | y :: l, 0, x, h, hx => by
    simp at hx; subst hx
    simp only [AV.scalL] at h
    split at h
    · assumption
    · cases h
  | y :: l, j + 1, x, h, hx => by
    simp only [AV.scalL] at h
    split at h
    · exact scalL_get h (by simpa using hx)
    · cases h
theorem RelP.scal {M M' : Mem} {v : Value} {x : AV} (h : RelP M v x) (hx : x.scal = true) : RelP M' v x := by
  cases h with
  | sl a n c sz xs f hn hc hb hz ha hf =>
    cases xs with
    | nil => exact .sl a n c sz [] f hn hc hb hz (fun h => absurd rfl h) (fun j u hu => by simp [flat] at hu)
    | cons _ _ => simp [AV.scal] at hx
  | rp blk off x f ha hf => simp [AV.scal] at hx
  | ub b p q h1 h2 => exact .ub b p q h1 h2
  | _ => constructor
theorem RelS.scal {M M' : Mem} {E E' : Env} {v : Value} {x : AV} (h : RelS M E v x) (hx : x.scal = true) : RelS M' E' v x := by
  cases h with
  | pure h => exact .pure (h.scal hx)
  | _ => simp [AV.scal] at hx
theorem Rel.scal {M M' : Mem} {E E' : Env} {v : Value} {x : AV} (h : Rel M E v x) : x.scal = true → Rel M' E' v x := by
  induction h with
  | cell h => exact fun hx => .cell (h.scal hx)
  | agg vs cs hl h => exact fun hx => .agg vs cs hl fun j v c hv hc => (h j v c hv hc).scal (scalL_get (by simpa only [AV.scal] using hx) hc)
  | tup vs cs hl h ih => exact fun hx => .tup vs cs hl fun j v c hv hc => ih j v c hv hc (scalL_get (by simpa only [AV.scal] using hx) hc)
  | any v => exact fun hx => by simp [AV.scal] at hx
  | when v c x h hu ih => exact fun hx => by simp [AV.scal] at hx

/-- own rows, sealed, but for those that are handed over -/
def sealCx (R : List Nat) (s : S) : AV → Option (AV × List (Nat × Rw))
  | .row i v => match memN i R with
    | true => some (.row i v, [])
    | false => sealC s (.row i v)
  | x => some (x, [])
def sealLx (R : List Nat) (s : S) : List AV → Option (List AV × List (Nat × Rw))
  | [] => some ([], [])
  | x :: l => match sealCx R s x with
    | some (y, e) => match sealLx R s l with
      | some (m, f) => some (y :: m, f ++ e)
      | none => none
    | none => none
def sealAx (R : List Nat) (s : S) : AV → Option (AV × List (Nat × Rw))
  | .agg cs => match sealLx R s cs with
    | some (ds, e) => some (.agg ds, e)
    | none => none
  | x => sealCx R s x
def sealALx (R : List Nat) (s : S) : List AV → Option (List AV × List (Nat × Rw))
  | [] => some ([], [])
  | x :: l => match sealAx R s x with
    | some (y, e) => match sealALx R s l with
      | some (m, f) => some (y :: m, f ++ e)
      | none => none
    | none => none

section
variable {g : Gh} {N : Nat} {M : Mem} {E : Env} {tmps : Array Value} {w : World} {v : Value}
theorem sealCx_ok {R : List Nat} {s1 : S} (hl : likeRows s s1) {x y : AV} {e : List (Nat × Rw)} (h : sealCx R s x = some (y, e)) (hs : St g N M E s1 tmps w) (hx : RelS M E v x) :
    ∃ M', (∀ b j v, M b j = some v → M' b j = some v) ∧ St g N M' E { s1 with rw := e ++ s1.rw } tmps w ∧ RelS M' E v y ∧ likeRows s { s1 with rw := e ++ s1.rw } := by
  cases x with
  | row i vr =>
    simp only [sealCx] at h
    split at h
    · cases h; exact ⟨M, fun _ _ _ h => h, hs, hx, hl⟩
    · exact sealC_ok hl h hs hx
  | _ =>
    simp only [sealCx] at h
    cases h
    exact ⟨M, fun _ _ _ h => h, hs, hx, hl⟩
theorem sealLx_ok {R : List Nat} : ∀ {cs ds : List AV} {e : List (Nat × Rw)} {s1 : S} {vs : List Value} {M : Mem}, likeRows s s1 → sealLx R s cs = some (ds, e) → St g N M E s1 tmps w → AllR (RelS M E) vs cs →
    ∃ M', (∀ b j v, M b j = some v → M' b j = some v) ∧ St g N M' E { s1 with rw := e ++ s1.rw } tmps w ∧ AllR (RelS M' E) vs ds ∧ likeRows s { s1 with rw := e ++ s1.rw }
  | [], ds, e, s1, vs, M, hl, h, hs, hv => by
    simp only [sealLx] at h
    cases h
    exact ⟨M, fun _ _ _ h => h, hs, hv, hl⟩
  | x :: cs, ds, e, s1, vs, M, hl, h, hs, hv => by
    simp only [sealLx] at h
    split at h
    · rename_i y e1 h1
      split at h
      · rename_i m e2 h2
        cases h
        match vs, hv with
        | [], hv => exact absurd hv.1 (by simp)
        | u :: vs, hv =>
          obtain ⟨M1, hM1, hs1, hr1, hl1⟩ := sealCx_ok hl h1 hs (hv.2 0 u x rfl rfl)
          have htail : AllR (RelS M1 E) vs cs := ⟨by simpa using hv.1, fun j v c hj hc => (hv.2 (j + 1) v c (by simpa using hj) (by simpa using hc)).monoM hM1⟩
          obtain ⟨M2, hM2, hs2, hr2, hl2⟩ := sealLx_ok hl1 h2 hs1 htail
          refine ⟨M2, fun b j v h => hM2 b j v (hM1 b j v h), by simpa only [List.append_assoc] using hs2, ⟨by simp [hr2.1], fun j v c hj hc => ?_⟩, by simpa only [List.append_assoc] using hl2⟩
          cases j with
          | zero => simp at hj hc; subst hj; subst hc; exact hr1.monoM hM2
          | succ j => simp only [List.getElem?_cons_succ] at hj hc; exact hr2.2 j v c hj hc
      · cases h
    · cases h
theorem sealAx_ok {R : List Nat} {s1 : S} (hl : likeRows s s1) {x y : AV} {e : List (Nat × Rw)} (h : sealAx R s x = some (y, e)) (hs : St g N M E s1 tmps w) (hx : Rel M E v x) :
    ∃ M', (∀ b j v, M b j = some v → M' b j = some v) ∧ St g N M' E { s1 with rw := e ++ s1.rw } tmps w ∧ Rel M' E v y ∧ likeRows s { s1 with rw := e ++ s1.rw } := by
  cases x with
  | agg cs =>
    simp only [sealAx] at h
    split at h
    · rename_i ds e1 h1
      cases h
      obtain ⟨vs, rfl, hlen, hr⟩ := hx.agg_inv
      obtain ⟨M', hM, hs', hr', hl'⟩ := sealLx_ok hl h1 hs ⟨hlen, hr⟩
      exact ⟨M', hM, hs', .agg vs _ hr'.1 hr'.2, hl'⟩
    · cases h
  | row i vr =>
    simp only [sealAx] at h
    obtain ⟨M', hM, hs', hr, hl'⟩ := sealCx_ok hl h hs (hx.of_cell rfl)
    exact ⟨M', hM, hs', .cell hr, hl'⟩
  | _ =>
    simp only [sealAx, sealCx] at h
    cases h
    exact ⟨M, fun _ _ _ h => h, hs, hx, hl⟩
theorem sealALx_ok {R : List Nat} : ∀ {cs ds : List AV} {e : List (Nat × Rw)} {s1 : S} {vs : List Value} {M : Mem}, likeRows s s1 → sealALx R s cs = some (ds, e) → St g N M E s1 tmps w → RelL M E vs cs →
    ∃ M', (∀ b j v, M b j = some v → M' b j = some v) ∧ St g N M' E { s1 with rw := e ++ s1.rw } tmps w ∧ RelL M' E vs ds ∧ likeRows s { s1 with rw := e ++ s1.rw }
  | [], ds, e, s1, vs, M, hl, h, hs, hv => by
    simp only [sealALx] at h
    cases h
    exact ⟨M, fun _ _ _ h => h, hs, hv, hl⟩
  | x :: cs, ds, e, s1, vs, M, hl, h, hs, hv => by
    simp only [sealALx] at h
    split at h
    · rename_i y e1 h1
      split at h
      · rename_i m e2 h2
        cases h
        match vs, hv with
        | [], hv => exact absurd hv.1 (by simp)
        | u :: vs, hv =>
          obtain ⟨M1, hM1, hs1, hr1, hl1⟩ := sealAx_ok hl h1 hs (hv.2 0 u x rfl rfl)
          have htail : RelL M1 E vs cs := ⟨by simpa using hv.1, fun j v c hj hc => (hv.2 (j + 1) v c (by simpa using hj) (by simpa using hc)).monoM hM1⟩
          obtain ⟨M2, hM2, hs2, hr2, hl2⟩ := sealALx_ok hl1 h2 hs1 htail
          refine ⟨M2, fun b j v h => hM2 b j v (hM1 b j v h), by simpa only [List.append_assoc] using hs2, ⟨by simp [hr2.1], fun j v c hj hc => ?_⟩, by simpa only [List.append_assoc] using hl2⟩
          cases j with
          | zero => simp at hj hc; subst hj; subst hc; exact hr1.monoM hM2
          | succ j => simp only [List.getElem?_cons_succ] at hj hc; exact hr2.2 j v c hj hc
      · cases h
    · cases h
end

/-- all keys of a list are in another one -/
def keysIn {α β : Type} : List (Nat × α) → List (Nat × β) → Bool
  | [], _ => true
  | (i, _) :: l, m => match hasKey m i with
    | true => keysIn l m
    | false => false
/-- all keys of a list are in the first, or new -/
def keysNew {α β γ : Type} : List (Nat × α) → List (Nat × β) → List (Nat × γ) → Bool
  | [], _, _ => true
  | (i, _) :: l, m, o => match hasKey m i with
    | true => keysNew l m o
    | false => match hasKey o i || Nat.ble nB i with
      | true => false
      | false => keysNew l m o
theorem keysIn_ok {α β : Type} : ∀ {l : List (Nat × α)} {m : List (Nat × β)}, keysIn l m = true → ∀ i, hasKey l i = true → hasKey m i = true
  | (j, x) :: l, m, h, i, hi => by
    simp only [keysIn] at h
    split at h
    · rename_i hj
      simp only [hasKey] at hi
      split at hi
      · rename_i e; rw [beq_true e]; exact hj
      · exact keysIn_ok h i hi
    · cases h
theorem keysNew_ok {α β γ : Type} : ∀ {l : List (Nat × α)} {m : List (Nat × β)} {o : List (Nat × γ)}, keysNew l m o = true → ∀ i, hasKey l i = true → hasKey m i = true ∨ (aget o i = none ∧ i < nB)
  | (j, x) :: l, m, o, h, i, hi => by
    simp only [keysNew] at h
    simp only [hasKey] at hi
    split at h
    · rename_i hj
      split at hi
      · rename_i e; rw [beq_true e]; exact .inl hj
      · exact keysNew_ok h i hi
    · split at h
      · cases h
      · rename_i hn
        split at hi
        · rename_i e
          obtain ⟨h1, h2⟩ := Bool.or_eq_false_iff.1 hn
          rw [beq_true e]
          refine .inr ⟨?_, ?_⟩
          · rw [hasKey_aget] at h1; simpa using h1
          · rcases Nat.lt_or_ge j nB with h' | h'
            · exact h'
            · rw [Nat.ble_eq_true_of_le h'] at h2; cases h2
        · exact keysNew_ok h i hi
/-- no key of a list is in another -/
def apartB {α : Type} : List (Nat × α) → List Nat → Bool
  | [], _ => true
  | (i, _) :: l, R => match memN i R with
    | true => false
    | false => apartB l R

def okeys {α : Type} (c : Nat) : List (Nat × α) → List Key
  | [] => []
  | (i, _) :: l => (c, i) :: okeys c l
def S.keys (s : S) : List Key := okeys 1 s.bx ++ (okeys 2 s.rw ++ (okeys 3 s.mp ++ okeys 4 s.ar))

def subS (s : S) (bs rs ms as : List Nat) : Option S :=
  match selF bs s.bx with
  | some b => match selF rs s.rw with
    | some r => match selF ms s.mp with
      | some m => match selF as s.ar with
        | some a => some ⟨[], b, r, m, a⟩
        | none => none
      | none => none
    | none => none
  | none => none

/-- what a called function is handed and leaves -/
def callE (P : Program) (s : S) (f : FuncId) (xs : List AV) (ro : Bool) (bs rs ms as : List Nat) (r : AV) (s1' : S) (an : List An) : Option Res :=
  match subS s bs rs ms as with
  | some s0 => match closedB s0 with
    | true => match sealALx rs s xs with
      | some (ys, ef) => match apartB ef rs with
        | true => match AV.okInL (hasKey s0.bx) (hasKey s0.rw) (hasKey s0.mp) (hasKey s0.ar) ys with
          | true => match ro with
            | true => match AV.okIn (hasKey s0.bx) (hasKey s0.rw) (hasKey s0.mp) (hasKey s0.ar) r with
              | true => some ⟨[Pe P f s0 ys r s0], [], ⟨some r, [], ef, [], []⟩, s0.keys ++ rkeys ef, an⟩
              | false => none
            | false => match keysIn s0.bx s1'.bx && (keysIn s0.rw s1'.rw && (keysIn s0.mp s1'.mp && keysIn s0.ar s1'.ar)) with
              | true => match keysNew s1'.bx s0.bx s.bx && (keysNew s1'.rw s0.rw s.rw && (keysNew s1'.mp s0.mp s.mp && keysNew s1'.ar s0.ar s.ar)) with
                | true => some ⟨[Pe P f s0 ys r s1'], [], ⟨some r, s1'.bx, s1'.rw ++ ef, s1'.mp, s1'.ar⟩, s0.keys ++ (s1'.keys ++ rkeys ef), an⟩
                | false => none
              | false => none
          | false => none
        | false => none
      | none => none
    | false => none
  | none => none

def evalCall (P : Program) (s : S) (an : List An) (f : FuncId) (xs : List AV) : Option Res :=
  match an with
  | .call r :: an => match sealAL s xs with
    | some (ys, ef) => match AV.okInL no no no no ys with
      | true => match AV.isPure r with
        | true => some ⟨[Pc P f ys r], [], ⟨some r, [], ef, [], []⟩, rkeys ef, an⟩
        | false => none
      | false => none
    | none => none
  | .callB r :: an => match sealAL s xs with
    | some (ys, ef) => match AV.okInL no no no no ys with
      | true => match AV.scal r with
        | true => some ⟨[Pc P f ys r], [], ⟨some r, [], [], [], []⟩, rkeys ef, an⟩
        | false => none
      | false => none
    | none => none
  | .callR bs rs ms as r :: an => callE P s f xs true bs rs ms as r S.none an
  | .callE bs rs ms as r s1 :: an => callE P s f xs false bs rs ms as r s1 an
  | _ => none

/-- arguments: slices that are nil as empty ones, but for those that are listed -/
def normX (τ : TyTab) (nk : List Nat) : Nat → List TypeId → List AV → List AV
  | i, t :: ts, x :: l => (match memN i nk with | true => x | false => norm τ t x) :: normX τ nk (i + 1) ts l
  | _, _, l => l
def argN (τ : TyTab) (an : List An) (ts : List TypeId) (xs : List AV) : List AV × List An :=
  match an with
  | .raw nk :: an => (normX τ nk 0 ts xs, an)
  | an => (normL τ ts xs, an)
theorem normX_rel {nk : List Nat} {M : Mem} {E : Env} : ∀ {ts : List TypeId} {i : Nat} {xs : List AV} {vs : List Value}, RelL M E vs xs → RelL M E vs (normX τ nk i ts xs)
  | [], i, xs, vs, h => by simp only [normX]; exact h
  | t :: ts, i, [], vs, h => by simp only [normX]; exact h
  | t :: ts, i, x :: xs, vs, h => by
    obtain ⟨h1, h2⟩ := h
    match vs, h1 with
    | v :: vs, h1 =>
      have ih : RelL M E vs (normX τ nk (i + 1) ts xs) := normX_rel ⟨by simpa using h1, fun j u c hu hc => h2 (j + 1) u c (by simpa using hu) (by simpa using hc)⟩
      simp only [normX]
      refine ⟨by simp [ih.1], fun j u c hu hc => ?_⟩
      cases j with
      | zero =>
        simp at hu hc
        subst hu; subst hc
        split
        · exact h2 0 v x rfl rfl
        · exact norm_rel (h2 0 v x rfl rfl)
      | succ j => simp only [List.getElem?_cons_succ] at hu hc; exact ih.2 j u c hu hc
theorem argN_rel {M : Mem} {E : Env} {an : List An} {ts : List TypeId} {xs : List AV} {vs : List Value} (h : RelL M E vs xs) : RelL M E vs (argN τ an ts xs).1 := by
  unfold argN
  split
  · exact normX_rel h
  · exact normL_rel h

def evalAny (τ : TyTab) (P : Program) (A : List (Nat × Bool)) (s : S) (an : List An) (d : Option Nat) : Op → Option Res
  | .call ⟨.value (.func f), ops, tys⟩ => match vals s ops.toList with
    | some xs => evalCall P s (argN τ an tys.toList xs).2 f (argN τ an tys.toList xs).1
    | none => none
  | .call ⟨.value (.tmp t), ops, tys⟩ => match valW s (.tmp t) with
    | some (.fn f caps) => match vals s ops.toList with
      | some xs => evalCall P s (argN τ an tys.toList xs).2 f ((argN τ an tys.toList xs).1 ++ caps)
      | none => none
    | _ => none
  | op => evalOp τ A d s an op

/-- under conditions -/
def und : List (Nat × Bool) → Prop → Prop
  | [], p => p
  | (_, c) :: l, p => c = true → und l p
theorem und_ok : ∀ {A : List (Nat × Bool)} {p : Prop}, und A p → allB A = true → p
  | [], p, h, _ => h
  | (d, c) :: l, p, h, hA => by
    simp only [allB, Bool.and_eq_true] at hA
    exact und_ok (h hA.1) hA.2
def undL (A : List (Nat × Bool)) : List Prop → List Prop
  | [] => []
  | p :: l => und A p :: undL A l
theorem undL_ok {A : List (Nat × Bool)} (hA : allB A = true) : ∀ {l : List Prop}, AllP (undL A l) → AllP l
  | [], _ => trivial
  | p :: l, h => ⟨und_ok h.1 hA, undL_ok hA h.2⟩

def evalG (τ : TyTab) (P : Program) (A : List (Nat × Bool)) (s : S) (an : List An) (o : Oper) : Option Res :=
  match obs A s (needs o.op) with
  | some es => match evalAny τ P A s an o.dst o.op with
    | some r => match A with
      | [] => some ⟨r.gs, es ++ r.eq, r.e, r.rd, r.an⟩
      | (_, _) :: _ => match r.e with
        | ⟨some x, [], [], [], []⟩ => some ⟨undL A r.gs, es ++ r.eq, ⟨some (.when A x), [], [], [], []⟩, r.rd, r.an⟩
        | _ => none
    | none => none
  | none => none

/-- one operation of a region -/
def Step (C : Cx) (all : List Oper) (o : Oper) (s s1 : S) : Prop :=
  ∀ a w, H C.g C.N s a w → ∀ (K : Act → World → Prop) (Q : Exit → Act → World → Prop), (∀ a' w', H C.g C.N s1 a' w' → K a' w') →
    if Region.wanted o (yielded all.toArray a.tmps) then o.wp C.P a w K Q else K (a.put o.dst undef) w

/-- one that is worked out -/
def Wp (C : Cx) (o : Oper) (s s1 : S) : Prop :=
  ∀ a w, H C.g C.N s a w → ∀ (K : Act → World → Prop) (Q : Exit → Act → World → Prop), (∀ a' w', H C.g C.N s1 a' w' → K a' w') → o.wp C.P a w K Q

theorem Wp_of_does {o : Oper} {s1 : S} (h : Does C o s s1) : Wp C o s s1 := by
  intro a w hx K Q hK
  obtain ⟨v, w', hrun, hH⟩ := h a w hx
  unfold Oper.wp
  rcases hrun with hrun | ⟨hrun, rfl⟩
  · rw [hrun, Oper.upon_value]; exact hK _ _ hH
  · rw [hrun, Oper.upon_skip]; exact hK _ _ hH


section
variable {g : Gh} {N : Nat} {M : Mem} {E : Env} {tmps : Array Value} {w : World}
theorem likeRows.get {s1 : S} (hl : likeRows s s1) {R : List Nat} {ef : List (Nat × Rw)} (h : s1.rw = ef ++ s.rw) (ha : apartB ef R = true) {i : Nat} (hi : memN i R = true) : aget s1.rw i = aget s.rw i := by
  have : aget ef i = none := by
    clear h hl
    induction ef with
    | nil => rfl
    | cons p ef ih =>
      obtain ⟨j, x⟩ := p
      simp only [apartB] at ha
      split at ha
      · cases ha
      · rename_i hj
        rw [aget_cons, if_neg (by rintro rfl; rw [hi] at hj; cases hj)]
        exact ih ha
  rw [h, aget_append, this]

theorem selF_mem {α : Type} : ∀ {l : List Nat} {m r : List (Nat × α)}, selF l m = some r → ∀ {i : Nat} {v : α}, aget r i = some v → memN i l = true
  | [], m, r, h, i, v, hi => by simp only [selF] at h; cases h; cases hi
  | j :: l, m, r, h, i, v, hi => by
    simp only [selF] at h
    split at h
    · split at h
      · rename_i r' hr'
        cases h
        rw [aget_cons] at hi
        simp only [memN]
        split at hi
        · rename_i e; rw [e, Nat.beq_refl]
        · split
          · rfl
          · exact selF_mem hr' hi
      · cases h
    · cases h

theorem subS_get {bs rs ms as : List Nat} {s0 : S} (h : subS s bs rs ms as = some s0) : s0.fr = [] ∧ (∀ i v, aget s0.bx i = some v → aget s.bx i = some v) ∧ (∀ i v, aget s0.rw i = some v → aget s.rw i = some v ∧ memN i rs = true) ∧
    (∀ i v, aget s0.mp i = some v → aget s.mp i = some v) ∧ ∀ i v, aget s0.ar i = some v → aget s.ar i = some v := by
  unfold subS at h
  split at h
  · rename_i b hb
    split at h
    · rename_i r hr
      split at h
      · rename_i m hm
        split at h
        · rename_i a ha
          cases h
          exact ⟨rfl, fun i v => selF_get hb, fun i v hv => ⟨selF_get hr hv, selF_mem hr hv⟩, fun i v => selF_get hm, fun i v => selF_get ha⟩
        · cases h
      · cases h
    · cases h
  · cases h

theorem namesOk_self {α : Type} (l m : List (Nat × α)) : namesOk l l m := ⟨fun _ h => h, fun _ h => .inl h⟩

theorem callE_sound {P : Program} {f : FuncId} {xs : List AV} {ro : Bool} {bs rs ms as : List Nat} {r : AV} {s1' : S} {an : List An} {res : Res} (h : callE P s f xs ro bs rs ms as r s1' an = some res) (hg : AllP res.gs)
    (hs : St g N M E s tmps w) {vs : List Value} (hx : RelL M E vs xs) : Bodied P f ∧ Calls P f vs.toArray w fun e w' => ∃ M' E' v x, e = .returned v ∧ res.e.x = some x ∧ E.up E' ∧ St g N M' E' (res.e.app none s) tmps w' ∧ Rel M' E' v x := by
  unfold callE at h
  split at h
  · rename_i s0 hs0
    split at h
    · rename_i hcl
      split at h
      · rename_i ys ef hse
        split at h
        · rename_i hap
          split at h
          · rename_i hok
            obtain ⟨q0, q1, q2, q3, q4⟩ := subS_get hs0
            have hl0 : likeRows s s := ⟨rfl, rfl, rfl, rfl, fun i r h => ⟨r.k, h⟩⟩
            obtain ⟨M1, hM1, hs1, hr1, hl1⟩ := sealALx_ok hl0 hse hs hx
            have hsub : (∀ i v, aget s0.bx i = some v → aget s.bx i = some v) ∧ (∀ i v, aget s0.rw i = some v → aget (ef ++ s.rw) i = some v) ∧ (∀ i v, aget s0.mp i = some v → aget s.mp i = some v) ∧ ∀ i v, aget s0.ar i = some v → aget s.ar i = some v :=
              ⟨q1, fun i v hv => by
                obtain ⟨e1, e2⟩ := q2 i v hv
                have := hl1.get (R := rs) (ef := ef) rfl hap e2
                rw [this]; exact e1, q3, q4⟩
            have hst0 := hs1.noFr.sub (t := s0) (fun i v hi => by rw [q0] at hi; cases hi) hsub.1 hsub.2.1 hsub.2.2.1 hsub.2.2.2 hcl
            have hargs : RelL M1 (E.keep (hasKey s0.bx) (hasKey s0.rw) (hasKey s0.mp) (hasKey s0.ar)) vs ys := ⟨hr1.1, fun j v c hv hc => (hr1.2 j v c hv hc).keep (okInL_get hok hc)⟩
            have hpre := hst0.rebase (fun b => b < w.heap.size ∧ (E.keep (hasKey s0.bx) (hasKey s0.rw) (hasKey s0.mp) (hasKey s0.ar)).own b = none) (fun b hb => hb)
            split at h
            · split at h
              · rename_i hro
                cases h
                obtain ⟨hb, hc⟩ := hg.1
                refine ⟨hb, (hc w M1 _ _ vs hpre hargs).mono ?_⟩
                rintro e w' ⟨M', E1, v, rfl, hlw, hst, hrel⟩
                obtain ⟨E2, hup, hle2, hst2⟩ := hs1.called hst hlw hsub (namesOk_self _ _) (namesOk_self _ _) (namesOk_self _ _) (namesOk_self _ _)
                refine ⟨M', E2, v, r, rfl, rfl, hup, ?_, hrel.monoE hle2⟩
                -- what was only read is as it was
                have same : ∀ {α : Type} {a b : List (Nat × α)}, (∀ i v, aget a i = some v → aget b i = some v) → ∀ i, aget (a ++ b) i = aget b i := fun {α a b} hab i => by
                  rw [aget_append]
                  cases hh : aget a i with
                  | none => rfl
                  | some v => exact (hab i v hh).symm
                refine hst2.weak (fun j y hj => ⟨y, hj, fun v hv => hv⟩) (fun j cs hj => ⟨j, cs, by simp only [S.over, same hsub.1]; exact hj, fun b h => h, fun b h => h, rfl, fun m c c' v h1 h2 hv => by rw [h1] at h2; cases h2; exact hv⟩)
                  (fun j hj => hst2.bxn j (by simp only [S.over, same hsub.1]; exact hj)) (fun j r2 hj => ?_) (fun j hj => hst2.rwn j (by simp only [S.over, same hsub.2.1]; exact hj))
                  (fun j es hj => ⟨j, es, by simp only [S.over, same hsub.2.2.1]; exact hj, fun b h => h, fun b h => h, rfl, fun m c c' h1 h2 => by rw [h1] at h2; cases h2; exact ⟨rfl, fun v hv => hv⟩⟩) (fun j hj => hst2.mpn j (by simp only [S.over, same hsub.2.2.1]; exact hj))
                  (fun j r2 hj => ⟨by simp only [S.over, same hsub.2.2.2]; exact hj, rfl, fun b p h => h, fun b p h => h, Env.le_refl _⟩) (fun j hj => hst2.arn j (by simp only [S.over, same hsub.2.2.2]; exact hj)) (fun b o ho => ⟨o, ho, fun m hm => ?_⟩)
                · have hj' : aget (s0.over { s with rw := ef ++ s.rw }).rw j = some r2 := by simp only [S.over, same hsub.2.1]; exact hj
                  refine ⟨j, r2, hj', fun q hq => ?_, fun b h => h, fun b p h => h, rfl, rfl, .inl rfl, rfl, rfl, rfl, Nat.le_refl _, fun h => h, fun _ => Env.le_refl _⟩
                  obtain ⟨q', hq', hok'⟩ := hst2.rw j r2 hj'
                  rw [hq] at hq'; cases hq'
                  rw [← hok'.ver]; exact hq
                · obtain ⟨kd, j, p⟩ := o
                  simp only [sealN, S.over, same hsub.2.1, same hsub.2.2.2] at hm
                  exact hm
              · cases h
            · split at h
              · rename_i hk1
                split at h
                · rename_i hk2
                  cases h
                  obtain ⟨hb, hc⟩ := hg.1
                  simp only [Bool.and_eq_true] at hk1 hk2
                  obtain ⟨k1, k2, k3, k4⟩ := hk1
                  obtain ⟨m1, m2, m3, m4⟩ := hk2
                  have nrw : ∀ i, aget s.rw i = none → i < nB → aget (ef ++ s.rw) i = none := fun i hi _ => by
                    -- only rows that are there are sealed
                    cases hh : aget (ef ++ s.rw) i with
                    | none => rfl
                    | some v =>
                      exfalso
                      have hsealed : ∀ {R : List Nat} {cs ds : List AV} {e : List (Nat × Rw)}, sealALx R s cs = some (ds, e) → aget e i = none := by
                        have hC : ∀ {R : List Nat} {x y : AV} {e : List (Nat × Rw)}, sealCx R s x = some (y, e) → aget e i = none := by
                          intro R x y e h
                          cases x with
                          | row j vr =>
                            simp only [sealCx] at h
                            split at h
                            · cases h; rfl
                            · simp only [sealC] at h
                              split at h
                              · rename_i r' hr'
                                split at h
                                · cases h
                                  rw [aget_cons, if_neg (by rintro rfl; rw [(curRow_get hr').1] at hi; cases hi)]
                                  rfl
                                · cases h
                              · cases h
                          | _ => simp only [sealCx] at h; cases h; rfl
                        have hL : ∀ {R : List Nat} {cs ds : List AV} {e : List (Nat × Rw)}, sealLx R s cs = some (ds, e) → aget e i = none := by
                          intro R cs
                          induction cs with
                          | nil => intro ds e h; simp only [sealLx] at h; cases h; rfl
                          | cons x cs ih =>
                            intro ds e h
                            simp only [sealLx] at h
                            split at h
                            · rename_i y e1 h1
                              split at h
                              · rename_i m e2 h2
                                cases h
                                rw [aget_append, ih h2, hC h1]
                              · cases h
                            · cases h
                        have hA : ∀ {R : List Nat} {x y : AV} {e : List (Nat × Rw)}, sealAx R s x = some (y, e) → aget e i = none := by
                          intro R x y e h
                          cases x with
                          | agg cs =>
                            simp only [sealAx] at h
                            split at h
                            · rename_i ds e1 h1
                              cases h
                              exact hL h1
                            · cases h
                          | _ => exact hC (by simpa only [sealAx] using h)
                        intro R cs
                        induction cs with
                        | nil => intro ds e h; simp only [sealALx] at h; cases h; rfl
                        | cons x cs ih =>
                          intro ds e h
                          simp only [sealALx] at h
                          split at h
                          · rename_i y e1 h1
                            split at h
                            · rename_i m e2 h2
                              cases h
                              rw [aget_append, ih h2, hA h1]
                            · cases h
                          · cases h
                      rw [aget_append, hsealed hse, hi] at hh
                      cases hh
                  refine ⟨hb, (hc w M1 _ _ vs hpre hargs).mono ?_⟩
                  rintro e w' ⟨M', E1, v, rfl, hlw, hst, hrel⟩
                  obtain ⟨E2, hup, hle2, hst2⟩ := hs1.called hst hlw hsub ⟨keysIn_ok k1, keysNew_ok m1⟩ ⟨keysIn_ok k2, fun i hi => (keysNew_ok m2 i hi).imp id fun ⟨h1, h2⟩ => ⟨nrw i h1 h2, h2⟩⟩ ⟨keysIn_ok k3, keysNew_ok m3⟩ ⟨keysIn_ok k4, keysNew_ok m4⟩
                  refine ⟨M', E2, v, r, rfl, rfl, hup, ?_, hrel.monoE hle2⟩
                  simpa only [Eff.app, S.over, List.append_assoc] using hst2
                · cases h
              · cases h
          · cases h
        · cases h
      · cases h
    · cases h
  · cases h

theorem evalCall_sound {P : Program} {f : FuncId} {xs : List AV} {an : List An} {res : Res} (h : evalCall P s an f xs = some res) (hg : AllP res.gs)
    (hs : St g N M E s tmps w) {vs : List Value} (hx : RelL M E vs xs) : Bodied P f ∧ Calls P f vs.toArray w fun e w' => ∃ M' E' v x, e = .returned v ∧ res.e.x = some x ∧ E.up E' ∧ St g N M' E' (res.e.app none s) tmps w' ∧ Rel M' E' v x := by
  unfold evalCall at h
  have hl0 : likeRows s s := ⟨rfl, rfl, rfl, rfl, fun i r h => ⟨r.k, h⟩⟩
  split at h
  · split at h
    · rename_i ys ef hse
      split at h
      · rename_i hp
        split at h
        · rename_i hpr
          cases h
          obtain ⟨hb, hc⟩ := hg.1
          obtain ⟨M1, hM1, hs1, hr1, hl1⟩ := sealAL_ok hl0 hse hs hx
          have hargs : RelL M1 Env.none vs ys := ⟨hr1.1, fun j v c hv hc => (hr1.2 j v c hv hc).of_pure _ (okInL_get hp hc)⟩
          have hst0 := (hs1.noFr.sub (t := S.none) (fun i v h => by cases h) (fun i v h => by cases h) (fun i v h => by cases h) (fun i v h => by cases h) (fun i v h => by cases h) rfl)
          have hkn : E.keep (hasKey S.none.bx) (hasKey S.none.rw) (hasKey S.none.mp) (hasKey S.none.ar) = Env.none := Env.keep_none E
          have hpre := hst0.rebase (fun b => b < w.heap.size ∧ (E.keep (hasKey S.none.bx) (hasKey S.none.rw) (hasKey S.none.mp) (hasKey S.none.ar)).own b = none) (fun b hb => hb)
          refine ⟨hb, (hc w M1 _ _ vs hpre (by rw [hkn]; exact hargs)).mono ?_⟩
          rintro e w' ⟨M', E1, v, rfl, hlw, hst, hrel⟩
          obtain ⟨E2, hup, hle2, hst2⟩ := hs1.called hst hlw ⟨fun i v h => (by cases h), fun i v h => (by cases h), fun i v h => (by cases h), fun i v h => by cases h⟩ ⟨fun i h => (by cases h), fun i h => by cases h⟩ ⟨fun i h => (by cases h), fun i h => by cases h⟩ ⟨fun i h => (by cases h), fun i h => by cases h⟩ ⟨fun i h => (by cases h), fun i h => by cases h⟩
          exact ⟨M', E2, v, _, rfl, rfl, hup, hst2, hrel.monoE hle2⟩
        · cases h
      · cases h
    · cases h
  · split at h
    · rename_i ys ef hse
      split at h
      · rename_i hp
        split at h
        · rename_i hpr
          cases h
          obtain ⟨hb, hc⟩ := hg.1
          obtain ⟨M1, hM1, hs1, hr1, hl1⟩ := sealAL_ok hl0 hse hs hx
          have hargs : RelL M1 Env.none vs ys := ⟨hr1.1, fun j v c hv hc => (hr1.2 j v c hv hc).of_pure _ (okInL_get hp hc)⟩
          have hst0 := (hs1.noFr.sub (t := S.none) (fun i v h => by cases h) (fun i v h => by cases h) (fun i v h => by cases h) (fun i v h => by cases h) (fun i v h => by cases h) rfl)
          have hkn : E.keep (hasKey S.none.bx) (hasKey S.none.rw) (hasKey S.none.mp) (hasKey S.none.ar) = Env.none := Env.keep_none E
          rw [hkn] at hst0
          have hpre := hst0.rebase (fun b => b < w.heap.size) (fun b hb => ⟨hb, rfl⟩)
          refine ⟨hb, (hc w M1 _ _ vs hpre hargs).mono ?_⟩
          rintro e w' ⟨M', E1, v, rfl, hlw, hst, hrel⟩
          exact ⟨M, E, v, _, rfl, rfl, Env.up_refl E, hs.borrowed hst, hrel.scal hpr⟩
        · cases h
      · cases h
    · cases h
  · exact callE_sound h hg hs hx
  · exact callE_sound h hg hs hx
  · cases h
end

theorem Wp_of_call {o : Oper} {f : FuncId} {r : Res} (hd : ∀ d, o.dst = some d → d < C.N)
    (h : ∀ (a : Act) (w : World) (M : Mem) (E : Env), St C.g C.N M E s a.tmps w → ∃ vs : List Value, (execOp a.eval o).run C.P w = (callFunc f vs.toArray).run C.P w ∧ Bodied C.P f ∧
      Calls C.P f vs.toArray w fun e w' => ∃ M' E' v x, e = .returned v ∧ r.e.x = some x ∧ E.up E' ∧ St C.g C.N M' E' (r.e.app none s) a.tmps w' ∧ Rel M' E' v x) : Wp C o s (r.e.app o.dst s) := by
  intro a w ⟨hdf, M, E, hs, hp0⟩ K Q hK
  obtain ⟨vs, hrun, hb, hc⟩ := h a w M E hs
  unfold Oper.wp
  rw [hrun, run_callFunc hb, Oper.upon_enter]
  refine hc.mono ?_
  rintro e w' ⟨M', E', v, x, rfl, hx, hup, hst, hr⟩
  refine hK _ _ ⟨by rw [defers_put]; exact hdf, M', E', ?_, hup.p _ hp0⟩
  cases hdd : o.dst with
  | none => exact hst
  | some d =>
    have := hst.putS (hd d hdd) hr
    simpa only [Eff.app, hx] using this

theorem evalAny_sound (hτ : TyOk C.P τ) {A : List (Nat × Bool)} (hA : allB A = true) {o : Oper} {an : List An} (hd : ∀ d, o.dst = some d → d < C.N) (hw : ∀ x ∈ needs o.op, Done s x) {r : Res} (h : evalAny τ C.P A s an o.dst o.op = some r) (hg : AllP r.gs) (he : AllE r.eq) : Wp C o s (r.e.app o.dst s) := by
  unfold evalAny at h
  split at h
  · rename_i f ops tys ho
    rw [ho] at hw
    split at h
    · rename_i xs hxs
      refine Wp_of_call (f := f) hd fun a w M E hs => ?_
      have hrel0 := vals_rel hxs (fun x hx => hw x (by simp [needs]; exact Or.inr (by simpa using hx))) hs
      have hrel := argN_rel (τ := τ) (an := an) (ts := tys.toList) hrel0
      obtain ⟨hb, hc⟩ := evalCall_sound h hg hs hrel
      exact ⟨_, run_call ho rfl a w, hb, hc⟩
    · cases h
  · rename_i t ops tys ho
    rw [ho] at hw
    split at h
    · rename_i f caps hf
      split at h
      · rename_i xs hxs
        refine Wp_of_call (f := f) hd fun a w M E hs => ?_
        have hrel0 := vals_rel hxs (fun x hx => hw x (by simp [needs]; exact Or.inr (by simpa using hx))) hs
        have hrel := argN_rel (τ := τ) (an := an) (ts := tys.toList) hrel0
        obtain ⟨cs, hcv, hcl, hcr⟩ := (valW_rel hs hf (hw _ (by simp [needs]))).fn_inv
        have hall : RelL M E ((ops.toList.map a.eval) ++ cs) ((argN τ an tys.toList xs).1 ++ caps) := by
          refine ⟨by rw [List.length_append, List.length_append, hrel.1, hcl], fun j v c hv hc => ?_⟩
          rw [List.getElem?_append] at hv hc
          rw [hrel.1] at hv
          split at hv
          · rename_i hj; rw [if_pos hj] at hc; exact hrel.2 j v c hv hc
          · rename_i hj; rw [if_neg hj] at hc; exact .cell (hcr _ v c hv hc)
        obtain ⟨hb, hc⟩ := evalCall_sound h hg hs hall
        exact ⟨_, run_callV ho rfl a hcv w, hb, hc⟩
      · cases h
    · cases h
  · exact Wp_of_does (evalOp_sound hτ hA o an hd hw r h hg he)

theorem evalG_sound (hτ : TyOk C.P τ) {all : List Oper} {o : Oper} {A : List (Nat × Bool)} {an : List An} (hd : ∀ d, o.dst = some d → d < C.N) (hgc : gcond all s o.guard = some A) {r : Res} (h : evalG τ C.P A s an o = some r) (hg : AllP r.gs) (he : AllE r.eq) :
    Step C all o s (r.e.app o.dst s) := by
  unfold evalG at h
  split at h
  · rename_i es hes
    split at h
    · rename_i r0 hr0
      split at h
      · cases h
        obtain ⟨e1, e2⟩ := AllE_append.1 he
        intro a w hx K Q hK
        rw [gcond_ok hgc hx, if_pos (show allB [] = true from rfl)]
        exact evalAny_sound hτ rfl hd (obs_done rfl hes e1) hr0 hg e2 a w hx K Q hK
      · rename_i d0 c0 A'
        split at h
        · rename_i x hx0
          cases h
          obtain ⟨e1, e2⟩ := AllE_append.1 he
          intro a w hx K Q hK
          rw [gcond_ok hgc hx]
          cases hA : allB ((d0, c0) :: A') with
          | true =>
            rw [if_pos rfl]
            refine evalAny_sound hτ hA hd (obs_done hA hes e1) hr0 (undL_ok hA hg) e2 a w hx K Q fun a' w' hH => hK _ _ ?_
            rw [hx0] at hH
            obtain ⟨hdf, M, E, hs, hp0⟩ := hH
            refine ⟨hdf, M, E, ?_, hp0⟩
            cases hdd : o.dst with
            | none => rw [hdd] at hs; exact hs
            | some d =>
              rw [hdd] at hs
              refine { hs with fr := fun i av hi => ?_ }
              have hi' : aget ((d, AV.when ((d0, c0) :: A') x) :: s.fr) i = some av := hi
              have hfr : ∀ i av, aget ((d, x) :: s.fr) i = some av → i < C.N ∧ Rel M E (a'.tmps.getD i undef) av := hs.fr
              rw [aget_cons] at hi'
              split at hi'
              · rename_i e
                cases hi'
                obtain ⟨h1, h2⟩ := hfr i x (by rw [aget_cons, if_pos e])
                exact ⟨h1, .when _ _ _ (fun _ => h2) (fun h => by rw [hA] at h; cases h)⟩
              · rename_i e
                exact hfr i av (by rw [aget_cons, if_neg e]; exact hi')
          | false =>
            rw [if_neg (by simp)]
            obtain ⟨hdf, M, E, hs, hp0⟩ := hx
            refine hK _ _ ⟨by rw [defers_put]; exact hdf, M, E, ?_, hp0⟩
            cases hdd : o.dst with
            | none => exact hs
            | some d => exact hs.putS (hd d hdd) (.when _ _ _ (fun h => by rw [hA] at h; cases h) (fun _ => rfl))
        · cases h
    · cases h
  · cases h

end Go.Dm
