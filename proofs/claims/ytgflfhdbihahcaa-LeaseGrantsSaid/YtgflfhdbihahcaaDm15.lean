/- How a proof by program is put together: what a function's end says; the plain functions' own words. -/
import Derived.Test.YtgflfhdbihahcaaDm14
namespace Go.Dm
open Go Go.RowKit
set_option linter.unusedSimpArgs false
set_option linter.unusedVariables false

variable {C : Cx} {k : List It} {s : S} {τ : TyTab}

/- the plain functions' words -/

def lt {α β : Type} (e : α) (f : α → β) : β := f e
theorem lt_elim {α β : Type} {e : α} {f : α → β} {y : β} (h : lt e f = y) {x : α} (hx : x = e) : f x = y := by subst hx; exact h
theorem lt_split {α β : Type} {e : α} {f : α → β} {y : β} (h : lt e f = y) : ∃ x, e = x ∧ f x = y := ⟨e, rfl, h⟩
theorem u8s_ok (l : List UInt8) : (l.map fun b => AV.int .u8 (b.toNat : Int)) = u8s l := rfl
open Classical in
noncomputable def asrt {β : Type} (p : Prop) (k : Option β) : Option β := if p then k else none
theorem asrt_elim {β : Type} {p : Prop} {k : Option β} {y : β} (h : asrt p k = some y) : p ∧ k = some y := by
  unfold asrt at h
  split at h
  · exact ⟨‹_›, h⟩
  · cases h
theorem asrt_pos {β : Type} {p : Prop} (h : p) (k : Option β) : asrt p k = k := if_pos h
def ob {α β : Type} (e : Option α) (f : α → Option β) : Option β := match e with
  | some x => f x
  | none => none
theorem ob_elim {α β : Type} {e : Option α} {f : α → Option β} {y : β} (h : ob e f = some y) : ∃ x, e = some x ∧ f x = some y := by
  unfold ob at h
  split at h
  · exact ⟨_, rfl, h⟩
  · cases h
theorem ob_some {α β : Type} (x : α) (f : α → Option β) : ob (some x) f = f x := rfl
theorem ite_t {β : Type} {b : Bool} {x y z : β} (h : (if b = true then x else y) = z) (hb : b = true) : x = z := by rw [if_pos hb] at h; exact h
theorem ite_f {β : Type} {b : Bool} {x y z : β} (h : (if b = true then x else y) = z) (hb : b = false) : y = z := by rw [if_neg (by rw [hb]; simp)] at h; exact h
theorem some_elim {β : Type} {x y : β} (h : some x = some y) : x = y := Option.some.inj h

def lget {α : Type} [Inhabited α] (l : List α) (n : Int) : α := l.getD n.toNat default
theorem idx_ok {α : Type} [Inhabited α] {l : List α} {n : Int} (enc : α → AV) (h : 0 ≤ n ∧ n < (l.length : Int)) : 0 ≤ n ∧ (l.map enc)[n.toNat]? = some (enc (lget l n)) := by
  refine ⟨h.1, ?_⟩
  have hlt : n.toNat < l.length := by omega
  simp [lget, List.getD, hlt]
theorem idxS_ok {l : List UInt8} {n : Int} (h : 0 ≤ n ∧ n < (l.length : Int)) : 0 ≤ n ∧ l[n.toNat]? = some (lget l n) := by
  refine ⟨h.1, ?_⟩
  have hlt : n.toNat < l.length := by omega
  simp [lget, List.getD, hlt]
theorem len_ok {α : Type} (enc : α → AV) (l : List α) : (l.length : Int) = ((l.map enc).length : Int) := by simp
def ltake {α : Type} (l : List α) (n : Int) : List α := l.take n.toNat
def ldrop {α : Type} (l : List α) (n : Int) : List α := l.drop n.toNat
theorem sl00_ok {α : Type} (enc : α → AV) (l : List α) : l.map enc = l.map enc := rfl
theorem sl10_ok {α : Type} {l : List α} {a : Int} (enc : α → AV) (h : 0 ≤ a ∧ a ≤ (l.length : Int)) : 0 ≤ a ∧ a.toNat ≤ (l.map enc).length ∧ (ldrop l a).map enc = (l.map enc).drop a.toNat :=
  ⟨h.1, by simp; omega, by simp [ldrop, List.map_drop]⟩
theorem sl01_ok {α : Type} {l : List α} {b : Int} (enc : α → AV) (h : 0 ≤ b ∧ b ≤ (l.length : Int)) : 0 ≤ b ∧ b.toNat ≤ (l.map enc).length ∧ (ltake l b).map enc = (l.map enc).take b.toNat :=
  ⟨h.1, by simp; omega, by simp [ltake, List.map_take]⟩
theorem sl11_ok {α : Type} {l : List α} {a b : Int} (enc : α → AV) (h : 0 ≤ a ∧ a ≤ b ∧ b ≤ (l.length : Int)) : 0 ≤ a ∧ a ≤ b ∧ b.toNat ≤ (l.map enc).length ∧ (ldrop (ltake l b) a).map enc = ((l.map enc).take b.toNat).drop a.toNat :=
  ⟨h.1, h.2.1, by simp; omega, by simp [ltake, ldrop, List.map_take, List.map_drop]⟩
theorem st10_ok {l : List UInt8} {a : Int} (h : 0 ≤ a ∧ a ≤ (l.length : Int)) : 0 ≤ a ∧ a.toNat ≤ l.length := ⟨h.1, by omega⟩
theorem st11_ok {l : List UInt8} {a b : Int} (h : 0 ≤ a ∧ a ≤ b ∧ b ≤ (l.length : Int)) : 0 ≤ a ∧ a ≤ b ∧ b.toNat ≤ l.length := ⟨h.1, h.2.1, by omega⟩
theorem cat_ok {x y : List UInt8} (h : (x.length : Int) + y.length ≤ 9223372036854775807) : x.length + y.length ≤ 9223372036854775807 := by omega

theorem not_t {b : Bool} (h : b = false) : (!b) = true := by rw [h]; rfl
theorem and_l {a b : Bool} (h : (a && b) = true) : a = true := by simp at h; exact h.1
theorem and_r {a b : Bool} (h : (a && b) = true) : b = true := by simp at h; exact h.2

def inrO {σ ρ : Type} (e : Option ρ) : Option (σ ⊕ ρ) := match e with
  | some x => some (.inr x)
  | none => none
theorem inrO_done {σ ρ : Type} {e : Option ρ} {y' : σ ⊕ ρ} {y : ρ} (h : inrO e = some y') (hd : ∀ r', y' = .inr r' → r' = y) : e = some y := by
  unfold inrO at h
  split at h
  · cases h; rw [hd _ rfl]
  · cases h
theorem ret_done {σ ρ : Type} {a : ρ} {y' : σ ⊕ ρ} {y : ρ} (h : some (Sum.inr a : σ ⊕ ρ) = some y') (hd : ∀ r', y' = .inr r' → r' = y) : some a = some y := by
  cases h; rw [hd _ rfl]
def w64 (x : Int) : Int := IntKind.i64.wrap x
theorem Wk_meetP {x : It} {σ : Type} (st : σ → S) (p : σ → Prop) (h1 : Wk C (x :: .cut (fun s' => ∃ v, p v ∧ s' = st v) :: k) s) (h2 : ∀ v, p v → Wk C k (st v)) : Wk C (x :: k) s :=
  Wk_join _ h1 fun s' ⟨v, hp, e⟩ => by subst e; exact h2 v hp
theorem Wk_metP {σ : Type} {st : σ → S} {p : σ → Prop} (v : σ) (fs bs rs ms : List Nat) (hp : p v) (h : trimS fs bs rs ms s = some (st v)) : Wk C (.cut (fun s' => ∃ v, p v ∧ s' = st v) :: k) s :=
  Wk_cut (fun a w hx => trimS_H h hx) ⟨v, hp, rfl⟩

inductive HL : List Prop → Prop
  | nil : HL []
  | cons {p : Prop} {l : List Prop} (h : p) (t : HL l) : HL (p :: l)
theorem HL.all : ∀ {l : List Prop}, HL l → AllP l
  | _, .nil => trivial
  | _, .cons h t => ⟨h, t.all⟩

/- regions, conditions, joins -/
theorem W_R (hτ : TyOk C.P τ) {id : Nat} {ops : List Oper} (an : List An) (fs bs rs ms : List Nat) (t : S) {gs : List Prop} (hg : HL gs) (h : outL (runT τ C.P C.N false ops an fs bs rs ms s) = some (gs, t, outR (runT τ C.P C.N false ops an fs bs rs ms s))) (hk : Wk C k t) : Wk C (.code (.region id ops.toArray false) :: k) s :=
  Wk_run hτ h hg.all hk
theorem W_D (hτ : TyOk C.P τ) (hm : C.P.follows .mixedOrders = true) {id : Nat} {ops : List Oper} (an : List An) (fs bs rs ms : List Nat) (t : S) {gs : List Prop} (hg : HL gs) (h : outL (runT τ C.P C.N true ops an fs bs rs ms s) = some (gs, t, outR (runT τ C.P C.N true ops an fs bs rs ms s))) (hk : Wk C k t) : Wk C (.code (.region id ops.toArray true) :: k) s :=
  Wk_runD hτ hm h hg.all hk
/-- a value is given a name -/
theorem W_let {α : Type} (e : α) (f : α → S) (h : ∀ x, x = e → Wk C k (f x)) : Wk C k (f e) := h e rfl

/-- what a function's result slots say, lists that are nil as empty ones -/
def resN (τ : TyTab) (s : S) (res : List ResultVar) (ts : List TypeId) : Option AV :=
  match resAll τ s res with
  | some vs => match normL τ ts vs with
    | [v] => some v
    | vs => some (.tup vs)
  | none => none

theorem resN_run (hτ : TyOk C.P τ) {M : Mem} {E : Env} {a : Act} {w : World} (hs : St C.g C.N M E s a.tmps w) {fn : Func} {ts : List TypeId} {x : AV} (h : resN τ s fn.results.toList ts = some x) :
    ∃ v, (results fn a.tmps).run C.P w = .ok v w ∧ Rel M E v x := by
  unfold resN at h
  split at h
  · rename_i vs' hvs
    obtain ⟨vs, h1, h2⟩ := resAll_run hτ hs hvs
    have h3 := normL_rel (τ := τ) (ts := ts) h2
    have hrun : (results fn a.tmps).run C.P w = .ok (if h : vs.toArray.size = 1 then vs.toArray[0] else .tuple vs.toArray) w := by
      unfold results
      have : (fn.results.mapM (resSem a.tmps)).run C.P w = .ok vs.toArray w := by
        rw [Array.mapM_eq_mapM_toList]
        simp only [Sem.run_map, h1, Result.andThen_ok]
      simp only [Sem.run_bind, Sem.run_pure]
      change ((Sem.run C.P (Array.mapM (resSem a.tmps) fn.results) w).andThen _) = _
      rw [this]
      rfl
    split at h
    · rename_i v hv
      cases h
      rw [hv] at h3
      have hl := h3.1
      match vs, hl, h3, hrun with
      | [u], _, h3, hrun =>
        refine ⟨u, ?_, h3.2 0 u _ rfl rfl⟩
        rw [hrun]; rfl
    · rename_i hne
      cases h
      refine ⟨.tuple vs.toArray, ?_, .tup vs _ h3.1 h3.2⟩
      rw [hrun, dif_neg]
      intro hsz
      have hl := h3.1
      simp at hsz
      rw [hsz] at hl
      match hq : normL τ ts vs', hl with
      | [y], _ => exact hne y hq
  · cases h

/-- a contract, out of the body's walk -/
theorem Pc_of {P : Program} {f : FuncId} {fn : Func} {c : Code} {N : Nat} {res : List ResultVar} {ts : List TypeId} (hτ : TyOk P τ) (hb : Bodied P f) (hfn : P.funcs[f]? = some fn) (hbody : fn.body = some c) (hN : fn.ntmps = N) (hres : fn.results.toList = res)
    {args : List AV} {r : AV} (hlen : Nat.ble args.length N = true) (hp : r.isPure = true)
    (h : ∀ (Q : Exit → Act → World → Prop) (g : Gh), (∀ s, resN τ s res ts = some r → Fin ⟨P, Q, g, N⟩ s) → Wk ⟨P, Q, g, N⟩ [.code c] ⟨argSlots 0 args, [], [], []⟩) : Pc P f args r := by
  refine ⟨hb, fun w M E F vs hs hrel => calls_of_wp hfn hbody ?_⟩
  have hlen := Nat.le_of_ble_eq_true hlen
  let Q := bodyPost P fn (fun e w' => ∃ M' E' v x s1, e = .returned v ∧ (x = r ∧ s1 = S.none) ∧ St ⟨w, F, M⟩ 0 M' E' s1 #[] w' ∧ Rel M' E' v x)
  have hfin : ∀ s, resN τ s res ts = some r → Fin ⟨P, Q, ⟨w, F, M⟩, N⟩ s := by
    intro s hx a w' ⟨hdf, M', E', hst⟩
    rw [← hres] at hx
    obtain ⟨v, hv, hr⟩ := resN_run (C := ⟨P, Q, ⟨w, F, M⟩, N⟩) hτ hst hx
    have : ∃ M' E' v' x s1, Ending.returned v = .returned v' ∧ (x = r ∧ s1 = S.none) ∧ St ⟨w, F, M⟩ 0 M' E' s1 #[] w' ∧ Rel M' E' v' x := by
      refine ⟨M', Env.none, v, r, S.none, rfl, ⟨rfl, rfl⟩, ?_, hr.of_pure _ hp⟩
      have := hst.keep no no no (by simp [S.keepOk])
      rw [Env.keep_none] at this
      have e : s.keep no no no = S.none := by simp [S.keep, S.none]
      rwa [e] at this
    exact ⟨⟨hdf, v, hv, this⟩, ⟨hdf, v, hv, this⟩⟩
  have hw := h Q ⟨w, F, M⟩ hfin
  have := hw { tmps := vs.toArray ++ Array.replicate (fn.ntmps - vs.toArray.size) undef, defers := [] } w ⟨rfl, M, E, ?_⟩
  · have e : mean ⟨P, Q, ⟨w, F, M⟩, N⟩ [.code c] .normal = c.wp P (mean ⟨P, Q, ⟨w, F, M⟩, N⟩ []) := rfl
    rw [e] at this
    exact this
  · have hl := hrel.1
    refine { hs with size := by simp; omega, fr := fun i av hi => ?_ }
    simp only [get_argSlots, Nat.zero_le, if_true, Nat.sub_zero] at hi
    have hlt := (List.getElem?_eq_some_iff.1 hi).1
    refine ⟨Nat.lt_of_lt_of_le hlt hlen, ?_⟩
    have hv : i < vs.length := by omega
    refine hrel.2 i _ av ?_ hi
    rw [List.getElem?_eq_getElem hv, Array.getD_eq_getD_getElem?, Array.getElem?_append_left (by simpa using hv)]
    simp [hv]

end Go.Dm
