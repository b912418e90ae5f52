/- How a proof by program is put together: the plain functions' own words; what a function's end says; weaker ways to say it. -/
import Derived.Test.YtipeimcdjijkgaaEm28
namespace Go.Dm
open Go Go.RowKit
set_option linter.unnecessarySimpa false
set_option linter.constructorNameAsVariable false
set_option linter.unusedSectionVars false
set_option linter.unusedSimpArgs false
set_option linter.unusedVariables false

variable {C : Cx} {k : List It} {s t : S} {τ : TyTab}

/- the plain functions' words -/

def lt {α β : Type} (e : α) (f : α → β) : β := f e
theorem lt_elim {α β : Type} {e : α} {f : α → β} {y : β} (h : lt e f = y) {x : α} (hx : x = e) : f x = y := by subst hx; exact h
theorem lt_split {α β : Type} {e : α} {f : α → β} {y : β} (h : lt e f = y) : ∃ x, e = x ∧ f x = y := ⟨e, rfl, h⟩
theorem u8s_ok (l : List UInt8) : (l.map fun b => AV.int .u8 (b.toNat : Int)) = u8s l := rfl
open Classical in
noncomputable def asrt {β : Type} (p : Prop) (k : Option β) : Option β := if p then k else none
theorem asrt_elim {β : Type} {p : Prop} {k : Option β} {y : β} (h : asrt p k = some y) : p ∧ k = some y := by
  unfold asrt at h
  split at h
  · exact ⟨‹_›, h⟩
  · cases h
theorem asrt_pos {β : Type} {p : Prop} (h : p) (k : Option β) : asrt p k = k := if_pos h
def ob {α β : Type} (e : Option α) (f : α → Option β) : Option β := match e with
  | some x => f x
  | none => none
theorem ob_elim {α β : Type} {e : Option α} {f : α → Option β} {y : β} (h : ob e f = some y) : ∃ x, e = some x ∧ f x = some y := by
  unfold ob at h
  split at h
  · exact ⟨_, rfl, h⟩
  · cases h
theorem ob_some {α β : Type} (x : α) (f : α → Option β) : ob (some x) f = f x := rfl
theorem ite_t {β : Type} {b : Bool} {x y z : β} (h : (if b = true then x else y) = z) (hb : b = true) : x = z := by rw [if_pos hb] at h; exact h
theorem ite_f {β : Type} {b : Bool} {x y z : β} (h : (if b = true then x else y) = z) (hb : b = false) : y = z := by rw [if_neg (by rw [hb]; simp)] at h; exact h
theorem some_elim {β : Type} {x y : β} (h : some x = some y) : x = y := Option.some.inj h

def lget {α : Type} [Inhabited α] (l : List α) (n : Int) : α := l.getD n.toNat default
theorem idx_ok {α : Type} [Inhabited α] {l : List α} {n : Int} (enc : α → AV) (h : 0 ≤ n ∧ n < (l.length : Int)) : 0 ≤ n ∧ (l.map enc)[n.toNat]? = some (enc (lget l n)) := by
  refine ⟨h.1, ?_⟩
  have hlt : n.toNat < l.length := by omega
  simp [lget, List.getD, hlt]
theorem idxS_ok {l : List UInt8} {n : Int} (h : 0 ≤ n ∧ n < (l.length : Int)) : 0 ≤ n ∧ l[n.toNat]? = some (lget l n) := by
  refine ⟨h.1, ?_⟩
  have hlt : n.toNat < l.length := by omega
  simp [lget, List.getD, hlt]
theorem len_ok {α : Type} (enc : α → AV) (l : List α) : (l.length : Int) = ((l.map enc).length : Int) := by simp
def ltake {α : Type} (l : List α) (n : Int) : List α := l.take n.toNat
def ldrop {α : Type} (l : List α) (n : Int) : List α := l.drop n.toNat
theorem sl00_ok {α : Type} (enc : α → AV) (l : List α) : l.map enc = l.map enc := rfl
theorem sl10_ok {α : Type} {l : List α} {a : Int} (enc : α → AV) (h : 0 ≤ a ∧ a ≤ (l.length : Int)) : 0 ≤ a ∧ a.toNat ≤ (l.map enc).length ∧ (ldrop l a).map enc = (l.map enc).drop a.toNat :=
  ⟨h.1, by simp; omega, by simp [ldrop, List.map_drop]⟩
theorem sl01_ok {α : Type} {l : List α} {b : Int} (enc : α → AV) (h : 0 ≤ b ∧ b ≤ (l.length : Int)) : 0 ≤ b ∧ b.toNat ≤ (l.map enc).length ∧ (ltake l b).map enc = (l.map enc).take b.toNat :=
  ⟨h.1, by simp; omega, by simp [ltake, List.map_take]⟩
theorem sl11_ok {α : Type} {l : List α} {a b : Int} (enc : α → AV) (h : 0 ≤ a ∧ a ≤ b ∧ b ≤ (l.length : Int)) : 0 ≤ a ∧ a ≤ b ∧ b.toNat ≤ (l.map enc).length ∧ (ldrop (ltake l b) a).map enc = ((l.map enc).take b.toNat).drop a.toNat :=
  ⟨h.1, h.2.1, by simp; omega, by simp [ltake, ldrop, List.map_take, List.map_drop]⟩
theorem st10_ok {l : List UInt8} {a : Int} (h : 0 ≤ a ∧ a ≤ (l.length : Int)) : 0 ≤ a ∧ a.toNat ≤ l.length := ⟨h.1, by omega⟩
theorem st11_ok {l : List UInt8} {a b : Int} (h : 0 ≤ a ∧ a ≤ b ∧ b ≤ (l.length : Int)) : 0 ≤ a ∧ a ≤ b ∧ b.toNat ≤ l.length := ⟨h.1, h.2.1, by omega⟩
theorem cat_ok {x y : List UInt8} (h : (x.length : Int) + y.length ≤ 9223372036854775807) : x.length + y.length ≤ 9223372036854775807 := by omega

theorem not_t {b : Bool} (h : b = false) : (!b) = true := by rw [h]; rfl
theorem and_l {a b : Bool} (h : (a && b) = true) : a = true := by simp at h; exact h.1
theorem and_r {a b : Bool} (h : (a && b) = true) : b = true := by simp at h; exact h.2

def inrO {σ ρ : Type} (e : Option ρ) : Option (σ ⊕ ρ) := match e with
  | some x => some (.inr x)
  | none => none
theorem inrO_done {σ ρ : Type} {e : Option ρ} {y' : σ ⊕ ρ} {y : ρ} (h : inrO e = some y') (hd : ∀ r', y' = .inr r' → r' = y) : e = some y := by
  unfold inrO at h
  split at h
  · cases h; rw [hd _ rfl]
  · cases h
theorem ret_done {σ ρ : Type} {a : ρ} {y' : σ ⊕ ρ} {y : ρ} (h : some (Sum.inr a : σ ⊕ ρ) = some y') (hd : ∀ r', y' = .inr r' → r' = y) : some a = some y := by
  cases h; rw [hd _ rfl]
def w64 (x : Int) : Int := IntKind.i64.wrap x
theorem Wk_meetP {x : It} {σ : Type} (st : σ → S) (p : σ → Prop) (h1 : Wk C (x :: .cut (fun s' => ∃ v, p v ∧ s' = st v) :: k) s) (h2 : ∀ v, p v → Wk C k (st v)) : Wk C (x :: k) s :=
  Wk_join _ h1 fun s' ⟨v, hp, e⟩ => by subst e; exact h2 v hp
theorem Wk_metP {σ : Type} {st : σ → S} {p : σ → Prop} (v : σ) (fs bs rs ms aa : List Nat) (nv : NV) (hp : p v) (h : trimS fs bs rs ms aa nv s = some (st v)) : Wk C (.cut (fun s' => ∃ v, p v ∧ s' = st v) :: k) s :=
  Wk_cut (fun a w hx => trimS_H h hx) ⟨v, hp, rfl⟩

inductive HL : List Prop → Prop
  | nil : HL []
  | cons {p : Prop} {l : List Prop} (h : p) (t : HL l) : HL (p :: l)
theorem HL.all : ∀ {l : List Prop}, HL l → AllP l
  | _, .nil => trivial
  | _, .cons h t => ⟨h, t.all⟩

/- regions, conditions, joins -/
theorem W_R (hτ : TyOk C.P τ) {id : Nat} {ops : List Oper} (an : List An) (fs bs rs ms aa : List Nat) (nv : NV) (t : S) {gs : List Prop} (hg : HL gs) (h : outL (runT τ C.P C.N false ops an fs bs rs ms aa nv s) = some (gs, t, outR (runT τ C.P C.N false ops an fs bs rs ms aa nv s))) (hk : Wk C k t) : Wk C (.code (.region id ops.toArray false) :: k) s :=
  Wk_run hτ h hg.all hk
theorem W_D (hτ : TyOk C.P τ) (hm : C.P.follows .mixedOrders = true) {id : Nat} {ops : List Oper} (an : List An) (fs bs rs ms aa : List Nat) (nv : NV) (t : S) {gs : List Prop} (hg : HL gs) (h : outL (runT τ C.P C.N true ops an fs bs rs ms aa nv s) = some (gs, t, outR (runT τ C.P C.N true ops an fs bs rs ms aa nv s))) (hk : Wk C k t) : Wk C (.code (.region id ops.toArray true) :: k) s :=
  Wk_runD hτ hm h hg.all hk
/-- a value is given a name -/
theorem W_let {α : Type} (e : α) (f : α → S) (h : ∀ x, x = e → Wk C k (f x)) : Wk C k (f e) := h e rfl


/- ghosts: the same state, told otherwise -/

def CoeS (x y : AV) : Prop := ∀ (M : Mem) (E : Env) (v : Value), RelS M E v x → RelS M E v y
def Coe (x y : AV) : Prop := ∀ (M : Mem) (E : Env) (v : Value), Rel M E v x → Rel M E v y
inductive CoeL : List AV → List AV → Prop
  | nil : CoeL [] []
  | cons {x y : AV} {l m : List AV} (h : CoeS x y) (t : CoeL l m) : CoeL (x :: l) (y :: m)
theorem CoeS.refl (x : AV) : CoeS x x := fun _ _ _ h => h
theorem CoeS.any (x : AV) : CoeS x .any := fun _ _ _ h => .any h.one.1
theorem CoeS.popF (x : AV) : CoeS .nilp (.popt false x) := fun M E v h => .popt false x (fun h => by cases h) fun _ => by
  cases h with
  | pure h => cases h; rfl
theorem CoeS.popT (x : AV) : CoeS x (.popt true x) := fun M E v h => .popt true x (fun _ => h) fun h => by cases h
theorem CoeS.unp {b : Bool} {x : AV} (hb : b = true) : CoeS (.popt b x) x := fun M E v h => by
  cases h with
  | pure h => cases h
  | popt b x ht hf => exact ht hb
theorem CoeS.unF {b : Bool} {x : AV} (hb : b = false) : CoeS (.popt b x) .nilp := fun M E v h => by
  cases h with
  | pure h => cases h
  | popt b x ht hf => rw [hf hb]; exact .pure .nilp
theorem CoeS.nils (sz : Nat) : CoeS .nils (.sl sz []) := fun M E v h => by
  cases h with
  | pure h =>
    cases h
    exact .pure (.sl none 0 0 sz [] (fun _ => undef) rfl (Nat.le_refl _) (Nat.zero_le _) (fun x hx => by cases hx) (fun h => absurd rfl h) (fun j u hu => by simp [flat] at hu))
theorem CoeL.len {l m : List AV} (h : CoeL l m) : l.length = m.length := by
  induction h with
  | nil => rfl
  | cons _ _ ih => simp [ih]
theorem CoeL.get {l m : List AV} (h : CoeL l m) : ∀ {j : Nat} {y : AV}, m[j]? = some y → ∃ x, l[j]? = some x ∧ CoeS x y := by
  induction h with
  | nil => intro j y hy; simp at hy
  | @cons x y l m h t ih =>
    intro j z hz
    cases j with
    | zero => simp at hz; subst hz; exact ⟨x, rfl, h⟩
    | succ j => simp only [List.getElem?_cons_succ] at hz ⊢; exact ih hz
theorem Coe.refl (x : AV) : Coe x x := fun _ _ _ h => h
theorem Coe.any (x : AV) : Coe x .any := fun _ _ v _ => .any v
theorem Coe.cell {x y : AV} (hx : x.isCell = true) (h : CoeS x y) : Coe x y := fun M E v hv => .cell (h M E v (hv.of_cell hx))
theorem Coe.agg {l m : List AV} (h : CoeL l m) : Coe (.agg l) (.agg m) := fun M E v hv => by
  obtain ⟨vs, rfl, h1, h2⟩ := hv.agg_inv
  refine .agg vs m (h1.trans h.len) fun j v c hv hc => ?_
  obtain ⟨x, hx, hc⟩ := h.get hc
  exact hc _ _ _ (h2 j v x hv hx)

/-- a slot is told in a weaker way -/
theorem Wk_coe (i : Nat) {x : AV} (y : AV) (hx : aget s.fr i = some x) (hc : Coe x y) (hk : Wk C k { s with fr := (i, y) :: s.fr }) : Wk C k s := by
  intro a w ⟨hd, M, E, hs, hp⟩
  refine hk a w ⟨hd, M, E, { hs with fr := fun j z hj => ?_ }, hp⟩
  have hj : aget ((i, y) :: s.fr) j = some z := hj
  rw [aget_cons] at hj
  split at hj
  · rename_i e
    cases hj
    obtain ⟨h1, h2⟩ := hs.fr i x hx
    rw [e]
    exact ⟨h1, hc _ _ _ h2⟩
  · exact hs.fr j z hj
/-- a box is told in a weaker way -/
theorem Wk_coeB (i : Nat) {cs : List AV} (ds : List AV) (hx : aget s.bx i = some cs) (hc : CoeL cs ds) (hk : Wk C k { s with bx := (i, ds) :: s.bx }) : Wk C k s := by
  intro a w ⟨hd, M, E, hs, hp⟩
  refine hk a w ⟨hd, M, E, { hs with bx := fun j z hj => ?_, bxn := fun j hj => ?_ }, hp⟩
  · have hj : aget ((i, ds) :: s.bx) j = some z := hj
    rw [aget_cons] at hj
    split at hj
    · rename_i e
      cases hj
      subst e
      obtain ⟨b, h1, h2, t, vs, h3, h4, h5⟩ := hs.bx j cs hx
      refine ⟨b, h1, h2, t, vs, h3, h4.trans hc.len, fun m v c hv hcc => ?_⟩
      obtain ⟨x, hx', hr⟩ := hc.get hcc
      exact hr _ _ _ (h5 m v x hv hx')
    · exact hs.bx j z hj
  · have hj : aget ((i, ds) :: s.bx) j = none := hj
    rw [aget_cons] at hj
    split at hj
    · cases hj
    · exact hs.bxn j hj

/-- a slot's row is sealed -/
theorem Wk_seal (i : Nat) {x y : AV} {e : List (Nat × Rw)} (hx : aget s.fr i = some x) (h : sealA s x = some (y, e)) (hk : Wk C k { s with fr := (i, y) :: s.fr, rw := e ++ s.rw }) : Wk C k s := by
  intro a w ⟨hd, M, E, hs, hp⟩
  obtain ⟨M', hM, hs', hr, _⟩ := sealA_ok (likeRows.refl hs) h hs (hs.fr i x hx).2
  refine hk a w ⟨hd, M', E, { hs' with fr := fun j z hj => ?_ }, hp⟩
  have hj : aget ((i, y) :: s.fr) j = some z := hj
  rw [aget_cons] at hj
  split at hj
  · rename_i e
    cases hj
    rw [e]
    exact ⟨(hs.fr i x hx).1, hr⟩
  · exact hs'.fr j z hj

def lowL : List (Nat × Nat) → Bool
  | [] => true
  | (a, b) :: l => match Nat.blt a nB && Nat.blt b nB with
    | true => lowL l
    | false => false
def lowD : List (Nat × Nat) → Bool
  | [] => true
  | (a, _) :: l => match Nat.blt a nB with
    | true => lowD l
    | false => false
/-- names that were not handed in are changed alone -/
def Ren.low (σ : Ren) : Bool := lowL σ.b && (lowL σ.r && (lowL σ.m && lowD σ.d))
theorem lowL_swR : ∀ {l : List (Nat × Nat)}, lowL l = true → ∀ i, nB ≤ i → swR l i = i
  | [], _, i, _ => rfl
  | (a, b) :: l, h, i, hi => by
    simp only [lowL] at h
    split at h
    · rename_i hc
      rw [Bool.and_eq_true] at hc
      have h1 : a < nB := Nat.le_of_ble_eq_true hc.1
      have h2 : b < nB := Nat.le_of_ble_eq_true hc.2
      simp only [swR]
      first
        | (rw [sw1_eq, if_neg (by omega), if_neg (by omega)]; exact lowL_swR h i hi)
        | (rw [lowL_swR h i hi, sw1_eq, if_neg (by omega), if_neg (by omega)])
    · cases h
theorem lowD_get : ∀ {l : List (Nat × Nat)}, lowD l = true → ∀ i, nB ≤ i → dget l i = 0
  | [], _, i, _ => rfl
  | (a, b) :: l, h, i, hi => by
    simp only [lowD] at h
    split at h
    · rename_i hc
      have h1 : a < nB := Nat.le_of_ble_eq_true hc
      simp only [dget]
      split
      · rename_i e; have := beq_true e; omega
      · exact lowD_get h i hi
    · cases h
theorem Env.fwd_p0 {E0 E : Env} {σ : Ren} (h : σ.low = true) (hp : Env.p0 E0 E) : Env.p0 E0 (E.fwd σ) := by
  unfold Ren.low at h
  simp only [Bool.and_eq_true] at h
  obtain ⟨h1, h2, h3, h4⟩ := h
  refine ⟨fun i b hi e => ?_, fun i q hi e hv => ?_, fun i r hi e => ?_, hp.ar⟩
  · simp only [Env.fwd, lowL_swR h1 i hi] at e; exact hp.bx i b hi e
  · simp only [Env.fwd, lowL_swR h2 i hi, lowD_get h4 i hi] at e
    obtain ⟨q', hq', rfl⟩ := Option.map_eq_some_iff.1 e
    exact hp.rw i q' hi hq' hv
  · simp only [Env.fwd, lowL_swR h3 i hi] at e; exact hp.mp i r hi e
/-- other names -/
theorem Wk_ren (σ : Ren) (t : S) (h : σ.low = true) (e : s.ren σ = t) (hk : Wk C k t) : Wk C k s := by
  intro a w ⟨hd, M, E, hs, hp⟩
  subst e
  exact hk a w ⟨hd, M, _, hs.fwd σ, Env.fwd_p0 h hp⟩

/-- a slice that is nil is a row without elements -/
theorem Wk_nilrow (i j : Nat) (e : TypeId) (sz : Nat) (hx : aget s.fr i = some .nils) (hj : aget s.rw j = none) (hB : Nat.blt j nB = true) (hk : Wk C k { s with fr := (i, .row j 0) :: s.fr, rw := (j, ⟨e, sz, 0, 0, 0, true, 0, [], []⟩) :: s.rw }) : Wk C k s := by
  intro a w ⟨hd, M, E, hs, hp⟩
  obtain ⟨E', hup, hq, hs'⟩ := hs.row0 hj (Nat.le_of_ble_eq_true hB) none e sz true 0 [] (fun _ => rfl)
  refine hk a w ⟨hd, M, E', { hs' with fr := fun m z hm => ?_ }, hup.p _ hp⟩
  have hm : aget ((i, .row j 0) :: s.fr) m = some z := hm
  rw [aget_cons] at hm
  split at hm
  · rename_i e
    cases hm
    obtain ⟨h1, h2⟩ := hs.fr i _ hx
    rw [e, h2.nils_inv]
    exact ⟨h1, .cell (.row j 0 0 0 none _ hq (Nat.le_refl _) fun _ => ⟨rfl, rfl, rfl⟩)⟩
  · exact hs'.fr m z hm
/-- so of a box's cell -/
theorem Wk_nilrowB (i o j : Nat) (e : TypeId) (sz : Nat) {cs ds : List AV} (hx : aget s.bx i = some cs) (ho : cs[o]? = some .nils) (hds : ds = cs.set o (.row j 0)) (hj : aget s.rw j = none) (hB : Nat.blt j nB = true) (hk : Wk C k { s with bx := (i, ds) :: s.bx, rw := (j, ⟨e, sz, 0, 0, 0, true, 0, [], []⟩) :: s.rw }) : Wk C k s := by
  intro a w ⟨hd, M, E, hs, hp⟩
  subst hds
  obtain ⟨E', hup, hq, hs'⟩ := hs.row0 hj (Nat.le_of_ble_eq_true hB) none e sz true 0 [] (fun _ => rfl)
  refine hk a w ⟨hd, M, E', { hs' with bx := fun m z hm => ?_, bxn := fun m hm => ?_ }, hup.p _ hp⟩
  · have hm : aget ((i, cs.set o (.row j 0)) :: s.bx) m = some z := hm
    rw [aget_cons] at hm
    split at hm
    · rename_i e
      cases hm
      subst e
      obtain ⟨b, h1, h2, t, vs, h3, h4, h5⟩ := hs'.bx m cs hx
      refine ⟨b, h1, h2, t, vs, h3, by simpa using h4, fun n v c hv hc => ?_⟩
      rw [List.getElem?_set] at hc
      split at hc
      · rename_i e
        subst e
        split at hc
        · cases hc
          have := h5 o v _ hv ho
          cases this with
          | pure h =>
            cases h
            exact .row j 0 0 0 none _ hq (Nat.le_refl _) fun _ => ⟨rfl, rfl, rfl⟩
        · cases hc
      · exact h5 n v c hv hc
    · exact hs'.bx m z hm
  · have hm : aget ((i, cs.set o (.row j 0)) :: s.bx) m = none := hm
    rw [aget_cons] at hm
    split at hm
    · cases hm
    · exact hs'.bxn m hm


/- a function's end -/

/-- what is handed back: the answer in slot 0, and what it and the rest stand on; rows that are not handed back are sealed -/
def fin (τ : TyTab) (s : S) (res : List ResultVar) (ts : List TypeId) (R bs rs ms aa : List Nat) (nv : NV) : Option S :=
  match resAll τ s res with
  | some vs => match sealALx R s (normL τ ts vs) with
    | some ([v], e) => trimS [0] bs rs ms aa nv ⟨[(0, v)], s.bx, e ++ s.rw, s.mp, s.ar⟩
    | some (ys, e) => trimS [0] bs rs ms aa nv ⟨[(0, .tup ys)], s.bx, e ++ s.rw, s.mp, s.ar⟩
    | none => none
  | none => none
def Ends (τ : TyTab) (res : List ResultVar) (ts : List TypeId) (r : AV) (s1 s : S) : Prop := ∃ R bs rs ms aa nv, fin τ s res ts R bs rs ms aa nv = some ⟨[(0, r)], s1.bx, s1.rw, s1.mp, s1.ar⟩

def oneOf : List Value → Value
  | [v] => v
  | vs => .tuple vs.toArray
theorem results_run {P : Program} {fn : Func} {tmps : Array Value} {w : World} {vs : List Value} (h1 : (fn.results.toList.mapM (resSem tmps)).run P w = .ok vs w) :
    (results fn tmps).run P w = .ok (oneOf vs) w := by
  have hrun : (results fn tmps).run P w = .ok (if h : vs.toArray.size = 1 then vs.toArray[0] else .tuple vs.toArray) w := by
    unfold results
    have : (fn.results.mapM (resSem tmps)).run P w = .ok vs.toArray w := by
      rw [Array.mapM_eq_mapM_toList]
      simp only [Sem.run_map, h1, Result.andThen_ok]
    simp only [Sem.run_bind, Sem.run_pure]
    change ((Sem.run P (Array.mapM (resSem tmps) fn.results) w).andThen _) = _
    rw [this]
    rfl
  rw [hrun]
  have e : ∀ vs : List Value, (if h : vs.toArray.size = 1 then vs.toArray[0] else .tuple vs.toArray) = oneOf vs := fun vs => by
    match vs with
    | [] => rfl
    | [v] => rfl
    | v :: u :: l => rfl
  rw [e]

theorem fin_run (hτ : TyOk C.P τ) {M : Mem} {E : Env} {a : Act} {w : World} (hs : St C.g C.N M E s a.tmps w) {fn : Func} {ts : List TypeId} {R bs rs ms aa : List Nat} {nv : NV} {t : S} (h : fin τ s fn.results.toList ts R bs rs ms aa nv = some t) :
    ∃ v M' E', (results fn a.tmps).run C.P w = .ok v w ∧ St C.g 1 M' E' t #[v] w ∧ ∀ E0, Env.p0 E0 E → Env.p0 E0 E' := by
  unfold fin at h
  split at h
  · rename_i vs' hvs
    obtain ⟨vs, h1, h2⟩ := resAll_run hτ hs hvs
    have h3 := normL_rel (τ := τ) (ts := ts) h2
    have hrun := results_run h1
    have put : ∀ {s2 : S} {M2 : Mem} {v : Value} {x : AV}, St C.g C.N M2 E s2 a.tmps w → Rel M2 E v x → St C.g 1 M2 E ⟨[(0, x)], s2.bx, s2.rw, s2.mp, s2.ar⟩ #[v] w := by
      intro s2 M2 v x hs2 hr
      refine { hs2.noFr with size := rfl, fr := fun i y hi => ?_ }
      have hi : aget [(0, x)] i = some y := hi
      rw [aget_cons] at hi
      split at hi
      · rename_i e; cases hi; subst e; exact ⟨Nat.one_pos, hr⟩
      · cases hi
    split at h
    · rename_i v e hse
      obtain ⟨M1, hM1, hs1, hr1, hl1⟩ := sealALx_ok (likeRows.refl hs) hse hs h3
      match vs, hr1, hrun with
      | [u], hr1, hrun =>
        obtain ⟨E', h4, h5⟩ := trimS_St h (put hs1 (hr1.2 0 u v rfl rfl))
        exact ⟨_, M1, E', hrun, h4, h5⟩
      | [], hr1, _ => exact absurd hr1.1 (by simp)
      | _ :: _ :: _, hr1, _ => exact absurd hr1.1 (by simp)
    · rename_i ys e hne hse
      obtain ⟨M1, hM1, hs1, hr1, hl1⟩ := sealALx_ok (likeRows.refl hs) hse hs h3
      have hm : oneOf vs = .tuple vs.toArray := by
        clear hrun h1 h2 h3 h
        match vs, hr1 with
        | [], _ => rfl
        | [u], hr1 =>
          match ys, hr1, hne with
          | [y], hr1, hne => exact (hne y rfl).elim
          | [], hr1, _ => exact absurd hr1.1 (by simp)
          | _ :: _ :: _, hr1, _ => exact absurd hr1.1 (by simp)
        | u :: u' :: l, _ => rfl
      rw [hm] at hrun
      obtain ⟨E', h4, h5⟩ := trimS_St h (put hs1 (.tup vs ys hr1.1 hr1.2))
      exact ⟨_, M1, E', hrun, h4, h5⟩
    · cases h
  · cases h

def hiL {α : Type} : List (Nat × α) → Bool
  | [] => true
  | (i, _) :: l => match Nat.ble nB i with
    | true => hiL l
    | false => false
def ver0 : List (Nat × Rw) → Bool
  | [] => true
  | (_, r) :: l => match Nat.beq r.ver 0 with
    | true => ver0 l
    | false => false
/-- all that is handed in has a name of its own kind; rows' headers are aa they were -/
def hiS (s : S) : Bool := hiL s.bx && (hiL s.rw && (hiL s.mp && (hiL s.ar && ver0 s.rw)))
theorem hiL_get {α : Type} : ∀ {l : List (Nat × α)}, hiL l = true → ∀ {i : Nat} {v : α}, aget l i = some v → nB ≤ i
  | (j, x) :: l, h, i, v, hi => by
    simp only [hiL] at h
    split at h
    · rename_i hj
      rw [aget_cons] at hi
      split at hi
      · rename_i e; rw [e]; exact Nat.le_of_ble_eq_true hj
      · exact hiL_get h hi
    · cases h
theorem ver0_get : ∀ {l : List (Nat × Rw)}, ver0 l = true → ∀ {i : Nat} {r : Rw}, aget l i = some r → r.ver = 0
  | (j, x) :: l, h, i, v, hi => by
    simp only [ver0] at h
    split at h
    · rename_i hj
      rw [aget_cons] at hi
      split at hi
      · cases hi; exact beq_true hj
      · exact ver0_get h hi
    · cases h

/-- a contract, out of the body's walk -/
theorem Pe_of {P : Program} {f : FuncId} {fn : Func} {c : Code} {N : Nat} {res : List ResultVar} {ts : List TypeId} (hτ : TyOk P τ) (hb : Bodied P f) (hfn : P.funcs[f]? = some fn) (hbody : fn.body = some c) (hN : fn.ntmps = N) (hres : fn.results.toList = res)
    {s0 s1 : S} {args : List AV} {r : AV} (hlen : Nat.ble args.length N = true) (h0 : hiS s0 = true) (hf1 : s1.fr = [])
    (h : ∀ (Q : Exit → Act → World → Prop) (g : Gh), (∀ s, Ends τ res ts r s1 s → Fin ⟨P, Q, g, N⟩ s) → Wk ⟨P, Q, g, N⟩ [.code c] ⟨argSlots 0 args, s0.bx, s0.rw, s0.mp, s0.ar⟩) : Pe P f s0 args r s1 := by
  refine ⟨hb, fun w M E F vs hs hrel => calls_of_wp hfn hbody ?_⟩
  have hlen := Nat.le_of_ble_eq_true hlen
  unfold hiS at h0
  simp only [Bool.and_eq_true] at h0
  obtain ⟨i1, i2, i3, i4, i5⟩ := h0
  let Q := bodyPost P fn (fun e w' => ∃ M' E' v, e = .returned v ∧ E.lw E' ∧ St ⟨w, F, M, Env.none⟩ 0 M' E' s1 #[] w' ∧ Rel M' E' v r)
  have hfin : ∀ s, Ends τ res ts r s1 s → Fin ⟨P, Q, ⟨w, F, M, E⟩, N⟩ s := by
    intro s ⟨R, bs, rs, ms, aa, nv, hx⟩ a w' ⟨hdf, M1, E1, hst, hp0⟩
    rw [← hres] at hx
    obtain ⟨v, M', E', hv, hst', hp⟩ := fin_run (C := ⟨P, Q, ⟨w, F, M, E⟩, N⟩) hτ hst hx
    have hp1 := hp _ hp0
    have : ∃ M' E' v', Ending.returned v = .returned v' ∧ E.lw E' ∧ St ⟨w, F, M, Env.none⟩ 0 M' E' s1 #[] w' ∧ Rel M' E' v' r := by
      refine ⟨M', E', v, rfl, ⟨fun i b b' e e' => ?_, fun i q q' e e' => ?_, fun i b b' e e' => ?_, fun i b b' e e' => ?_⟩, { hst' with size := rfl, fr := fun i y h => ?_ }, ?_⟩
      · have hi : nB ≤ i := by
          cases hh : aget s0.bx i with
          | none => rw [hs.bxn i hh] at e; cases e
          | some x => exact hiL_get i1 hh
        have := hp1.bx i b' hi e'
        rw [e] at this; cases this; rfl
      · have hi : nB ≤ i ∧ q.ver = 0 := by
          cases hh : aget s0.rw i with
          | none => rw [hs.rwn i hh] at e; cases e
          | some x =>
            obtain ⟨q2, e2, ok⟩ := hs.rw i x hh
            rw [e] at e2; cases e2
            exact ⟨hiL_get i2 hh, by rw [ok.ver]; exact ver0_get i5 hh⟩
        refine ⟨by omega, fun ev => ?_⟩
        have := hp1.rw i q' hi.1 e' (by omega)
        rw [e] at this; cases this
        exact ⟨rfl, rfl, rfl, rfl⟩
      · have hi : nB ≤ i := by
          cases hh : aget s0.mp i with
          | none => rw [hs.mpn i hh] at e; cases e
          | some x => exact hiL_get i3 hh
        have := hp1.mp i b' hi e'
        rw [e] at this; cases this; rfl
      · have hi : nB ≤ i := by
          cases hh : aget s0.ar i with
          | none => rw [hs.arn i hh] at e; cases e
          | some x => exact hiL_get i4 hh
        obtain ⟨bs0, l, e2, e3⟩ := hp1.ar i b' hi e'
        rw [e] at e2; cases e2
        exact ⟨l, e3⟩
      · rw [hf1] at h; cases h
      · exact (hst'.fr 0 r (by rw [aget_cons, if_pos rfl])).2
    exact ⟨⟨hdf, v, hv, this⟩, ⟨hdf, v, hv, this⟩⟩
  have hw := h Q ⟨w, F, M, E⟩ hfin
  have := hw { tmps := vs.toArray ++ Array.replicate (fn.ntmps - vs.toArray.size) undef, defers := [] } w ⟨rfl, M, E, ?_, ?_⟩
  · have e : mean ⟨P, Q, ⟨w, F, M, E⟩, N⟩ [.code c] .normal = c.wp P (mean ⟨P, Q, ⟨w, F, M, E⟩, N⟩ []) := rfl
    rw [e] at this
    exact this
  · have hl := hrel.1
    refine { hs with size := by simp; omega, fr := fun i av hi => ?_ }
    simp only [get_argSlots, Nat.zero_le, if_true, Nat.sub_zero] at hi
    have hlt := (List.getElem?_eq_some_iff.1 hi).1
    refine ⟨Nat.lt_of_lt_of_le hlt hlen, ?_⟩
    have hv : i < vs.length := by omega
    refine hrel.2 i _ av ?_ hi
    rw [List.getElem?_eq_getElem hv, Array.getD_eq_getD_getElem?, Array.getElem?_append_left (by simpa using hv)]
    simp [hv]
  · exact ⟨fun i b _ h => h, fun i q _ h _ => h, fun i r _ h => h, fun i bs _ h => ⟨bs, [], h, by simp⟩⟩

end Go.Dm
