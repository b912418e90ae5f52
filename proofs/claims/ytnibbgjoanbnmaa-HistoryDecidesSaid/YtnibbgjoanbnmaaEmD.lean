/- The machine over the model's code, part EmD. -/
import Derived.Test.YtnibbgjoanbnmaaEmC
import Derived.ProofKit
import Derived.OpenShut
import Derived.ShutString
import Derived.ChangeOld
import Derived.Deep.Slices
import Derived.Carry
import Derived.JoinedOf
import Derived.Handed
set_option linter.unnecessarySimpa false
set_option linter.constructorNameAsVariable false
set_option linter.unusedSectionVars false
set_option linter.unusedSimpArgs false
set_option linter.unusedVariables false
namespace Go.Dm
open Go Go.RowKit
variable {C : Cx} {k : List It} {s t : S} {τ : TyTab}
def lt {α β : Type} (e : α) (f : α → β) : β := f e
theorem lt_elim {α β : Type} {e : α} {f : α → β} {y : β} (h : lt e f = y) {x : α} (hx : x = e) : f x = y := by subst hx; exact h
theorem lt_split {α β : Type} {e : α} {f : α → β} {y : β} (h : lt e f = y) : ∃ x, e = x ∧ f x = y := ⟨e, rfl, h⟩
theorem u8s_ok (l : List UInt8) : (l.map fun b => AV.int .u8 (b.toNat : Int)) = u8s l := rfl
open Classical in
noncomputable def asrt {β : Type} (p : Prop) (k : Option β) : Option β := if p then k else none
theorem asrt_elim {β : Type} {p : Prop} {k : Option β} {y : β} (h : asrt p k = some y) : p ∧ k = some y := by
 unfold asrt at h
 split at h
 ·exact ⟨‹_›, h⟩
 ·cases h
theorem asrt_pos {β : Type} {p : Prop} (h : p) (k : Option β) : asrt p k = k := if_pos h
def ob {α β : Type} (e : Option α) (f : α → Option β) : Option β := match e with
 | some x => f x
 | none => none
theorem ob_elim {α β : Type} {e : Option α} {f : α → Option β} {y : β} (h : ob e f = some y) : ∃ x, e = some x ∧ f x = some y := by
 unfold ob at h
 split at h
 ·exact ⟨_, rfl, h⟩
 ·cases h
theorem ob_some {α β : Type} (x : α) (f : α → Option β) : ob (some x) f = f x := rfl
theorem ite_t {β : Type} {b : Bool} {x y z : β} (h : (if b = true then x else y) = z) (hb : b = true) : x = z := by rw [if_pos hb] at h; exact h
theorem ite_f {β : Type} {b : Bool} {x y z : β} (h : (if b = true then x else y) = z) (hb : b = false) : y = z := by rw [if_neg (by rw [hb]; simp)] at h; exact h
theorem some_elim {β : Type} {x y : β} (h : some x = some y) : x = y := Option.some.inj h
def lget {α : Type} [Inhabited α] (l : List α) (n : Int) : α := l.getD n.toNat default
theorem idx_ok {α : Type} [Inhabited α] {l : List α} {n : Int} (enc : α → AV) (h : 0 ≤ n ∧ n < (l.length : Int)) : 0 ≤ n ∧ (l.map enc)[n.toNat]? = some (enc (lget l n)) := by
 refine ⟨h.1, ?_⟩
 have hlt : n.toNat < l.length := by omega
 simp [lget, List.getD, hlt]
theorem idxS_ok {l : List UInt8} {n : Int} (h : 0 ≤ n ∧ n < (l.length : Int)) : 0 ≤ n ∧ l[n.toNat]? = some (lget l n) := by
 refine ⟨h.1, ?_⟩
 have hlt : n.toNat < l.length := by omega
 simp [lget, List.getD, hlt]
theorem len_ok {α : Type} (enc : α → AV) (l : List α) : (l.length : Int) = ((l.map enc).length : Int) := by simp
def ltake {α : Type} (l : List α) (n : Int) : List α := l.take n.toNat
def ldrop {α : Type} (l : List α) (n : Int) : List α := l.drop n.toNat
theorem sl00_ok {α : Type} (enc : α → AV) (l : List α) : l.map enc = l.map enc := rfl
theorem sl10_ok {α : Type} {l : List α} {a : Int} (enc : α → AV) (h : 0 ≤ a ∧ a ≤ (l.length : Int)) : 0 ≤ a ∧ a.toNat ≤ (l.map enc).length ∧ (ldrop l a).map enc = (l.map enc).drop a.toNat :=
 ⟨h.1, by simp; omega, by simp [ldrop, List.map_drop]⟩
theorem sl01_ok {α : Type} {l : List α} {b : Int} (enc : α → AV) (h : 0 ≤ b ∧ b ≤ (l.length : Int)) : 0 ≤ b ∧ b.toNat ≤ (l.map enc).length ∧ (ltake l b).map enc = (l.map enc).take b.toNat :=
 ⟨h.1, by simp; omega, by simp [ltake, List.map_take]⟩
theorem sl11_ok {α : Type} {l : List α} {a b : Int} (enc : α → AV) (h : 0 ≤ a ∧ a ≤ b ∧ b ≤ (l.length : Int)) : 0 ≤ a ∧ a ≤ b ∧ b.toNat ≤ (l.map enc).length ∧ (ldrop (ltake l b) a).map enc = ((l.map enc).take b.toNat).drop a.toNat :=
 ⟨h.1, h.2.1, by simp; omega, by simp [ltake, ldrop, List.map_take, List.map_drop]⟩
theorem st10_ok {l : List UInt8} {a : Int} (h : 0 ≤ a ∧ a ≤ (l.length : Int)) : 0 ≤ a ∧ a.toNat ≤ l.length := ⟨h.1, by omega⟩
theorem st11_ok {l : List UInt8} {a b : Int} (h : 0 ≤ a ∧ a ≤ b ∧ b ≤ (l.length : Int)) : 0 ≤ a ∧ a ≤ b ∧ b.toNat ≤ l.length := ⟨h.1, h.2.1, by omega⟩
theorem cat_ok {x y : List UInt8} (h : (x.length : Int) + y.length ≤ 9223372036854775807) : x.length + y.length ≤ 9223372036854775807 := by omega
theorem not_t {b : Bool} (h : b = false) : (!b) = true := by rw [h]; rfl
theorem and_l {a b : Bool} (h : (a && b) = true) : a = true := by simp at h; exact h.1
theorem and_r {a b : Bool} (h : (a && b) = true) : b = true := by simp at h; exact h.2
def inrO {σ ρ : Type} (e : Option ρ) : Option (σ ⊕ ρ) := match e with
 | some x => some (.inr x)
 | none => none
theorem inrO_done {σ ρ : Type} {e : Option ρ} {y' : σ ⊕ ρ} {y : ρ} (h : inrO e = some y') (hd : ∀ r', y' = .inr r' → r' = y) : e = some y := by
 unfold inrO at h
 split at h
 ·cases h; rw [hd _ rfl]
 ·cases h
theorem ret_done {σ ρ : Type} {a : ρ} {y' : σ ⊕ ρ} {y : ρ} (h : some (Sum.inr a : σ ⊕ ρ) = some y') (hd : ∀ r', y' = .inr r' → r' = y) : some a = some y := by
 cases h; rw [hd _ rfl]
def w64 (x : Int) : Int := IntKind.i64.wrap x
theorem Wk_meetP {x : It} {σ : Type} (st : σ → S) (p : σ → Prop) (h1 : Wk C (x :: .cut (fun s' => ∃ v, p v ∧ s' = st v) :: k) s) (h2 : ∀ v, p v → Wk C k (st v)) : Wk C (x :: k) s :=
 Wk_join _ h1 fun s' ⟨v, hp, e⟩ => by subst e; exact h2 v hp
theorem Wk_metP {σ : Type} {st : σ → S} {p : σ → Prop} (v : σ) (fs bs rs ms aa : List Nat) (nv : NV) (hp : p v) (h : trimS fs bs rs ms aa nv s = some (st v)) : Wk C (.cut (fun s' => ∃ v, p v ∧ s' = st v) :: k) s :=
 Wk_cut (fun a w hx => trimS_H h hx) ⟨v, hp, rfl⟩
inductive HL : List Prop → Prop
 | nil : HL []
 | cons {p : Prop} {l : List Prop} (h : p) (t : HL l) : HL (p :: l)
theorem HL.all : ∀ {l : List Prop}, HL l → AllP l
 | _, .nil => trivial
 | _, .cons h t => ⟨h, t.all⟩
theorem W_R (hτ : TyOk C.P τ) {id : Nat} {ops : List Oper} (an : List An) (fs bs rs ms aa : List Nat) (nv : NV) (t : S) {gs : List Prop} (hg : HL gs) (h : outL (runT τ C.P C.N false ops an fs bs rs ms aa nv s) = some (gs, t, outR (runT τ C.P C.N false ops an fs bs rs ms aa nv s))) (hk : Wk C k t) : Wk C (.code (.region id ops.toArray false) :: k) s :=
 Wk_run hτ h hg.all hk
theorem W_D (hτ : TyOk C.P τ) (hm : C.P.follows .mixedOrders = true) {id : Nat} {ops : List Oper} (an : List An) (fs bs rs ms aa : List Nat) (nv : NV) (t : S) {gs : List Prop} (hg : HL gs) (h : outL (runT τ C.P C.N true ops an fs bs rs ms aa nv s) = some (gs, t, outR (runT τ C.P C.N true ops an fs bs rs ms aa nv s))) (hk : Wk C k t) : Wk C (.code (.region id ops.toArray true) :: k) s :=
 Wk_runD hτ hm h hg.all hk
theorem W_let {α : Type} (e : α) (f : α → S) (h : ∀ x, x = e → Wk C k (f x)) : Wk C k (f e) := h e rfl
def CoeS (x y : AV) : Prop := ∀ (M : Mem) (E : Env) (v : Value), RelS M E v x → RelS M E v y
def Coe (x y : AV) : Prop := ∀ (M : Mem) (E : Env) (v : Value), Rel M E v x → Rel M E v y
inductive CoeL : List AV → List AV → Prop
 | nil : CoeL [] []
 | cons {x y : AV} {l m : List AV} (h : CoeS x y) (t : CoeL l m) : CoeL (x :: l) (y :: m)
theorem CoeS.refl (x : AV) : CoeS x x := fun _ _ _ h => h
theorem CoeS.any (x : AV) : CoeS x .any := fun _ _ _ h => .any h.one.1
theorem CoeS.popF (x : AV) : CoeS .nilp (.popt false x) := fun M E v h => .popt false x (fun h => by cases h) fun _ => by
 cases h with
 | pure h => cases h; rfl
theorem CoeS.popT (x : AV) : CoeS x (.popt true x) := fun M E v h => .popt true x (fun _ => h) fun h => by cases h
theorem CoeS.unp {b : Bool} {x : AV} (hb : b = true) : CoeS (.popt b x) x := fun M E v h => by
 cases h with
 | pure h => cases h
 | popt b x ht hf => exact ht hb
theorem CoeS.unF {b : Bool} {x : AV} (hb : b = false) : CoeS (.popt b x) .nilp := fun M E v h => by
 cases h with
 | pure h => cases h
 | popt b x ht hf => rw [hf hb]; exact .pure .nilp
theorem CoeS.nils (sz : Nat) : CoeS .nils (.sl sz []) := fun M E v h => by
 cases h with
 | pure h =>
  cases h
  exact .pure (.sl none 0 0 sz [] (fun _ => undef) rfl (Nat.le_refl _) (Nat.zero_le _) (fun x hx => by cases hx) (fun h => absurd rfl h) (fun j u hu => by simp [flat] at hu))
theorem CoeL.len {l m : List AV} (h : CoeL l m) : l.length = m.length := by
 induction h with
 | nil => rfl
 | cons _ _ ih => simp [ih]
theorem CoeL.get {l m : List AV} (h : CoeL l m) : ∀ {j : Nat} {y : AV}, m[j]? = some y → ∃ x, l[j]? = some x ∧ CoeS x y := by
 induction h with
 | nil => intro j y hy; simp at hy
 | @cons x y l m h t ih =>
  intro j z hz
  cases j with
  | zero => simp at hz; subst hz; exact ⟨x, rfl, h⟩
  | succ j => simp only [List.getElem?_cons_succ] at hz ⊢; exact ih hz
theorem Coe.refl (x : AV) : Coe x x := fun _ _ _ h => h
theorem Coe.any (x : AV) : Coe x .any := fun _ _ v _ => .any v
theorem Coe.cell {x y : AV} (hx : x.isCell = true) (h : CoeS x y) : Coe x y := fun M E v hv => .cell (h M E v (hv.of_cell hx))
theorem Coe.agg {l m : List AV} (h : CoeL l m) : Coe (.agg l) (.agg m) := fun M E v hv => by
 obtain ⟨vs, rfl, h1, h2⟩ := hv.agg_inv
 refine .agg vs m (h1.trans h.len) fun j v c hv hc => ?_
 obtain ⟨x, hx, hc⟩ := h.get hc
 exact hc _ _ _ (h2 j v x hv hx)
theorem Wk_coe (i : Nat) {x : AV} (y : AV) (hx : aget s.fr i = some x) (hc : Coe x y) (hk : Wk C k { s with fr := (i, y) :: s.fr }) : Wk C k s := by
 intro a w ⟨hd, M, E, hs, hp⟩
 refine hk a w ⟨hd, M, E, { hs with fr := fun j z hj => ?_ }, hp⟩
 have hj : aget ((i, y) :: s.fr) j = some z := hj
 rw [aget_cons] at hj
 split at hj
 ·rename_i e
  cases hj
  obtain ⟨h1, h2⟩ := hs.fr i x hx
  rw [e]
  exact ⟨h1, hc _ _ _ h2⟩
 ·exact hs.fr j z hj
theorem Wk_coeB (i : Nat) {cs : List AV} (ds : List AV) (hx : aget s.bx i = some cs) (hc : CoeL cs ds) (hk : Wk C k { s with bx := (i, ds) :: s.bx }) : Wk C k s := by
 intro a w ⟨hd, M, E, hs, hp⟩
 refine hk a w ⟨hd, M, E, { hs with bx := fun j z hj => ?_, bxn := fun j hj => ?_ }, hp⟩
 ·have hj : aget ((i, ds) :: s.bx) j = some z := hj
  rw [aget_cons] at hj
  split at hj
  ·rename_i e
   cases hj
   subst e
   obtain ⟨b, h1, h2, t, vs, h3, h4, h5⟩ := hs.bx j cs hx
   refine ⟨b, h1, h2, t, vs, h3, h4.trans hc.len, fun m v c hv hcc => ?_⟩
   obtain ⟨x, hx', hr⟩ := hc.get hcc
   exact hr _ _ _ (h5 m v x hv hx')
  ·exact hs.bx j z hj
 ·have hj : aget ((i, ds) :: s.bx) j = none := hj
  rw [aget_cons] at hj
  split at hj
  ·cases hj
  ·exact hs.bxn j hj
theorem Wk_seal (i : Nat) {x y : AV} {e : List (Nat × Rw)} (hx : aget s.fr i = some x) (h : sealA s x = some (y, e)) (hk : Wk C k { s with fr := (i, y) :: s.fr, rw := e ++ s.rw }) : Wk C k s := by
 intro a w ⟨hd, M, E, hs, hp⟩
 obtain ⟨M', hM, hs', hr, _⟩ := sealA_ok (likeRows.refl hs) h hs (hs.fr i x hx).2
 refine hk a w ⟨hd, M', E, { hs' with fr := fun j z hj => ?_ }, hp⟩
 have hj : aget ((i, y) :: s.fr) j = some z := hj
 rw [aget_cons] at hj
 split at hj
 ·rename_i e
  cases hj
  rw [e]
  exact ⟨(hs.fr i x hx).1, hr⟩
 ·exact hs'.fr j z hj
def lowL : List (Nat × Nat) → Bool
 | [] => true
 | (a, b) :: l => match Nat.blt a nB && Nat.blt b nB with
  | true => lowL l
  | false => false
def lowD : List (Nat × Nat) → Bool
 | [] => true
 | (a, _) :: l => match Nat.blt a nB with
  | true => lowD l
  | false => false
def Ren.low (σ : Ren) : Bool := lowL σ.b && (lowL σ.r && (lowL σ.m && lowD σ.d))
theorem lowL_swR : ∀ {l : List (Nat × Nat)}, lowL l = true → ∀ i, nB ≤ i → swR l i = i
 | [], _, i, _ => rfl
 | (a, b) :: l, h, i, hi => by
  simp only [lowL] at h
  split at h
  ·rename_i hc
   rw [Bool.and_eq_true] at hc
   have h1 : a < nB := Nat.le_of_ble_eq_true hc.1
   have h2 : b < nB := Nat.le_of_ble_eq_true hc.2
   simp only [swR]
   first
    | (rw [sw1_eq, if_neg (by omega), if_neg (by omega)]; exact lowL_swR h i hi)
    | (rw [lowL_swR h i hi, sw1_eq, if_neg (by omega), if_neg (by omega)])
  ·cases h
theorem lowD_get : ∀ {l : List (Nat × Nat)}, lowD l = true → ∀ i, nB ≤ i → dget l i = 0
 | [], _, i, _ => rfl
 | (a, b) :: l, h, i, hi => by
  simp only [lowD] at h
  split at h
  ·rename_i hc
   have h1 : a < nB := Nat.le_of_ble_eq_true hc
   simp only [dget]
   split
   ·rename_i e; have := beq_true e; omega
   ·exact lowD_get h i hi
  ·cases h
theorem Env.fwd_p0 {E0 E : Env} {σ : Ren} (h : σ.low = true) (hp : Env.p0 E0 E) : Env.p0 E0 (E.fwd σ) := by
 unfold Ren.low at h
 simp only [Bool.and_eq_true] at h
 obtain ⟨h1, h2, h3, h4⟩ := h
 refine ⟨fun i b hi e => ?_, fun i q hi e hv => ?_, fun i r hi e => ?_, hp.ar⟩
 ·simp only [Env.fwd, lowL_swR h1 i hi] at e; exact hp.bx i b hi e
 ·simp only [Env.fwd, lowL_swR h2 i hi, lowD_get h4 i hi] at e
  obtain ⟨q', hq', rfl⟩ := Option.map_eq_some_iff.1 e
  exact hp.rw i q' hi hq' hv
 ·simp only [Env.fwd, lowL_swR h3 i hi] at e; exact hp.mp i r hi e
theorem Wk_ren (σ : Ren) (t : S) (h : σ.low = true) (e : s.ren σ = t) (hk : Wk C k t) (h2 : p2R s.rw = true := by kernel_rfl) (h3 : mpR σ.m s.mp = true := by kernel_rfl) (h4 : noH s.ar = true := by kernel_rfl) : Wk C k s := by
 intro a w ⟨hd, M, E, hs, hp⟩
 subst e
 exact hk a w ⟨hd, M, _, hs.fwd σ h2 h3 h4, Env.fwd_p0 h hp⟩
theorem Wk_nilrowP (pu : Nat) (i j : Nat) (e : TypeId) (sz : Nat) (hx : aget s.fr i = some .nils) (hj : aget s.rw j = none) (hB : Nat.blt j nB = true) (hk : Wk C k { s with fr := (i, .row j 0) :: s.fr, rw := (j, ⟨e, sz, 0, 0, 0, true, pu, [], []⟩) :: s.rw }) : Wk C k s := by
 intro a w ⟨hd, M, E, hs, hp⟩
 obtain ⟨E', hup, hq, hs'⟩ := hs.row0 hj (Nat.le_of_ble_eq_true hB) none e sz true pu [] (fun _ => rfl)
 refine hk a w ⟨hd, M, E', { hs' with fr := fun m z hm => ?_ }, hup.p _ hp⟩
 have hm : aget ((i, .row j 0) :: s.fr) m = some z := hm
 rw [aget_cons] at hm
 split at hm
 ·rename_i e
  cases hm
  obtain ⟨h1, h2⟩ := hs.fr i _ hx
  rw [e, h2.nils_inv]
  exact ⟨h1, .cell (.row j 0 0 0 none _ hq (Nat.le_refl _) fun _ => ⟨rfl, rfl, rfl⟩)⟩
 ·exact hs'.fr m z hm
theorem Wk_nilrow (i j : Nat) (e : TypeId) (sz : Nat) (hx : aget s.fr i = some .nils) (hj : aget s.rw j = none) (hB : Nat.blt j nB = true) (hk : Wk C k { s with fr := (i, .row j 0) :: s.fr, rw := (j, ⟨e, sz, 0, 0, 0, true, 0, [], []⟩) :: s.rw }) : Wk C k s := Wk_nilrowP 0 i j e sz hx hj hB hk
theorem Wk_nilrowBP (pu : Nat) (i o j : Nat) (e : TypeId) (sz : Nat) {cs ds : List AV} (hx : aget s.bx i = some cs) (ho : cs[o]? = some .nils) (hds : ds = cs.set o (.row j 0)) (hj : aget s.rw j = none) (hB : Nat.blt j nB = true) (hk : Wk C k { s with bx := (i, ds) :: s.bx, rw := (j, ⟨e, sz, 0, 0, 0, true, pu, [], []⟩) :: s.rw }) : Wk C k s := by
 intro a w ⟨hd, M, E, hs, hp⟩
 subst hds
 obtain ⟨E', hup, hq, hs'⟩ := hs.row0 hj (Nat.le_of_ble_eq_true hB) none e sz true pu [] (fun _ => rfl)
 refine hk a w ⟨hd, M, E', { hs' with bx := fun m z hm => ?_, bxn := fun m hm => ?_ }, hup.p _ hp⟩
 ·have hm : aget ((i, cs.set o (.row j 0)) :: s.bx) m = some z := hm
  rw [aget_cons] at hm
  split at hm
  ·rename_i e
   cases hm
   subst e
   obtain ⟨b, h1, h2, t, vs, h3, h4, h5⟩ := hs'.bx m cs hx
   refine ⟨b, h1, h2, t, vs, h3, by simpa using h4, fun n v c hv hc => ?_⟩
   rw [List.getElem?_set] at hc
   split at hc
   ·rename_i e
    subst e
    split at hc
    ·cases hc
     have := h5 o v _ hv ho
     cases this with
     | pure h =>
      cases h
      exact .row j 0 0 0 none _ hq (Nat.le_refl _) fun _ => ⟨rfl, rfl, rfl⟩
    ·cases hc
   ·exact h5 n v c hv hc
  ·exact hs'.bx m z hm
 ·have hm : aget ((i, cs.set o (.row j 0)) :: s.bx) m = none := hm
  rw [aget_cons] at hm
  split at hm
  ·cases hm
  ·exact hs'.bxn m hm
theorem Wk_nilrowB (i o j : Nat) (e : TypeId) (sz : Nat) {cs ds : List AV} (hx : aget s.bx i = some cs) (ho : cs[o]? = some .nils) (hds : ds = cs.set o (.row j 0)) (hj : aget s.rw j = none) (hB : Nat.blt j nB = true) (hk : Wk C k { s with bx := (i, ds) :: s.bx, rw := (j, ⟨e, sz, 0, 0, 0, true, 0, [], []⟩) :: s.rw }) : Wk C k s := Wk_nilrowBP 0 i o j e sz hx ho hds hj hB hk
def fin (τ : TyTab) (s : S) (res : List ResultVar) (ts : List TypeId) (R bs rs ms aa : List Nat) (nv : NV) : Option S :=
 match resAll τ s res with
 | some vs => match sealALx R s (normL τ ts vs) with
  | some ([v], e) => trimS [0] bs rs ms aa nv ⟨[(0, v)], s.bx, e ++ s.rw, s.mp, s.ar⟩
  | some (ys, e) => trimS [0] bs rs ms aa nv ⟨[(0, .tup ys)], s.bx, e ++ s.rw, s.mp, s.ar⟩
  | none => none
 | none => none
def Ends (τ : TyTab) (res : List ResultVar) (ts : List TypeId) (r : AV) (s1 s : S) : Prop := ∃ R bs rs ms aa nv, fin τ s res ts R bs rs ms aa nv = some ⟨[(0, r)], s1.bx, s1.rw, s1.mp, s1.ar⟩
def oneOf : List Value → Value
 | [v] => v
 | vs => .tuple vs.toArray
theorem results_run {P : Program} {fn : Func} {tmps : Array Value} {w : World} {vs : List Value} (h1 : (fn.results.toList.mapM (resSem tmps)).run P w = .ok vs w) :
  (results fn tmps).run P w = .ok (oneOf vs) w := by
 have hrun : (results fn tmps).run P w = .ok (if h : vs.toArray.size = 1 then vs.toArray[0] else .tuple vs.toArray) w := by
  unfold results
  have : (fn.results.mapM (resSem tmps)).run P w = .ok vs.toArray w := by
   rw [Array.mapM_eq_mapM_toList]
   simp only [Sem.run_map, h1, Result.andThen_ok]
  simp only [Sem.run_bind, Sem.run_pure]
  change ((Sem.run P (Array.mapM (resSem tmps) fn.results) w).andThen _) = _
  rw [this]
  rfl
 rw [hrun]
 have e : ∀ vs : List Value, (if h : vs.toArray.size = 1 then vs.toArray[0] else .tuple vs.toArray) = oneOf vs := fun vs => by
  match vs with
  | [] => rfl
  | [v] => rfl
  | v :: u :: l => rfl
 rw [e]
theorem fin_run (hτ : TyOk C.P τ) {M : Mem} {E : Env} {a : Act} {w : World} (hs : St C.g C.N M E s a.tmps w) {fn : Func} {ts : List TypeId} {R bs rs ms aa : List Nat} {nv : NV} {t : S} (h : fin τ s fn.results.toList ts R bs rs ms aa nv = some t) :
  ∃ v M' E', (results fn a.tmps).run C.P w = .ok v w ∧ St C.g 1 M' E' t #[v] w ∧ ∀ E0, Env.p0 E0 E → Env.p0 E0 E' := by
 unfold fin at h
 split at h
 ·rename_i vs' hvs
  obtain ⟨vs, h1, h2⟩ := resAll_run hτ hs hvs
  have h3 := normL_rel (τ := τ) (ts := ts) h2
  have hrun := results_run h1
  have put : ∀ {s2 : S} {M2 : Mem} {v : Value} {x : AV}, St C.g C.N M2 E s2 a.tmps w → Rel M2 E v x → St C.g 1 M2 E ⟨[(0, x)], s2.bx, s2.rw, s2.mp, s2.ar⟩ #[v] w := by
   intro s2 M2 v x hs2 hr
   refine { hs2.noFr with size := rfl, fr := fun i y hi => ?_ }
   have hi : aget [(0, x)] i = some y := hi
   rw [aget_cons] at hi
   split at hi
   ·rename_i e; cases hi; subst e; exact ⟨Nat.one_pos, hr⟩
   ·cases hi
  split at h
  ·rename_i v e hse
   obtain ⟨M1, hM1, hs1, hr1, hl1⟩ := sealALx_ok (likeRows.refl hs) hse hs h3
   match vs, hr1, hrun with
   | [u], hr1, hrun =>
    obtain ⟨E', h4, h5⟩ := trimS_St h (put hs1 (hr1.2 0 u v rfl rfl))
    exact ⟨_, M1, E', hrun, h4, h5⟩
   | [], hr1, _ => exact absurd hr1.1 (by simp)
   | _ :: _ :: _, hr1, _ => exact absurd hr1.1 (by simp)
  ·rename_i ys e hne hse
   obtain ⟨M1, hM1, hs1, hr1, hl1⟩ := sealALx_ok (likeRows.refl hs) hse hs h3
   have hm : oneOf vs = .tuple vs.toArray := by
    clear hrun h1 h2 h3 h
    match vs, hr1 with
    | [], _ => rfl
    | [u], hr1 =>
     match ys, hr1, hne with
     | [y], hr1, hne => exact (hne y rfl).elim
     | [], hr1, _ => exact absurd hr1.1 (by simp)
     | _ :: _ :: _, hr1, _ => exact absurd hr1.1 (by simp)
    | u :: u' :: l, _ => rfl
   rw [hm] at hrun
   obtain ⟨E', h4, h5⟩ := trimS_St h (put hs1 (.tup vs ys hr1.1 hr1.2))
   exact ⟨_, M1, E', hrun, h4, h5⟩
  ·cases h
 ·cases h
def hiL {α : Type} : List (Nat × α) → Bool
 | [] => true
 | (i, _) :: l => match Nat.ble nB i with
  | true => hiL l
  | false => false
def ver0 : List (Nat × Rw) → Bool
 | [] => true
 | (_, r) :: l => match Nat.beq r.ver 0 with
  | true => ver0 l
  | false => false
def hiS (s : S) : Bool := hiL s.bx && (hiL s.rw && (hiL s.mp && (hiL s.ar && ver0 s.rw)))
theorem hiL_get {α : Type} : ∀ {l : List (Nat × α)}, hiL l = true → ∀ {i : Nat} {v : α}, aget l i = some v → nB ≤ i
 | (j, x) :: l, h, i, v, hi => by
  simp only [hiL] at h
  split at h
  ·rename_i hj
   rw [aget_cons] at hi
   split at hi
   ·rename_i e; rw [e]; exact Nat.le_of_ble_eq_true hj
   ·exact hiL_get h hi
  ·cases h
theorem ver0_get : ∀ {l : List (Nat × Rw)}, ver0 l = true → ∀ {i : Nat} {r : Rw}, aget l i = some r → r.ver = 0
 | (j, x) :: l, h, i, v, hi => by
  simp only [ver0] at h
  split at h
  ·rename_i hj
   rw [aget_cons] at hi
   split at hi
   ·cases hi; exact beq_true hj
   ·exact ver0_get h hi
  ·cases h
theorem Pe_of {P : Program} {f : FuncId} {fn : Func} {c : Code} {N : Nat} {res : List ResultVar} {ts : List TypeId} (hτ : TyOk P τ) (hb : Bodied P f) (hfn : P.funcs[f]? = some fn) (hbody : fn.body = some c) (hN : fn.ntmps = N) (hres : fn.results.toList = res)
  {s0 s1 : S} {args : List AV} {r : AV} (hlen : Nat.ble args.length N = true) (h0 : hiS s0 = true) (hf1 : s1.fr = [])
  (h : ∀ (Q : Exit → Act → World → Prop) (g : Gh), (∀ s, Ends τ res ts r s1 s → Fin ⟨P, Q, g, N⟩ s) → Wk ⟨P, Q, g, N⟩ [.code c] ⟨argSlots 0 args, s0.bx, s0.rw, s0.mp, s0.ar⟩) : Pe P f s0 args r s1 := by
 refine ⟨hb, fun w M E F vs hs hrel => calls_of_wp hfn hbody ?_⟩
 have hlen := Nat.le_of_ble_eq_true hlen
 unfold hiS at h0
 simp only [Bool.and_eq_true] at h0
 obtain ⟨i1, i2, i3, i4, i5⟩ := h0
 let Q := bodyPost P fn (fun e w' => ∃ M' E' v, e = .returned v ∧ E.lw E' ∧ St ⟨w, F, M, Env.none⟩ 0 M' E' s1 #[] w' ∧ Rel M' E' v r)
 have hfin : ∀ s, Ends τ res ts r s1 s → Fin ⟨P, Q, ⟨w, F, M, E⟩, N⟩ s := by
  intro s ⟨R, bs, rs, ms, aa, nv, hx⟩ a w' ⟨hdf, M1, E1, hst, hp0⟩
  rw [← hres] at hx
  obtain ⟨v, M', E', hv, hst', hp⟩ := fin_run (C := ⟨P, Q, ⟨w, F, M, E⟩, N⟩) hτ hst hx
  have hp1 := hp _ hp0
  have : ∃ M' E' v', Ending.returned v = .returned v' ∧ E.lw E' ∧ St ⟨w, F, M, Env.none⟩ 0 M' E' s1 #[] w' ∧ Rel M' E' v' r := by
   refine ⟨M', E', v, rfl, ⟨fun i b b' e e' => ?_, fun i q q' e e' => ?_, fun i b b' e e' => ?_, fun i b b' e e' => ?_⟩, { hst' with size := rfl, fr := fun i y h => ?_ }, ?_⟩
   ·have hi : nB ≤ i := by
     cases hh : aget s0.bx i with
     | none => rw [hs.bxn i hh] at e; cases e
     | some x => exact hiL_get i1 hh
    have := hp1.bx i b' hi e'
    rw [e] at this; cases this; rfl
   ·have hi : nB ≤ i ∧ q.ver = 0 := by
     cases hh : aget s0.rw i with
     | none => rw [hs.rwn i hh] at e; cases e
     | some x =>
      obtain ⟨q2, e2, ok⟩ := hs.rw i x hh
      rw [e] at e2; cases e2
      exact ⟨hiL_get i2 hh, by rw [ok.ver]; exact ver0_get i5 hh⟩
    refine ⟨by omega, fun ev => ?_⟩
    have := hp1.rw i q' hi.1 e' (by omega)
    rw [e] at this; cases this
    exact ⟨rfl, rfl, rfl, rfl⟩
   ·have hi : nB ≤ i := by
     cases hh : aget s0.mp i with
     | none => rw [hs.mpn i hh] at e; cases e
     | some x => exact hiL_get i3 hh
    have := hp1.mp i b' hi e'
    rw [e] at this; cases this; rfl
   ·have hi : nB ≤ i := by
     cases hh : aget s0.ar i with
     | none => rw [hs.arn i hh] at e; cases e
     | some x => exact hiL_get i4 hh
    obtain ⟨bs0, l, e2, e3⟩ := hp1.ar i b' hi e'
    rw [e] at e2; cases e2
    exact ⟨l, e3⟩
   ·rw [hf1] at h; cases h
   ·exact (hst'.fr 0 r (by rw [aget_cons, if_pos rfl])).2
  exact ⟨⟨hdf, v, hv, this⟩, ⟨hdf, v, hv, this⟩⟩
 have hw := h Q ⟨w, F, M, E⟩ hfin
 have := hw { tmps := vs.toArray ++ Array.replicate (fn.ntmps - vs.toArray.size) undef, defers := [] } w ⟨rfl, M, E, ?_, ?_⟩
 ·have e : mean ⟨P, Q, ⟨w, F, M, E⟩, N⟩ [.code c] .normal = c.wp P (mean ⟨P, Q, ⟨w, F, M, E⟩, N⟩ []) := rfl
  rw [e] at this
  exact this
 ·have hl := hrel.1
  refine { hs with size := by simp; omega, fr := fun i av hi => ?_ }
  simp only [get_argSlots, Nat.zero_le, if_true, Nat.sub_zero] at hi
  have hlt := (List.getElem?_eq_some_iff.1 hi).1
  refine ⟨Nat.lt_of_lt_of_le hlt hlen, ?_⟩
  have hv : i < vs.length := by omega
  refine hrel.2 i _ av ?_ hi
  rw [List.getElem?_eq_getElem hv, Array.getD_eq_getD_getElem?, Array.getElem?_append_left (by simpa using hv)]
  simp [hv]
 ·exact ⟨fun i b _ h => h, fun i q _ h _ => h, fun i r _ h => h, fun i bs _ h => ⟨bs, [], h, by simp⟩⟩
end Go.Dm
namespace Go.Dm
open Go Go.RowKit Go.ChangeShapes Go.WideShapes Go.Deep
def memOf (W : World) : Mem := fun b j => W.cell? ⟨b, j, none⟩
def Rd (P : Program) (t : TypeId) {α : Type} (enc : α → AV) (ok : α → Prop) : Prop :=
 ∀ (H : Type) (en : TypeId × Value → H) (W : World) (base : Nat) (spare : Nat → Bool) (held : Bool) (fuel : Nat) (cs : List Value) (y : DataW H × List MemPlace),
  DataW.trod en P W base spare held fuel t cs = some y → ∃ x : α, ok x ∧ AllR (RelP (memOf W)) cs (enc x).cells
theorem allR_one {R : Value → AV → Prop} {v : Value} {x : AV} (h : R v x) : AllR R [v] [x] := by
 refine ⟨rfl, fun j u c hu hc => ?_⟩
 cases j with
 | zero => simp at hu hc; subst hu; subst hc; exact h
 | succ j => simp at hu
theorem rd_int {P : Program} {t : TypeId} {k : IntKind} (ht : P.underlying t = some (.int k)) : Rd P t (fun n => .int k n) (fun n => (Lit.int k n).wf = true) := by
 intro H en W base spare held fuel cs y h
 obtain ⟨n, rfl, _, hw⟩ := DataW.trod_int ht h
 exact ⟨n, hw, allR_one (.int k n)⟩
theorem rd_i64 {P : Program} {t : TypeId} (ht : P.underlying t = some (.int .i64)) : Rd P t (fun n => .int .i64 n) (fun n => -9223372036854775808 ≤ n ∧ n ≤ 9223372036854775807) := by
 intro H en W base spare held fuel cs y h
 obtain ⟨n, h1, h2⟩ := rd_int ht H en W base spare held fuel cs y h
 refine ⟨n, ?_, h2⟩
 simpa [Lit.wf, IntKind.min, IntKind.max, IntKind.signed, IntKind.bits] using h1
theorem rd_u8 {P : Program} {t : TypeId} (ht : P.underlying t = some (.int .u8)) : Rd P t (fun b : UInt8 => .int .u8 b.toNat) (fun _ => True) := by
 intro H en W base spare held fuel cs y h
 obtain ⟨n, h1, h2⟩ := rd_int ht H en W base spare held fuel cs y h
 have hb : 0 ≤ n ∧ n ≤ 255 := by simpa [Lit.wf, IntKind.min, IntKind.max, IntKind.signed, IntKind.bits] using h1
 refine ⟨UInt8.ofNat n.toNat, trivial, ?_⟩
 have : ((UInt8.ofNat n.toNat).toNat : Int) = n := by
  rw [UInt8.toNat_ofNat']
  omega
 simp only [this]
 exact h2
theorem rd_bool {P : Program} {t : TypeId} (ht : P.underlying t = some .bool) : Rd P t (fun b => .bool b) (fun _ => True) := by
 intro H en W base spare held fuel cs y h
 obtain ⟨b, rfl, _⟩ := DataW.trod_bool ht h
 exact ⟨b, trivial, allR_one (.bool b)⟩
theorem rd_str {P : Program} {t : TypeId} (ht : P.underlying t = some .string) : Rd P t (fun s => .str s) (fun s => s.length ≤ 9223372036854775807) := by
 intro H en W base spare held fuel cs y h
 obtain ⟨s, rfl, _, hs⟩ := DataW.trod_string ht h
 refine ⟨s.data.toList, ?_, allR_one ?_⟩
 ·have e : s.data.toList.length = s.size := by cases s; rfl
  unfold maxLen at hs
  omega
 ·have : (Value.string s) = .string ⟨s.data.toList.toArray⟩ := by simp
  rw [this]; exact .str _
theorem cell_spot {W : World} {a : Addr} {v : Value} (h : W.cell? a = some v) : a.spot = none := by
 unfold World.cell? at h
 split at h
 ·cases hs : a.spot with
  | none => rfl
  | some s => simp [hs] at h
 ·cases h
theorem choose_list {α : Type} (n : Nat) (p : Nat → α → Prop) (h : ∀ i, i < n → ∃ x, p i x) : ∃ l : List α, l.length = n ∧ ∀ i x, l[i]? = some x → p i x := by
 induction n with
 | zero => exact ⟨[], rfl, fun i x h => by simp at h⟩
 | succ n ih =>
  obtain ⟨l, hl, hp⟩ := ih fun i hi => h i (by omega)
  obtain ⟨x, hx⟩ := h n (by omega)
  refine ⟨l ++ [x], by simp [hl], fun i y hy => ?_⟩
  rw [List.getElem?_append] at hy
  split at hy
  ·exact hp i y hy
  ·rename_i hge
   have : i = n := by
    have := (List.getElem?_eq_some_iff.1 hy).1
    simp at this; omega
   subst this
   simp [hl] at hy
   subst hy; exact hx
theorem rd_slice {P : Program} {t e : TypeId} {α : Type} {enc : α → AV} {ok : α → Prop} {sz : Nat} (ht : P.underlying t = some (.slice e)) (hsz : P.cellsOf e = sz) (hpos : 0 < sz) (he : Rd P e enc ok) (hc : ∀ x, (enc x).cells.length = sz) :
  Rd P t (fun l : List α => .sl sz (l.map enc)) (fun l => (∀ x ∈ l, ok x) ∧ l.length ≤ 9223372036854775807) := by
 intro H en W base spare held fuel cs y h
 rcases open_slice ht h with ⟨rfl, _⟩ | ⟨a, len, cap, m, n, D, Pl, rfl, hb, hl, hcap, hm, _, hcell⟩
 ·refine ⟨[], ⟨by simp, by simp⟩, allR_one ?_⟩
  exact .sl none 0 0 sz [] (fun _ => undef) rfl (Nat.le_refl _) (by decide) (by simp) (fun h => absurd rfl h) (fun j u hu => by simp [flat] at hu)
 ·have hlm : len ≤ m := by rw [hm]; split <;> omega
  obtain ⟨l, hll, hp⟩ := choose_list len (fun i (x : α) => ok x ∧ ∀ j c, (enc x).cells[j]? = some c → ∃ v, W.cell? (a.add (i * sz + j)) = some v ∧ RelP (memOf W) v c) (fun i hi => by
   obtain ⟨cs', h1, h2⟩ := hcell i (by omega)
   obtain ⟨x, hx, hr⟩ := he H en W base spare held n cs' _ h2
   obtain ⟨_, hcl, hat⟩ := World.cells?_some h1
   rw [hsz] at hcl hat
   refine ⟨x, hx, fun j c hjc => ?_⟩
   have hj := (List.getElem?_eq_some_iff.1 hjc).1
   rw [hc] at hj
   have hv : cs'[j]? = some cs'[j] := List.getElem?_eq_getElem (by omega)
   refine ⟨_, ?_, hr.2 j _ c hv hjc⟩
   have := hat j hj
   rw [← hv, ← this, Go.Deep.add_add])
  refine ⟨l, ⟨fun x hx => ?_, by unfold maxLen at hcap; omega⟩, allR_one ?_⟩
  ·obtain ⟨i, hi, rfl⟩ := List.mem_iff_getElem.1 hx
   exact (hp i _ (List.getElem?_eq_getElem hi)).1
  ·have hz : ∀ x ∈ l.map enc, x.cells.length = sz := by
    intro x hx
    obtain ⟨y, _, rfl⟩ := List.mem_map.1 hx
    exact hc y
   have hfl : ∀ j u, (flat (l.map enc))[j]? = some u → ∃ v, W.cell? (a.add j) = some v ∧ RelP (memOf W) v u := by
    intro j u hu
    have hj := (List.getElem?_eq_some_iff.1 hu).1
    rw [flat_len hz, List.length_map] at hj
    have hd : j / sz < l.length := by
     rw [Nat.div_lt_iff_lt_mul hpos]; exact hj
    have hmod : j % sz < sz := Nat.mod_lt _ hpos
    have hx : (l.map enc)[j / sz]? = some (enc l[j / sz]) := by simp [hd]
    have hcj : (enc l[j / sz]).cells[j % sz]? = some ((enc l[j / sz]).cells[j % sz]'(by rw [hc]; exact hmod)) := List.getElem?_eq_getElem _
    have h1 := flat_at hz hx hcj
    have e1 : j / sz * sz + j % sz = j := by rw [Nat.mul_comm]; exact Nat.div_add_mod j sz
    rw [e1, hu] at h1
    cases h1
    obtain ⟨v, hv, hr⟩ := (hp (j / sz) _ (List.getElem?_eq_getElem hd)).2 _ _ hcj
    rw [e1] at hv
    exact ⟨v, hv, hr⟩
   refine .sl (some a) len cap sz (l.map enc) (fun j => (W.cell? (a.add j)).getD undef) (by simp [hll]) hl hcap hz (fun hne => ?_) (fun j u hu => ?_)
   ·have hlen : 0 < (flat (l.map enc)).length := by
     rw [flat_len hz]
     have : 0 < (l.map enc).length := List.length_pos_iff.2 hne
     exact Nat.mul_pos this hpos
    obtain ⟨v, hv, _⟩ := hfl 0 _ (List.getElem?_eq_getElem hlen)
    have hs : a.spot = none := cell_spot (a := a) (by simpa [Addr.add] using hv)
    obtain ⟨blk, off, sp⟩ := a
    simp only at hs
    subst hs
    refine ⟨blk, off, rfl, fun j hj => ?_⟩
    obtain ⟨v, hv, _⟩ := hfl j _ (List.getElem?_eq_getElem hj)
    simp only [hv, Option.getD_some]
    rw [addr_add] at hv
    exact hv
   ·obtain ⟨v, hv, hr⟩ := hfl j u hu
    simp only [hv, Option.getD_some]
    exact hr
def RdF (P : Program) (off : Nat) (fs : List (TypeId × Nat)) {α : Type} (enc : α → List AV) (ok : α → Prop) : Prop :=
 ∀ (H : Type) (en : TypeId × Value → H) (W : World) (base : Nat) (spare : Nat → Bool) (held : Bool) (n : Nat) (cs : List Value),
  (∀ (i : Nat) (f : TypeId × Nat), fs[i]? = some f → ∃ y, DataW.trod en P W base spare held n f.1 ((cs.drop f.2).take (P.cellsOf f.1)) = some y) →
  ∃ x : α, ok x ∧ AllR (RelP (memOf W)) ((cs.drop off).take (enc x).length) (enc x)
theorem rdf_nil {P : Program} {off : Nat} : RdF P off [] (fun _ : Unit => []) (fun _ => True) := by
 intro H en W base spare held n cs _
 exact ⟨(), trivial, by simp, fun j v c hv hc => by simp at hc⟩
theorem rdf_cons {P : Program} {off : Nat} {t : TypeId} {fs : List (TypeId × Nat)} {α β : Type} {encA : α → AV} {okA : α → Prop} {encB : β → List AV} {okB : β → Prop} {sz : Nat} (hsz : P.cellsOf t = sz) (hA : Rd P t encA okA) (hB : RdF P (off + sz) fs encB okB) (hc : ∀ x, (encA x).cells.length = sz) :
  RdF P off ((t, off) :: fs) (fun x : α × β => (encA x.1).cells ++ encB x.2) (fun x => okA x.1 ∧ okB x.2) := by
 intro H en W base spare held n cs h
 obtain ⟨y, hy⟩ := h 0 (t, off) rfl
 obtain ⟨a, ha, hra⟩ := hA H en W base spare held n _ y hy
 obtain ⟨b, hb, hrb⟩ := hB H en W base spare held n cs (fun i f hf => h (i + 1) f (by simpa using hf))
 refine ⟨(a, b), ⟨ha, hb⟩, ?_⟩
 simp only at hra hrb ⊢
 rw [hsz] at hra
 have hla := hra.1
 rw [hc] at hla
 have e1 : (cs.drop off).take ((encA a).cells ++ encB b).length = ((cs.drop off).take sz) ++ ((cs.drop (off + sz)).take (encB b).length) := by
  rw [List.length_append, hc, List.take_add, List.drop_drop]
 rw [e1]
 refine ⟨by simp only [List.length_append, hra.1, hrb.1], fun j v c hv hc' => ?_⟩
 rw [List.getElem?_append] at hv hc'
 rw [hra.1] at hv
 split at hv
 ·rename_i hj; rw [if_pos hj] at hc'; exact hra.2 j v c hv hc'
 ·rename_i hj; rw [if_neg hj] at hc'; exact hrb.2 _ v c hv hc'
theorem rd_struct {P : Program} {t : TypeId} {fl : List (TypeId × Nat)} {α β : Type} {encF : β → List AV} {okF : β → Prop} (f : β → α) (enc : α → AV) (ok : α → Prop)
  (ht : (match P.underlying t with | some (.struct fs) => some (fs.toList.map fun f => (f.type, f.offset)) | _ => none) = some fl) (hF : RdF P 0 fl encF okF) {sz : Nat} (hsz : P.cellsOf t = sz)
  (hlen : ∀ b, (encF b).length = sz) (henc : ∀ b, enc (f b) = .agg (encF b)) (hok : ∀ b, okF b → ok (f b)) : Rd P t enc ok := by
 intro H en W base spare held fuel cs y h
 split at ht
 ·rename_i fs hu
  cases ht
  obtain ⟨xs, n, _, _, hcl, hxl, hat⟩ := DataW.trod_struct hu h
  obtain ⟨b, hb, hr⟩ := hF H en W base spare held n cs (fun i p hp => by
   rw [List.getElem?_map, Option.map_eq_some_iff] at hp
   obtain ⟨fd, hfd, rfl⟩ := hp
   have hfd' : fs[i]? = some fd := by simpa using hfd
   have := hat i fd hfd'
   have hi : i < xs.length := by rw [hxl]; exact (Array.getElem?_eq_some_iff.1 hfd').1
   exact ⟨xs[i], by rw [this]; exact List.getElem?_eq_getElem hi⟩)
  refine ⟨f b, hok b hb, ?_⟩
  rw [henc]
  simp only [AV.cells]
  rw [List.drop_zero, hlen, ← hsz, ← hcl, List.take_length] at hr
  exact hr
 ·cases ht
theorem Rd.map {P : Program} {t : TypeId} {α β : Type} {enc : β → AV} {ok : β → Prop} (h : Rd P t enc ok) (f : β → α) (enc' : α → AV) (ok' : α → Prop) (henc : ∀ b, enc' (f b) = enc b) (hok : ∀ b, ok b → ok' (f b)) : Rd P t enc' ok' := by
 intro H en W base spare held fuel cs y ht
 obtain ⟨b, hb, hr⟩ := h H en W base spare held fuel cs y ht
 exact ⟨f b, hok b hb, by rw [henc]; exact hr⟩
theorem Rd.cell {P : Program} {t : TypeId} {α : Type} {enc : α → AV} {ok : α → Prop} (h : Rd P t enc ok) {H : Type} {en : TypeId × Value → H} {W : World} {base : Nat} {spare : Nat → Bool} {held : Bool} {v : Value} {d : DataW H} {p : List MemPlace}
  (ht : DataW.Trod en P W base spare held t v d p) (hv : ∀ cs, v ≠ .agg cs) (hc : ∀ x, (enc x).cells = [enc x]) : ∃ x, ok x ∧ Rel (memOf W) Env.none v (enc x) := by
 obtain ⟨fuel, hf⟩ := ht
 obtain ⟨x, hx, hr⟩ := h H en W base spare held fuel _ _ hf
 refine ⟨x, hx, ?_⟩
 rw [hc] at hr
 have : v.cells = #[v] := by cases v <;> first | rfl | exact absurd rfl (hv _)
 rw [this] at hr
 exact .cell (.pure (hr.2 0 v (enc x) rfl rfl))
theorem Rd.agg {P : Program} {t : TypeId} {α : Type} {enc : α → AV} {ok : α → Prop} (h : Rd P t enc ok) {H : Type} {en : TypeId × Value → H} {W : World} {base : Nat} {spare : Nat → Bool} {held : Bool} {vs : Array Value} {d : DataW H} {p : List MemPlace}
  (ht : DataW.Trod en P W base spare held t (.agg vs) d p) (hc : ∀ x, ∃ cs, enc x = .agg cs) : ∃ x, ok x ∧ Rel (memOf W) Env.none (.agg vs) (enc x) := by
 obtain ⟨fuel, hf⟩ := ht
 obtain ⟨x, hx, hr⟩ := h H en W base spare held fuel _ _ hf
 refine ⟨x, hx, ?_⟩
 obtain ⟨cs, hcs⟩ := hc x
 rw [hcs] at hr ⊢
 have : (Value.agg vs) = .agg vs.toList.toArray := by simp
 rw [this]
 exact .agg _ _ hr.1 fun j v c hv hc => .pure (hr.2 j v c hv hc)
theorem St.start {w : World} {M : Mem} (F : Nat → Prop) (hF : ∀ b, F b → b < w.heap.size) (hM : ∀ b j v, M b j = some v → w.cell? ⟨b, j, none⟩ = some v) : St ⟨w, F, M, Env.none⟩ 0 M Env.none S.none #[] w where
 size := rfl
 fr := fun i av h => by cases h
 mem := fun b j v h => ⟨hM b j v h, fun o ho => by cases ho⟩
 bx := fun i cs h => by cases h
 bxn := fun i _ => rfl
 rw := fun i cs h => by cases h
 rwn := fun i _ => rfl
 mp := fun i cs h => by cases h
 mpn := fun i _ => rfl
 ar := fun i cs h => by cases h
 arn := fun i _ => rfl
 live := fun b o h => by cases h
 foreign := fun b h => ⟨hF b h, rfl, rfl⟩
 m0 := fun _ _ _ h => h
 mf := fun _ _ _ h _ => h
 os := rfl
 tape := rfl
 output := rfl
 grow := Nat.le_refl _
theorem law_calls {P : Program} {f : FuncId} {args : List AV} {vs : List Value} {W : World} (h : Pc P f args (.bool true)) (hr : RelL (memOf W) Env.none vs args) :
  Calls P f vs.toArray W fun e w' => e = .returned (.bool true) ∧ Below W.heap.size W w' := by
 refine (h.c W (memOf W) Env.none (fun b => b < W.heap.size) vs (St.start _ (fun b h => h) fun b j v hv => hv) hr).mono ?_
 rintro e w' ⟨M', E', v, rfl, _, hst, hx⟩
 rw [hx.bool_inv]
 exact ⟨rfl, hst.os, hst.tape, hst.output, hst.grow, fun k hk => (hst.foreign k hk).2.1⟩
theorem relL_nil {M : Mem} {E : Env} : RelL M E [] [] := ⟨rfl, fun j v c hv _ => by simp at hv⟩
theorem relL_cons {M : Mem} {E : Env} {v : Value} {x : AV} {vs : List Value} {xs : List AV} (h : Rel M E v x) (hr : RelL M E vs xs) : RelL M E (v :: vs) (x :: xs) := by
 refine ⟨by simp [hr.1], fun j u c hu hc => ?_⟩
 cases j with
 | zero => simp at hu hc; subst hu; subst hc; exact h
 | succ j => simp only [List.getElem?_cons_succ] at hu hc; exact hr.2 j u c hu hc
def ArgOk (P : Program) (t : TypeId) {α : Type} (enc : α → AV) (ok : α → Prop) : Prop :=
 ∀ (H : Type) (en : TypeId × Value → H) (W : World) (base : Nat) (v : Value) (d : DataW H) (p : List MemPlace),
  Value.okWide P W .any base t v → DataW.Trod en P W 0 (fun _ => true) true t v d p → ∃ x, ok x ∧ Rel (memOf W) Env.none v (enc x)
theorem Rd.argC {P : Program} {t : TypeId} {α : Type} {enc : α → AV} {ok : α → Prop} (h : Rd P t enc ok)
  (ht : (match P.underlying t with | some (.int _) | some .bool | some .string | some (.slice _) => true | _ => false) = true) (hc : ∀ x, (enc x).cells = [enc x]) : ArgOk P t enc ok := by
 intro H en W base v d p hv hd
 refine h.cell hd (fun cs e => ?_) hc
 subst e
 unfold Value.okWide at hv
 split at ht
 all_goals first | (cases ht; done) | (rename_i hu; simp [hu, Cell.okWide, Cell.ok] at hv)
theorem Rd.argS {P : Program} {t : TypeId} {α : Type} {enc : α → AV} {ok : α → Prop} (h : Rd P t enc ok)
  (ht : (match P.underlying t with | some (.struct _) => true | _ => false) = true) (hc : ∀ x, ∃ cs, enc x = .agg cs) : ArgOk P t enc ok := by
 intro H en W base v d p hv hd
 unfold Value.okWide at hv
 split at ht
 ·rename_i hu
  rw [hu] at hv
  obtain ⟨cs, rfl, _⟩ := hv
  exact h.agg hd hc
 ·cases ht
def ArgsOk (P : Program) (ts : List TypeId) {α : Type} (enc : α → List AV) (ok : α → Prop) : Prop :=
 ∀ (H : Type) (en : TypeId × Value → H) (W : World) (base : Nat) (vs : List Value) (ds : List (DataW H)) (p : List MemPlace),
  (∀ (j : Nat) (t : TypeId) (v : Value), ts[j]? = some t → vs[j]? = some v → Value.okWide P W .any base t v) →
  DataW.TrodAll en P W 0 (fun _ => true) true ts vs ds p → ∃ x, ok x ∧ RelL (memOf W) Env.none vs (enc x)
theorem argsOk_nil {P : Program} : ArgsOk P [] (fun _ : Unit => []) (fun _ => True) := by
 intro H en W base vs ds p _ h
 obtain ⟨rfl, _, _⟩ := trodAll_nil h
 exact ⟨(), trivial, relL_nil⟩
theorem argsOk_cons {P : Program} {t : TypeId} {ts : List TypeId} {α β : Type} {encA : α → AV} {okA : α → Prop} {encB : β → List AV} {okB : β → Prop}
  (hA : ArgOk P t encA okA) (hB : ArgsOk P ts encB okB) : ArgsOk P (t :: ts) (fun x : α × β => encA x.1 :: encB x.2) (fun x => okA x.1 ∧ okB x.2) := by
 intro H en W base vs ds p hv h
 obtain ⟨v, vs', d, ds', p1, p2, rfl, rfl, rfl, h1, h2⟩ := trodAll_cons h
 obtain ⟨a, ha, hra⟩ := hA H en W base v d p1 (hv 0 t v rfl rfl) h1
 obtain ⟨b, hb, hrb⟩ := hB H en W base vs' ds' p2 (fun j t' v' h1 h2 => hv (j + 1) t' v' (by simpa using h1) (by simpa using h2)) h2
 exact ⟨(a, b), ⟨ha, hb⟩, relL_cons hra hrb⟩
theorem Below.trodAll {H : Type} {enc : TypeId × Value → H} {P : Program} (hl : laidOutB P = true) {W W' : World} (hb : Below W.heap.size W W') :
  ∀ {ts : List TypeId} {vs : List Value} {ds : List (DataW H)} {ps : List MemPlace}, ts.all (fun t => P.readableRec t && decide (t < P.types.size)) = true →
   DataW.TrodAll enc P W 0 (fun _ => true) true ts vs ds ps → (∀ x ∈ ps, x.block < W.heap.size) → DataW.TrodAll enc P W' 0 (fun b => decide (b < W.heap.size)) true ts vs ds ps
 | [], vs, ds, ps, _, h, _ => by
  obtain ⟨rfl, rfl, rfl⟩ := trodAll_nil h
  exact trodAll_mk0
 | t :: ts, vs, ds, ps, ht, h, hlt => by
  obtain ⟨v, vs', d, ds', p1, p2, rfl, rfl, rfl, h1, h2⟩ := trodAll_cons h
  simp only [List.all_cons, Bool.and_eq_true, decide_eq_true_eq] at ht
  exact ⟨p1, p2, Below.trod hl ht.1.1 ht.1.2 h1 hb (fun x hx => hlt x (by simp [hx])), Below.trodAll hl hb ht.2 h2 (fun x hx => hlt x (by simp [hx])), rfl⟩
theorem law_post {H : Type} {enc : TypeId × Value → H} {P : Program} {fn : Func} {s : ChangeSpec} {apart handsOn : Bool} {W W' : World} {args : Array Value} {ds gs : List (DataW H)} {before : List MemPlace} {tb : TypeId}
  (hl : laidOutB P = true) (hr : fn.params.toList.all (fun t => P.readableRec t && decide (t < P.types.size)) = true)
  (hres : fn.resultTypes = #[tb]) (hb : P.underlying tb = some .bool) (hvars : s.vars = []) (hs : s.fn H (ds ++ gs) = { results := [.lit (.bool true)], args := ds })
  (hW : DataW.Whole enc P fn.params.toList s.vars apart W args.toList ds gs before) (hbl : Below W.heap.size W W') :
  s.post enc P fn apart true handsOn false W args (.bool true) W' := by
 have hlt := hW.lt
 have hW' := hW
 obtain ⟨p, q, hA, hV, rfl, hz, hn⟩ := hW
 rw [hvars] at hV
 obtain ⟨rfl, rfl⟩ := trodVars_none hV
 refine ⟨ds, [], p ++ [], [], p, [], hW', ?_, ?_, ?_, hbl.frame _, fun h => by cases h⟩
 ·rw [hs, hres]
  exact ⟨[], [], shut_bool hb true, trodAll_mk0, rfl⟩
 ·rw [hs]
  exact Below.trodAll hl hbl hr hA (fun x hx => hlt x (by simp [hx]))
 ·rw [hs, hvars]
  exact rfl
theorem law_lift {C : Checked} {os : Os} {f : FuncId} {fn : Func} {s : ChangeSpec} {H : Type} {enc : TypeId × Value → H} {conds : List PathCond} {apart handsOn : Bool} {tb : TypeId} {ts : List TypeId} {α : Type} {ea : α → List AV} {ok : α → Prop}
  (own : ownKnob C.prog.godebug = none) (started : os.Started) (noInit : C.prog.inits.idxOf? f = none) (hfn : C.prog.funcs[f]? = some fn)
  (witness : ∃ (w : World) (tape : Tape) (i : Input), w.os = os ∧ (w.forCall tape i).Shaped C.prog ∧ i.vars = [] ∧ Input.okWide C.prog (w.forCall tape i) .any w.heap.size f i ∧
   s.pre6 enc C.prog fn conds apart (w.forCall tape i).memory i.args ∧ ({} : Assume).holds C.prog (lone (Frame.enter C.prog f i.args .normal) [] (w.forCall tape i)))
  (hl : laidOutB C.prog = true) (hr : fn.params.toList.all (fun t => C.prog.readableRec t && decide (t < C.prog.types.size)) = true)
  (hres : fn.resultTypes = #[tb]) (hb : C.prog.underlying tb = some .bool) (hvars : s.vars = [])
  (hts : fn.params = ts.toArray) (hs : ∀ ds : List (DataW H), ds.length = ts.length → s.fn H (ds ++ []) = { results := [.lit (.bool true)], args := ds })
  (hargs : ArgsOk C.prog ts ea ok) (hlaw : ∀ x, ok x → Pc C.prog f (ea x) (.bool true)) :
  ReturnsInHanded {} C os f .any (s.pre6 enc C.prog fn conds apart) (s.post enc C.prog fn apart true handsOn false) := by
 obtain rfl : fn.params.toList = ts := by rw [hts]
 refine returnsInHanded_of_change own started noInit hfn witness ?_
 intro W base args ds gs before hval hW _ _
 have hW' := hW
 obtain ⟨p, q, hA, hV, rfl, hz, hn⟩ := hW
 have hV' := hV
 rw [hvars] at hV'
 obtain ⟨rfl, rfl⟩ := trodVars_none hV'
 have hlen : ∀ {ts : List TypeId} {vs : List Value} {ds : List (DataW H)} {ps : List MemPlace}, DataW.TrodAll enc C.prog W 0 (fun _ => true) true ts vs ds ps → ds.length = ts.length := by
  intro ts
  induction ts with
  | nil => intro vs ds ps h; obtain ⟨_, rfl, _⟩ := trodAll_nil h; rfl
  | cons t ts ih =>
   intro vs ds ps h
   obtain ⟨v, vs', d, ds', p1, p2, rfl, rfl, rfl, h1, h2⟩ := trodAll_cons h
   simp [ih h2]
 obtain ⟨x, hx, hrel⟩ := hargs H enc W base args.toList ds p (fun j t v h1 h2 => hval j t v (by simpa using h1) (by simpa using h2)) hA
 have hc := law_calls (hlaw x hx) hrel
 have e : args.toList.toArray = args := by simp
 rw [e] at hc
 refine hc.mono fun e w' ⟨he, hbl⟩ => ⟨_, he, ?_⟩
 exact law_post hl hr hres hb hvars (hs ds (hlen hA)) hW' hbl
end Go.Dm
namespace Go.Dm
open Go Go.RowKit
section
variable {α : Type}
theorem app_ok (f : α → AV) (a b : List α) : (a ++ b).map f = a.map f ++ b.map f := List.map_append
theorem app0_ok (f : α → AV) (b : List α) : b.map f = [] ++ b.map f := rfl
theorem appl_ok {n : Nat} (f : α → AV) {l : List α} (h : (l.length : Int) * n ≤ 140737488351232) : (l.map f).length * n ≤ 140737488351232 := by
 rw [List.length_map]
 have : ((l.length * n : Nat) : Int) = (l.length : Int) * n := Int.natCast_mul _ _
 omega
theorem rep_ok (f : α → AV) (n : Int) (x : α) : (List.replicate n.toNat x).map f = List.replicate n.toNat (f x) := List.map_replicate
theorem ixr_ok (f : α → AV) {l : List α} {n : Int} (h : 0 ≤ n ∧ n < (l.length : Int)) : 0 ≤ n ∧ n.toNat < (l.map f).length := ⟨h.1, by rw [List.length_map]; omega⟩
theorem ldr_ok [Inhabited α] (f : α → AV) {l : List α} {n : Int} (h : 0 ≤ n ∧ n < (l.length : Int)) : (l.map f)[n.toNat]? = some (f (lget l n)) := (idx_ok f h).2
def lset (l : List α) (n : Int) (x : α) : List α := l.set n.toNat x
theorem set_ok (f : α → AV) (l : List α) (n : Int) (x : α) : (lset l n x).map f = (l.map f).set n.toNat (f x) := by simp [lset, List.map_set]
theorem mk_ok {b : Nat} {n c : Int} (h : 0 ≤ n ∧ n ≤ c ∧ c * b ≤ 140737488351232) : 0 ≤ n ∧ n ≤ c ∧ c.toNat * b ≤ 140737488351232 := by
 refine ⟨h.1, h.2.1, ?_⟩
 have hc : (c.toNat : Int) = c := Int.toNat_of_nonneg (by omega)
 have : ((c.toNat * b : Nat) : Int) ≤ 140737488351232 := by
  rw [Int.natCast_mul, hc]; exact h.2.2
 omega
theorem bof_ok {l : List UInt8} (h : (l.length : Int) ≤ 140737488351232) : l.length ≤ 140737488351232 := by omega
theorem vw00_ok (f : α → AV) (l : List α) : l.length = (l.map f).length := by rw [List.length_map]
theorem vw01_ok (f : α → AV) {l : List α} {b : Int} {cm : Nat} (h : 0 ≤ b ∧ b ≤ (l.length : Int)) : 0 ≤ b ∧ b.toNat = b.toNat ∧ (b.toNat ≤ (l.map f).length ∨ b.toNat ≤ cm) := ⟨h.1, rfl, .inl (by rw [List.length_map]; omega)⟩
theorem vw10_ok (f : α → AV) {l : List α} {a : Int} (h : 0 ≤ a ∧ a ≤ (l.length : Int)) : 0 ≤ a ∧ a.toNat + (l.length - a.toNat) = (l.map f).length := ⟨h.1, by rw [List.length_map]; omega⟩
theorem vw11_ok (f : α → AV) {l : List α} {a b : Int} {cm : Nat} (h : 0 ≤ a ∧ a ≤ b ∧ b ≤ (l.length : Int)) : 0 ≤ a ∧ 0 ≤ b ∧ a.toNat + (b.toNat - a.toNat) = b.toNat ∧ (b.toNat ≤ (l.map f).length ∨ b.toNat ≤ cm) :=
 ⟨h.1, by omega, by omega, .inl (by rw [List.length_map]; omega)⟩
theorem tap_ok (f : α → AV) (a : List α) (n : Nat) (b : List α) : (a.take n ++ b).map f = (a.map f).take n ++ b.map f := by rw [List.map_append, List.map_take]
theorem nil_ok (f : α → AV) (l : List α) : (decide (l.length = 0) = true ↔ l.map f = []) := by
 cases l <;> simp
end
theorem tk_ok {α : Type} (f : α → AV) {l : List α} {n : Nat} (h : n ≤ l.length) : n ≤ (l.map f).length ∧ 0 ≤ n := ⟨by rw [List.length_map]; exact h, Nat.zero_le _⟩
theorem s3_ok {α : Type} (f : α → AV) {l : List α} {a b m : Int} (h : 0 ≤ a ∧ a ≤ b ∧ b ≤ m ∧ m ≤ (l.length : Int)) : 0 ≤ a ∧ a ≤ b ∧ b ≤ m ∧ m.toNat ≤ (l.map f).length := ⟨h.1, h.2.1, h.2.2.1, by rw [List.length_map]; omega⟩
theorem tr_ok {α : Type} (f : α → AV) {l : List α} {b : Int} {k : Nat} (h : 0 ≤ b ∧ b.toNat ≤ l.length ∧ k ≤ b.toNat) : 0 ≤ b ∧ b.toNat ≤ (l.map f).length ∧ k ≤ b.toNat ∧ (l.take b.toNat).map f = (l.map f).take b.toNat := ⟨h.1, by rw [List.length_map]; exact h.2.1, h.2.2, List.map_take⟩
def lclear {α : Type} (l : List α) (off n : Nat) (z : α) : List α := l.take off ++ List.replicate (min n (l.length - off)) z ++ l.drop (off + n)
theorem clr_ok {α : Type} (f : α → AV) (l : List α) (off n : Nat) (z : α) : (lclear l off n z).map f = (l.map f).take off ++ List.replicate (min n ((l.map f).length - off)) (f z) ++ (l.map f).drop (off + n) := by
 simp [lclear, List.map_take, List.map_drop]
theorem vw01c_ok {α : Type} (f : α → AV) {l : List α} {b : Int} {cm : Nat} (h : 0 ≤ b ∧ (b.toNat ≤ l.length ∨ b.toNat ≤ cm)) : 0 ≤ b ∧ b.toNat = b.toNat ∧ (b.toNat ≤ (l.map f).length ∨ b.toNat ≤ cm) := ⟨h.1, rfl, by rw [List.length_map]; exact h.2⟩
theorem vw11c_ok {α : Type} (f : α → AV) {l : List α} {a b : Int} {cm : Nat} (h : 0 ≤ a ∧ a ≤ b ∧ (b.toNat ≤ l.length ∨ b.toNat ≤ cm)) : 0 ≤ a ∧ 0 ≤ b ∧ a.toNat + (b.toNat - a.toNat) = b.toNat ∧ (b.toNat ≤ (l.map f).length ∨ b.toNat ≤ cm) :=
 ⟨h.1, by omega, by omega, by rw [List.length_map]; exact h.2.2⟩
theorem srcv_ok {α : Type} (f : α → AV) {l : List α} {off n : Nat} (h : off + n ≤ l.length) : off + n ≤ (l.map f).length := by rw [List.length_map]; exact h
theorem tapv_ok {α : Type} (f : α → AV) (a : List α) (n : Nat) (b : List α) (o m : Nat) : (a.take n ++ (b.drop o).take m).map f = (a.map f).take n ++ ((b.map f).drop o).take m := by rw [List.map_append, List.map_take, List.map_take, List.map_drop]
theorem apv_ok {α : Type} (f : α → AV) (a b : List α) (o m : Nat) : (a ++ (b.drop o).take m).map f = a.map f ++ ((b.map f).drop o).take m := by rw [List.map_append, List.map_take, List.map_drop]
def mget {κ ν : Type} [DecidableEq κ] (l : List (κ × ν)) (k : κ) : Option ν := match l with
 | [] => none
 | p :: l => if p.1 = k then some p.2 else mget l k
def mput {κ ν : Type} [DecidableEq κ] (l : List (κ × ν)) (k : κ) (v : ν) : List (κ × ν) := match l with
 | [] => [(k, v)]
 | p :: l => if p.1 = k then (k, v) :: l else p :: mput l k v
section
variable {κ ν : Type} [DecidableEq κ]
def KEnc (tk : TK) (e : κ → AV) : Prop := (∀ a, keyOk tk (e a) = true) ∧ ∀ a b, keyEq (e a) (e b) = decide (a = b)
theorem kenc_i64 : KEnc (.int .i64) (fun n : Int => AV.int .i64 n) := ⟨fun _ => rfl, fun _ _ => rfl⟩
theorem kenc_str : KEnc .str (fun l : List UInt8 => AV.str l) := ⟨fun _ => rfl, fun _ _ => rfl⟩
theorem mkeys_ok {tk : TK} {e : κ → AV} (h : KEnc tk e) (f : ν → AV) (l : List (κ × ν)) : keysOk tk (l.map fun p => (e p.1, f p.2)) = true := by
 induction l with
 | nil => rfl
 | cons p l ih => simp only [List.map_cons, keysOk, h.1, ih, Bool.and_self]
theorem mlook_eq {tk : TK} {e : κ → AV} (h : KEnc tk e) (f : ν → AV) (l : List (κ × ν)) (k : κ) : mlook (e k) (l.map fun p => (e p.1, f p.2)) = (mget l k).map f := by
 induction l with
 | nil => rfl
 | cons p l ih =>
  simp only [List.map_cons, mlook, h.2, mget]
  by_cases hk : p.1 = k
  ·simp [hk]
  ·simp [hk, ih]
theorem mlook_ok {tk : TK} {e : κ → AV} (h : KEnc tk e) (f : ν → AV) (l : List (κ × ν)) (k : κ) (z : ν) : lkQ (mlook (e k) (l.map fun p => (e p.1, f p.2))) (f z) (f ((mget l k).getD z)) := by
 refine .inl ?_
 rw [mlook_eq h]
 cases mget l k <;> rfl
theorem msome_ok {tk : TK} {e : κ → AV} (h : KEnc tk e) (f : ν → AV) (l : List (κ × ν)) (k : κ) : (mlook (e k) (l.map fun p => (e p.1, f p.2))).isSome = (mget l k).isSome := by
 rw [mlook_eq h]
 cases mget l k <;> rfl
theorem mput_ok {tk : TK} {e : κ → AV} (h : KEnc tk e) (f : ν → AV) (l : List (κ × ν)) (k : κ) (v : ν) : ((mput l k v).map fun p => (e p.1, f p.2)) = mputA (e k) (f v) (l.map fun p => (e p.1, f p.2)) := by
 induction l with
 | nil => rfl
 | cons p l ih =>
  simp only [List.map_cons, mputA, h.2, mput]
  by_cases hk : p.1 = k
  ·simp [hk]
  ·simp [hk, ih]
end
theorem Wk_ub {C : Cx} {k : List It} {s : S} (i : Nat) {p q : Bool} (hx : aget s.fr i = some (.ub p q)) (h : ∀ b : Bool, (b = true → p = true) → (b = false → q = true) → Wk C k { s with fr := (i, .bool b) :: s.fr }) : Wk C k s := by
 intro a w ⟨hd, M, E, hs, hp⟩
 obtain ⟨h1, h2⟩ := hs.fr i _ hx
 have : ∃ b, a.tmps.getD i undef = .bool b ∧ (b = true → p = true) ∧ (b = false → q = true) := by
  have h3 := h2.of_cell rfl
  generalize a.tmps.getD i undef = v at h3
  cases h3 with
  | pure h => cases h with | ub b _ _ h1 h2 => exact ⟨b, rfl, h1, h2⟩
 obtain ⟨b, e, hb1, hb2⟩ := this
 refine h b hb1 hb2 a w ⟨hd, M, E, { hs with fr := fun j z hj => ?_ }, hp⟩
 have hj : aget ((i, .bool b) :: s.fr) j = some z := hj
 rw [aget_cons] at hj
 split at hj
 ·rename_i e'
  cases hj
  rw [e', e]
  exact ⟨h1, .cell (.pure (.bool b))⟩
 ·exact hs.fr j z hj
noncomputable def ubO {β : Type} (p : Bool) (e1 e2 : Option β) : Option β := asrt (p = true → e1 = e2) (if p = true then e1 else e2)
theorem ubO_elim {β : Type} {p : Bool} {e1 e2 : Option β} {y : β} (h : ubO p e1 e2 = some y) : (p = true → e1 = some y) ∧ e2 = some y := by
 obtain ⟨h1, h2⟩ := asrt_elim h
 cases hp : p with
 | true => rw [hp] at h2; have h2 : e1 = some y := h2; exact ⟨fun _ => h2, by rw [← h1 hp]; exact h2⟩
 | false => rw [hp] at h2; exact ⟨fun h => (by cases h), h2⟩
theorem ubn_ok {α : Type} (f : α → AV) (l : List α) : l.map f = [] → decide (l.length = 0) = true := fun h => (nil_ok f l).2 h
theorem rem8_ok (x y : UInt8) : nrm .u8 ((x.toNat : Int).tmod (y.toNat : Int)) = (x.toNat : Int).tmod (y.toNat : Int) := by
 have e : (x.toNat : Int).tmod (y.toNat : Int) = ((x.toNat % y.toNat : Nat) : Int) := rfl
 have h : x.toNat % y.toNat < 256 := Nat.lt_of_le_of_lt (Nat.mod_le _ _) x.toNat_lt
 rw [e]
 show ((UInt8.ofNat (((x.toNat % y.toNat : Nat) : Int) % 256).toNat).toNat : Int) = _
 rw [UInt8.toNat_ofNat']
 omega
theorem shr8_ok (x : UInt8) (m : Nat) : nrm .u8 ((x.toNat : Int).fdiv (2 ^ m)) = (x.toNat : Int).fdiv (2 ^ m) := by
 have h1 : (x.toNat : Int) < 256 := by have := x.toNat_lt; omega
 have hp : (1 : Int) ≤ 2 ^ m := by exact_mod_cast Nat.one_le_two_pow
 have e : (x.toNat : Int).fdiv (2 ^ m) = (x.toNat : Int) / (2 ^ m) := Int.fdiv_eq_ediv_of_nonneg _ (by omega)
 rw [e]
 have h2 : 0 ≤ (x.toNat : Int) / (2 ^ m) := Int.ediv_nonneg (by omega) (by omega)
 have h3 : (x.toNat : Int) / (2 ^ m) ≤ x.toNat := Int.ediv_le_self _ (by omega)
 generalize (x.toNat : Int) / (2 ^ m) = n at h2 h3
 simp only [nrm, toU8, UInt8.toNat_ofNat']
 omega
def fuelO {α β : Type} (S : (α → Option β) → α → Option β) : Nat → α → Option β
 | 0, _ => none
 | k + 1, x => S (fuelO S k) x
open Classical in
noncomputable def recO {α β : Type} (S : (α → Option β) → α → Option β) (x : α) : Option β := if h : ∃ k r, fuelO S k x = some r then some (Classical.choose (Classical.choose_spec h)) else none
theorem recO_elim {α β : Type} {S : (α → Option β) → α → Option β} {x : α} {r : β} (h : recO S x = some r) : ∃ k, fuelO S k x = some r := by
 unfold recO at h
 split at h
 ·rename_i hh
  cases h
  exact ⟨_, Classical.choose_spec (Classical.choose_spec hh)⟩
 ·cases h
theorem recO_intro {α β : Type} {S : (α → Option β) → α → Option β} {x : α} {k : Nat} {r : β} (h : fuelO S k x = some r) : ∃ r', recO S x = some r' := by
 unfold recO
 exact ⟨_, dif_pos ⟨k, r, h⟩⟩
theorem Wk_sealB {C : Cx} {k : List It} {s : S} (i : Nat) {cs ds : List AV} {e : List (Nat × Rw)} (hx : aget s.bx i = some cs) (h : sealL s cs = some (ds, e)) (hk : Wk C k { s with bx := (i, ds) :: s.bx, rw := e ++ s.rw }) : Wk C k s := by
 intro a w ⟨hd, M, E, hs, hp⟩
 obtain ⟨b, h1, h2, t, vs, h3, h4, h5⟩ := hs.bx i cs hx
 obtain ⟨M', hM, hs', hr, _⟩ := sealL_ok (vs := vs.toList) (likeRows.refl hs) h hs ⟨by simpa using h4, fun j v c hv hc => h5 j v c (by simpa using hv) hc⟩
 refine hk a w ⟨hd, M', E, { hs' with bx := fun j z hj => ?_, bxn := fun j hj => ?_ }, hp⟩
 ·have hj : aget ((i, ds) :: s.bx) j = some z := hj
  rw [aget_cons] at hj
  split at hj
  ·rename_i e
   cases hj
   subst e
   exact ⟨b, h1, h2, t, vs, h3, by simpa using hr.1, fun m v c hv hc => hr.2 m v c (by simpa using hv) hc⟩
  ·exact hs'.bx j z hj
 ·have hj : aget ((i, ds) :: s.bx) j = none := hj
  rw [aget_cons] at hj
  split at hj
  ·cases hj
  ·exact hs'.bxn j hj
theorem Wk_sealX {C : Cx} {k : List It} {s : S} (R : List Nat) (i : Nat) {x y : AV} {e : List (Nat × Rw)} (hx : aget s.fr i = some x) (h : sealAx R s x = some (y, e)) (hk : Wk C k { s with fr := (i, y) :: s.fr, rw := e ++ s.rw }) : Wk C k s := by
 intro a w ⟨hd, M, E, hs, hp⟩
 obtain ⟨M', hM, hs', hr, _⟩ := sealAx_ok (likeRows.refl hs) h hs (hs.fr i x hx).2
 refine hk a w ⟨hd, M', E, { hs' with fr := fun j z hj => ?_ }, hp⟩
 have hj : aget ((i, y) :: s.fr) j = some z := hj
 rw [aget_cons] at hj
 split at hj
 ·rename_i e
  cases hj
  rw [e]
  exact ⟨(hs.fr i x hx).1, hr⟩
 ·exact hs'.fr j z hj
theorem Wk_sealBX {C : Cx} {k : List It} {s : S} (R : List Nat) (i : Nat) {cs ds : List AV} {e : List (Nat × Rw)} (hx : aget s.bx i = some cs) (h : sealLx R s cs = some (ds, e)) (hk : Wk C k { s with bx := (i, ds) :: s.bx, rw := e ++ s.rw }) : Wk C k s := by
 intro a w ⟨hd, M, E, hs, hp⟩
 obtain ⟨b, h1, h2, t, vs, h3, h4, h5⟩ := hs.bx i cs hx
 obtain ⟨M', hM, hs', hr, _⟩ := sealLx_ok (vs := vs.toList) (likeRows.refl hs) h hs ⟨by simpa using h4, fun j v c hv hc => h5 j v c (by simpa using hv) hc⟩
 refine hk a w ⟨hd, M', E, { hs' with bx := fun j z hj => ?_, bxn := fun j hj => ?_ }, hp⟩
 ·have hj : aget ((i, ds) :: s.bx) j = some z := hj
  rw [aget_cons] at hj
  split at hj
  ·rename_i e
   cases hj
   subst e
   exact ⟨b, h1, h2, t, vs, h3, by simpa using hr.1, fun m v c hv hc => hr.2 m v c (by simpa using hv) hc⟩
  ·exact hs'.bx j z hj
 ·have hj : aget ((i, ds) :: s.bx) j = none := hj
  rw [aget_cons] at hj
  split at hj
  ·cases hj
  ·exact hs'.bxn j hj
theorem Wk_trunc {C : Cx} {k : List It} {s : S} (i j v n : Nat) {r : Rw} (hx : aget s.fr i = some (.rowv j v 0 n)) (hr : aget s.rw j = some r) (hv : v = r.ver) (hp : Nat.ble r.pu 1 = true) (hn : n ≤ r.xs.length) (hk0 : r.k ≤ n)
  (hk : Wk C k { s with fr := (i, .row j (r.ver + 1)) :: s.fr, rw := (j, { r with ver := r.ver + 1, cm := r.xs.length, nl := false, xs := r.xs.take n }) :: s.rw }) : Wk C k s := by
 intro a w ⟨hd, M, E, hs, hp0⟩
 obtain ⟨h1, h2⟩ := hs.fr i _ hx
 obtain ⟨q, hq, hok⟩ := hs.rw j r hr
 have hqn := hok.n
 have hnc := hok.nc
 have hval : a.tmps.getD i undef = .slice q.a n q.c := by
  have h3 := h2.of_cell rfl
  generalize a.tmps.getD i undef = v' at h3
  cases h3 with
  | pure h => cases h
  | rowv _ _ _ _ n' c a' q' hq' hver hh =>
   rw [hq] at hq'; cases hq'
   obtain ⟨e1, e2, _, e4, _⟩ := hh (by rw [hv]; exact hok.ver.symm)
   have e5 : c = q.c := by omega
   rw [e1, e2 rfl, e5]
 have hlt : (r.xs.take n).length = n := by rw [List.length_take, Nat.min_eq_left hn]
 obtain ⟨E', hup, hE', hst⟩ := hs.rowPut (w' := w) hr hq (r' := { r with ver := r.ver + 1, cm := r.xs.length, nl := false, xs := r.xs.take n }) (n' := n) (.inr (Nat.lt_succ_self _)) (Grow.refl w _) rfl hlt.symm (by omega)
  (fun y hy => hok.es y (List.mem_of_mem_take hy)) (by show r.k ≤ (r.xs.take n).length; rw [hlt]; exact hk0) (by show r.xs.length ≤ q.c; omega) (fun h => by cases h) (Nat.le_refl _)
  (fun p => by
   have e : sealN s (5, j, p) = ownK (flat r.xs)[p]? := by simp [sealN, hr]
   rw [e, hok.own1 (Nat.le_of_ble_eq_true hp)]; exact Nat.zero_le _) (fun b j v _ hv => (hs.mem b j v hv).1) (fun blk vs g1 g2 g3 g4 g5 => ⟨vs, g3, rfl, fun m u hu => by
   have hu : (flat (r.xs.take n))[m]? = some u := hu
   rw [flat_take n hok.es, List.getElem?_take] at hu
   split at hu
   ·exact g5 m u hu
   ·cases hu⟩)
 refine hk a w ⟨hd, M, E', { hst with fr := fun m z hm => ?_ }, hup.p _ hp0⟩
 have hm : aget ((i, .row j (r.ver + 1)) :: s.fr) m = some z := hm
 rw [aget_cons] at hm
 split at hm
 ·rename_i e
  cases hm
  rw [e, hval]
  exact ⟨h1, .cell (.row j _ n q.c q.a _ hE' (Nat.le_refl _) fun _ => ⟨rfl, rfl, rfl⟩)⟩
 ·exact hst.fr m z hm
theorem Wk_nilrowAP {C : Cx} {k : List It} {s : S} (pu : Nat) (i o j : Nat) (e : TypeId) (sz : Nat) {cs ds : List AV} (hx : aget s.fr i = some (.agg cs)) (ho : cs[o]? = some .nils) (hds : ds = cs.set o (.row j 0)) (hj : aget s.rw j = none) (hB : Nat.blt j nB = true) (hk : Wk C k { s with fr := (i, .agg ds) :: s.fr, rw := (j, ⟨e, sz, 0, 0, 0, true, pu, [], []⟩) :: s.rw }) : Wk C k s := by
 intro a w ⟨hd, M, E, hs, hp⟩
 subst hds
 obtain ⟨E', hup, hq, hs'⟩ := hs.row0 hj (Nat.le_of_ble_eq_true hB) none e sz true pu [] (fun _ => rfl)
 refine hk a w ⟨hd, M, E', { hs' with fr := fun m z hm => ?_ }, hup.p _ hp⟩
 have hm : aget ((i, .agg (cs.set o (.row j 0))) :: s.fr) m = some z := hm
 rw [aget_cons] at hm
 split at hm
 ·rename_i e
  cases hm
  obtain ⟨h1, h2⟩ := hs'.fr i _ hx
  rw [e]
  obtain ⟨vs, hvs, hl, hr⟩ := h2.agg_inv
  rw [hvs]
  refine ⟨h1, .agg vs _ (by simpa using hl) fun n v c hv hc => ?_⟩
  rw [List.getElem?_set] at hc
  split at hc
  ·rename_i e
   subst e
   split at hc
   ·cases hc
    have := hr o v _ hv ho
    cases this with
    | pure h =>
     cases h
     exact .row j 0 0 0 none _ hq (Nat.le_refl _) fun _ => ⟨rfl, rfl, rfl⟩
   ·cases hc
  ·exact hr n v c hv hc
 ·exact hs'.fr m z hm
theorem Wk_nilrowA {C : Cx} {k : List It} {s : S} (i o j : Nat) (e : TypeId) (sz : Nat) {cs ds : List AV} (hx : aget s.fr i = some (.agg cs)) (ho : cs[o]? = some .nils) (hds : ds = cs.set o (.row j 0)) (hj : aget s.rw j = none) (hB : Nat.blt j nB = true) (hk : Wk C k { s with fr := (i, .agg ds) :: s.fr, rw := (j, ⟨e, sz, 0, 0, 0, true, 0, [], []⟩) :: s.rw }) : Wk C k s := Wk_nilrowAP 0 i o j e sz hx ho hds hj hB hk
theorem Wk_ren' {C : Cx} {k : List It} {s : S} (σ : Ren) (h : σ.low = true) (hk : Wk C k (s.ren σ)) (h2 : p2R s.rw = true := by kernel_rfl) (h3 : mpR σ.m s.mp = true := by kernel_rfl) (h4 : noH s.ar = true := by kernel_rfl) : Wk C k s := Wk_ren σ _ h rfl hk h2 h3 h4
theorem mlen_ok {α : Type} (e : α → AV × AV) (l : List α) : ((l.length : Int)) = ((l.map e).length : Int) := by rw [List.length_map]
theorem Wk_truncL {C : Cx} {k : List It} {s : S} (i j v n : Nat) (ys : List AV) {r : Rw} (hx : aget s.fr i = some (.rowv j v 0 n)) (hr : aget s.rw j = some r) (hv : v = r.ver) (hp : Nat.ble r.pu 1 = true) (hn : n ≤ r.xs.length) (hk0 : r.k ≤ n) (hy : r.xs.take n = ys)
  (hk : Wk C k { s with fr := (i, .row j (r.ver + 1)) :: s.fr, rw := (j, { r with ver := r.ver + 1, cm := r.xs.length, nl := false, xs := ys }) :: s.rw }) : Wk C k s := by
 subst hy
 exact Wk_trunc i j v n hx hr hv hp hn hk0 hk
end Go.Dm
namespace Go.Dm
open Go
theorem w64_id {x : Int} (h1 : -9223372036854775808 ≤ x) (h2 : x ≤ 9223372036854775807) : w64 x = x := by
 unfold w64 IntKind.wrap
 simp only [IntKind.signed, IntKind.bits]
 simp
 split <;> omega
theorem w64_in (x : Int) : -9223372036854775808 ≤ w64 x ∧ w64 x ≤ 9223372036854775807 := by
 unfold w64 IntKind.wrap
 simp only [IntKind.signed, IntKind.bits]
 simp
 split <;> omega
def wp {α : Type} (e : Option α) (Q : α → Prop) : Prop := ∃ v, e = some v ∧ Q v
theorem wp_some {α : Type} {v : α} {Q : α → Prop} : wp (some v) Q ↔ Q v := ⟨fun ⟨_, h, q⟩ => by cases h; exact q, fun h => ⟨_, rfl, h⟩⟩
theorem wp_none {α : Type} {Q : α → Prop} : wp (none : Option α) Q ↔ False := ⟨fun ⟨_, h, _⟩ => (by cases h), fun h => h.elim⟩
theorem wp_ob {α β : Type} {e : Option α} {f : α → Option β} {Q : β → Prop} : wp (ob e f) Q ↔ wp e (fun x => wp (f x) Q) := by
 cases e with
 | none => exact ⟨fun ⟨_, h, _⟩ => (by cases h), fun ⟨_, h, _⟩ => (by cases h)⟩
 | some x => rw [wp_some]; exact Iff.rfl
theorem wp_asrt {β : Type} {p : Prop} {k : Option β} {Q : β → Prop} : wp (asrt p k) Q ↔ p ∧ wp k Q := by
 constructor
 ·intro ⟨v, h, q⟩
  obtain ⟨hp, hk⟩ := asrt_elim h
  exact ⟨hp, v, hk, q⟩
 ·intro ⟨hp, hk⟩
  rw [asrt_pos hp]; exact hk
theorem wp_lt {α β : Type} {e : α} {f : α → Option β} {Q : β → Prop} : wp (lt e f) Q ↔ wp (f e) Q := Iff.rfl
theorem wp_ite {β : Type} {b : Bool} {x y : Option β} {Q : β → Prop} : wp (if b = true then x else y) Q ↔ (b = true → wp x Q) ∧ (b = false → wp y Q) := by
 cases b <;> simp
theorem wp_inrO {σ ρ : Type} {e : Option ρ} {Q : σ ⊕ ρ → Prop} : wp (inrO e) Q ↔ wp e (fun r => Q (.inr r)) := by
 cases e with
 | none => exact ⟨fun ⟨_, h, _⟩ => (by cases h), fun ⟨_, h, _⟩ => (by cases h)⟩
 | some x => rw [wp_some]; exact wp_some
theorem wp_ubO {β : Type} {p : Bool} {e1 e2 : Option β} {Q : β → Prop} : wp (ubO p e1 e2) Q ↔ (p = true → e1 = e2) ∧ wp e2 Q := by
 unfold ubO
 rw [wp_asrt]
 constructor
 ·intro ⟨h, hk⟩
  refine ⟨h, ?_⟩
  cases p with
  | true => rw [← h rfl]; exact hk
  | false => exact hk
 ·intro ⟨h, hk⟩
  refine ⟨h, ?_⟩
  cases p with
  | true => rw [if_pos rfl, h rfl]; exact hk
  | false => exact hk
theorem wp_is {α : Type} {e : Option α} {v : α} : wp e (fun r => r = v) ↔ e = some v := ⟨fun ⟨_, h, q⟩ => by rw [h, q], fun h => ⟨v, h, rfl⟩⟩
theorem wp_mono {α : Type} {e : Option α} {Q R : α → Prop} (h : wp e Q) (m : ∀ v, Q v → R v) : wp e R := by
 obtain ⟨v, e, q⟩ := h
 exact ⟨v, e, m v q⟩
theorem wp_eq {α : Type} {e : Option α} {v : α} (h : e = some v) {Q : α → Prop} : wp e Q ↔ Q v := by rw [h]; exact wp_some
def Turn {σ ρ : Type} (I : σ → Prop) (Q : ρ → Prop) : σ ⊕ ρ → Prop
 | .inl y => I y
 | .inr r => Q r
theorem turn_l {σ ρ : Type} {I : σ → Prop} {Q : ρ → Prop} {y : σ} : Turn I Q (.inl y) ↔ I y := Iff.rfl
theorem turn_r {σ ρ : Type} {I : σ → Prop} {Q : ρ → Prop} {r : ρ} : Turn I Q (.inr r) ↔ Q r := Iff.rfl
theorem loopO_inr {σ ρ : Type} {step : σ → Option (σ ⊕ ρ)} {x : σ} {r : ρ} (h : step x = some (.inr r)) : loopO step x = some r := by rw [loopO_eq, h]
theorem loopO_inl {σ ρ : Type} {step : σ → Option (σ ⊕ ρ)} {x y : σ} (h : step x = some (.inl y)) : loopO step x = loopO step y := by rw [loopO_eq, h]
theorem wp_loop {σ ρ : Type} {step : σ → Option (σ ⊕ ρ)} (I : σ → Prop) (m : σ → Nat) {Q : ρ → Prop}
  (h : ∀ x, I x → wp (step x) (Turn (fun y => I y ∧ m y < m x) Q)) {x : σ} (hx : I x) : wp (loopO step x) Q := by
 generalize hn : m x = n
 induction n using Nat.strongRecOn generalizing x with
 | _ n ih =>
  obtain ⟨v, e, q⟩ := h x hx
  match v, e, q with
  | .inr r, e, q => exact ⟨r, loopO_inr e, q⟩
  | .inl y, e, q =>
   rw [loopO_inl e]
   exact ih (m y) (by rw [← hn]; exact q.2) q.1 rfl
theorem wp_for {σ ρ : Type} {step : σ → Option (σ ⊕ ρ)} (I : Nat → σ → Prop) (n : Nat) {Q : ρ → Prop}
  (h : ∀ k x, k ≤ n → I k x → wp (step x) (Turn (fun y => k < n ∧ I (k + 1) y) Q)) {x : σ} (hx : I 0 x) : wp (loopO step x) Q := by
 have main : ∀ m k x, n - k = m → k ≤ n → I k x → wp (loopO step x) Q := by
  intro m
  induction m with
  | zero =>
   intro k x hm hk hx
   obtain ⟨v, e, q⟩ := h k x hk hx
   match v, e, q with
   | .inr r, e, q => exact ⟨r, loopO_inr e, q⟩
   | .inl y, e, q => have : k < n := q.1; omega
  | succ m ih =>
   intro k x hm hk hx
   obtain ⟨v, e, q⟩ := h k x hk hx
   match v, e, q with
   | .inr r, e, q => exact ⟨r, loopO_inr e, q⟩
   | .inl y, e, q =>
    rw [loopO_inl e]
    have : k < n := q.1
    exact ih (k + 1) y (by omega) (by omega) q.2
 exact main _ 0 x rfl (Nat.zero_le _) hx
theorem fuelO_up {α β : Type} {S : (α → Option β) → α → Option β} (hS : ∀ f g : α → Option β, (∀ x r, f x = some r → g x = some r) → ∀ x r, S f x = some r → S g x = some r) :
  ∀ k x r, fuelO S k x = some r → fuelO S (k + 1) x = some r := by
 intro k
 induction k with
 | zero => intro x r h; cases h
 | succ k ih => intro x r h; exact hS _ _ ih x r h
theorem recO_is {α β : Type} {S : (α → Option β) → α → Option β} {x : α} {r : β} (h : ∀ k s, fuelO S k x = some s → s = r) {k : Nat} (hk : fuelO S k x = some r) : recO S x = some r := by
 obtain ⟨s, hs⟩ := recO_intro hk
 obtain ⟨k', hk'⟩ := recO_elim hs
 rw [hs, h k' s hk']
theorem recO_spec {α β : Type} {S : (α → Option β) → α → Option β} (I : α → Prop) (m : α → Nat) (g : α → β)
  (h : ∀ x f, I x → (∀ y r, I y → m y < m x → f y = some r → r = g y) → ∀ r, S f x = some r → r = g x)
  (h' : ∀ x f, I x → (∀ y, I y → m y < m x → f y = some (g y)) → S f x = some (g x)) {x : α} (hx : I x) : recO S x = some (g x) := by
 have a : ∀ k x, I x → ∀ r, fuelO S k x = some r → r = g x := by
  intro k
  induction k with
  | zero => intro x hx r h; cases h
  | succ k ih => intro x hx r hr; exact h x _ hx (fun y r hy _ e => ih y hy r e) r hr
 have b : ∀ k x, I x → m x < k → fuelO S k x = some (g x) := by
  intro k
  induction k with
  | zero => intro x hx hk; omega
  | succ k ih => intro x hx hk; exact h' x _ hx (fun y hy hl => ih y hy (by omega))
 exact recO_is (fun k s => a k x hx s) (b (m x + 1) x hx (Nat.lt_succ_self _))
theorem or_t {p q : Prop} {_ : Decidable p} {_ : Decidable q} (h : p ∨ q) : (decide p || decide q) = true := by simpa using h
theorem or_f {p q : Prop} {_ : Decidable p} {_ : Decidable q} (h : ¬(p ∨ q)) : ¬ (decide p || decide q) = true := by simpa using h
theorem or_b {p q : Prop} {_ : Decidable p} {_ : Decidable q} (h : ¬(p ∨ q)) : (decide p || decide q) = false := by simpa using h
theorem an_t {p q : Prop} {_ : Decidable p} {_ : Decidable q} (h : p ∧ q) : (decide p && decide q) = true := by simpa using h
theorem an_f {p q : Prop} {_ : Decidable p} {_ : Decidable q} (h : ¬(p ∧ q)) : ¬ (decide p && decide q) = true := by simpa using h
theorem d_t {p : Prop} {_ : Decidable p} (h : p) : decide p = true := decide_eq_true h
theorem d_f {p : Prop} {_ : Decidable p} (h : ¬p) : ¬ decide p = true := by simpa using h
theorem n_t {p : Prop} {_ : Decidable p} (h : ¬ p) : (!decide p) = true := by simpa using h
theorem n_f {p : Prop} {_ : Decidable p} (h : p) : ¬ (!decide p) = true := by simpa using h
section
variable {α : Type}
theorem lget_nat [Inhabited α] (l : List α) (n : Nat) (h : n < l.length) : lget l (n : Int) = l[n] := by simp [lget, List.getD, h]
theorem lget_some [Inhabited α] (l : List α) (n : Nat) (h : n < l.length) : l[n]? = some (lget l (n : Int)) := by simp [lget, List.getD, h]
theorem lget_int [Inhabited α] (l : List α) (n : Int) (h : 0 ≤ n ∧ n < (l.length : Int)) : l[n.toNat]? = some (lget l n) := by
 have : n.toNat < l.length := by omega
 simp [lget, List.getD, this]
theorem lget_mem [Inhabited α] (l : List α) (n : Int) (h : 0 ≤ n ∧ n < (l.length : Int)) : lget l n ∈ l := List.mem_of_getElem? (lget_int l n h)
theorem lget_drop [Inhabited α] (l : List α) (n : Nat) (h : n < l.length) : l.drop n = lget l (n : Int) :: l.drop (n + 1) := by
 rw [List.drop_eq_getElem_cons h]
 simp [lget, List.getD, h]
theorem lget_take [Inhabited α] (l : List α) (n : Nat) (h : n < l.length) : l.take (n + 1) = l.take n ++ [lget l (n : Int)] := by
 rw [List.take_add_one, lget_some l n h]; rfl
theorem lget_app_l [Inhabited α] (a b : List α) (n : Int) (h : 0 ≤ n ∧ n < (a.length : Int)) : lget (a ++ b) n = lget a n := by
 have : n.toNat < a.length := by omega
 simp [lget, List.getD, List.getElem?_append_left this]
theorem lget_app_r [Inhabited α] (a b : List α) (n : Int) (h : (a.length : Int) ≤ n) : lget (a ++ b) n = lget b (n - a.length) := by
 have h1 : a.length ≤ n.toNat := by omega
 have h2 : n.toNat - a.length = (n - a.length).toNat := by omega
 unfold lget List.getD
 rw [List.getElem?_append_right h1, h2]
theorem lget_lset [Inhabited α] (l : List α) (n m : Int) (x : α) (h : 0 ≤ n ∧ n < (l.length : Int)) (hm : 0 ≤ m) : lget (lset l n x) m = if m = n then x else lget l m := by
 unfold lget lset
 by_cases e : m = n
 ·subst e
  have : m.toNat < l.length := by omega
  simp [List.getD, this]
 ·have : n.toNat ≠ m.toNat := by omega
  rw [if_neg e]
  simp only [List.getD, List.getElem?_set_ne this]
theorem lset_len (l : List α) (n : Int) (x : α) : (lset l n x).length = l.length := by simp [lset]
theorem ltake_len (l : List α) (n : Int) (h : 0 ≤ n ∧ n ≤ (l.length : Int)) : ((ltake l n).length : Int) = n := by simp [ltake]; omega
theorem ldrop_len (l : List α) (n : Int) (h : 0 ≤ n ∧ n ≤ (l.length : Int)) : ((ldrop l n).length : Int) = l.length - n := by simp [ldrop]; omega
theorem ltake_nat (l : List α) (n : Nat) : ltake l (n : Int) = l.take n := by simp [ltake]
theorem ldrop_nat (l : List α) (n : Nat) : ldrop l (n : Int) = l.drop n := by simp [ldrop]
theorem lget_ltake [Inhabited α] (l : List α) (n m : Int) (h : 0 ≤ m ∧ m < n) : lget (ltake l n) m = lget l m := by
 have : m.toNat < n.toNat := by omega
 simp [lget, ltake, List.getD, List.getElem?_take, this]
theorem lget_ldrop [Inhabited α] (l : List α) (n m : Int) (h : 0 ≤ n ∧ 0 ≤ m) : lget (ldrop l n) m = lget l (n + m) := by
 have : n.toNat + m.toNat = (n + m).toNat := by omega
 simp [lget, ldrop, List.getD, this]
theorem ext_lget [Inhabited α] {a b : List α} (hl : a.length = b.length) (h : ∀ n : Nat, n < a.length → lget a (n : Int) = lget b (n : Int)) : a = b := by
 apply List.ext_getElem hl
 intro n h1 h2
 have := h n h1
 rwa [lget_nat a n h1, lget_nat b n h2] at this
end
end Go.Dm
namespace Go.Dm
open Go
theorem loop_from {σ ρ : Type} {step : σ → Option (σ ⊕ ρ)} (n : Nat) (st : Nat → σ) (h : ∀ k, k < n → step (st k) = some (.inl (st (k + 1)))) {r : ρ} (he : step (st n) = some (.inr r)) (k : Nat) (hk : k ≤ n) : loopO step (st k) = some r := by
 have : ∀ m k, n - k = m → k ≤ n → loopO step (st k) = some r := by
  intro m
  induction m with
  | zero =>
   intro k e hk
   have : k = n := by omega
   subst this
   exact loopO_inr he
  | succ m ih =>
   intro k e hk
   exact (loopO_inl (h k (by omega))).trans (ih (k + 1) (by omega) (by omega))
 exact this (n - k) k rfl hk
theorem loop_run {σ ρ : Type} {step : σ → Option (σ ⊕ ρ)} (n : Nat) (st : Nat → σ) (h : ∀ k, k < n → step (st k) = some (.inl (st (k + 1)))) {r : ρ} (he : step (st n) = some (.inr r)) : loopO step (st 0) = some r :=
 loop_from n st h he 0 (Nat.zero_le _)
theorem loop_first' {σ ρ : Type} {step : σ → Option (σ ⊕ ρ)} (n : Nat) (st : Nat → σ) (bad : Nat → Prop) (rb : Nat → ρ) {r : ρ}
  (h : ∀ k, k < n → ¬ bad k → step (st k) = some (.inl (st (k + 1)))) (hb : ∀ k, k < n → bad k → step (st k) = some (.inr (rb k))) (he : step (st n) = some (.inr r)) (k : Nat) (hk : k ≤ n) :
  (∃ j, k ≤ j ∧ j < n ∧ bad j ∧ (∀ i, k ≤ i → i < j → ¬ bad i) ∧ loopO step (st k) = some (rb j)) ∨ ((∀ j, k ≤ j → j < n → ¬ bad j) ∧ loopO step (st k) = some r) := by
 have : ∀ m k, n - k = m → k ≤ n → (∃ j, k ≤ j ∧ j < n ∧ bad j ∧ (∀ i, k ≤ i → i < j → ¬ bad i) ∧ loopO step (st k) = some (rb j)) ∨ ((∀ j, k ≤ j → j < n → ¬ bad j) ∧ loopO step (st k) = some r) := by
  intro m
  induction m with
  | zero =>
   intro k e hk
   have : k = n := by omega
   subst this
   exact .inr ⟨fun j h1 h2 => by omega, loopO_inr he⟩
  | succ m ih =>
   intro k e hk
   by_cases c : bad k
   ·exact .inl ⟨k, Nat.le_refl _, by omega, c, fun i h1 h2 => by omega, loopO_inr (hb k (by omega) c)⟩
   ·have e1 := loopO_inl (h k (by omega) c)
    rcases ih (k + 1) (by omega) (by omega) with ⟨j, h1, h2, h3, h4, h5⟩ | ⟨h1, h2⟩
    ·refine .inl ⟨j, by omega, h2, h3, fun i g1 g2 => ?_, e1.trans h5⟩
     by_cases hi : i = k
     ·rw [hi]; exact c
     ·exact h4 i (by omega) g2
    ·refine .inr ⟨fun j g1 g2 => ?_, e1.trans h2⟩
     by_cases hj : j = k
     ·rw [hj]; exact c
     ·exact h1 j (by omega) g2
 exact this (n - k) k rfl hk
theorem loop_first {σ ρ : Type} {step : σ → Option (σ ⊕ ρ)} (n : Nat) (st : Nat → σ) (bad : Nat → Prop) (rb : Nat → ρ) {r : ρ}
  (h : ∀ k, k < n → ¬ bad k → step (st k) = some (.inl (st (k + 1)))) (hb : ∀ k, k < n → bad k → step (st k) = some (.inr (rb k))) (he : step (st n) = some (.inr r)) :
  (∃ j, j < n ∧ bad j ∧ (∀ i, i < j → ¬ bad i) ∧ loopO step (st 0) = some (rb j)) ∨ ((∀ j, j < n → ¬ bad j) ∧ loopO step (st 0) = some r) := by
 rcases loop_first' n st bad rb h hb he 0 (Nat.zero_le _) with ⟨j, _, h2, h3, h4, h5⟩ | ⟨h1, h2⟩
 ·exact .inl ⟨j, h2, h3, fun i hi => h4 i (Nat.zero_le _) hi, h5⟩
 ·exact .inr ⟨fun j hj => h1 j (Nat.zero_le _) hj, h2⟩
theorem loop_any {σ ρ : Type} {step : σ → Option (σ ⊕ ρ)} (n : Nat) (st : Nat → σ) (bad : Nat → Prop) {rb r : ρ}
  (h : ∀ k, k < n → ¬ bad k → step (st k) = some (.inl (st (k + 1)))) (hb : ∀ k, k < n → bad k → step (st k) = some (.inr rb)) (he : step (st n) = some (.inr r)) :
  ((∃ j, j < n ∧ bad j) ∧ loopO step (st 0) = some rb) ∨ ((∀ j, j < n → ¬ bad j) ∧ loopO step (st 0) = some r) := by
 rcases loop_first n st bad (fun _ => rb) h hb he with ⟨j, h1, h2, _, h4⟩ | h1
 ·exact .inl ⟨⟨j, h1, h2⟩, h4⟩
 ·exact .inr h1
section
variable {α : Type} [Inhabited α]
theorem take_all (p : α → Bool) (l : List α) (k : Nat) (h : k < l.length) : (l.take (k + 1)).all p = ((l.take k).all p && p (lget l (k : Int))) := by
 rw [lget_take l k h, List.all_append]; simp
theorem mem_lget {l : List α} {x : α} : x ∈ l ↔ ∃ k : Nat, k < l.length ∧ lget l (k : Int) = x := by
 rw [List.mem_iff_getElem]
 constructor
 ·rintro ⟨k, h, e⟩; exact ⟨k, h, by rw [lget_nat l k h, e]⟩
 ·rintro ⟨k, h, e⟩; exact ⟨k, h, by rw [← lget_nat l k h, e]⟩
theorem all_lget {l : List α} {p : α → Prop} : (∀ x ∈ l, p x) ↔ ∀ k : Nat, k < l.length → p (lget l (k : Int)) :=
 ⟨fun h k hk => h _ (lget_mem l (k : Int) (by omega)), fun h x hx => by obtain ⟨k, hk, e⟩ := mem_lget.1 hx; rw [← e]; exact h k hk⟩
theorem mem_take_lget {l : List α} {x : α} {n : Nat} (hn : n ≤ l.length) : x ∈ l.take n ↔ ∃ k : Nat, k < n ∧ lget l (k : Int) = x := by
 rw [mem_lget]
 have hl : (l.take n).length = n := by simp; omega
 constructor
 ·rintro ⟨k, hk, e⟩
  rw [hl] at hk
  refine ⟨k, hk, ?_⟩
  have := lget_ltake l (n : Int) (k : Int) (by omega)
  rw [ltake_nat] at this
  rw [← this]; exact e
 ·rintro ⟨k, hk, e⟩
  refine ⟨k, by omega, ?_⟩
  have := lget_ltake l (n : Int) (k : Int) (by omega)
  rw [ltake_nat] at this
  rw [this]; exact e
theorem nodup_lget {l : List α} : l.Nodup ↔ ∀ k : Nat, k < l.length → lget l (k : Int) ∉ l.take k := by
 unfold List.Nodup
 rw [List.pairwise_iff_getElem]
 constructor
 ·intro h k hk hm
  obtain ⟨j, hj, e⟩ := (mem_take_lget (by omega)).1 hm
  have := h j k (by omega) hk hj
  rw [← lget_nat l j (by omega), ← lget_nat l k hk] at this
  exact this e
 ·intro h i j hi hj hij e
  refine h j hj ((mem_take_lget (by omega)).2 ⟨i, hij, ?_⟩)
  rw [lget_nat l i hi, lget_nat l j hj, e]
theorem nodup_snoc {l : List α} {x : α} : (l ++ [x]).Nodup ↔ l.Nodup ∧ x ∉ l := by
 rw [List.nodup_append]
 constructor
 ·rintro ⟨h1, _, h3⟩
  exact ⟨h1, fun h => h3 x h x (by simp) rfl⟩
 ·rintro ⟨h1, h2⟩
  refine ⟨h1, by simp, fun a ha b hb => ?_⟩
  simp only [List.mem_singleton] at hb
  subst hb
  rintro rfl; exact h2 ha
end
theorem mget_mput {κ ν : Type} [DecidableEq κ] (l : List (κ × ν)) (k j : κ) (v : ν) : mget (mput l k v) j = if k = j then some v else mget l j := by
 induction l with
 | nil => simp [mput, mget]
 | cons p l ih =>
  rw [mput]
  by_cases h : p.1 = k
  ·rw [if_pos h]
   by_cases hj : k = j
   ·simp [mget, hj]
   ·have : ¬ p.1 = j := fun e => hj (h.symm.trans e)
    simp [mget, hj, this]
  ·rw [if_neg h]
   by_cases hj : p.1 = j
   ·have : ¬ k = j := fun e => h (hj.trans e.symm)
    simp [mget, hj, this]
   ·simp [mget, hj, ih]
def seenM (l : List Int) : List (Int × Int) := l.foldl (fun m v => mput m v 1) []
theorem seenM_snoc (l : List Int) (v : Int) : seenM (l ++ [v]) = mput (seenM l) v 1 := by simp [seenM]
theorem seenM_get (l : List Int) (v : Int) : (mget (seenM l) v).getD 0 = if v ∈ l then 1 else 0 := by
 suffices h : ∀ (r : List Int), (mget (seenM r.reverse) v).getD 0 = if v ∈ r.reverse then 1 else 0 by
  have := h l.reverse
  rwa [List.reverse_reverse] at this
 intro r
 induction r with
 | nil => simp [seenM, mget]
 | cons x r ih =>
  rw [List.reverse_cons, seenM_snoc, mget_mput]
  by_cases h : x = v
  ·subst h; simp
  ·have : ¬ v = x := fun e => h e.symm
   rw [if_neg h, ih]
   simp [this]
end Go.Dm
namespace Go.Dm
open Go
abbrev AV.i (x : Int) : AV := .int .i64 x
abbrev Rw.o (ty : TypeId) (sz ver : Nat) (xs : List AV) : Rw := ⟨ty, sz, ver, 0, 0, false, 0, [], xs⟩
abbrev Rw.z (ty : TypeId) (sz ver : Nat) (xs : List AV) : Rw := ⟨ty, sz, ver, 0, 0, true, 0, [], xs⟩
def pick {α : Type} (d : α) (new old : List (Nat × α)) : List Nat → List (Nat × α)
 | [] => []
 | i :: is => (i, match aget new i with
  | some v => v
  | none => match aget old i with
   | some v => v
   | none => d) :: pick d new old is
def S.up (s : S) (fs bs rs ms : List Nat) (fr : List (Nat × AV)) (bx : List (Nat × List AV)) (rw : List (Nat × Rw)) (mp : List (Nat × List (AV × AV))) : S :=
 ⟨pick .nils fr s.fr fs, pick [] bx s.bx bs, pick ⟨0, 0, 0, 0, 0, false, 0, [], []⟩ rw s.rw rs, pick [] mp s.mp ms, []⟩
def S.uf (s : S) (fs bs rs : List Nat) (fr : List (Nat × AV)) : S := s.up fs bs rs [] fr [] [] []
end Go.Dm
namespace Go.Dm
open Go
variable {C : Cx} {k : List It} {s t : S}
def flt : Nat → List It → List It
 | 0, k => k
 | n + 1, k => match k with
  | .code (.seq a b) :: k => flt n (.code a :: .code b :: k)
  | .code .skip :: k => flt n k
  | .blk _ :: k => flt n k
  | k => k
theorem flt_ok : ∀ (n : Nat) (k : List It), Wk C (flt n k) s → Wk C k s
 | 0, k, h => h
 | n + 1, k, h => by
  unfold flt at h
  split at h
  ·exact Wk_seq (flt_ok n _ h)
  ·exact Wk_skip (flt_ok n _ h)
  ·exact Wk_blk (flt_ok n _ h)
  ·exact h
def ks {α : Type} : List (Nat × α) → List Nat
 | [] => []
 | p :: l => p.1 :: ks l
def S.upT (s : S) (fs bs rs ms : List Nat) (d : List (Nat × AV) × List (Nat × List AV) × List (Nat × Rw) × List (Nat × List (AV × AV))) : S := s.up fs bs rs ms d.1 d.2.1 d.2.2.1 d.2.2.2
theorem Nif {c : Nat} {x y : Code} {b : Bool} {β : Type} {e1 e2 r : β} (hF : (if b = true then e1 else e2) = r) (ht : b = true → e1 = r → Wk C (flt 99 (.code x :: k)) s) (hf : b = false → e2 = r → Wk C (flt 99 (.code y :: k)) s) (hc : aget s.fr c = some (.bool b) := by kernel_rfl) : Wk C (.code (.cond (.tmp c) x y) :: k) s :=
 Wk_split hc (fun hb => flt_ok 99 _ (ht hb (ite_t hF hb))) (fun hb => flt_ok 99 _ (hf hb (ite_f hF hb)))
theorem Nsplit {c : Nat} {x y : Code} {b : Bool} (hc : aget s.fr c = some (.bool b)) (ht : b = true → Wk C (flt 99 (.code x :: k)) s) (hf : b = false → Wk C (flt 99 (.code y :: k)) s) : Wk C (.code (.cond (.tmp c) x y) :: k) s :=
 Wk_split hc (fun hb => flt_ok 99 _ (ht hb)) (fun hb => flt_ok 99 _ (hf hb))
theorem Ntrue {c : Nat} {x y : Code} (hc : aget s.fr c = some (.bool true)) (h : Wk C (flt 99 (.code x :: k)) s) : Wk C (.code (.cond (.tmp c) x y) :: k) s := Wk_true hc (flt_ok 99 _ h)
theorem Nfalse {c : Nat} {x y : Code} (hc : aget s.fr c = some (.bool false)) (h : Wk C (flt 99 (.code y :: k)) s) : Wk C (.code (.cond (.tmp c) x y) :: k) s := Wk_false hc (flt_ok 99 _ h)
theorem Nblk {id : Nat} {c : Code} (h : Wk C (flt 99 (.code c :: .blk id :: k)) s) : Wk C (.code (.block id c) :: k) s := Wk_block (flt_ok 99 _ h)
theorem Nexit {id : Nat} {k' : List It} (hp : popTo id k = some k') (h : Wk C (flt 99 k') s) : Wk C (.code (.exit id) :: k) s := Wk_exit hp (flt_ok 99 _ h)
theorem Nmeet {x : It} (t : S) (h1 : Wk C (x :: .cut (fun s' => s' = t) :: k) s) (h2 : Wk C (flt 99 k) t) : Wk C (x :: k) s := Wk_meet t h1 (flt_ok 99 _ h2)
theorem NmeetP {x : It} {σ : Type} (st : σ → S) (p : σ → Prop) (h1 : Wk C (x :: .cut (fun s' => ∃ v, p v ∧ s' = st v) :: k) s) (h2 : ∀ v, p v → Wk C (flt 99 k) (st v)) : Wk C (x :: k) s :=
 Wk_meetP st p h1 fun v hv => flt_ok 99 _ (h2 v hv)
theorem met (nv : NV) (h : trimS (ks t.fr) (ks t.bx) (ks t.rw) (ks t.mp) (ks t.ar) nv s = some t) : Wk C (.cut (fun s' => s' = t) :: k) s := Wk_met h
theorem metP {σ : Type} {st : σ → S} {p : σ → Prop} (v : σ) (nv : NV) (hp : p v) (h : trimS (ks (st v).fr) (ks (st v).bx) (ks (st v).rw) (ks (st v).mp) (ks (st v).ar) nv s = some (st v)) : Wk C (.cut (fun s' => ∃ v, p v ∧ s' = st v) :: k) s := Wk_metP v _ _ _ _ _ nv hp h
theorem Niter {body : Code} {σ ρ : Type} {step : σ → Option (σ ⊕ ρ)} {r : ρ} {x0 : σ} (st : σ → S) (nv : NV) (h : loopO step x0 = some r) (hs : trimS (ks (st x0).fr) (ks (st x0).bx) (ks (st x0).rw) (ks (st x0).mp) (ks (st x0).ar) nv s = some (st x0))
  (hr : ∀ n x y, step x = some y → (∀ x', y = .inl x' → Wk C (.rnd n body :: k) (st x')) → (∀ r', y = .inr r' → r' = r) → Wk C (flt 99 (.code body :: .rnd n body :: k)) (st x)) :
  Wk C (.code (.loop body) :: k) s :=
 Wk_trim hs (Wk_iter st x0 h fun n x y h1 h2 h3 => flt_ok 99 _ (hr n x y h1 h2 h3))
theorem Nrnd {σ ρ : Type} {x' : σ} {y : σ ⊕ ρ} {st : σ → S} (nv : NV) (hF : some (Sum.inl x' : σ ⊕ ρ) = some y) (ih : ∀ x', y = .inl x' → Wk C k (st x')) (h : trimS (ks (st x').fr) (ks (st x').bx) (ks (st x').rw) (ks (st x').mp) (ks (st x').ar) nv s = some (st x')) : Wk C k s :=
 Wk_trim h (ih x' (some_elim hF).symm)
theorem hc {p : Prop} {l : List Prop} (h : p) (t : HL l) : HL (p :: l) := .cons h t
theorem asrt2 {β : Type} {p q : Prop} {k : Option β} {y : β} (h : asrt p (asrt q k) = some y) : p ∧ q ∧ k = some y := by
 obtain ⟨h1, h⟩ := asrt_elim h
 obtain ⟨h2, h⟩ := asrt_elim h
 exact ⟨h1, h2, h⟩
theorem asrt4 {β : Type} {p q p' q' : Prop} {k : Option β} {y : β} (h : asrt p (asrt q (asrt p' (asrt q' k))) = some y) : p ∧ q ∧ p' ∧ q' ∧ k = some y := by
 obtain ⟨h1, h2, h⟩ := asrt2 h
 obtain ⟨h3, h4, h⟩ := asrt2 h
 exact ⟨h1, h2, h3, h4, h⟩
theorem PeN {P : Program} {f : FuncId} {fn : Func} {c : Code} (N : Nat) (res : List ResultVar) (ts : List TypeId) {τ : TyTab} (hτ : TyOk P τ) (hb : Bodied P f) (hfn : P.funcs[f]? = some fn)
  {s0 s1 : S} {args : List AV} {r : AV}
  (h : ∀ (Q : Exit → Act → World → Prop) (g : Gh), (∀ s, Ends τ res ts r s1 s → Fin ⟨P, Q, g, N⟩ s) → Wk ⟨P, Q, g, N⟩ (flt 99 [.code c]) ⟨argSlots 0 args, s0.bx, s0.rw, s0.mp, s0.ar⟩)
  (hbody : fn.body = some c := by rfl) (hN : fn.ntmps = N := by rfl) (hres : fn.results.toList = res := by rfl) (hlen : Nat.ble args.length N = true := by rfl) (h0 : hiS s0 = true := by rfl) (hf1 : s1.fr = [] := by rfl) : Pe P f s0 args r s1 :=
 Pe_of hτ hb hfn hbody hN hres hlen h0 hf1 fun Q g hfin => flt_ok 99 _ (h Q g hfin)
end Go.Dm
namespace Go.Dm
open Go
variable {C : Cx} {k : List It} {s t : S} {τ : TyTab}
def knownG (K : List (Nat × Bool)) (all : List Oper) : Option (Nat × Bool) → Option (Nat × Bool × Bool)
 | none => none
 | some (j, want) => match guardSlot all j with
  | some d => match findA d K with
   | some v => some (d, v, match want with | true => v | false => !v)
   | none => none
  | none => none
def evalPK (K : List (Nat × Bool)) (s : S) (an : List An) : Op → Option Res
 | .pick (.tmp d) x y => match findA d K with
  | some v => match val s (.tmp d) with
   | some (.bool p) => match val s (match v with | true => x | false => y) with
    | some (.bool u) => some ⟨[p = v], [], ⟨some (.bool u), [], [], [], []⟩, [], an⟩
    | _ => none
   | _ => none
  | none => none
 | _ => none
def evalPG (K : List (Nat × Bool)) (s : S) (an : List An) (o : Oper) : Option Res :=
 match o.guard with
 | none => evalPK K s an o.op
 | some _ => none
theorem evalPG_sound {K : List (Nat × Bool)} {all : List Oper} {o : Oper} {an : List An} (hd : ∀ d, o.dst = some d → d < C.N) {r : Res} (h : evalPG K s an o = some r) (hg : AllP r.gs) : Step C all o s (r.e.app o.dst s) := by
 unfold evalPG at h
 split at h
 ·rename_i hgd
  unfold evalPK at h
  split at h
  ·rename_i d x y hop
   split at h
   ·rename_i v hv
    split at h
    ·rename_i p hp
     split at h
     ·rename_i u hu
      cases h
      have hpv : p = v := hg.1
      subst hpv
      intro a w hx KK Q hK
      have hgc : gcond all s o.guard = some [] := by rw [hgd]; rfl
      rw [gcond_ok hgc hx, if_pos (show allB [] = true from rfl)]
      refine Wp_of_does (pureDoes hd fun act w' M E hs => ⟨.bool u, ?_, .cell (.pure (.bool _))⟩) a w hx KK Q hK
      have h0 := (val_rel hs hp).bool_inv
      have h1 := (val_rel hs hu).bool_inv
      cases p <;> simp_all [execOp, asBool]
     ·cases h
    ·cases h
   ·cases h
  ·cases h
 ·cases h
theorem evalPG_agree {K : List (Nat × Bool)} {s' : S} {o : Oper} {an : List An} {r : Res} (h : evalPG K s an o = some r) (hv : ∀ x ∈ opOpers o.op, val s x = val s' x) : evalPG K s' an o = some r := by
 unfold evalPG at h ⊢
 cases hg : o.guard with
 | some _ => rw [hg] at h; cases h
 | none =>
  rw [hg] at h
  dsimp only at h ⊢
  cases hop : o.op with
  | pick c x y =>
   rw [hop] at h hv
   cases c with
   | tmp d =>
    have e1 := hv (.tmp d) (by simp [opOpers, needs, Op.operands])
    have e2 := hv x (by simp [opOpers, needs, Op.operands])
    have e3 := hv y (by simp [opOpers, needs, Op.operands])
    simp only [evalPK] at h ⊢
    cases hf : findA d K with
    | none => rw [hf] at h; cases h
    | some v =>
     rw [hf] at h
     dsimp only at h ⊢
     rw [← e1]
     cases v
     ·dsimp only at h ⊢; rw [← e3]; exact h
     ·dsimp only at h ⊢; rw [← e2]; exact h
   | _ => cases h
  | _ => rw [hop] at h; cases h
def evalGK (τ : TyTab) (P : Program) (K : List (Nat × Bool)) (all : List Oper) (s : S) (an : List An) (o : Oper) : Option Res :=
 match knownG K all o.guard with
 | none => match evalPG K s an o with
  | some r => some r
  | none => match gcond all s o.guard with
   | some c => evalG τ P c s an o
   | none => none
 | some (d, v, w) => match aget s.fr d with
  | some (.bool b) => match w with
   | true => match evalG τ P [] s an o with
    | some r => some ⟨(b = v) :: r.gs, r.eq, r.e, r.rd, r.an⟩
    | none => none
   | false => some ⟨[b = v], [], ⟨some .any, [], [], [], []⟩, [], an⟩
  | _ => none
theorem knownG_some {K : List (Nat × Bool)} {all : List Oper} {gd : Option (Nat × Bool)} {d : Nat} {v w : Bool} (h : knownG K all gd = some (d, v, w)) : ∃ j want, gd = some (j, want) ∧ guardSlot all j = some d ∧ w = (match want with | true => v | false => !v) := by
 unfold knownG at h
 split at h
 ·cases h
 ·rename_i j want
  split at h
  ·rename_i d' hd'
   split at h
   ·cases h; exact ⟨_, _, rfl, hd', rfl⟩
   ·cases h
  ·cases h
theorem gcond_eq {all : List Oper} {gd : Option (Nat × Bool)} {j d : Nat} {want b : Bool} (h : gd = some (j, want)) (hs : guardSlot all j = some d) (hb : aget s.fr d = some (.bool b)) : gcond all s gd = some [(d, bif want then b else !b)] := by
 subst h
 simp only [gcond, hs, hb]
 cases want <;> rfl
theorem evalGK_sound (hτ : TyOk C.P τ) {K : List (Nat × Bool)} {all : List Oper} {o : Oper} {an : List An} (hd : ∀ d, o.dst = some d → d < C.N) {r : Res} (h : evalGK τ C.P K all s an o = some r) (hg : AllP r.gs) (he : AllE r.eq) :
  Step C all o s (r.e.app o.dst s) := by
 unfold evalGK at h
 split at h
 ·split at h
  ·rename_i r0 hr0
   cases h
   exact evalPG_sound hd hr0 hg
  ·split at h
   ·rename_i c hc
    exact evalG_sound hτ hd hc h hg he
   ·cases h
 ·rename_i d v w hk
  obtain ⟨j, want, hgd, hgs, hw⟩ := knownG_some hk
  split at h
  ·rename_i b hb
   have hgc := gcond_eq hgd hgs hb
   split at h
   ·split at h
    ·rename_i r0 hr0
     cases h
     obtain ⟨hbv, hg⟩ := hg
     intro a w' hx KK Q hK
     rw [gcond_ok hgc hx, if_pos (by subst hbv; cases want <;> simp_all [allB])]
     unfold evalG at hr0
     split at hr0
     ·rename_i es hes
      split at hr0
      ·rename_i r1 hr1
       cases hr0
       obtain ⟨e1, e2⟩ := AllE_append.1 he
       exact evalAny_sound hτ rfl hd (obs_done rfl hes e1) hr1 hg e2 a w' hx KK Q hK
      ·cases hr0
     ·cases hr0
    ·cases h
   ·cases h
    obtain ⟨hbv, _⟩ := hg
    intro a w' hx KK Q hK
    rw [gcond_ok hgc hx, if_neg (by subst hbv; cases want <;> simp_all [allB])]
    obtain ⟨hdf, M, E, hs, hp0⟩ := hx
    refine hK _ _ ⟨by rw [defers_put]; exact hdf, M, E, ?_, hp0⟩
    cases hdd : o.dst with
    | none => exact hs
    | some d => exact hs.putS (hd d hdd) (.any _)
  ·cases h
theorem evalGK_agree {P : Program} {K : List (Nat × Bool)} {all : List Oper} {s' : S} {o : Oper} {an : List An} {r : Res} (h : evalGK τ P K all s an o = some r) (hv : ∀ x ∈ opOpers o.op, val s x = val s' x) (hg : Agree (gdKeys all o.guard) s s') (ha : Agree r.rd s s') : evalGK τ P K all s' an o = some r := by
 unfold evalGK at h ⊢
 cases hk : knownG K all o.guard with
 | none =>
  rw [hk] at h
  dsimp only at h ⊢
  cases hp : evalPG K s an o with
  | some r0 =>
   rw [hp] at h
   rw [evalPG_agree hp hv]
   exact h
  | none =>
   rw [hp] at h
   have hp' : evalPG K s' an o = none := by
    cases hq : evalPG K s' an o with
    | none => rfl
    | some r1 => rw [evalPG_agree hq fun x hx => (hv x hx).symm] at hp; cases hp
   rw [hp']
   dsimp only at h ⊢
   rw [← gcond_agree hg]
   split at h
   ·exact evalG_agree h hv ha
   ·cases h
 | some q =>
  obtain ⟨d, v, w⟩ := q
  rw [hk] at h
  dsimp only at h ⊢
  obtain ⟨j, want, hgd, hgs, hw⟩ := knownG_some hk
  have e : aget s.fr d = aget s'.fr d := (hg (0, d) (by simp [hgd, gdKeys, hgs])).1 rfl
  rw [← e]
  split at h
  ·split at h
   ·split at h
    ·rename_i r0 hr0
     cases h
     rw [evalG_agree hr0 hv ha]
    ·cases h
   ·exact h
  ·cases h
def runKK (τ : TyTab) (P : Program) (K : List (Nat × Bool)) (all : List Oper) : List Oper → S → List An → Option (List Prop × List (Bool × Bool) × S × List (List Key × List Key))
 | [], s, an => match an with
  | [] => some ([], [], s, [])
  | _ :: _ => none
 | o :: os, s, an => match evalGK τ P K all s an o with
  | some r => match runKK τ P K all os (r.e.app o.dst s) r.an with
   | some (gs, es, s', ks) => some (r.gs ++ gs, r.eq ++ es, s', (tmpKeys (opOpers o.op) ++ (gdKeys all o.guard ++ r.rd), DE.writes ⟨o.dst, r.e⟩) :: ks)
   | none => none
  | none => none
theorem runKK_text (hτ : TyOk C.P τ) {K : List (Nat × Bool)} {all : List Oper} : ∀ {os : List Oper} {s s2 : S} {an : List An} {gs : List Prop} {es : List (Bool × Bool)} {ks : List (List Key × List Key)}, dstB C.N os = true → runKK τ C.P K all os s an = some (gs, es, s2, ks) → AllP gs → AllE es →
  Wk C k s2 → ∀ a w, H C.g C.N s a w → wpList C.P all.toArray (mean C k) os a w
 | [], s, s2, an, gs, es, ks, _, h, _, _, hk, a, w, hx => by
  simp only [runKK] at h
  split at h
  ·cases h; exact wpList_nil (hk a w hx)
  ·cases h
 | o :: os, s, s2, an, gs, es, ks, hd, h, hg, he, hk, a, w, hx => by
  simp only [runKK] at h
  split at h
  ·rename_i r hr
   split at h
   ·rename_i gs' es' s' ks' hrest
    cases h
    obtain ⟨g1, g2⟩ := AllP_append.1 hg
    obtain ⟨e1, e2⟩ := AllE_append.1 he
    refine wpList_step fun K' hK => ?_
    have hd' : dstB C.N os = true := by
     simp only [dstB] at hd
     split at hd
     ·exact hd
     ·split at hd
      ·exact hd
      ·cases hd
    exact evalGK_sound hτ (dstB_get hd (by simp)) hr g1 e1 a w hx K' _ fun a' w' hH => hK _ _ (runKK_text hτ hd' hrest g2 e2 hk a' w' hH)
   ·cases h
  ·cases h
theorem runKK_draw (hτ : TyOk C.P τ) {K : List (Nat × Bool)} {all : List Oper} : ∀ {os : List Oper} {s s2 : S} {an : List An} {gs : List Prop} {es : List (Bool × Bool)} {ks : List (List Key × List Key)} {n : Nat}, os = all.drop n → dstB C.N os = true → runKK τ C.P K all os s an = some (gs, es, s2, ks) → AllP gs → AllE es →
  ∃ res, DRun C all n s res s2 ∧ res.length = os.length ∧ keysOf res = ks
 | [], s, s2, an, gs, es, ks, n, _, _, h, _, _ => by
  simp only [runKK] at h
  split at h
  ·cases h; exact ⟨[], .nil _ _, rfl, rfl⟩
  ·cases h
 | o :: os, s, s2, an, gs, es, ks, n, hdrop, hd, h, hg, he => by
  have hlt : n < all.length := by
   rcases Nat.lt_or_ge n all.length with h' | h'
   ·exact h'
   ·rw [List.drop_eq_nil_of_le h'] at hdrop; cases hdrop
  rw [List.drop_eq_getElem_cons hlt] at hdrop
  simp only [List.cons.injEq] at hdrop
  obtain ⟨ho, hos⟩ := hdrop
  have hno : all[n]? = some o := by rw [ho]; exact List.getElem?_eq_getElem hlt
  simp only [runKK] at h
  split at h
  ·rename_i r hr
   split at h
   ·rename_i gs' es' s' ks' hrest
    cases h
    obtain ⟨g1, g2⟩ := AllP_append.1 hg
    obtain ⟨e1, e2⟩ := AllE_append.1 he
    have hd' : dstB C.N os = true := by
     simp only [dstB] at hd
     split at hd
     ·exact hd
     ·split at hd
      ·exact hd
      ·cases hd
    obtain ⟨res, h1, h2, h3⟩ := runKK_draw hτ hos hd' hrest g2 e2
    refine ⟨(tmpKeys (opOpers o.op) ++ (gdKeys all o.guard ++ r.rd), ⟨o.dst, r.e⟩) :: res, .cons ?_ h1, by simp [h2], by simp only [keysOf, List.map_cons] at h3 ⊢; rw [h3]⟩
    intro s' hag a w hx K' Q hK
    have hag1 : Agree (tmpKeys (opOpers o.op)) s s' := hag.sub fun κ hκ => by simp [hκ]
    have hag2 : Agree (gdKeys all o.guard) s s' := hag.sub fun κ hκ => by simp [hκ]
    have hag3 : Agree r.rd s s' := hag.sub fun κ hκ => by simp [hκ]
    have hr' := evalGK_agree hr (val_agree hag1) hag2 hag3
    have hst := evalGK_sound hτ (dstB_get hd (by simp)) hr' g1 e1 a w hx K' Q hK
    have hoo : all.toArray[n]? = some o := by simpa using hno
    simp only [wpOp, hoo]
    split
    ·rename_i hw; rw [if_pos hw] at hst; exact .inl hst
    ·rename_i hw; rw [if_neg hw] at hst; exact hst
   ·cases h
  ·cases h
def runTK (τ : TyTab) (P : Program) (N : Nat) (K : List (Nat × Bool)) (drw : Bool) (ops : List Oper) (an : List An) (fs bs rs ms aa : List Nat) (nv : NV) (s : S) : Option (List Prop × List (Bool × Bool) × S) :=
 match dstB N ops with
 | true => match runKK τ P K ops ops s an with
  | some (gs, es, s1, ks) => match (match drw with | true => indepB ops 0 ks && backB 0 ops | false => true) with
   | true => match trimS fs bs rs ms aa nv s1 with
    | some t => some (gs, es, t)
    | none => none
   | false => none
  | none => none
 | false => none
theorem Wk_runK (hτ : TyOk C.P τ) (hm : C.P.follows .mixedOrders = true) {K : List (Nat × Bool)} {id : Nat} {drw : Bool} {ops : List Oper} {an : List An} {fs bs rs ms aa : List Nat} {nv : NV} {gs : List Prop} (h : outL (runTK τ C.P C.N K drw ops an fs bs rs ms aa nv s) = some (gs, t, outR (runTK τ C.P C.N K drw ops an fs bs rs ms aa nv s))) (hg : AllP gs) (hk : Wk C k t) : Wk C (.code (.region id ops.toArray drw) :: k) s := by
 cases hr : runTK τ C.P C.N K drw ops an fs bs rs ms aa nv s with
 | none => rw [hr] at h; cases h
 | some p =>
  obtain ⟨gs', es, t'⟩ := p
  rw [hr] at h
  simp only [outL, outR, Option.some.injEq, Prod.mk.injEq] at h
  obtain ⟨rfl, rfl, he⟩ := h
  unfold runTK at hr
  split at hr
  ·rename_i hd
   split at hr
   ·rename_i gs1 es1 s1 ks hrk
    split at hr
    ·rename_i hib
     split at hr
     ·rename_i t1 ht
      cases hr
      cases drw with
      | false => exact fun a w hx => wp_region_lit (runKK_text hτ hd hrk hg (AllE_of he) (Wk_trim ht hk) a w hx)
      | true =>
       simp only [Bool.and_eq_true] at hib
       obtain ⟨res, h1, h2, h3⟩ := runKK_draw hτ (n := 0) rfl hd hrk hg (AllE_of he)
       exact draw_region hm h1 h2 (by rw [h3]; exact hib.1) hib.2 (Wk_trim ht hk)
     ·cases hr
    ·cases hr
   ·cases hr
  ·cases hr
end Go.Dm
namespace Go.Dm
open Go
theorem Wk_rpBx {C : Cx} {k : List It} {s : S} (d i : Nat) (fs bs rs ms : List Nat) {cs : List AV} {f : List (Nat × AV)} {b : List (Nat × List AV)} {r : List (Nat × Rw)} {m : List (Nat × List (AV × AV))}
  (hx : aget s.fr d = some (.ptr i 0)) (hb : aget s.bx i = some cs) (hp : elemsOk 0 [] cs = true) (h1 : selF fs s.fr = some f) (h2 : selF bs s.bx = some b) (h3 : selF rs s.rw = some r) (h4 : selF ms s.mp = some m)
  (hc : closedB ⟨f, b, r, m, []⟩ = true) (hn : hasKey b i = false) (hk : Wk C k ⟨(d, .rp (.agg cs)) :: f, b, r, m, []⟩) : Wk C k s := by
 intro a w ⟨hdf, M, E, hs, hp0⟩
 have ht := hs.sub (t := ⟨f, b, r, m, []⟩) (fun i v => selF_get h1) (fun i v => selF_get h2) (fun i v => selF_get h3) (fun i v => selF_get h4) (fun i v h => by cases h) hc
 obtain ⟨hdN, hrel⟩ := hs.fr d _ hx
 obtain ⟨blk, q1, q2, ty, vs, q3, q4, q5⟩ := hs.bx i cs hb
 have hM0 : ∀ j v, M blk j = some v → False := fun j v hv => by
  have := (hs.mem blk j v hv).2 _ q2
  simp [sealN] at this
 have hle : ∀ b j v, M b j = some v → (fun b j => if b = blk then vs[j]? else M b j) b j = some v := fun b j v hv => by
  by_cases e : b = blk
  ·subst e; exact absurd hv (fun h => hM0 _ _ h)
  ·show (if b = blk then vs[j]? else M b j) = some v
   rw [if_neg e]; exact hv
 have hF : ¬ C.g.F blk := fun h => by
  have := (hs.foreign blk h).2.2
  rw [q2] at this; cases this
 have hcell : ∀ (j : Nat) (v : Value), vs[j]? = some v → w.cell? ⟨blk, j, none⟩ = some v := fun j v hv => by
  rw [cell_of_row w blk j vs ty (0, 0) q3]; exact hv
 have hst := ht.moreM (M' := fun b j => if b = blk then vs[j]? else M b j) (s' := ⟨f, b, r, m, []⟩) hle (fun b' j v hv => by
   by_cases e : b' = blk
   ·subst e
    have hv : vs[j]? = some v := by simpa using hv
    refine ⟨hcell j v hv, fun o ho => ?_⟩
    exfalso
    simp only [Env.keep, q2, hn] at ho
    simp at ho
   ·have hv : M b' j = some v := by simpa [e] using hv
    exact ht.mem b' j v hv) (fun b' j v hv hf => by
   by_cases e : b' = blk
   ·subst e; exact absurd hf hF
   ·have hv : M b' j = some v := by simpa [e] using hv
    exact ht.mf b' j v hv hf) rfl rfl rfl rfl (fun i r' h => ⟨r', h, r'.k, rfl, by obtain ⟨q, _, hok⟩ := ht.rw i r' h; exact hok.k⟩) (fun i h => h)
 refine hk a w ⟨hdf, _, _, { hst with fr := fun j z hj => ?_ }, Env.keep_p0 hp0 _ _ _ _⟩
 have hj : aget ((d, AV.rp (.agg cs)) :: f) j = some z := hj
 rw [aget_cons] at hj
 split at hj
 ·rename_i e
  cases hj
  refine ⟨by rw [e]; exact hdN, ?_⟩
  obtain ⟨bb, e1, e2⟩ := hrel.ptr_inv
  rw [q1] at e1; cases e1
  rw [e, e2]
  refine .cell (.pure (.rp blk 0 (.agg cs) (fun j => vs.getD j undef) (fun j hj => ?_) fun j u hu => ?_))
  ·have hj : j < cs.length := hj
   have hjv : j < vs.size := by omega
   simp [hjv, Array.getD]
  ·have hu : cs[j]? = some u := hu
   have hj := (List.getElem?_eq_some_iff.1 hu).1
   have hjv : j < vs.size := by omega
   have hv : vs[j]? = some vs[j] := by simp [hjv]
   have := q5 j _ u hv hu
   have hel := elemsOk_get hp hu
   have e0 : vs.getD j undef = vs[j] := by simp [hjv, Array.getD]
   rw [e0]
   have he : eR M E 0 [] vs[j] u := elemOk_rel hel this
   exact RelP.mono hle he
 ·exact hst.fr j z hj
theorem Nagain {C : Cx} {k : List It} {s : S} {n : Nat} {body : Code} (h : Wk C (flt 99 (.code body :: .rnd n body :: k)) s) : Wk C (.rnd (n + 1) body :: k) s := Wk_again (flt_ok 99 _ h)
end Go.Dm
namespace Go.Dm
open Go
variable {C : Cx} {k : List It} {s t : S} {τ : TyTab}
def runU (τ : TyTab) (P : Program) (N : Nat) (drw : Bool) (ops : List Oper) (an : List An) (s : S) : Option (List Prop × List (Bool × Bool) × S) :=
 match dstB N ops with
 | true => match runK τ P ops ops s an with
  | some (gs, es, s1, ks) => match (match drw with | true => indepB ops 0 ks && backB 0 ops | false => true) with
   | true => some (gs, es, s1)
   | false => none
  | none => none
 | false => none
def nxt : Option (List Prop × List (Bool × Bool) × S) → S
 | some (_, _, t) => t
 | none => S.none
def outG : Option (List Prop × List (Bool × Bool) × S) → Option (List Prop × List Bool)
 | some (gs, es, _) => some (gs, fsts es)
 | none => none
theorem L_R (hτ : TyOk C.P τ) {id : Nat} {ops : List Oper} (an : List An) {gs : List Prop} (hg : HL gs) (h : outG (runU τ C.P C.N false ops an s) = some (gs, outR (runU τ C.P C.N false ops an s))) (hk : Wk C k (nxt (runU τ C.P C.N false ops an s))) : Wk C (.code (.region id ops.toArray false) :: k) s := by
 cases hr : runU τ C.P C.N false ops an s with
 | none => rw [hr] at h; cases h
 | some p =>
  obtain ⟨gs', es, t'⟩ := p
  rw [hr] at h hk
  simp only [outG, outR, Option.some.injEq, Prod.mk.injEq] at h
  obtain ⟨rfl, he⟩ := h
  unfold runU at hr
  split at hr
  ·rename_i hd
   split at hr
   ·rename_i gs1 es1 s1 ks hrk
    split at hr
    ·cases hr
     exact fun a w hx => wp_region_lit (runK_text hτ hd hrk hg.all (AllE_of he) hk a w hx)
    ·cases hr
   ·cases hr
  ·cases hr
theorem L_D (hτ : TyOk C.P τ) (hm : C.P.follows .mixedOrders = true) {id : Nat} {ops : List Oper} (an : List An) {gs : List Prop} (hg : HL gs) (h : outG (runU τ C.P C.N true ops an s) = some (gs, outR (runU τ C.P C.N true ops an s))) (hk : Wk C k (nxt (runU τ C.P C.N true ops an s))) : Wk C (.code (.region id ops.toArray true) :: k) s := by
 cases hr : runU τ C.P C.N true ops an s with
 | none => rw [hr] at h; cases h
 | some p =>
  obtain ⟨gs', es, t'⟩ := p
  rw [hr] at h hk
  simp only [outG, outR, Option.some.injEq, Prod.mk.injEq] at h
  obtain ⟨rfl, he⟩ := h
  unfold runU at hr
  split at hr
  ·rename_i hd
   split at hr
   ·rename_i gs1 es1 s1 ks hrk
    split at hr
    ·rename_i hib
     cases hr
     simp only [Bool.and_eq_true] at hib
     obtain ⟨res, h1, h2, h3⟩ := runK_draw hτ (n := 0) rfl hd hrk hg.all (AllE_of he)
     exact draw_region hm h1 h2 (by rw [h3]; exact hib.1) hib.2 hk
    ·cases hr
   ·cases hr
  ·cases hr
theorem met' (nv : NV) (h : trimS (ks t.fr) (ks t.bx) (ks t.rw) (ks t.mp) (ks t.ar) nv s = some t := by kernel_rfl) : Wk C (.cut (fun s' => s' = t) :: k) s := Wk_met h
theorem metQ {σ : Type} {st : σ → S} {p : σ → Prop} (v : σ) (nv : NV) (hp : p v) (h : trimS (ks (st v).fr) (ks (st v).bx) (ks (st v).rw) (ks (st v).mp) (ks (st v).ar) nv s = some (st v) := by kernel_rfl) : Wk C (.cut (fun s' => ∃ v, p v ∧ s' = st v) :: k) s := Wk_metP v _ _ _ _ _ nv hp h
theorem Nrnq {σ ρ : Type} {x' : σ} {y : σ ⊕ ρ} {st : σ → S} (nv : NV) (hF : some (Sum.inl x' : σ ⊕ ρ) = some y) (ih : ∀ x', y = .inl x' → Wk C k (st x')) (h : trimS (ks (st x').fr) (ks (st x').bx) (ks (st x').rw) (ks (st x').mp) (ks (st x').ar) nv s = some (st x') := by kernel_rfl) : Wk C k s :=
 Wk_trim h (ih x' (some_elim hF).symm)
theorem Wq {res : List ResultVar} {ts : List TypeId} {r : AV} {s1 : S} (R bs rs : List Nat) (nv : NV) (hfin : ∀ s, Ends τ res ts r s1 s → Fin C s) (h : fin τ s res ts R bs rs [] [] nv = some ⟨[(0, r)], s1.bx, s1.rw, s1.mp, s1.ar⟩ := by kernel_rfl) : Wk C (.code .ret :: k) s :=
 Wk_ret (hfin _ ⟨R, bs, rs, [], [], nv, h⟩)
theorem Wz {res : List ResultVar} {ts : List TypeId} {r : AV} {s1 : S} (nv : NV) (hfin : ∀ s, Ends τ res ts r s1 s → Fin C s) (h : fin τ s res ts (ks s1.rw) (ks s1.bx) (ks s1.rw) [] [] nv = some ⟨[(0, r)], s1.bx, s1.rw, s1.mp, s1.ar⟩ := by kernel_rfl) : Wk C (.code .ret :: k) s :=
 Wk_ret (hfin _ ⟨_, _, _, [], [], nv, h⟩)
theorem Nitq {body : Code} {σ ρ : Type} {step : σ → Option (σ ⊕ ρ)} {r : ρ} {x0 : σ} (st : σ → S) (nv : NV) (h : loopO step x0 = some r)
  (hr : ∀ n x y, step x = some y → (∀ x', y = .inl x' → Wk C (.rnd n body :: k) (st x')) → (∀ r', y = .inr r' → r' = r) → Wk C (flt 99 (.code body :: .rnd n body :: k)) (st x))
  (hs : trimS (ks (st x0).fr) (ks (st x0).bx) (ks (st x0).rw) (ks (st x0).mp) (ks (st x0).ar) nv s = some (st x0) := by kernel_rfl) :
  Wk C (.code (.loop body) :: k) s := Niter st nv h hs hr
theorem appN {α : Type} (f : α → AV) {a b v : List α} (h : a ++ b = v) : v.map f = a.map f ++ b.map f := by subst h; exact app_ok f a b
theorem app0N {α : Type} (f : α → AV) {b v : List α} (h : b = v) : v.map f = [] ++ b.map f := by subst h; rfl
theorem setN {α : Type} (f : α → AV) {l v : List α} {n : Int} {x : α} (h : lset l n x = v) : v.map f = (l.map f).set n.toNat (f x) := by subst h; exact set_ok f l n x
theorem applN {α : Type} {n : Nat} (f : α → AV) {l v : List α} (h : l = v) (hl : (l.length : Int) * n ≤ 140737488351232) : (v.map f).length * n ≤ 140737488351232 := by subst h; exact appl_ok f hl
theorem aE {β : Type} {p : Prop} {k : Option β} {y : β} (h : asrt p k = some y) : p ∧ k = some y := asrt_elim h
theorem oE {α β : Type} {e : Option α} {f : α → Option β} {y : β} (h : ob e f = some y) : ∃ x, e = some x ∧ f x = some y := ob_elim h
theorem lS {α β : Type} {e : α} {f : α → β} {y : β} (h : lt e f = y) : ∃ x, e = x ∧ f x = y := lt_split h
abbrev Rw.q (ty : TypeId) (sz ver k cm : Nat) (nl : Bool) (xs : List AV) : Rw := ⟨ty, sz, ver, k, cm, nl, 0, [], xs⟩
def cE (bs rs ms as : List Nat) {P : Program} {f : FuncId} {s0 : S} {args : List AV} {r : AV} {s1 : S} (h : Pe P f s0 args r s1) : An := .callE bs rs ms as r s1
abbrev S.w (rw : List (Nat × Rw)) : S := ⟨[], [], rw, [], []⟩
theorem PeM {P : Program} {f : FuncId} {fn : Func} {c : Code} (N : Nat) (res : List ResultVar) (ts : List TypeId) {τ : TyTab} (hτ : TyOk P τ) (hfn : P.funcs[f]? = some fn)
  {s0 s1 : S} {args : List AV} {r : AV}
  (h : ∀ (Q : Exit → Act → World → Prop) (g : Gh), (∀ s, Ends τ res ts r s1 s → Fin ⟨P, Q, g, N⟩ s) → Wk ⟨P, Q, g, N⟩ (flt 99 [.code c]) ⟨argSlots 0 args, s0.bx, s0.rw, s0.mp, s0.ar⟩)
  (hbody : fn.body = some c := by rfl) (hN : fn.ntmps = N := by rfl) (hres : fn.results.toList = res := by rfl) (hlen : Nat.ble args.length N = true := by rfl) (h0 : hiS s0 = true := by rfl) (hf1 : s1.fr = [] := by rfl)
  (hname : (fn.name == "runtime.NumGoroutine") = false := by kernel_rfl) : Pe P f s0 args r s1 :=
 Pe_of hτ (Bodied_of hfn hbody hname) hfn hbody hN hres hlen h0 hf1 fun Q g hfin => flt_ok 99 _ (h Q g hfin)
def J (an : List An) (gs : List Prop) : Prop := HL gs
section
variable {α : Type} {an : List An} {gs : List Prop}
theorem J.z : J [] [] := .nil
theorem J.g {p : Prop} (h : p) (t : J an gs) : J an (p :: gs) := .cons h t
theorem J.a (a : An) (t : J an gs) : J (a :: an) gs := t
theorem J.l (f : α → AV) (l : List α) (t : J an gs) : J (.nat (l.length : Int) :: an) (((l.length : Int) = ((l.map f).length : Int)) :: gs) := .cons (len_ok f l) t
theorem J.i [Inhabited α] (f : α → AV) {l : List α} {n : Int} (h : 0 ≤ n ∧ n < (l.length : Int)) (t : J an gs) : J (.av (f (lget l n)) :: an) ((0 ≤ n ∧ (l.map f)[n.toNat]? = some (f (lget l n))) :: gs) := .cons (idx_ok f h) t
theorem J.r [Inhabited α] (f : α → AV) {l : List α} {n : Int} (h : 0 ≤ n ∧ n < (l.length : Int)) (t : J an gs) : J (.av (f (lget l n)) :: an) (((l.map f)[n.toNat]? = some (f (lget l n))) :: gs) := .cons (ldr_ok f h) t
theorem J.x (f : α → AV) {l : List α} {n : Int} (h : 0 ≤ n ∧ n < (l.length : Int)) (t : J an gs) : J an ((0 ≤ n ∧ n.toNat < (l.map f).length) :: gs) := .cons (ixr_ok f h) t
theorem J.u {l : List UInt8} {n : Int} (h : 0 ≤ n ∧ n < (l.length : Int)) (t : J an gs) : J (.u8 (lget l n) :: an) ((0 ≤ n ∧ l[n.toNat]? = some (lget l n)) :: gs) := .cons (idxS_ok h) t
theorem J.b {P : Program} {f : FuncId} {s0 s1 : S} {args : List AV} {r : AV} (h : Pe P f s0 args r s1) (t : J an gs) : J (.callB r :: an) (Pe P f s0 args r s1 :: gs) := .cons h t
theorem J.c {P : Program} {f : FuncId} {s0 s1 : S} {args : List AV} {r : AV} (h : Pe P f s0 args r s1) (t : J an gs) : J (.call r :: an) (Pe P f s0 args r s1 :: gs) := .cons h t
theorem J.q (bs rs : List Nat) {P : Program} {f : FuncId} {s0 s1 : S} {args : List AV} {r : AV} (h : Pe P f s0 args r s1) (t : J an gs) : J (.callR bs rs [] [] r :: an) (Pe P f s0 args r s1 :: gs) := .cons h t
theorem J.e (bs rs : List Nat) {P : Program} {f : FuncId} {s0 s1 : S} {args : List AV} {r : AV} (h : Pe P f s0 args r s1) (t : J an gs) : J (.callE bs rs [] [] r s1 :: an) (Pe P f s0 args r s1 :: gs) := .cons h t
theorem J.s10 {l : List α} {a : Int} (f : α → AV) (h : 0 ≤ a ∧ a ≤ (l.length : Int)) (t : J an gs) : J (.xs ((ldrop l a).map f) :: an) ((0 ≤ a ∧ a.toNat ≤ (l.map f).length ∧ (ldrop l a).map f = (l.map f).drop a.toNat) :: gs) := .cons (sl10_ok f h) t
theorem J.s01 {l : List α} {b : Int} (f : α → AV) (h : 0 ≤ b ∧ b ≤ (l.length : Int)) (t : J an gs) : J (.xs ((ltake l b).map f) :: an) ((0 ≤ b ∧ b.toNat ≤ (l.map f).length ∧ (ltake l b).map f = (l.map f).take b.toNat) :: gs) := .cons (sl01_ok f h) t
theorem J.s11 {l : List α} {a b : Int} (f : α → AV) (h : 0 ≤ a ∧ a ≤ b ∧ b ≤ (l.length : Int)) (t : J an gs) : J (.xs ((ldrop (ltake l b) a).map f) :: an) ((0 ≤ a ∧ a ≤ b ∧ b.toNat ≤ (l.map f).length ∧ (ldrop (ltake l b) a).map f = ((l.map f).take b.toNat).drop a.toNat) :: gs) := .cons (sl11_ok f h) t
theorem J.p {n : Nat} {a b : List α} (f : α → AV) (h : ((a ++ b).length : Int) * n ≤ 140737488351232) (t : J an gs) : J (.xs ((a ++ b).map f) :: an) (((a ++ b).map f = a.map f ++ b.map f) :: (((a ++ b).map f).length * n ≤ 140737488351232) :: gs) := .cons (app_ok f a b) (.cons (appl_ok f h) t)
theorem J.pN {n : Nat} {a b v : List α} (f : α → AV) (hv : a ++ b = v) (h : ((a ++ b).length : Int) * n ≤ 140737488351232) (t : J an gs) : J (.xs (v.map f) :: an) ((v.map f = a.map f ++ b.map f) :: ((v.map f).length * n ≤ 140737488351232) :: gs) := .cons (appN f hv) (.cons (applN f hv h) t)
theorem J.p0 {n : Nat} {b : List α} (f : α → AV) (h : (b.length : Int) * n ≤ 140737488351232) (t : J an gs) : J (.xs (b.map f) :: an) ((b.map f = [] ++ b.map f) :: ((b.map f).length * n ≤ 140737488351232) :: gs) := .cons (app0_ok f b) (.cons (appl_ok f h) t)
theorem J.p0N {n : Nat} {b v : List α} (f : α → AV) (hv : b = v) (h : (b.length : Int) * n ≤ 140737488351232) (t : J an gs) : J (.xs (v.map f) :: an) ((v.map f = [] ++ b.map f) :: ((v.map f).length * n ≤ 140737488351232) :: gs) := .cons (app0N f hv) (.cons (applN f hv h) t)
theorem J.w [Inhabited α] (f : α → AV) {l : List α} {n : Int} (h : 0 ≤ n ∧ n < (l.length : Int)) (x : α) (t : J an gs) : J (.av (f (lget l n)) :: .xs ((lset l n x).map f) :: an) (((l.map f)[n.toNat]? = some (f (lget l n))) :: ((lset l n x).map f = (l.map f).set n.toNat (f x)) :: (0 ≤ n.toNat) :: gs) := .cons (ldr_ok f h) (.cons (set_ok f l n x) (.cons (Nat.zero_le _) t))
theorem J.wN [Inhabited α] (f : α → AV) {l v : List α} {n : Int} {x : α} (h : 0 ≤ n ∧ n < (l.length : Int)) (hv : lset l n x = v) (t : J an gs) : J (.av (f (lget l n)) :: .xs (v.map f) :: an) (((l.map f)[n.toNat]? = some (f (lget l n))) :: (v.map f = (l.map f).set n.toNat (f x)) :: (0 ≤ n.toNat) :: gs) := .cons (ldr_ok f h) (.cons (setN f hv) (.cons (Nat.zero_le _) t))
end
theorem Nitr {body : Code} {σ ρ : Type} {step : σ → Option (σ ⊕ ρ)} {r : ρ} {x0 : σ} (h : loopO step x0 = some r) (nv : NV) (st : σ → S)
  (hr : ∀ n x y, step x = some y → (∀ x', y = .inl x' → Wk C (.rnd n body :: k) (st x')) → (∀ r', y = .inr r' → r' = r) → Wk C (flt 99 (.code body :: .rnd n body :: k)) (st x))
  (hs : trimS (ks (st x0).fr) (ks (st x0).bx) (ks (st x0).rw) (ks (st x0).mp) (ks (st x0).ar) nv s = some (st x0) := by kernel_rfl) :
  Wk C (.code (.loop body) :: k) s := Niter st nv h hs hr
theorem Nits {body : Code} {σ ρ : Type} {step : σ → Option (σ ⊕ ρ)} {r : ρ} {x0 : σ} (h : loopO step x0 = some r) (nv : NV) (st : S → σ → S)
  (hr : ∀ n x y, step x = some y → (∀ x', y = .inl x' → Wk C (.rnd n body :: k) (st s x')) → (∀ r', y = .inr r' → r' = r) → Wk C (flt 99 (.code body :: .rnd n body :: k)) (st s x))
  (hs : trimS (ks (st s x0).fr) (ks (st s x0).bx) (ks (st s x0).rw) (ks (st s x0).mp) (ks (st s x0).ar) nv s = some (st s x0) := by kernel_rfl) :
  Wk C (.code (.loop body) :: k) s := Nitr h nv (st s) hr hs
theorem NmQ {x : It} {σ : Type} (p : σ → Prop) (st : σ → S) (h1 : Wk C (x :: .cut (fun s' => ∃ v, p v ∧ s' = st v) :: k) s) (h2 : ∀ v, p v → Wk C (flt 99 k) (st v)) : Wk C (x :: k) s := NmeetP st p h1 h2
theorem NmS {x : It} {σ : Type} (p : σ → Prop) (st : S → σ → S) (h1 : Wk C (x :: .cut (fun s' => ∃ v, p v ∧ s' = st s v) :: k) s) (h2 : ∀ v, p v → Wk C (flt 99 k) (st s v)) : Wk C (x :: k) s := NmeetP (st s) p h1 h2
theorem NmT {x : It} (t : S → S) (h1 : Wk C (x :: .cut (fun s' => s' = t s) :: k) s) (h2 : Wk C (flt 99 k) (t s)) : Wk C (x :: k) s := Nmeet (t s) h1 h2
def eqZ : List Value → List AV → Bool
 | [], [] => true
 | .int k n :: l, .int k' m :: r => decide (k = k') && decide (n = m) && eqZ l r
 | .bool a :: l, .bool b :: r => (a == b) && eqZ l r
 | .string a :: l, .str [] :: r => decide (a.data.toList = []) && eqZ l r
 | .slice none 0 0 :: l, .nils :: r => eqZ l r
 | .pointer none :: l, .nilp :: r => eqZ l r
 | .nilFunc :: l, .nilfn :: r => eqZ l r
 | .map none :: l, .nilmp :: r => eqZ l r
 | _, _ => false
theorem eqZ_ok : ∀ {l : List Value} {r : List AV}, eqZ l r = true → l = r.map AV.zv ∧ r.all AV.isZ = true := by
 intro l r h
 induction l, r using eqZ.induct <;> simp only [eqZ, Bool.and_eq_true, decide_eq_true_eq, beq_iff_eq, Bool.false_eq_true] at h
 case case1 => exact ⟨rfl, rfl⟩
 case case2 ih => obtain ⟨⟨rfl, rfl⟩, h⟩ := h; obtain ⟨rfl, h2⟩ := ih h; exact ⟨rfl, by simpa [AV.isZ] using h2⟩
 case case3 ih => obtain ⟨rfl, h⟩ := h; obtain ⟨rfl, h2⟩ := ih h; exact ⟨rfl, by simpa [AV.isZ] using h2⟩
 case case4 a l r ih =>
  obtain ⟨h1, h⟩ := h; obtain ⟨rfl, h2⟩ := ih h
  refine ⟨?_, by simpa [AV.isZ] using h2⟩
  obtain ⟨⟨d⟩⟩ := a
  simp only at h1
  subst h1
  rfl
 case case5 ih => obtain ⟨rfl, h2⟩ := ih h; exact ⟨rfl, by simpa [AV.isZ] using h2⟩
 case case6 ih => obtain ⟨rfl, h2⟩ := ih h; exact ⟨rfl, by simpa [AV.isZ] using h2⟩
 case case7 ih => obtain ⟨rfl, h2⟩ := ih h; exact ⟨rfl, by simpa [AV.isZ] using h2⟩
 case case8 ih => obtain ⟨rfl, h2⟩ := ih h; exact ⟨rfl, by simpa [AV.isZ] using h2⟩
def chkK (P : Program) (t : TypeId) (k : TK) : Bool := match P.underlying t with
 | some (.int a) => match k with | .int b => decide (a = b) | _ => false
 | some .bool => match k with | .bool => true | _ => false
 | some .string => match k with | .str => true | _ => false
 | some (.pointer a) => match k with | .ptr b => Nat.beq a b | _ => false
 | some (.slice a) => match k with | .slice b => Nat.beq a b | _ => false
 | some (.func _ _ _) => match k with | .func => true | _ => false
 | some (.map a b) => match k with | .map c d => Nat.beq a c && Nat.beq b d | _ => false
 | some (.array n a) => match k with | .arr b m => Nat.beq a b && Nat.beq n m | _ => false
 | some (.struct fs) => match k with
  | .struct fl eq => decide (fs.toList.map (fun f => (f.type, f.offset)) = fl) && (!eq || (!P.stoodInHeld t && !P.eqGuardType P.depth t && fs.toList.all (fun f => decide (f.name ≠ "_"))))
  | _ => false
 | _ => false
theorem chkK_ok {P : Program} {t : TypeId} {k : TK} (h : chkK P t k = true) : TKOk P t k := by
 unfold chkK at h
 split at h <;> rename_i hu <;> first
  | (cases h; done)
  | split at h
 all_goals first
  | (cases h; done)
  | skip
 ·exact (by simpa using h : _ = _) ▸ hu
 ·exact hu
 ·exact hu
 ·exact Nat.eq_of_beq_eq_true h ▸ hu
 ·exact Nat.eq_of_beq_eq_true h ▸ hu
 ·exact ⟨_, _, _, hu⟩
 ·simp only [Bool.and_eq_true] at h
  exact Nat.eq_of_beq_eq_true h.1 ▸ Nat.eq_of_beq_eq_true h.2 ▸ hu
 ·simp only [Bool.and_eq_true] at h
  exact Nat.eq_of_beq_eq_true h.1 ▸ Nat.eq_of_beq_eq_true h.2 ▸ hu
 ·rename_i fs _ fl eq
  simp only [Bool.and_eq_true, decide_eq_true_eq] at h
  refine ⟨fs, hu, h.1, fun e => ?_⟩
  subst e
  have h2 := h.2
  simp only [Bool.not_true, Bool.false_or, Bool.and_eq_true, Bool.not_eq_true'] at h2
  exact ⟨h2.1.1, h2.1.2, h2.2⟩
def chk1 (P : Program) (t : TypeId) (i : TI) : Bool := match P.info? t with
 | some x => match x.zero with
  | some z => Nat.beq x.size i.sz && Nat.beq x.bytes i.bytes && eqZ z.cells.toList i.zero && (z.isAgg' == i.k.agg) && Nat.beq i.zero.length i.sz && chkK P t i.k && (i.k.agg || Nat.beq i.sz 1)
  | none => false
 | none => false
theorem chk1_ok {P : Program} {t : TypeId} {i : TI} (h : chk1 P t i = true) : TyOk1 P t i := by
 unfold chk1 at h
 split at h
 ·rename_i x hx
  split at h
  ·rename_i z hz
   simp only [Bool.and_eq_true, beq_iff_eq] at h
   obtain ⟨⟨⟨⟨⟨⟨h1, h2⟩, h3⟩, h4⟩, h5⟩, h6⟩, h7⟩ := h
   obtain ⟨h3, h8⟩ := eqZ_ok h3
   refine TyOk1.of ?_ h8 (Nat.eq_of_beq_eq_true h5) (chkK_ok h6) ?_
   ·rw [hx]
    simp only [Option.map_some, hz, Nat.eq_of_beq_eq_true h1, Nat.eq_of_beq_eq_true h2, h3, h4]
   ·simp only [Bool.or_eq_true, decide_eq_true_eq] at h7 ⊢
    exact h7.imp id Nat.eq_of_beq_eq_true
  ·cases h
 ·cases h
def chkL (P : Program) : Nat → List (Option TI) → Bool
 | _, [] => true
 | k, none :: l => chkL P (k + 1) l
 | k, some i :: l => chk1 P k i && chkL P (k + 1) l
theorem chkL_ok {P : Program} : ∀ {l : List (Option TI)} {k : Nat}, chkL P k l = true → TyAll P k l
 | [], _, _ => trivial
 | none :: l, k, h => chkL_ok (l := l) h
 | some i :: l, k, h => by
  simp only [chkL, Bool.and_eq_true] at h
  exact ⟨chk1_ok h.1, chkL_ok h.2⟩
theorem chk_ok {P : Program} {l : List (Option TI)} (h : chkL P 0 l = true) : TyOk P (tyTab l) := (chkL_ok h).ok
abbrev tF : Option TI := some ⟨.func, 1, 8, [.nilfn], [0]⟩
abbrev tI : Option TI := some ⟨.int .i64, 1, 8, [.int .i64 0], [0]⟩
abbrev tS (e n : Nat) : Option TI := some ⟨.slice e, 1, 24, [.nils], [n]⟩
abbrev tP (e : Nat) : Option TI := some ⟨.ptr e, 1, 8, [.nilp], [0]⟩
end Go.Dm
namespace Go.Dm
open Go
theorem bless_eq : ∀ (x y : List UInt8), Op.bytesLess x y = decide (x < y)
 | [], [] => by simp [Op.bytesLess]
 | _ :: _, [] => by simp [Op.bytesLess]
 | [], _ :: _ => by simp [Op.bytesLess]
 | a :: x, b :: y => by
  rw [Op.bytesLess, bless_eq x y]
  simp only [List.cons_lt_cons_iff]
  by_cases h1 : a < b <;> by_cases h2 : a = b <;> by_cases h3 : x < y <;> simp [h1, h2, h3]
theorem bl_irr (x : List UInt8) : Op.bytesLess x x = false := by
 rw [bless_eq]; exact decide_eq_false (List.lt_irrefl x)
theorem bl_trans {x y z : List UInt8} (h1 : Op.bytesLess x y = true) (h2 : Op.bytesLess y z = true) : Op.bytesLess x z = true := by
 rw [bless_eq] at *
 exact decide_eq_true (List.lt_trans (of_decide_eq_true h1) (of_decide_eq_true h2))
theorem bl_asymm {x y : List UInt8} (h1 : Op.bytesLess x y = true) : Op.bytesLess y x = false := by
 cases h : Op.bytesLess y x with
 | false => rfl
 | true => have := bl_trans h1 h; rw [bl_irr] at this; cases this
theorem bl_tri (x y : List UInt8) : Op.bytesLess x y = true ∨ x = y ∨ Op.bytesLess y x = true := by
 have := bytesLess_total x y
 cases h1 : Op.bytesLess x y with
 | true => exact .inl rfl
 | false =>
  cases h2 : Op.bytesLess y x with
  | true => exact .inr (.inr rfl)
  | false =>
   rw [h1, h2] at this
   exact .inr (.inl (by simpa using this))
theorem bl_ne {x y : List UInt8} (h : Op.bytesLess x y = true) : x ≠ y := fun e => by rw [e, bl_irr] at h; cases h
theorem fdiv_nat' (n k : Nat) : Int.fdiv (n : Int) (k : Int) = ((n / k : Nat) : Int) := by
 rw [Int.fdiv_eq_ediv_of_nonneg _ (by omega)]; rfl
theorem bl_le_trans {x y z : List UInt8} (h1 : Op.bytesLess y x = false) (h2 : Op.bytesLess y z = true) : Op.bytesLess x z = true := by
 rcases bl_tri x y with h | h | h
 ·exact bl_trans h h2
 ·rw [h]; exact h2
 ·rw [h] at h1; cases h1
end Go.Dm
namespace Go.Dm
open Go Go.RowKit
def setC (o : Nat) (x : AV) : AV → AV
 | .agg cs => .agg (cs.set o x)
 | _ => x
theorem setC_cells {o : Nat} {x c u : AV} (hc : u.cells[o]? = some c) (hx : x.cells = [x]) : (setC o x u).cells = u.cells.set o x := by
 cases u with
 | agg cs => rfl
 | _ =>
  cases o with
  | zero => exact hx
  | succ o => simp [AV.cells] at hc
theorem flat_setC {xs : List AV} {sz K o : Nat} {u c x : AV} (hz : ∀ y ∈ xs, y.cells.length = sz) (hu : xs[K]? = some u) (hc : u.cells[o]? = some c) (hx : x.cells = [x]) :
  flat (xs.set K (setC o x u)) = (flat xs).set (K * sz + o) x := by
 have ho := (List.getElem?_eq_some_iff.1 hc).1
 have hul : u.cells.length = sz := hz u (List.mem_of_getElem? hu)
 have hlt := (List.getElem?_eq_some_iff.1 (flat_at hz hu hc)).1
 rw [flat_set (o := o) (ys := [x]) hz hu (by rw [setC_cells hc hx, List.set_eq_take_append_cons_drop, if_pos ho]; simp) (by simp; omega), List.set_eq_take_append_cons_drop, if_pos hlt]
 simp
theorem setC_es {xs : List AV} {sz K o : Nat} {u c x : AV} (hz : ∀ y ∈ xs, y.cells.length = sz) (hu : xs[K]? = some u) (hc : u.cells[o]? = some c) (hx : x.cells = [x]) :
  ∀ y ∈ xs.set K (setC o x u), y.cells.length = sz := fun y hy => by
 rcases List.mem_or_eq_of_mem_set hy with h | h
 ·exact hz y h
 ·rw [h, setC_cells hc hx, List.length_set]; exact hz u (List.mem_of_getElem? hu)
section
variable {g : Gh} {N : Nat} {M : Mem} {E E' : Env} {s : S} {tmps : Array Value} {w : World} {v : Value}
theorem cR.open {pu : Nat} {ns : List Nat} {kd i p : Nat} {u : AV} (h : cR M E w pu ns kd i p v u) (hE : E.le E') (ho : ∀ b, E.own b = some (kd, i, p) → E'.own b = some (kd, i, p)) : RelC M E' w kd i p v u := by
 match pu, h with
 | 0, h => exact .rel (.pure h)
 | 1, h => exact .rel (RelS.monoE (Env.le_trans (Env.arO_sub E ns) hE) h)
 | n + 2, h => exact RelC.mono (fun _ _ _ h => h) (Env.le_trans (Env.arP_sub E ns _) hE) (fun b hb => ⟨ho b (by rwa [Env.arP_own] at hb), rfl⟩) h
theorem cR.own_inv {pu : Nat} {ns : List Nat} {kd i p : Nat} {ty : TypeId} {sz kk : Nat} {ys : List AV} (h : cR M E w pu ns kd i p v (.own ty sz kk ys)) :
  ∃ a n c, v = .slice a n c ∧ n = ys.length ∧ n ≤ c ∧ c ≤ maxLen ∧ (∀ x ∈ ys, x.cells.length = sz) ∧ kk ≤ n ∧ (c = 0 ∨ ∃ (blk : Nat) (vs : Array Value), a = some ⟨blk, 0, none⟩ ∧ E.own blk = some (kd, i, p) ∧
   w.heap[blk]? = some (.cells vs ty (0, 0)) ∧ vs.size = c * sz ∧ ∀ (j : Nat) (u : AV), (flat ys)[j]? = some u → ∃ v, vs[j]? = some v ∧ RelP M v u) := by
 match pu, h with
 | 0, h => cases h
 | 1, h => cases h with
  | pure h => cases h
 | n + 2, h =>
  have h : RelC M (E.arP ns (n + 2)) w kd i p v (.own ty sz kk ys) := h
  cases h with
  | rel h => cases h with
   | pure h => cases h
  | own _ _ _ _ a n c hn hc hm hz hk hb =>
   refine ⟨a, n, c, rfl, hn, hc, hm, hz, hk, ?_⟩
   rwa [Env.arP_own] at hb
theorem St.openCell (hs : St g N M E s tmps w) {i j K o : Nat} {r : Rw} {u : AV} {ty : TypeId} {sz kk : Nat} {ys : List AV} (hr : aget s.rw i = some r) (hu : r.xs[K]? = some u) (hc : u.cells[o]? = some (.own ty sz kk ys))
  (hj : aget s.rw j = none) (hB : j < nB) :
  ∃ E', E.up E' ∧ St g N M E' { s with rw := (j, ⟨ty, sz, 0, kk, 0, false, 0, [], ys⟩) :: (i, { r with pu := 3, xs := r.xs.set K (setC o (.row j 0) u) }) :: s.rw } tmps w := by
 have hij : i ≠ j := by rintro rfl; rw [hr] at hj; cases hj
 obtain ⟨q, hq, hok⟩ := hs.rw i r hr
 rcases hok.blk with hb | ⟨blk, vs, g1, g2, g3, g4, g5⟩
 ·have h1 := hok.n
  have h2 := hok.nc
  have h0 : r.xs = [] := List.eq_nil_of_length_eq_zero (by omega)
  rw [h0] at hu; simp at hu
 have hat := flat_at hok.es hu hc
 have hfl := flat_setC (x := .row j 0) hok.es hu hc rfl
 obtain ⟨v, hv, hrel⟩ := g5 _ _ hat
 rw [Nat.zero_add] at hrel
 generalize hP : K * r.sz + o = P at hat hfl hv hrel
 obtain ⟨a, n, c, rfl, hn, hnc, hm, hz, hkk, hblk⟩ := hrel.own_inv
 have hle : E.le { E with rw := fun j' => if j' = j then some ⟨a, n, c, sz, 0⟩ else E.rw j', own := fun b => if E.own b = some (5, i, P) then some (1, j, 0) else if E.own b = some (1, j, 0) then none else E.own b } := by
  refine ⟨fun j b hb => hb, fun j' q hq => ?_, fun j r hr => hr, fun j bs h => ⟨[], by simpa using h⟩⟩
  have hne : j' ≠ j := by rintro rfl; rw [hs.rwn j' hj] at hq; cases hq
  exact ⟨q, by simp only [if_neg hne]; exact hq, Nat.le_refl _, fun _ => ⟨rfl, rfl, rfl, rfl⟩⟩
 have hkeep : ∀ b o', E.own b = some o' → o' ≠ (5, i, P) → o' ≠ (1, j, 0) → (if E.own b = some (5, i, P) then some ((1 : Nat), j, 0) else if E.own b = some (1, j, 0) then none else E.own b) = some o' := fun b o' h h1 h2 => by
  rw [if_neg (by rw [h]; simpa using h1), if_neg (by rw [h]; simpa using h2)]; exact h
 refine ⟨_, ⟨hle, fun E0 hp => ⟨hp.bx, fun j' q2 hj' h hv => hp.rw j' q2 hj' (by simp only at h; rwa [if_neg (by omega)] at h) hv, hp.mp, hp.ar⟩⟩, ?_⟩
 refine hs.grow' (fun b => E.own b = some (5, i, P) ∨ E.own b = some (1, j, 0)) (fun b _ h => by rcases h with h | h <;> exact ⟨_, h⟩) (Grow.refl w _) hle (fun b hb hX => ?_) (fun b o' hb => ?_) rfl (fun b jj v hX hM => ?_) (fun b o' ho hX => ?_)
  (fun k cs hk => .inl (hs.bxK (fun b i' h ho => by rcases h with h | h <;> (rw [ho] at h; cases h)) k cs hk)) hs.bxn (fun j2 r2 hj2 => ?_) (fun j2 hj2 => ?_)
  (fun k es hk => .inl (hs.mpK (fun b i' h ho => by rcases h with h | h <;> (rw [ho] at h; cases h)) k es hk)) hs.mpn
  (fun k r hk => .inl ⟨hk, rfl, fun b p ho h => by rcases ho with ho | ho <;> rcases h with h | h <;> (rw [ho] at h; cases h)⟩) hs.arn
 ·show (if E.own b = some (5, i, P) then some ((1 : Nat), j, 0) else if E.own b = some (1, j, 0) then none else E.own b) = E.own b
  rw [if_neg fun h => hX (.inl h), if_neg fun h => hX (.inr h)]
 ·simp only at hb
  split at hb
  ·rename_i h; exact hs.live b _ h
  ·split at hb
   ·cases hb
   ·exact hs.live b _ hb
 ·obtain ⟨h1, h2⟩ := hs.mem b jj v hM
  refine ⟨h1, fun o' ho' => ?_⟩
  simp only at ho'
  rcases hX with h | h
  ·rw [if_pos h] at ho'
   cases ho'
   have := h2 _ h
   rw [sealN_row (by rw [aget_cons, if_pos rfl])]
   simpa [sealN, hr, hat, ownK] using this
  ·have := h2 _ h
   simp [sealN, hj] at this
 ·obtain ⟨kd, j', p⟩ := o'
  by_cases hjj : j' = j
  ·subst hjj
   by_cases h5 : kd = 5
   ·subst h5; simp [sealN, hj]
   ·by_cases h1 : kd = 1
    ·subst h1
     by_cases hp : p = 0
     ·subst hp; exact absurd (.inr ho) hX
     ·simp [sealN, hp]
    ·simp [sealN, h1, h5]
  ·by_cases hii : j' = i
   ·subst hii
    by_cases h5 : kd = 5
    ·subst h5
     have hp : P ≠ p := by rintro rfl; exact hX (.inl ho)
     simp [sealN, aget_cons, hjj, hr, hfl, List.getElem?_set_ne hp]
    ·simp [sealN, aget_cons, hjj, hr, h5]
   ·simp only [sealN, aget_cons, if_neg hjj, if_neg hii]; exact Nat.le_refl _
 ·simp only [aget_cons] at hj2
  split at hj2
  ·rename_i e; subst e
   cases hj2
   refine .inr ⟨_, if_pos rfl, ⟨rfl, rfl, hn, hnc, hm, hz, by show kk ≤ ys.length; omega, Nat.zero_le _, (fun h => by cases h), ?_⟩⟩
   rcases hblk with h0 | ⟨b2, vs2, e1, e2, e3, e4, e5⟩
   ·exact .inl h0
   ·exact .inr ⟨b2, vs2, e1, if_pos e2, e3, e4, fun jj u2 hu2 => e5 jj u2 hu2⟩
  ·rename_i hne
   split at hj2
   ·rename_i e; subst e
    cases hj2
    refine .inr ⟨q, (if_neg hij).trans hq, ⟨hok.sz, hok.ver, by simpa using hok.n, hok.nc, hok.cap, setC_es hok.es hu hc rfl, by simpa using hok.k, hok.cm, fun h => by simpa using hok.nl h, .inr ⟨blk, vs, g1, hkeep blk _ g2 (by simp) (by simpa using hij), g3, g4, ?_⟩⟩⟩
    intro p u2 hu2
    rw [hfl, List.getElem?_set] at hu2
    split at hu2
    ·rename_i e; subst e
     split at hu2
     ·cases hu2
      refine ⟨_, hv, ?_⟩
      exact RelC.rel (.row j 0 n c a ⟨a, n, c, sz, 0⟩ (if_pos rfl) (Nat.le_refl _) fun _ => ⟨rfl, rfl, rfl⟩)
     ·cases hu2
    ·rename_i hp
     obtain ⟨v2, hv2, hr2⟩ := g5 p u2 hu2
     exact ⟨v2, hv2, hr2.open hle fun b hb => hkeep b _ hb (by simp; omega) (by simp)⟩
   ·rename_i hne2
    refine .inl ⟨hj2, if_neg hne, fun b p ho h => ?_⟩
    rcases ho with ho | ho <;> rcases h with h | h <;> (rw [ho] at h; cases h) <;> first | exact hne rfl | exact hne2 rfl
 ·simp only [aget_cons] at hj2
  split at hj2
  ·cases hj2
  ·rename_i hne
   split at hj2
   ·cases hj2
   ·show (if j2 = j then _ else E.rw j2) = none
    rw [if_neg hne]; exact hs.rwn j2 hj2
theorem St.closeCell (hs : St g N M E s tmps w) {i j K o vr : Nat} {r rj : Rw} {u : AV} (hr : aget s.rw i = some r) (hp3 : r.pu = 3) (hu : r.xs[K]? = some u) (hc : u.cells[o]? = some (.row j vr))
  (hj : aget s.rw j = some rj) (hvr : vr = rj.ver) (hpj : rj.pu = 0) (hij : i ≠ j) :
  ∃ E', E.up E' ∧ St g N M E' { s with rw := (j, { rj with ver := rj.ver + 1, k := 0, cm := 0, nl := false, xs := [] }) :: (i, { r with xs := r.xs.set K (setC o (.own rj.ty rj.sz rj.xs.length rj.xs) u) }) :: s.rw } tmps w := by
 obtain ⟨q, hq, hok⟩ := hs.rw i r hr
 obtain ⟨qj, hqj, hokj⟩ := hs.rw j rj hj
 rcases hok.blk with hb | ⟨blk, vs, g1, g2, g3, g4, g5⟩
 ·have h1 := hok.n
  have h2 := hok.nc
  have h0 : r.xs = [] := List.eq_nil_of_length_eq_zero (by omega)
  rw [h0] at hu; simp at hu
 have hat := flat_at hok.es hu hc
 have hfl := flat_setC (x := .own rj.ty rj.sz rj.xs.length rj.xs) hok.es hu hc rfl
 obtain ⟨v, hv, hrel⟩ := g5 _ _ hat
 rw [Nat.zero_add] at hrel
 generalize hP : K * r.sz + o = P at hat hfl hv hrel
 obtain ⟨n, c, a, q', rfl, hq', _, himp⟩ := (Rel.cell (hrel.cell rfl)).row_inv
 rw [hqj] at hq'; cases hq'
 obtain ⟨e1, e2, e3⟩ := himp (by rw [hvr, hokj.ver])
 have hle : E.le { E with rw := fun j' => if j' = j then some ⟨none, 0, 0, rj.sz, rj.ver + 1⟩ else E.rw j', own := fun b => if E.own b = some (1, j, 0) then some (5, i, P) else if E.own b = some (5, i, P) then none else E.own b } := by
  refine ⟨fun j b hb => hb, fun j' q hq => ?_, fun j r hr => hr, fun j bs h => ⟨[], by simpa using h⟩⟩
  by_cases hne : j' = j
  ·subst hne
   rw [hqj] at hq; cases hq
   have := hokj.ver
   exact ⟨_, if_pos rfl, by show qj.ver ≤ rj.ver + 1; omega, fun e => by have e : qj.ver = rj.ver + 1 := e; omega⟩
  ·exact ⟨q, by simp only [if_neg hne]; exact hq, Nat.le_refl _, fun _ => ⟨rfl, rfl, rfl, rfl⟩⟩
 have hkeep : ∀ b o', E.own b = some o' → o' ≠ (5, i, P) → o' ≠ (1, j, 0) → (if E.own b = some (1, j, 0) then some ((5 : Nat), i, P) else if E.own b = some (5, i, P) then none else E.own b) = some o' := fun b o' h h1 h2 => by
  rw [if_neg (by rw [h]; simpa using h2), if_neg (by rw [h]; simpa using h1)]; exact h
 refine ⟨_, ⟨hle, fun E0 hp => ⟨hp.bx, fun j' q2 hj' h hv => ?_, hp.mp, hp.ar⟩⟩, ?_⟩
 ·simp only at h
  split at h
  ·cases h; simp at hv
  ·exact hp.rw j' q2 hj' h hv
 refine hs.grow' (fun b => E.own b = some (5, i, P) ∨ E.own b = some (1, j, 0)) (fun b _ h => by rcases h with h | h <;> exact ⟨_, h⟩) (Grow.refl w _) hle (fun b hb hX => ?_) (fun b o' hb => ?_) rfl (fun b jj v hX hM => ?_) (fun b o' ho hX => ?_)
  (fun k cs hk => .inl (hs.bxK (fun b i' h ho => by rcases h with h | h <;> (rw [ho] at h; cases h)) k cs hk)) hs.bxn (fun j2 r2 hj2 => ?_) (fun j2 hj2 => ?_)
  (fun k es hk => .inl (hs.mpK (fun b i' h ho => by rcases h with h | h <;> (rw [ho] at h; cases h)) k es hk)) hs.mpn
  (fun k r hk => .inl ⟨hk, rfl, fun b p ho h => by rcases ho with ho | ho <;> rcases h with h | h <;> (rw [ho] at h; cases h)⟩) hs.arn
 ·show (if E.own b = some (1, j, 0) then some ((5 : Nat), i, P) else if E.own b = some (5, i, P) then none else E.own b) = E.own b
  rw [if_neg fun h => hX (.inr h), if_neg fun h => hX (.inl h)]
 ·simp only at hb
  split at hb
  ·rename_i h; exact hs.live b _ h
  ·split at hb
   ·cases hb
   ·exact hs.live b _ hb
 ·obtain ⟨h1, h2⟩ := hs.mem b jj v hM
  refine ⟨h1, fun o' ho' => ?_⟩
  simp only at ho'
  rcases hX with h | h
  ·have := h2 _ h
   simp [sealN, hr, hat, ownK] at this
  ·rw [if_pos h] at ho'
   cases ho'
   have := h2 _ h
   rw [sealN_row hj] at this
   have hlt := (List.getElem?_eq_some_iff.1 hat).1
   have hle2 := Nat.lt_of_lt_of_le this (Nat.mul_le_mul_right _ hokj.k)
   simpa [sealN, aget_cons, hij, hfl, List.getElem?_set_self hlt, ownK] using hle2
 ·obtain ⟨kd, j', p⟩ := o'
  by_cases hjj : j' = j
  ·subst hjj
   by_cases h5 : kd = 5
   ·subst h5; simp [sealN, hj, hokj.own0 hpj]
   ·by_cases h1 : kd = 1
    ·subst h1
     by_cases hp : p = 0
     ·subst hp; exact absurd (.inr ho) hX
     ·simp [sealN, hp]
    ·simp [sealN, h1, h5]
  ·by_cases hii : j' = i
   ·subst hii
    by_cases h5 : kd = 5
    ·subst h5
     have hp : P ≠ p := by rintro rfl; exact hX (.inl ho)
     simp [sealN, aget_cons, hjj, hr, hfl, List.getElem?_set_ne hp]
    ·simp [sealN, aget_cons, hjj, hr, h5]
   ·simp only [sealN, aget_cons, if_neg hjj, if_neg hii]; exact Nat.le_refl _
 ·simp only [aget_cons] at hj2
  split at hj2
  ·rename_i e; subst e
   cases hj2
   exact .inr ⟨_, if_pos rfl, ⟨rfl, rfl, rfl, Nat.le_refl _, Nat.zero_le _, by simp, Nat.le_refl _, Nat.le_refl _, (fun h => by cases h), .inl rfl⟩⟩
  ·rename_i hne
   split at hj2
   ·rename_i e; subst e
    cases hj2
    refine .inr ⟨q, (if_neg hij).trans hq, ⟨hok.sz, hok.ver, by simpa using hok.n, hok.nc, hok.cap, setC_es hok.es hu hc rfl, by simpa using hok.k, hok.cm, fun h => by simpa using hok.nl h, .inr ⟨blk, vs, g1, hkeep blk _ g2 (by simp) (by simpa using hij), g3, g4, ?_⟩⟩⟩
    intro p u2 hu2
    rw [hfl, List.getElem?_set] at hu2
    rw [hp3]
    split at hu2
    ·rename_i e; subst e
     split at hu2
     ·cases hu2
      refine ⟨_, hv, ?_⟩
      have h1 := hokj.n
      have h2 := hokj.nc
      have h3 := hokj.cap
      refine RelC.own rj.ty rj.sz rj.xs.length rj.xs a n c (by omega) (by omega) (by omega) hokj.es (by omega) ?_
      rcases hokj.blk with h0 | ⟨b2, vs2, f1, f2, f3, f4, f5⟩
      ·exact .inl (by omega)
      ·refine .inr ⟨b2, vs2, by rw [e1, f1], ?_, f3, by rw [f4, e3, hokj.sz], fun jj u2 hu2 => cs_pure f5 hpj jj u2 hu2⟩
       rw [Nat.zero_add]
       exact if_pos f2
     ·cases hu2
    ·rename_i hp
     obtain ⟨v2, hv2, hr2⟩ := g5 p u2 hu2
     exact ⟨v2, hv2, hr2.open hle fun b hb => hkeep b _ hb (by simp; omega) (by simp)⟩
   ·rename_i hne2
    refine .inl ⟨hj2, if_neg hne, fun b p ho h => ?_⟩
    rcases ho with ho | ho <;> rcases h with h | h <;> (rw [ho] at h; cases h) <;> first | exact hne rfl | exact hne2 rfl
 ·simp only [aget_cons] at hj2
  split at hj2
  ·cases hj2
  ·rename_i hne
   split at hj2
   ·cases hj2
   ·show (if j2 = j then _ else E.rw j2) = none
    rw [if_neg hne]; exact hs.rwn j2 hj2
theorem St.redesc (hs : St g N M E s tmps w) {i : Nat} {r r' : Rw} (hr : aget s.rw i = some r) (hok' : ∀ q, E.rw i = some q → RwOk M E w i q r → RwOk M E w i q r') (hk : r.k * r.sz ≤ r'.k * r'.sz)
  (h5 : ∀ p : Nat, ownK (flat r.xs)[p]? ≤ ownK (flat r'.xs)[p]?) : St g N M E { s with rw := (i, r') :: s.rw } tmps w := by
 refine hs.grow' (fun _ => False) (fun _ _ h => h.elim) (Grow.refl w _) (Env.le_refl E) (fun _ _ _ => rfl) hs.live rfl (fun b j v h => h.elim) (fun b o ho _ => ?_) (fun j cs hj => .inl ⟨hj, fun _ _ h => h⟩) hs.bxn (fun j r2 hj => ?_) (fun j hj => ?_)
  (fun j es hj => .inl ⟨hj, fun _ _ h => h⟩) hs.mpn (fun j r hj => .inl ⟨hj, rfl, fun _ _ _ h => h⟩) hs.arn
 ·obtain ⟨kd, j, p⟩ := o
  by_cases hj : j = i
  ·subst hj
   by_cases h5' : kd = 5
   ·subst h5'; simpa [sealN, aget_cons, hr] using h5 p
   ·by_cases h1 : kd = 1 ∧ p = 0
    ·obtain ⟨rfl, rfl⟩ := h1; simpa [sealN, aget_cons, hr] using hk
    ·simp only [sealN, h1, h5', if_false]; exact Nat.le_refl _
  ·simp only [sealN, aget_cons, if_neg hj]; exact Nat.le_refl _
 ·simp only [aget_cons] at hj
  split at hj
  ·rename_i e; subst e; cases hj
   obtain ⟨q, hq, hok⟩ := hs.rw j r hr
   exact .inr ⟨q, hq, hok' q hq hok⟩
  ·exact .inl ⟨hj, rfl, fun _ _ _ h => h⟩
 ·simp only [aget_cons] at hj
  split at hj
  ·cases hj
  ·exact hs.rwn j hj
theorem RwOk.cells {i : Nat} {q : RwE} {r : Rw} (h : RwOk M E w i q r) {pu : Nat} {ns : List Nat} (hc : ∀ (p : Nat) (u : AV) (v : Value), (flat r.xs)[p]? = some u → cR M E w r.pu r.ns 5 i p v u → cR M E w pu ns 5 i p v u) : RwOk M E w i q { r with pu := pu, ns := ns } := by
 refine { h with blk := ?_ }
 rcases h.blk with hb | ⟨blk, vs, g1, g2, g3, g4, g5⟩
 ·exact .inl hb
 ·refine .inr ⟨blk, vs, g1, g2, g3, g4, fun p u hu => ?_⟩
  obtain ⟨v, hv, hr⟩ := g5 p u hu
  rw [Nat.zero_add] at hr
  exact ⟨v, hv, by rw [Nat.zero_add]; exact hc p u v hu hr⟩
theorem St.raise (hs : St g N M E s tmps w) {i : Nat} {r : Rw} (hr : aget s.rw i = some r) : St g N M E { s with rw := (i, { r with pu := 3 }) :: s.rw } tmps w :=
 hs.redesc hr (fun q hq hok => hok.cells fun p u v hu h => h.open (Env.le_refl E) fun b hb => hb) (Nat.le_refl _) (fun p => Nat.le_refl _)
theorem RelC.shut {kd i p : Nat} {u : AV} (h : RelC M E w kd i p v u) (hu : u.okIn no no no no = true) : RelC M (E.arO []) w kd i p v u := by
 cases h with
 | rel h =>
  refine .rel ?_
  have := h.keep hu
  rw [Env.keep_none] at this
  exact this.monoE ⟨fun i b e => (by cases e), fun i q e => (by cases e), fun i r e => (by cases e), fun i bs e => (by cases e)⟩
 | own ty sz k ys a n c hn hc hm hz hk hb => exact .own ty sz k ys a n c hn hc hm hz hk hb
theorem St.shut (hs : St g N M E s tmps w) {i : Nat} {r : Rw} (hr : aget s.rw i = some r) (hp3 : r.pu = 3) (hall : ∀ x ∈ r.xs, AV.okInL no no no no x.cells = true) : St g N M E { s with rw := (i, { r with pu := 2, ns := [] }) :: s.rw } tmps w :=
 hs.redesc hr (fun q hq hok => hok.cells fun p u v hu h => by
  rw [hp3] at h
  have h : RelC M E w 5 i p v u := h
  have hm := List.mem_of_getElem? hu
  simp only [flat, List.mem_flatMap] at hm
  obtain ⟨x, hx, hxc⟩ := hm
  obtain ⟨j, hj⟩ := List.getElem?_of_mem hxc
  exact h.shut (okInL_get (hall x hx) hj)) (Nat.le_refl _) (fun p => Nat.le_refl _)
theorem St.recell (hs : St g N M E s tmps w) {i K o : Nat} {r : Rw} {u c x : AV} (hr : aget s.rw i = some r) (hp3 : r.pu = 3) (hu : r.xs[K]? = some u) (hc : u.cells[o]? = some c) (hx : x.cells = [x])
  (hR : ∀ p v, RelC M E w 5 i p v c → RelC M E w 5 i p v x) (hown : ownK (some c) ≤ ownK (some x)) : St g N M E { s with rw := (i, { r with xs := r.xs.set K (setC o x u) }) :: s.rw } tmps w := by
 obtain ⟨q0, hq0, hok0⟩ := hs.rw i r hr
 have hat := flat_at hok0.es hu hc
 have hfl := flat_setC (x := x) hok0.es hu hc hx
 generalize K * r.sz + o = P at hat hfl
 refine hs.redesc hr (fun q hq hok => ⟨hok.sz, hok.ver, by simpa using hok.n, hok.nc, hok.cap, setC_es hok.es hu hc hx, by simpa using hok.k, hok.cm, fun h => by simpa using hok.nl h, ?_⟩) (Nat.le_refl _) (fun p => ?_)
 ·rcases hok.blk with hb | ⟨blk, vs, g1, g2, g3, g4, g5⟩
  ·exact .inl hb
  ·refine .inr ⟨blk, vs, g1, g2, g3, g4, fun p u2 hu2 => ?_⟩
   rw [hfl, List.getElem?_set] at hu2
   split at hu2
   ·rename_i e; subst e
    split at hu2
    ·cases hu2
     obtain ⟨v, hv, h⟩ := g5 _ _ hat
     rw [hp3] at h ⊢
     exact ⟨v, hv, hR _ v h⟩
    ·cases hu2
   ·exact g5 p u2 hu2
 ·rw [hfl]
  show ownK (flat r.xs)[p]? ≤ ownK ((flat r.xs).set P x)[p]?
  rw [List.getElem?_set]
  split
  ·rename_i e; subst e
   rw [if_pos (List.getElem?_eq_some_iff.1 hat).1, hat]; exact hown
  ·exact Nat.le_refl _
end
def opens (i K : Nat) (xs0 : List AV) : List (Nat × Nat) → AV → S → Option S
 | [], _, s => some s
 | (j, o) :: l, u, s => match nth u.cells o with
  | some (.own ty sz k ys) => match aget s.rw j with
   | none => match Nat.blt j nB with
    | true => match aget s.rw i with
     | some r => opens i K xs0 l (setC o (.row j 0) u) { s with rw := (j, ⟨ty, sz, 0, k, 0, false, 0, [], ys⟩) :: (i, { r with pu := 3, xs := xs0.set K (setC o (.row j 0) u) }) :: s.rw }
     | none => none
    | false => none
   | some _ => none
  | _ => none
def gOpen (i K : Nat) (l : List (Nat × Nat)) (u : AV) (s : S) : Option (List Prop × List (Bool × Bool) × S) :=
 match aget s.rw i with
 | some r => match opens i K r.xs l u { s with rw := (i, { r with pu := 3 }) :: s.rw } with
  | some s' => some ([r.xs[K]? = some u], [], s')
  | none => none
 | none => none
def gRaise (i : Nat) (s : S) : Option (List Prop × List (Bool × Bool) × S) :=
 match aget s.rw i with
 | some r => some ([], [], { s with rw := (i, { r with pu := 3 }) :: s.rw })
 | none => none
def closes (i K : Nat) (xs0 : List AV) : List (Nat × TypeId × Nat) → AV → S → Option (AV × S)
 | [], u, s => some (u, s)
 | (o, ty, sz) :: l, u, s => match aget s.rw i with
  | some r => match nth u.cells o with
   | some (.row j v) => match curRow s j v with
    | some rj => match rj.pu with
     | 0 => match Nat.beq i j with
      | false => closes i K xs0 l (setC o (.own rj.ty rj.sz rj.xs.length rj.xs) u) { s with rw := (j, { rj with ver := rj.ver + 1, k := 0, cm := 0, nl := false, xs := [] }) :: (i, { r with xs := xs0.set K (setC o (.own rj.ty rj.sz rj.xs.length rj.xs) u) }) :: s.rw }
      | true => none
     | _ + 1 => none
    | none => none
   | some .nils => closes i K xs0 l (setC o (.own ty sz 0 []) u) { s with rw := (i, { r with xs := xs0.set K (setC o (.own ty sz 0 []) u) }) :: s.rw }
   | some (.own _ _ _ _) => closes i K xs0 l u s
   | _ => none
  | none => none
def nilsS (i K : Nat) (xs0 : List AV) : List (Nat × Nat) → AV → S → Option (AV × S)
 | [], u, s => some (u, s)
 | (o, n) :: l, u, s => match aget s.rw i with
  | some r => match nth u.cells o with
   | some .nils => nilsS i K xs0 l (setC o (.sl n []) u) { s with rw := (i, { r with xs := xs0.set K (setC o (.sl n []) u) }) :: s.rw }
   | _ => nilsS i K xs0 l u s
  | none => none
def gClose (i K : Nat) (l : List (Nat × TypeId × Nat)) (m : List (Nat × Nat)) (u : AV) (zs : List AV) (s : S) : Option (List Prop × List (Bool × Bool) × S) :=
 match aget s.rw i with
 | some r => match r.pu with
  | 3 => match closes i K r.xs l u s with
   | some (u1, s1) => match nilsS i K r.xs m u1 s1 with
    | some (u2, s2) => match aget s2.rw i with
     | some r2 => some ([r.xs[K]? = some u, zs = r.xs.set K u2, ∀ x ∈ zs, AV.okInL no no no no x.cells = true], [], { s2 with rw := (i, { r2 with pu := 2, ns := [], xs := zs }) :: s2.rw })
     | none => none
    | none => none
   | none => none
  | _ => none
 | none => none
def gFreeze (i : Nat) (zs : List AV) (s : S) : Option (List Prop × List (Bool × Bool) × S) :=
 match aget s.rw i with
 | some r => some ([∀ x ∈ r.xs, x.cells.all okc = true, zs = r.xs.map frz], [], { s with rw := (i, { r with pu := 0, ns := [], xs := zs }) :: s.rw })
 | none => none
section
variable {g : Gh} {N : Nat} {M : Mem} {E : Env} {tmps : Array Value} {w : World}
theorem opens_ok {i K : Nat} {xs0 : List AV} (hK : K < xs0.length) : ∀ {l : List (Nat × Nat)} {u : AV} {s s' : S} {E : Env} {r : Rw}, opens i K xs0 l u s = some s' → aget s.rw i = some r → r.xs = xs0.set K u → St g N M E s tmps w → ∃ E', E.up E' ∧ St g N M E' s' tmps w
 | [], u, s, s', E, r, h, hr, hx, hs => by cases h; exact ⟨E, Env.up_refl E, hs⟩
 | (j, o) :: l, u, s, s', E, r, h, hr, hx, hs => by
  simp only [opens] at h
  split at h
  ·rename_i ty sz k ys hc
   rw [nth_eq] at hc
   split at h
   ·rename_i hj
    split at h
    ·rename_i hB
     split at h
     ·rename_i r2 hr2
      rw [hr] at hr2; cases hr2
      have hu : r.xs[K]? = some u := by rw [hx, List.getElem?_set_self hK]
      have hij : i ≠ j := by rintro rfl; rw [hr] at hj; cases hj
      obtain ⟨E', hup, hs'⟩ := hs.openCell hr hu hc hj (Nat.le_of_ble_eq_true hB)
      rw [hx, List.set_set] at hs'
      obtain ⟨E2, hup2, hs2⟩ := opens_ok hK h (by rw [aget_cons, if_neg hij, aget_cons, if_pos rfl]) rfl hs'
      exact ⟨E2, Env.up_trans hup hup2, hs2⟩
     ·cases h
    ·cases h
   ·cases h
  ·cases h
theorem closes_ok {i K : Nat} {xs0 : List AV} (hK : K < xs0.length) : ∀ {l : List (Nat × TypeId × Nat)} {u u' : AV} {s s' : S} {E : Env} {r : Rw}, closes i K xs0 l u s = some (u', s') → aget s.rw i = some r → r.pu = 3 → r.xs = xs0.set K u → St g N M E s tmps w →
  ∃ E' r', E.up E' ∧ St g N M E' s' tmps w ∧ aget s'.rw i = some r' ∧ r'.pu = 3 ∧ r'.xs = xs0.set K u'
 | [], u, u', s, s', E, r, h, hr, hp, hx, hs => by cases h; exact ⟨E, r, Env.up_refl E, hs, hr, hp, hx⟩
 | (o, ty, sz) :: l, u, u', s, s', E, r, h, hr, hp, hx, hs => by
  have hu : r.xs[K]? = some u := by rw [hx, List.getElem?_set_self hK]
  simp only [closes] at h
  split at h
  ·rename_i r2 hr2
   rw [hr] at hr2; cases hr2
   split at h
   ·rename_i j v hc
    rw [nth_eq] at hc
    split at h
    ·rename_i rj hrj
     split at h
     ·rename_i hpj
      split at h
      ·rename_i hij
       have hij := beq_false hij
       obtain ⟨hj, hv⟩ := curRow_get hrj
       obtain ⟨E', hup, hs'⟩ := hs.closeCell hr hp hu hc hj hv hpj hij
       rw [hx, List.set_set] at hs'
       obtain ⟨E2, r2, hup2, hs2, h1, h2, h3⟩ := closes_ok hK h (r := { r with xs := xs0.set K (setC o (.own rj.ty rj.sz rj.xs.length rj.xs) u) }) (by rw [aget_cons, if_neg hij, aget_cons, if_pos rfl]) hp rfl hs'
       exact ⟨E2, r2, Env.up_trans hup hup2, hs2, h1, h2, h3⟩
      ·cases h
     ·cases h
    ·cases h
   ·rename_i hc
    rw [nth_eq] at hc
    have hs' := hs.recell (x := .own ty sz 0 []) hr hp hu hc rfl (fun p v h => by
     cases h with
     | rel h => cases h with
      | pure h => cases h; exact .own ty sz 0 [] none 0 0 rfl (Nat.le_refl _) (Nat.zero_le _) (by simp) (Nat.le_refl _) (.inl rfl)) (Nat.zero_le _)
    rw [hx, List.set_set] at hs'
    obtain ⟨E2, r2, hup2, hs2, h1, h2, h3⟩ := closes_ok hK h (r := { r with xs := xs0.set K (setC o (.own ty sz 0 []) u) }) (by rw [aget_cons, if_pos rfl]) hp rfl hs'
    exact ⟨E2, r2, hup2, hs2, h1, h2, h3⟩
   ·exact closes_ok hK h hr hp hx hs
   ·cases h
  ·cases h
theorem nilsS_ok {i K : Nat} {xs0 : List AV} (hK : K < xs0.length) : ∀ {l : List (Nat × Nat)} {u u' : AV} {s s' : S} {r : Rw}, nilsS i K xs0 l u s = some (u', s') → aget s.rw i = some r → r.pu = 3 → r.xs = xs0.set K u → St g N M E s tmps w →
  ∃ r', St g N M E s' tmps w ∧ aget s'.rw i = some r' ∧ r'.pu = 3 ∧ r'.xs = xs0.set K u'
 | [], u, u', s, s', r, h, hr, hp, hx, hs => by cases h; exact ⟨r, hs, hr, hp, hx⟩
 | (o, n) :: l, u, u', s, s', r, h, hr, hp, hx, hs => by
  have hu : r.xs[K]? = some u := by rw [hx, List.getElem?_set_self hK]
  simp only [nilsS] at h
  split at h
  ·rename_i r2 hr2
   rw [hr] at hr2; cases hr2
   split at h
   ·rename_i hc
    rw [nth_eq] at hc
    have hs' := hs.recell (x := .sl n []) hr hp hu hc rfl (fun p v h => by
     cases h with
     | rel h => exact .rel (nilS h)) (Nat.zero_le _)
    rw [hx, List.set_set] at hs'
    exact nilsS_ok hK h (r := { r with xs := xs0.set K (setC o (.sl n []) u) }) (by rw [aget_cons, if_pos rfl]) hp rfl hs'
   ·exact nilsS_ok hK h hr hp hx hs
  ·cases h
end
theorem L_G {C : Cx} {k : List It} {s : S} {f : Option (List Prop × List (Bool × Bool) × S)} (hf : ∀ gs es t, f = some (gs, es, t) → AllP gs → ∀ {M : Mem} {E : Env} {tmps : Array Value} {w : World}, St C.g C.N M E s tmps w → ∃ M' E', E.up E' ∧ St C.g C.N M' E' t tmps w)
  {gs : List Prop} (hg : HL gs) (h : outG f = some (gs, [])) (hk : Wk C k (nxt f)) : Wk C k s := by
 cases hf' : f with
 | none => rw [hf'] at h; cases h
 | some p =>
  obtain ⟨gs', es, t⟩ := p
  rw [hf'] at h hk
  simp only [outG, Option.some.injEq, Prod.mk.injEq] at h
  obtain ⟨rfl, _⟩ := h
  intro a w ⟨hd, M, E, hs, hp⟩
  obtain ⟨M', E', hup, hs'⟩ := hf _ _ _ hf' hg.all hs
  exact hk a w ⟨hd, M', E', hs', hup.p _ hp⟩
theorem L_open {C : Cx} {k : List It} {s : S} (i K : Nat) (l : List (Nat × Nat)) {u : AV} {gs : List Prop} (hg : HL gs) (h : outG (gOpen i K l u s) = some (gs, []) := by kernel_rfl) (hk : Wk C k (nxt (gOpen i K l u s))) : Wk C k s := by
 refine L_G (fun gs es t hf hg {M} {E} {tmps} {w} hs => ?_) hg h hk
 unfold gOpen at hf
 split at hf
 ·rename_i r hr
  split at hf
  ·rename_i s' hs'
   cases hf
   have hu : r.xs[K]? = some u := hg.1
   have hK := (List.getElem?_eq_some_iff.1 hu).1
   obtain ⟨E', hup, h2⟩ := opens_ok hK hs' (r := { r with pu := 3 }) (by rw [aget_cons, if_pos rfl]) (by
    show r.xs = r.xs.set K u
    rw [← (List.getElem?_eq_some_iff.1 hu).2, List.set_getElem_self]) (hs.raise hr)
   exact ⟨M, E', hup, h2⟩
  ·cases hf
 ·cases hf
theorem L_raise {C : Cx} {k : List It} {s : S} (i : Nat) (h : outG (gRaise i s) = some ([], []) := by kernel_rfl) (hk : Wk C k (nxt (gRaise i s))) : Wk C k s := by
 refine L_G (fun gs es t hf hg {M} {E} {tmps} {w} hs => ?_) .nil h hk
 unfold gRaise at hf
 split at hf
 ·rename_i r hr
  cases hf
  exact ⟨M, E, Env.up_refl E, hs.raise hr⟩
 ·cases hf
theorem L_close {C : Cx} {k : List It} {s : S} (i K : Nat) (l : List (Nat × TypeId × Nat)) (m : List (Nat × Nat)) {u : AV} {zs : List AV} {gs : List Prop} (hg : HL gs) (h : outG (gClose i K l m u zs s) = some (gs, []) := by kernel_rfl) (hk : Wk C k (nxt (gClose i K l m u zs s))) : Wk C k s := by
 refine L_G (fun gs es t hf hg {M} {E} {tmps} {w} hs => ?_) hg h hk
 unfold gClose at hf
 split at hf
 ·rename_i r hr
  split at hf
  ·rename_i hp
   split at hf
   ·rename_i u1 s1 h1
    split at hf
    ·rename_i u2 s2 h2
     split at hf
     ·rename_i r2 hr2
      cases hf
      obtain ⟨hu, hz, hall, _⟩ := hg
      have hK := (List.getElem?_eq_some_iff.1 hu).1
      obtain ⟨E', r1, hup, hs1, e1, e2, e3⟩ := closes_ok hK h1 hr hp (by rw [← (List.getElem?_eq_some_iff.1 hu).2, List.set_getElem_self]) hs
      obtain ⟨r2', hs2, f1, f2, f3⟩ := nilsS_ok hK h2 e1 e2 e3 hs1
      rw [hr2] at f1; cases f1
      rw [← hz] at f3
      subst f3
      exact ⟨M, E', hup, hs2.shut hr2 f2 hall⟩
     ·cases hf
    ·cases hf
   ·cases hf
  ·cases hf
 ·cases hf
theorem L_freeze {C : Cx} {k : List It} {s : S} (i : Nat) {zs : List AV} {gs : List Prop} (hg : HL gs) (h : outG (gFreeze i zs s) = some (gs, []) := by kernel_rfl) (hk : Wk C k (nxt (gFreeze i zs s))) : Wk C k s := by
 refine L_G (fun gs es t hf hg {M} {E} {tmps} {w} hs => ?_) hg h hk
 unfold gFreeze at hf
 split at hf
 ·rename_i r hr
  cases hf
  obtain ⟨hoc, hz, _⟩ := hg
  subst hz
  obtain ⟨M', hM, hs'⟩ := hs.freeze hr hoc
  exact ⟨M', _, un5_up E i, hs'⟩
 ·cases hf
theorem opL {α : Type} (f : α → AV) (U : AV) {l : List α} {n : Int} (h : 0 ≤ n ∧ n < (l.length : Int)) : ((l.map f).set n.toNat U)[n.toNat]? = some U := by
 rw [List.getElem?_set_self (by rw [List.length_map]; omega)]
theorem opS {α : Type} (f : α → AV) (l : List α) (n : Int) (U V : AV) : (l.map f).set n.toNat V = ((l.map f).set n.toNat U).set n.toNat V := by rw [List.set_set]
theorem opA {α : Type} (f : α → AV) (l : List α) (U : AV) : (l.map f ++ [U])[l.length]? = some U := by
 rw [List.getElem?_append_right (by rw [List.length_map]; exact Nat.le_refl _), List.length_map, Nat.sub_self]; rfl
theorem opB {α : Type} (f : α → AV) (U : AV) {l : List α} {x : α} {n : Nat} (h : ((l ++ [x]).length : Int) * n ≤ 140737488351232) : (l.map f ++ [U]).length * n ≤ 140737488351232 := by
 have e : (l.map f ++ [U]).length = (l ++ [x]).length := by simp
 rw [e]
 generalize (l ++ [x]).length = m at h ⊢
 have h2 : ((m * n : Nat) : Int) = (m : Int) * n := by push_cast; rfl
 omega
theorem clS {α : Type} (f : α → AV) (U : AV) {l v : List α} {n : Int} {x : α} (h : lset l n x = v) : v.map f = ((l.map f).set n.toNat U).set n.toNat (f x) := by
 subst h
 rw [List.set_set, setN f rfl]
theorem clU {α : Type} [Inhabited α] (f : α → AV) (U : AV) {l : List α} {n : Int} (h : 0 ≤ n ∧ n < (l.length : Int)) : l.map f = ((l.map f).set n.toNat U).set n.toNat (f (lget l n)) := by
 have h1 : (l.map f)[n.toNat]? = some (f (lget l n)) := ldr_ok f h
 have h2 := (List.getElem?_eq_some_iff.1 h1).2
 rw [List.set_set, ← h2, List.set_getElem_self]
theorem clA {α : Type} (f : α → AV) (U : AV) {l v : List α} {x : α} (h : l ++ [x] = v) : v.map f = (l.map f ++ [U]).set l.length (f x) := by
 subst h
 rw [List.set_append_right _ _ (by rw [List.length_map]; exact Nat.le_refl _), List.length_map, Nat.sub_self]; simp
theorem opX {α : Type} (f : α → AV) (U : AV) (K : Nat) {l : List α} {n : Int} (h : 0 ≤ n ∧ n < (l.length : Int)) : 0 ≤ n ∧ n.toNat < ((l.map f).set K U).length := ⟨h.1, by rw [List.length_set, List.length_map]; omega⟩
theorem opN {α : Type} (f : α → AV) (U : AV) (K : Nat) (l : List α) : (l.length : Int) = (((l.map f).set K U).length : Int) := by rw [List.length_set, List.length_map]
theorem stl {α : Type} {f : α → AV} (h : ∀ a, AV.okInL no no no no (f a).cells = true) (l : List α) : ∀ x ∈ l.map f, AV.okInL no no no no x.cells = true := fun x hx => by
 obtain ⟨a, _, rfl⟩ := List.mem_map.1 hx
 exact h a
theorem okcL {α : Type} {f : α → AV} (h : ∀ a, (f a).cells.all okc = true) (l : List α) : ∀ x ∈ l.map f, x.cells.all okc = true := fun x hx => by
 obtain ⟨a, _, rfl⟩ := List.mem_map.1 hx
 exact h a
theorem frzL {α : Type} {f g : α → AV} (h : ∀ a, g a = frz (f a)) (l : List α) : l.map g = (l.map f).map frz := by
 rw [List.map_map]; exact List.map_congr_left fun a _ => h a
end Go.Dm
