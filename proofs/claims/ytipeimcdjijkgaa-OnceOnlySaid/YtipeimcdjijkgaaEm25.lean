/- Regions whose order is open: operations that do not touch each other may go in any order. -/
import Derived.Test.YtipeimcdjijkgaaEm24
import Derived.Orders
namespace Go.Dm
open Go Go.RowKit
set_option linter.unnecessarySimpa false
set_option linter.constructorNameAsVariable false
set_option linter.unusedSectionVars false
set_option linter.unusedSimpArgs false
set_option linter.unusedVariables false

variable {C : Cx} {k : List It} {s s' t : S} {τ : TyTab}

/-- an effect, with the slot that it goes to -/
structure DE where
  d : Option Nat
  e : Eff

def DE.app (x : DE) (s : S) : S := x.e.app x.d s

def keysL {α : Type} (c : Nat) : List (Nat × α) → List Key
  | [] => []
  | (i, _) :: l => (c, i) :: keysL c l
def DE.writes (x : DE) : List Key :=
  (match x.d with | some i => [(0, i)] | none => []) ++ (keysL 1 x.e.bx ++ (keysL 2 x.e.rw ++ (keysL 3 x.e.mp ++ keysL 4 x.e.ar)))

/-- two states say the same of a key -/
def same (κ : Key) (s s' : S) : Prop :=
  (κ.1 = 0 → aget s.fr κ.2 = aget s'.fr κ.2) ∧ (κ.1 = 1 → aget s.bx κ.2 = aget s'.bx κ.2) ∧ (κ.1 = 2 → aget s.rw κ.2 = aget s'.rw κ.2) ∧ (κ.1 = 3 → aget s.mp κ.2 = aget s'.mp κ.2) ∧ (κ.1 = 4 → aget s.ar κ.2 = aget s'.ar κ.2)

def Agree (R : List Key) (s s' : S) : Prop := ∀ κ ∈ R, same κ s s'
def SEq (s s' : S) : Prop := ∀ κ, same κ s s'

theorem Agree.sub {R R' : List Key} (h : Agree R s s') (hR : ∀ κ ∈ R', κ ∈ R) : Agree R' s s' := fun κ hκ => h κ (hR κ hκ)
theorem same.refl (κ : Key) (s : S) : same κ s s := ⟨fun _ => rfl, fun _ => rfl, fun _ => rfl, fun _ => rfl, fun _ => rfl⟩
theorem same.symm {κ : Key} (h : same κ s s') : same κ s' s := ⟨fun e => (h.1 e).symm, fun e => (h.2.1 e).symm, fun e => (h.2.2.1 e).symm, fun e => (h.2.2.2.1 e).symm, fun e => (h.2.2.2.2 e).symm⟩
theorem same.trans {κ : Key} (h : same κ s s') (h' : same κ s' t) : same κ s t :=
  ⟨fun e => (h.1 e).trans (h'.1 e), fun e => (h.2.1 e).trans (h'.2.1 e), fun e => (h.2.2.1 e).trans (h'.2.2.1 e), fun e => (h.2.2.2.1 e).trans (h'.2.2.2.1 e), fun e => (h.2.2.2.2 e).trans (h'.2.2.2.2 e)⟩
theorem SEq.fr (h : SEq s s') (i : Nat) : aget s.fr i = aget s'.fr i := (h (0, i)).1 rfl
theorem SEq.bx (h : SEq s s') (i : Nat) : aget s.bx i = aget s'.bx i := (h (1, i)).2.1 rfl
theorem SEq.rw (h : SEq s s') (i : Nat) : aget s.rw i = aget s'.rw i := (h (2, i)).2.2.1 rfl
theorem SEq.mp (h : SEq s s') (i : Nat) : aget s.mp i = aget s'.mp i := (h (3, i)).2.2.2.1 rfl
theorem SEq.ar (h : SEq s s') (i : Nat) : aget s.ar i = aget s'.ar i := (h (4, i)).2.2.2.2 rfl

theorem H.eq {g : Gh} {N : Nat} {a : Act} {w : World} (h : H g N s a w) (e : SEq s s') : H g N s' a w := by
  obtain ⟨hd, M, E, hs, hp⟩ := h
  exact ⟨hd, M, E, { hs with
    fr := fun i av hi => hs.fr i av (by rw [e.fr]; exact hi)
    mem := fun b j v hv => ⟨(hs.mem b j v hv).1, fun o ho => by
      have := (hs.mem b j v hv).2 o ho
      simp only [sealN, e.rw, e.ar] at this ⊢
      exact this⟩
    bx := fun i cs hi => hs.bx i cs (by rw [e.bx]; exact hi)
    bxn := fun i hi => hs.bxn i (by rw [e.bx]; exact hi)
    rw := fun i cs hi => hs.rw i cs (by rw [e.rw]; exact hi)
    rwn := fun i hi => hs.rwn i (by rw [e.rw]; exact hi)
    mp := fun i cs hi => hs.mp i cs (by rw [e.mp]; exact hi)
    mpn := fun i hi => hs.mpn i (by rw [e.mp]; exact hi)
    ar := fun i cs hi => hs.ar i cs (by rw [e.ar]; exact hi)
    arn := fun i hi => hs.arn i (by rw [e.ar]; exact hi) }, hp⟩

theorem mem_keysL {α : Type} {c : Nat} : ∀ {l : List (Nat × α)} {κ : Key}, κ ∈ keysL c l ↔ κ.1 = c ∧ (aget l κ.2).isSome = true
  | [], κ => by simp [keysL, aget]
  | (j, v) :: l, κ => by
    simp only [keysL, List.mem_cons, mem_keysL (l := l), aget_cons]
    obtain ⟨a, b⟩ := κ
    simp only [Prod.mk.injEq]
    constructor
    · rintro (⟨rfl, rfl⟩ | ⟨rfl, h⟩)
      · simp
      · refine ⟨rfl, ?_⟩
        split
        · rfl
        · exact h
    · rintro ⟨rfl, h⟩
      split at h
      · rename_i e; exact .inl ⟨rfl, e⟩
      · exact .inr ⟨rfl, h⟩

theorem aget_app_none {α : Type} {a b : List (Nat × α)} {i : Nat} (h : (aget a i).isSome = false) : aget (a ++ b) i = aget b i := by
  rw [aget_append]
  cases hh : aget a i with
  | none => rfl
  | some v => rw [hh] at h; cases h
theorem aget_app_some {α : Type} {a b b' : List (Nat × α)} {i : Nat} (h : (aget a i).isSome = true ∨ aget b i = aget b' i) : aget (a ++ b) i = aget (a ++ b') i := by
  rw [aget_append, aget_append]
  cases hh : aget a i with
  | some v => rfl
  | none =>
    rcases h with h | h
    · rw [hh] at h; cases h
    · exact h

def slotL (x : DE) : List (Nat × AV) := match x.d, x.e.x with
  | some i, some v => [(i, v)]
  | some i, none => [(i, .any)]
  | none, _ => []
theorem app_fr (x : DE) (s : S) : (x.app s).fr = slotL x ++ s.fr := by
  obtain ⟨d, e⟩ := x
  unfold DE.app Eff.app slotL
  cases d with
  | none => rfl
  | some i => cases he : e.x <;> simp [he]
theorem slotL_keys (x : DE) (κ : Key) : κ ∈ (match x.d with | some i => [((0 : Nat), i)] | none => []) ↔ κ.1 = 0 ∧ (aget (slotL x) κ.2).isSome = true := by
  obtain ⟨d, e⟩ := x
  obtain ⟨a, b⟩ := κ
  cases d with
  | none => simp [slotL, aget]
  | some i =>
    cases he : e.x <;> simp only [slotL, he, aget_cons, aget, List.mem_singleton, Prod.mk.injEq]
    all_goals
      constructor
      · rintro ⟨rfl, rfl⟩; simp
      · rintro ⟨rfl, h⟩
        split at h
        · rename_i e; exact ⟨rfl, e⟩
        · cases h

/-- what an effect does to a key -/
theorem app_other {e : DE} {κ : Key} (h : κ ∉ e.writes) (s : S) : same κ (e.app s) s := by
  simp only [DE.writes, List.mem_append, not_or, slotL_keys, mem_keysL] at h
  obtain ⟨h0, h1, h2, h3, h4⟩ := h
  refine ⟨fun hc => ?_, fun hc => ?_, fun hc => ?_, fun hc => ?_, fun hc => ?_⟩
  · rw [app_fr]; exact aget_app_none (by simpa [hc] using h0)
  · exact aget_app_none (by simpa [hc] using h1)
  · exact aget_app_none (by simpa [hc] using h2)
  · exact aget_app_none (by simpa [hc] using h3)
  · exact aget_app_none (by simpa [hc] using h4)
theorem app_same {e : DE} {κ : Key} {s s' : S} (h : κ ∈ e.writes ∨ same κ s s') : same κ (e.app s) (e.app s') := by
  simp only [DE.writes, List.mem_append, slotL_keys, mem_keysL] at h
  refine ⟨fun hc => ?_, fun hc => ?_, fun hc => ?_, fun hc => ?_, fun hc => ?_⟩
  · rw [app_fr, app_fr]; refine aget_app_some ?_
    rcases h with (h | h | h | h | h) | h
    · exact .inl h.2
    all_goals first | omega | exact .inr (h.1 hc)
  · refine aget_app_some ?_
    rcases h with (h | h | h | h | h) | h
    · omega
    · exact .inl h.2
    all_goals first | omega | exact .inr (h.2.1 hc)
  · refine aget_app_some ?_
    rcases h with (h | h | h | h | h) | h
    · omega
    · omega
    · exact .inl h.2
    all_goals first | omega | exact .inr (h.2.2.1 hc)
  · refine aget_app_some ?_
    rcases h with (h | h | h | h | h) | h
    · omega
    · omega
    · omega
    · exact .inl h.2
    all_goals first | omega | exact .inr (h.2.2.2.1 hc)
  · refine aget_app_some ?_
    rcases h with (h | h | h | h | h) | h
    · omega
    · omega
    · omega
    · omega
    · exact .inl h.2
    · exact .inr (h.2.2.2.2 hc)

/-- one operation of a region, whatever comes behind it -/
def OpOk (C : Cx) (all : List Oper) (i : Nat) (s s1 : S) : Prop :=
  ∀ a w, H C.g C.N s a w → ∀ (K : Act → World → Prop) (Q : Exit → Act → World → Prop), (∀ a' w', H C.g C.N s1 a' w' → K a' w') → wpOp C.P all.toArray Q i K a w

def ValidE (C : Cx) (all : List Oper) (i : Nat) (R : List Key) (e : DE) (s : S) : Prop := ∀ s', Agree R s s' → OpOk C all i s' (e.app s')

inductive DRun (C : Cx) (all : List Oper) : Nat → S → List (List Key × DE) → S → Prop
  | nil (i : Nat) (s : S) : DRun C all i s [] s
  | cons {i : Nat} {s s2 : S} {R : List Key} {e : DE} {l : List (List Key × DE)} (h : ValidE C all i R e s) (ht : DRun C all (i + 1) (e.app s) l s2) : DRun C all i s ((R, e) :: l) s2

/-- the state behind those that are listed -/
def stOf (L : Nat → Bool) : Nat → List (List Key × DE) → S → S
  | _, [], s => s
  | k, (_, e) :: l, s => stOf L (k + 1) l (if L k then e.app s else s)

theorem stOf_congr {L L' : Nat → Bool} {κ : Key} : ∀ (l : List (List Key × DE)) (k : Nat) (s s' : S), same κ s s' →
    (∀ j R e, l[j]? = some (R, e) → κ ∈ e.writes → L (k + j) = L' (k + j)) → same κ (stOf L k l s) (stOf L' k l s')
  | [], _, _, _, h, _ => h
  | (R, e) :: l, k, s, s', h, hw => by
    simp only [stOf]
    refine stOf_congr l (k + 1) _ _ ?_ (fun j R' e' hj hk => by
      have := hw (j + 1) R' e' (by simpa using hj) hk
      rw [show k + 1 + j = k + (j + 1) by omega]; exact this)
    by_cases hκ : κ ∈ e.writes
    · have := hw 0 R e rfl hκ
      rw [Nat.add_zero] at this
      rw [this]
      split
      · exact app_same (.inl hκ)
      · exact h
    · split <;> split
      · exact app_same (.inr h)
      · exact (app_other hκ s).trans h
      · exact h.trans (app_other hκ s').symm
      · exact h

/-- an effect that comes last may as well come in its place -/
theorem stOf_insert {L : Nat → Bool} {κ : Key} {R : List Key} {e : DE} : ∀ (l : List (List Key × DE)) (k i : Nat) (s : S), l[i]? = some (R, e) → L (k + i) = false →
    (κ ∈ e.writes → ∀ j R' e', l[j]? = some (R', e') → i < j → κ ∈ e'.writes → L (k + j) = false) →
    same κ (stOf (fun j => L j || decide (j = k + i)) k l s) (e.app (stOf L k l s))
  | [], _, _, _, h, _, _ => by simp at h
  | (R0, e0) :: l, k, 0, s, h, hL, hw => by
    simp at h
    obtain ⟨rfl, rfl⟩ := h
    simp only [stOf, Nat.add_zero, decide_true, Bool.or_true, if_true]
    rw [Nat.add_zero] at hL
    rw [hL]
    simp only [Bool.false_eq_true, if_false]
    -- behind its place only others are listed, and none of them writes what it writes
    have e1 : same κ (stOf (fun j => L j || decide (j = k)) (k + 1) l (e0.app s)) (stOf L (k + 1) l (e0.app s)) :=
      stOf_congr l (k + 1) _ _ (same.refl _ _) (fun j _ _ _ _ => by
        have : decide (k + 1 + j = k) = false := by simp; omega
        simp [this])
    refine e1.trans ?_
    by_cases hκ : κ ∈ e0.writes
    · have hn : ∀ j R' e', l[j]? = some (R', e') → κ ∈ e'.writes → L (k + 1 + j) = (fun _ => false) (k + 1 + j) := fun j R' e' hj hk => by
        have := hw hκ (j + 1) R' e' (by simpa using hj) (by omega) hk
        rw [show k + 1 + j = k + (j + 1) by omega]; exact this
      have z : ∀ (l : List (List Key × DE)) (k : Nat) (s : S), stOf (fun _ => false) k l s = s := by
        intro l
        induction l with
        | nil => intro k s; rfl
        | cons p l ih => intro k s; obtain ⟨_, _⟩ := p; simp [stOf, ih]
      have a1 := stOf_congr (L := L) (L' := fun _ => false) (κ := κ) l (k + 1) (e0.app s) (e0.app s) (same.refl _ _) hn
      rw [z] at a1
      exact a1.trans (app_same (.inl hκ))
    · have a1 : same κ (stOf L (k + 1) l (e0.app s)) (stOf L (k + 1) l s) := stOf_congr l (k + 1) _ _ (app_other hκ s) (fun _ _ _ _ _ => rfl)
      exact a1.trans (app_other hκ _).symm
  | (R0, e0) :: l, k, i + 1, s, h, hL, hw => by
    simp only [stOf]
    have hk : decide (k = k + (i + 1)) = false := by simp
    simp only [hk, Bool.or_false]
    have := stOf_insert (L := L) (κ := κ) l (k + 1) i (if L k = true then e0.app s else s) (by simpa using h) (by rw [show k + 1 + i = k + (i + 1) by omega]; exact hL)
      (fun hκ j R' e' hj hlt hk => by
        have := hw hκ (j + 1) R' e' (by simpa using hj) (by omega) hk
        rw [show k + 1 + j = k + (j + 1) by omega]; exact this)
    rw [show k + 1 + i = k + (i + 1) by omega] at this
    exact this

/-- is the one ahead of the other, by the edges? -/
def anc (all : List Oper) : Nat → Nat → Nat → Bool
  | 0, _, _ => false
  | n + 1, i, j => match nth all j with
    | some o => o.after.toList.any fun e => Region.binds .any e && (decide (e.on = i) || anc all n i e.on)
    | none => false

def keyIn (x : Key) : List Key → Bool
  | [] => false
  | y :: l => match Nat.beq x.1 y.1 with
    | true => match Nat.beq x.2 y.2 with
      | true => true
      | false => keyIn x l
    | false => keyIn x l
def hits (a b : List Key) : Bool := match a with
  | [] => false
  | x :: l => match keyIn x b with
    | true => true
    | false => hits l b
theorem keyIn_of {x : Key} : ∀ {l : List Key}, x ∈ l → keyIn x l = true
  | y :: l, h => by
    simp only [keyIn]
    rcases List.mem_cons.1 h with e | h
    · subst e
      have e1 : Nat.beq x.1 x.1 = true := Nat.beq_refl _
      have e2 : Nat.beq x.2 x.2 = true := Nat.beq_refl _
      rw [e1, e2]
    · have := keyIn_of h
      split
      · split
        · rfl
        · exact this
      · exact this

def clash (x y : List Key × List Key) : Bool := hits x.2 y.1 || (hits x.2 y.2 || hits y.2 x.1)

/-- those behind the first, against it -/
def indep1 (all : List Oper) (i : Nat) (x : List Key × List Key) : Nat → List (List Key × List Key) → Bool
  | _, [] => true
  | j, y :: l => (!clash x y || anc all 3 i j) && indep1 all i x (j + 1) l
def indepB (all : List Oper) : Nat → List (List Key × List Key) → Bool
  | _, [] => true
  | i, x :: l => indep1 all i x (i + 1) l && indepB all (i + 1) l
def backB : Nat → List Oper → Bool
  | _, [] => true
  | i, o :: l => o.after.toList.all (fun e => !Region.binds .any e || decide (e.on < i)) && backB (i + 1) l

def keysOf (l : List (List Key × DE)) : List (List Key × List Key) := l.map fun p => (p.1, p.2.writes)

theorem hits_of {a b : List Key} {κ : Key} (h1 : κ ∈ a) (h2 : κ ∈ b) : hits a b = true := by
  induction a with
  | nil => cases h1
  | cons x l ih =>
    simp only [hits]
    rcases List.mem_cons.1 h1 with e | h1
    · subst e; rw [keyIn_of h2]
    · split
      · rfl
      · exact ih h1

theorem indep1_at {all : List Oper} {i : Nat} {x : List Key × List Key} : ∀ {l : List (List Key × List Key)} {j m : Nat} {y : List Key × List Key}, indep1 all i x j l = true → l[m]? = some y → clash x y = true → anc all 3 i (j + m) = true
  | [], _, _, _, _, h, _ => by simp at h
  | z :: l, j, 0, y, h, hm, hc => by
    simp at hm; subst hm
    simp only [indep1, Bool.and_eq_true, Bool.or_eq_true, Bool.not_eq_true'] at h
    rcases h.1 with h | h
    · rw [hc] at h; cases h
    · exact h
  | z :: l, j, m + 1, y, h, hm, hc => by
    simp only [indep1, Bool.and_eq_true] at h
    have := indep1_at h.2 (by simpa using hm) hc
    rw [show j + (m + 1) = j + 1 + m by omega]; exact this
theorem indepB_at {all : List Oper} : ∀ {l : List (List Key × List Key)} {i a b : Nat} {x y : List Key × List Key}, indepB all i l = true → l[a]? = some x → l[b]? = some y → a < b → clash x y = true → anc all 3 (i + a) (i + b) = true
  | [], _, _, _, _, _, _, h, _, _, _ => by simp at h
  | z :: l, i, 0, b + 1, x, y, h, ha, hb, _, hc => by
    simp at ha; subst ha
    simp only [indepB, Bool.and_eq_true] at h
    have := indep1_at h.1 (by simpa using hb) hc
    rw [show i + (b + 1) = i + 1 + b by omega]; exact this
  | z :: l, i, a + 1, b + 1, x, y, h, ha, hb, hlt, hc => by
    simp only [indepB, Bool.and_eq_true] at h
    have := indepB_at h.2 (by simpa using ha) (by simpa using hb) (by omega) hc
    rw [show i + (a + 1) = i + 1 + a by omega, show i + (b + 1) = i + 1 + b by omega]; exact this
  | z :: l, i, 0, 0, _, _, _, _, _, h, _ => absurd h (by omega)
  | z :: l, i, a + 1, 0, _, _, _, _, _, h, _ => absurd h (by omega)
theorem backB_at : ∀ {l : List Oper} {i a : Nat} {o : Oper} {e : Edge}, backB i l = true → l[a]? = some o → e ∈ o.after.toList → Region.binds .any e = true → e.on < i + a
  | [], _, _, _, _, _, h, _, _ => by simp at h
  | z :: l, i, 0, o, e, h, ha, he, hb => by
    simp at ha; subst ha
    simp only [backB, Bool.and_eq_true, List.all_eq_true] at h
    have := h.1 e he
    simpa [hb] using this
  | z :: l, i, a + 1, o, e, h, ha, he, hb => by
    simp only [backB, Bool.and_eq_true] at h
    have := backB_at h.2 (by simpa using ha) he hb
    omega

/-- the listed are closed under what is ahead -/
def Closed (all : List Oper) (L : Nat → Bool) : Prop := ∀ j o e, all[j]? = some o → L j = true → e ∈ o.after.toList → Region.binds .any e = true → L e.on = true

theorem anc_listed {all : List Oper} {L : Nat → Bool} (hC : Closed all L) : ∀ (n i j : Nat), anc all n i j = true → L j = true → L i = true
  | 0, i, j, h, _ => by simp [anc] at h
  | n + 1, i, j, h, hL => by
    simp only [anc, nth_eq] at h
    split at h
    · rename_i o ho
      simp only [List.any_eq_true, Bool.and_eq_true, Bool.or_eq_true, decide_eq_true_eq] at h
      obtain ⟨e, he, hb, h | h⟩ := h
      · rw [← h]; exact hC j o e ho hL he hb
      · exact anc_listed hC n i e.on h (hC j o e ho hL he hb)
    · cases h
theorem anc_ready {all : List Oper} {L : Nat → Bool} (hC : Closed all L) {n i j : Nat} {o : Oper} (ho : all[j]? = some o) (hd : ∀ e ∈ o.after.toList, Region.binds .any e = true → L e.on = true) (h : anc all n i j = true) : L i = true := by
  cases n with
  | zero => simp [anc] at h
  | succ n =>
    simp only [anc, nth_eq, ho, List.any_eq_true, Bool.and_eq_true, Bool.or_eq_true, decide_eq_true_eq] at h
    obtain ⟨e, he, hb, h | h⟩ := h
    · rw [← h]; exact hd e he hb
    · exact anc_listed hC n i e.on h (hd e he hb)

theorem DRun.at_ {all : List Oper} : ∀ {l : List (List Key × DE)} {i : Nat} {s s2 : S}, DRun C all i s l s2 → ∀ {j : Nat} {R : List Key} {e : DE}, l[j]? = some (R, e) →
    ValidE C all (i + j) R e (stOf (fun m => decide (m < i + j)) i l s)
  | _, _, _, _, .nil i s, j, R, e, h => by simp at h
  | _, _, _, _, .cons (i := i) (s := s) (R := R0) (e := e0) (l := l) hv ht, 0, R, e, h => by
    simp at h
    obtain ⟨rfl, rfl⟩ := h
    have z : ∀ (l : List (List Key × DE)) (k : Nat) (s : S), i ≤ k → stOf (fun m => decide (m < i)) k l s = s := by
      intro l
      induction l with
      | nil => intro k s _; rfl
      | cons p l ih => intro k s hk; obtain ⟨_, _⟩ := p; simp only [stOf]; rw [if_neg (by simp; omega), ih _ _ (by omega)]
    rw [Nat.add_zero, z _ _ _ (Nat.le_refl _)]
    exact hv
  | _, _, _, _, .cons (i := i) (s := s) (R := R0) (e := e0) (l := l) hv ht, j + 1, R, e, h => by
    have := DRun.at_ ht (j := j) (by simpa using h)
    rw [show i + (j + 1) = i + 1 + j by omega]
    simp only [stOf]
    rw [if_pos (by simp; omega)]
    exact this
theorem DRun.end_ {all : List Oper} : ∀ {l : List (List Key × DE)} {i : Nat} {s s2 : S}, DRun C all i s l s2 → ∀ (L : Nat → Bool), (∀ j, j < l.length → L (i + j) = true) → stOf L i l s = s2
  | _, _, _, _, .nil i s, L, _ => rfl
  | _, _, _, _, .cons (i := i) (s := s) (R := R0) (e := e0) (l := l) hv ht, L, hL => by
    simp only [stOf]
    have h0 := hL 0 (by simp)
    rw [Nat.add_zero] at h0
    rw [if_pos h0]
    exact DRun.end_ ht L (fun j hj => by rw [show i + 1 + j = i + (j + 1) by omega]; exact hL (j + 1) (by simp; omega))

theorem draw_any {all : List Oper} {res : List (List Key × DE)} {s0 s2 : S} (hr : DRun C all 0 s0 res s2) (hl : res.length = all.length) (hi : indepB all 0 (keysOf res) = true) (hb : backB 0 all = true)
    (Q : Exit → Act → World → Prop) (hQ : ∀ a w, H C.g C.N s2 a w → Q .normal a w) : ∀ (fuel : Nat) (listed : Array Bool) (a : Act) (w : World), listed.size = all.length →
      Closed all (fun j => listed.getD j false) → (List.range all.length).countP (fun j => !listed.getD j false) = fuel →
      H C.g C.N (stOf (fun j => listed.getD j false) 0 res s0) a w → wpAny C.P .any all.toArray Q fuel listed a w := by
  have hready : ∀ (listed : Array Bool), listed.size = all.length → Closed all (fun j => listed.getD j false) → Region.ready .any all.toArray listed = [] → ∀ j, j < all.length → listed.getD j false = true := by
    intro listed hsz hC hrd j
    induction j using Nat.strongRecOn with
    | _ j ih =>
      intro hj
      cases hL : listed.getD j false with
      | true => rfl
      | false =>
        exfalso
        have : j ∈ Region.ready .any all.toArray listed := by
          simp only [Region.ready, List.mem_filter, List.mem_range, List.size_toArray]
          refine ⟨hj, ?_⟩
          have h1 : listed.getD j true = false := by
            rw [Array.getD_eq_getD_getElem?] at hL ⊢
            have hlt : j < listed.size := by omega
            rw [Array.getElem?_eq_getElem hlt] at hL ⊢
            simpa using hL
          simp only [h1, Bool.not_false, Bool.true_and, List.getElem?_toArray, List.getElem?_eq_getElem hj, Option.map_some, Option.getD_some]
          rw [Array.all_eq_true_iff_forall_mem]
          intro e he
          by_cases hbe : Region.binds .any e = true
          · have hlt := backB_at hb (List.getElem?_eq_getElem hj) (by simpa using he) hbe
            simp [hbe, ih e.on (by omega) (by omega)]
          · simp [hbe]
        rw [hrd] at this
        cases this
  have hend : ∀ (listed : Array Bool) (a : Act) (w : World), listed.size = all.length → Closed all (fun j => listed.getD j false) → Region.ready .any all.toArray listed = [] → H C.g C.N (stOf (fun j => listed.getD j false) 0 res s0) a w → Q .normal a w := by
    intro listed a w hsz hC hrd hH
    have hall := hready listed hsz hC hrd
    rw [hr.end_ (fun j => listed.getD j false) (fun j hj => by rw [Nat.zero_add]; exact hall j (by omega))] at hH
    exact hQ a w hH
  intro fuel
  induction fuel with
  | zero =>
    intro listed a w hsz hC hf hH
    have hall : ∀ j, j < all.length → listed.getD j false = true := by
      intro j hj
      have := (List.countP_eq_zero.1 hf) j (by simpa using hj)
      simpa using this
    have hrd : Region.ready .any all.toArray listed = [] := by
      simp only [Region.ready, List.filter_eq_nil_iff, List.mem_range, List.size_toArray]
      intro j hj
      have h1 := hall j hj
      have : listed.getD j true = true := by
        rw [Array.getD_eq_getD_getElem?] at h1 ⊢
        have hlt : j < listed.size := by omega
        rw [Array.getElem?_eq_getElem hlt] at h1 ⊢
        simpa using h1
      simp [this]
    exact ⟨hrd, hend listed a w hsz hC hrd hH⟩
  | succ fuel ih =>
    intro listed a w hsz hC hf hH
    refine ⟨fun hrd => hend listed a w hsz hC hrd hH, fun i hmem => ?_⟩
    simp only [Region.ready, List.mem_filter, List.mem_range, List.size_toArray, Bool.and_eq_true, Bool.not_eq_true'] at hmem
    obtain ⟨hin, hun, hdep⟩ := hmem
    have hLi : listed.getD i false = false := by
      rw [Array.getD_eq_getD_getElem?] at hun ⊢
      have hlt : i < listed.size := by omega
      rw [Array.getElem?_eq_getElem hlt] at hun ⊢
      simpa using hun
    have ho : all[i]? = some all[i] := List.getElem?_eq_getElem hin
    have hd : ∀ e ∈ all[i].after.toList, Region.binds .any e = true → listed.getD e.on false = true := by
      intro e he hbe
      simp only [List.getElem?_toArray, ho, Option.map_some, Option.getD_some] at hdep
      have := (Array.all_eq_true_iff_forall_mem.1 hdep) e (by simpa using he)
      simpa [hbe] using this
    have hir : i < res.length := by omega
    have hre : res[i]? = some res[i] := List.getElem?_eq_getElem hir
    generalize res[i] = p at hre
    obtain ⟨R, e⟩ := p
    have hv := hr.at_ hre
    rw [Nat.zero_add] at hv
    have hkey : ∀ {j : Nat} {R' : List Key} {e' : DE}, res[j]? = some (R', e') → (keysOf res)[j]? = some (R', DE.writes e') := fun h => by simp [keysOf, h]
    have hag : Agree R (stOf (fun m => decide (m < i)) 0 res s0) (stOf (fun j => listed.getD j false) 0 res s0) := by
      intro κ hκ
      refine stOf_congr res 0 s0 s0 (same.refl _ _) fun j R' e' hj hw => ?_
      rw [Nat.zero_add]
      rcases Nat.lt_trichotomy j i with hlt | heq | hgt
      · have hc : clash (R', e'.writes) (R, e.writes) = true := by simp [clash, hits_of hw hκ]
        have := indepB_at hi (hkey hj) (hkey hre) hlt hc
        rw [Nat.zero_add, Nat.zero_add] at this
        have := anc_ready hC ho hd this
        simp only [this, hlt, decide_true]
      · subst heq; simp only [hLi, Nat.lt_irrefl, decide_false]
      · have hc : clash (R, e.writes) (R', e'.writes) = true := by simp [clash, hits_of hw hκ]
        have := indepB_at hi (hkey hre) (hkey hj) hgt hc
        rw [Nat.zero_add, Nat.zero_add] at this
        have h2 : listed.getD j false = false := by
          cases hLj : listed.getD j false with
          | false => rfl
          | true => have := anc_listed hC _ _ _ this hLj; rw [hLi] at this; cases this
        rw [h2]
        simp; omega
    refine hv _ hag a w hH _ Q fun a' w' hH' => ?_
    have hset : ∀ j, (listed.setIfInBounds i true).getD j false = (listed.getD j false || decide (j = i)) := by
      intro j
      simp only [Array.getD_eq_getD_getElem?]
      by_cases hji : j = i
      · subst hji
        rw [Array.getElem?_setIfInBounds_self_of_lt (by omega)]; simp
      · rw [Array.getElem?_setIfInBounds_ne (fun e => hji e.symm)]; simp [hji]
    refine ih _ a' w' (by simpa using hsz) ?_ ?_ ?_
    · intro j o e' hj hLj he hbe
      simp only [hset, Bool.or_eq_true, decide_eq_true_eq] at hLj ⊢
      rcases hLj with h | h
      · exact .inl (hC j o e' hj h he hbe)
      · subst h
        rw [ho] at hj; cases hj
        exact .inl (hd e' he hbe)
    · have hcnt : (List.range all.length).countP (fun j => !listed.getD j false) = (List.range all.length).countP (fun j => !(listed.setIfInBounds i true).getD j false) + 1 := by
        have : ∀ (l : List Nat), l.Nodup → l.countP (fun j => !listed.getD j false) = l.countP (fun j => !(listed.setIfInBounds i true).getD j false) + (if i ∈ l then 1 else 0) := by
          intro l
          induction l with
          | nil => intro _; simp
          | cons x l ih =>
            intro hn
            have hn' := List.nodup_cons.1 hn
            have ih := ih hn'.2
            simp only [List.countP_cons, ih, hset]
            by_cases hx : x = i
            · subst hx
              have : x ∉ l := hn'.1
              simp [this, hLi]
            · have : i ∈ x :: l ↔ i ∈ l := by simp [Ne.symm hx]
              simp only [this, hx, decide_false, Bool.or_false]
              omega
        rw [this _ List.nodup_range, if_pos (by simpa using hin)]
      omega
    · refine hH'.eq fun κ => ?_
      have hins := stOf_insert (L := fun j => listed.getD j false) (κ := κ) res 0 i s0 hre (by rw [Nat.zero_add]; exact hLi) (fun hκ j R' e' hj hlt hw => by
        rw [Nat.zero_add]
        have hc : clash (R, e.writes) (R', e'.writes) = true := by simp [clash, hits_of hκ hw]
        have := indepB_at hi (hkey hre) (hkey hj) hlt hc
        rw [Nat.zero_add, Nat.zero_add] at this
        cases hLj : listed.getD j false with
        | false => rfl
        | true => have := anc_listed hC _ _ _ this hLj; rw [hLi] at this; cases this)
      rw [Nat.zero_add] at hins
      have e1 : (fun j => (listed.setIfInBounds i true).getD j false) = fun j => listed.getD j false || decide (j = i) := funext hset
      rw [e1]
      exact hins.symm

theorem H.drew {g : Gh} {N : Nat} {s : S} {a : Act} {w : World} (h : H g N s a w) : H g N s a { w with drawn := w.drawn + 1 } := by
  obtain ⟨hd, M, E, hs, hp⟩ := h
  have hM : ∀ b j v, M b j = some v → M b j = some v := fun _ _ _ h => h
  refine ⟨hd, M, E, { hs with
    rw := fun i r hi => ?_
    ar := fun i r hi => ?_ }, hp⟩
  · obtain ⟨q, h1, h2⟩ := hs.rw i r hi
    exact ⟨q, h1, h2.mono hM (Env.le_refl E) (fun b h => ⟨h, rfl⟩) fun b j h => ⟨h, rfl⟩⟩
  · obtain ⟨q, h1, h2⟩ := hs.ar i r hi
    exact ⟨q, h1, h2.mono hM (Env.le_refl E) (fun b j h => ⟨h, rfl⟩) fun b j h => ⟨h, rfl⟩⟩

theorem draw_region {all : List Oper} {id : Nat} {res : List (List Key × DE)} {s2 : S} (hm : C.P.follows .mixedOrders = true) (hr : DRun C all 0 s res s2) (hl : res.length = all.length) (hi : indepB all 0 (keysOf res) = true) (hb : backB 0 all = true)
    (h : Wk C k s2) : Wk C (.code (.region id all.toArray true) :: k) s := by
  intro a w hx
  refine wp_region_any hm ?_
  have hz : ∀ j, (Array.replicate all.length false).getD j false = false := by
    intro j
    simp only [Array.getD_eq_getD_getElem?, Array.getElem?_replicate]
    split <;> rfl
  refine draw_any hr hl hi hb _ (fun a w hH => h a w hH) _ _ a _ (by simp) ?_ ?_ ?_
  · intro j o e _ hL
    simp only [List.size_toArray] at hL
    rw [hz] at hL; cases hL
  · simp only [List.size_toArray, hz]
    simp
  · have e1 : (fun j => (Array.replicate all.toArray.size false).getD j false) = fun _ => false := funext fun j => by simp only [List.size_toArray]; exact hz j
    rw [e1]
    have z : ∀ (l : List (List Key × DE)) (k : Nat) (s : S), stOf (fun _ => false) k l s = s := by
      intro l
      induction l with
      | nil => intro k s; rfl
      | cons p l ih => intro k s; obtain ⟨_, _⟩ := p; simp [stOf, ih]
    rw [z]
    exact hx.drew

end Go.Dm
