/- Weaker descriptions of the same state: what is dropped, named otherwise, numbered anew. -/
import Derived.Test.YtipeimcdjijkgaaEm5
namespace Go.Dm
open Go Go.RowKit
set_option linter.unnecessarySimpa false
set_option linter.constructorNameAsVariable false
set_option linter.unusedSectionVars false
set_option linter.unusedSimpArgs false
set_option linter.unusedVariables false

/-- a state that says no more than another one -/
theorem St.weak {g : Gh} {N : Nat} {M : Mem} {E E' : Env} {s s' : S} {tmps : Array Value} {w : World} (hs : St g N M E s tmps w)
    (hfr : ∀ i y, aget s'.fr i = some y → ∃ x, aget s.fr i = some x ∧ ∀ v, Rel M E v x → Rel M E' v y)
    (hbx : ∀ i' cs', aget s'.bx i' = some cs' → ∃ i cs, aget s.bx i = some cs ∧ (∀ b, E.bx i = some b → E'.bx i' = some b) ∧ (∀ b, E.own b = some (0, i, 0) → E'.own b = some (0, i', 0)) ∧
      cs'.length = cs.length ∧ ∀ (j : Nat) (c c' : AV) (v : Value), cs[j]? = some c → cs'[j]? = some c' → RelS M E v c → RelS M E' v c')
    (hbxn : ∀ i, aget s'.bx i = none → E'.bx i = none)
    (hrw : ∀ i' r', aget s'.rw i' = some r' → ∃ i r, aget s.rw i = some r ∧ (∀ q, E.rw i = some q → E'.rw i' = some { q with ver := r'.ver }) ∧ (∀ b, E.own b = some (1, i, 0) → E'.own b = some (1, i', 0)) ∧
      (∀ b p, E.own b = some (5, i, p) → E'.own b = some (5, i', p)) ∧ r'.ty = r.ty ∧ r'.sz = r.sz ∧ (r'.k = r.k ∨ r'.k = r.xs.length) ∧ r'.xs = r.xs ∧ r'.pu = r.pu ∧ r'.ns = r.ns ∧ r'.cm ≤ r.cm ∧ (r'.nl = true → r.nl = true) ∧ (r.pu ≠ 0 → (E.arO r.ns).le (E'.arO r.ns)))
    (hrwn : ∀ i, aget s'.rw i = none → E'.rw i = none)
    (hmp : ∀ i' es', aget s'.mp i' = some es' → ∃ i es, aget s.mp i = some es ∧ (∀ b, E.mp i = some b → E'.mp i' = some b) ∧ (∀ b, E.own b = some (2, i, 0) → E'.own b = some (2, i', 0)) ∧
      es'.length = es.length ∧ ∀ (j : Nat) (c c' : AV × AV), es[j]? = some c → es'[j]? = some c' → c'.1 = c.1 ∧ ∀ v, Rel M Env.none v c.2 → Rel M Env.none v c'.2)
    (hmpn : ∀ i, aget s'.mp i = none → E'.mp i = none)
    (har : ∀ i r, aget s'.ar i = some r → aget s.ar i = some r ∧ E'.ar i = E.ar i ∧ (∀ b p, E.own b = some (3, i, p) → E'.own b = some (3, i, p)) ∧ (∀ b p, E.own b = some (6, i, p) → E'.own b = some (6, i, p)) ∧ (E.arO r.ns).le (E'.arO r.ns))
    (harn : ∀ i, aget s'.ar i = none → E'.ar i = none)
    (hown : ∀ b o', E'.own b = some o' → ∃ o, E.own b = some o ∧ ∀ j, j < sealN s o → j < sealN s' o') : St g N M E' s' tmps w where
  size := hs.size
  fr := fun i y hi => by
    obtain ⟨x, h1, h2⟩ := hfr i y hi
    exact ⟨(hs.fr i x h1).1, h2 _ (hs.fr i x h1).2⟩
  mem := fun b j v hv => by
    obtain ⟨h1, h2⟩ := hs.mem b j v hv
    refine ⟨h1, fun o' ho' => ?_⟩
    obtain ⟨o, ho, hl⟩ := hown b o' ho'
    exact hl j (h2 o ho)
  bx := fun i' cs' hi => by
    obtain ⟨i, cs, h1, h2, h3, h4, h5⟩ := hbx i' cs' hi
    obtain ⟨b, g1, g2, t, vs, g3, g4, g5⟩ := hs.bx i cs h1
    refine ⟨b, h2 b g1, h3 b g2, t, vs, g3, g4.trans h4.symm, fun j v c' hv hc' => ?_⟩
    have hj := (List.getElem?_eq_some_iff.1 hc').1
    have hc : cs[j]? = some cs[j] := List.getElem?_eq_getElem (by omega)
    exact h5 j _ c' v hc hc' (g5 j v _ hv hc)
  bxn := hbxn
  rw := fun i' r' hi => by
    obtain ⟨i, r, h1, h2, h3, h4, e1, e2, e3, e4, e5, e6, e7, e8, e9⟩ := hrw i' r' hi
    obtain ⟨q, hq, hok⟩ := hs.rw i r h1
    refine ⟨_, h2 q hq, ⟨by rw [e2]; exact hok.sz, rfl, by rw [e4]; exact hok.n, hok.nc, hok.cap, by rw [e4, e2]; exact hok.es, by rw [e4]; exact e3.elim (fun e => by rw [e]; exact hok.k) (fun e => Nat.le_of_eq e), Nat.le_trans e7 hok.cm, fun h => by rw [e4]; exact hok.nl (e8 h), ?_⟩⟩
    rcases hok.blk with hb | ⟨blk, vs, g1, g2, g3, g4, g5⟩
    · exact .inl hb
    · refine .inr ⟨blk, vs, g1, h3 blk g2, by rw [e1]; exact g3, g4, ?_⟩
      rw [e5, e6, e4]
      exact g5.mono (fun _ _ _ h => h) e9 fun b p ho => ⟨h4 b p ho, rfl⟩
  rwn := hrwn
  mp := fun i' es' hi => by
    obtain ⟨i, es, h1, h2, h3, h4, h5⟩ := hmp i' es' hi
    obtain ⟨r, g1, g2, ents, clock, g3, g4, g5⟩ := hs.mp i es h1
    refine ⟨r, h2 r g1, h3 r g2, ents, clock, g3, g4.trans h4.symm, fun j e p' he hp' => ?_⟩
    have hj := (List.getElem?_eq_some_iff.1 hp').1
    have hp : es[j]? = some es[j] := List.getElem?_eq_getElem (by omega)
    obtain ⟨f1, f2⟩ := h5 j _ p' hp hp'
    obtain ⟨k1, k2⟩ := g5 j e _ he hp
    exact ⟨by rw [f1]; exact k1, f2 _ k2⟩
  mpn := hmpn
  ar := fun i r hi => by
    obtain ⟨h1, h2, h3, h4, h5⟩ := har i r hi
    obtain ⟨bs, hbs, hok⟩ := hs.ar i r h1
    refine ⟨bs, by rw [h2]; exact hbs, ⟨hok.n, hok.es, fun k x hx => ?_⟩⟩
    obtain ⟨b, vs, g1, g2, g3, g4, g5⟩ := hok.el k x hx
    exact ⟨b, vs, g1, h3 b k g2, g3, g4, g5.mono (fun _ _ _ h => h) (fun _ => h5) fun b p ho => ⟨h4 b p ho, rfl⟩⟩
  arn := harn
  live := fun b o' h => by
    obtain ⟨o, ho, _⟩ := hown b o' h
    exact hs.live b o ho
  foreign := fun b h => by
    obtain ⟨h1, h2, h3⟩ := hs.foreign b h
    refine ⟨h1, h2, ?_⟩
    cases ho : E'.own b with
    | none => rfl
    | some o' => obtain ⟨o, ho, _⟩ := hown b o' ho; rw [h3] at ho; cases ho
  m0 := hs.m0
  mf := hs.mf
  os := hs.os
  tape := hs.tape
  output := hs.output
  grow := hs.grow

/-- of what is named, these alone -/
def Env.keep (E : Env) (kb kr km ka : Nat → Bool) : Env where
  bx i := if kb i then E.bx i else Option.none
  rw i := if kr i then E.rw i else Option.none
  mp i := if km i then E.mp i else Option.none
  ar i := if ka i then E.ar i else Option.none
  own b := match E.own b with
    | some (k, i, p) => if (k = 0 ∧ kb i = true) ∨ ((k = 1 ∨ k = 5) ∧ kr i = true) ∨ (k = 2 ∧ km i = true) ∨ ((k = 3 ∨ k = 6) ∧ ka i = true) then some (k, i, p) else Option.none
    | Option.none => Option.none

theorem Env.keep_p0 {E0 E : Env} (h : Env.p0 E0 E) (kb kr km ka : Nat → Bool) : Env.p0 E0 (E.keep kb kr km ka) := by
  refine ⟨fun i b hi e => ?_, fun i q hi e hv => ?_, fun i r hi e => ?_, fun i bs hi e => ?_⟩ <;> simp only [Env.keep] at e <;> split at e <;> first | (cases e; done) | skip
  · exact h.bx i b hi e
  · exact h.rw i q hi e hv
  · exact h.mp i r hi e
  · exact h.ar i bs hi e
theorem Env.keep_le (E : Env) (kb kr km ka : Nat → Bool) : (E.keep kb kr km ka).le E := by
  refine ⟨fun i b h => ?_, fun i q h => ?_, fun i r h => ?_, fun i bs h => ?_⟩ <;> simp only [Env.keep] at h <;> split at h <;> first | (cases h; done) | skip
  · exact h
  · exact ⟨q, h, Nat.le_refl _, fun _ => ⟨rfl, rfl, rfl, rfl⟩⟩
  · exact h
  · exact ⟨[], by simpa using h⟩

section
variable {M : Mem} {E : Env} {kb kr km ka : Nat → Bool}
theorem keep_own {b k i p : Nat} (h : E.own b = some (k, i, p)) (hk : (k = 0 ∧ kb i = true) ∨ ((k = 1 ∨ k = 5) ∧ kr i = true) ∨ (k = 2 ∧ km i = true) ∨ ((k = 3 ∨ k = 6) ∧ ka i = true)) : (E.keep kb kr km ka).own b = some (k, i, p) := by
  simp only [Env.keep, h]
  rw [if_pos hk]
theorem keep_own' {b : Nat} {o : Nat × Nat × Nat} (h : (E.keep kb kr km ka).own b = some o) : E.own b = some o ∧ ((o.1 = 0 ∧ kb o.2.1 = true) ∨ ((o.1 = 1 ∨ o.1 = 5) ∧ kr o.2.1 = true) ∨ (o.1 = 2 ∧ km o.2.1 = true) ∨ ((o.1 = 3 ∨ o.1 = 6) ∧ ka o.2.1 = true)) := by
  simp only [Env.keep] at h
  split at h
  · rename_i k i p ho
    split at h
    · rename_i hk
      cases h
      exact ⟨ho, hk⟩
    · cases h
  · cases h

theorem RelS.keep {v : Value} {x : AV} (h : RelS M E v x) : x.okIn kb kr km ka = true → RelS M (E.keep kb kr km ka) v x := by
  induction h with
  | pure h => exact fun _ => .pure h
  | any h => exact fun _ => .any h
  | ptr i off b h => exact fun hx => .ptr i off b (by simp only [AV.okIn] at hx; simp [Env.keep, hx, h])
  | row i vr n c a q hq hv h => exact fun hx => .row i vr n c a q (by simp only [AV.okIn] at hx; simp [Env.keep, hx, hq]) hv h
  | rowv i vr off m n c a q hq hv h => exact fun hx => .rowv i vr off m n c a q (by simp only [AV.okIn] at hx; simp [Env.keep, hx, hq]) hv h
  | ep i vr k off ad q hq hv h => exact fun hx => .ep i vr k off ad q (by simp only [AV.okIn] at hx; simp [Env.keep, hx, hq]) hv h
  | aptr i k off bs b h hk => exact fun hx => .aptr i k off bs b (by simp only [AV.okIn] at hx; simp [Env.keep, hx, h]) hk
  | mp i r h => exact fun hx => .mp i r (by simp only [AV.okIn] at hx; simp [Env.keep, hx, h])
  | popt b x ht hf ih => exact fun hx => .popt b x (fun e => ih e (by simpa only [AV.okIn] using hx)) hf
  | fn f vs cs hl h ih => exact fun hx => .fn f vs cs hl fun j v c hv hc => ih j v c hv hc (okInL_get (by simpa only [AV.okIn] using hx) hc)

theorem Rel.keep {v : Value} {x : AV} (h : Rel M E v x) : x.okIn kb kr km ka = true → Rel M (E.keep kb kr km ka) v x := by
  induction h with
  | cell h => exact fun hx => .cell (h.keep hx)
  | agg vs cs hl h => exact fun hx => .agg vs cs hl fun j v c hv hc => (h j v c hv hc).keep (okInL_get (by simpa only [AV.okIn] using hx) hc)
  | tup vs cs hl h ih => exact fun hx => .tup vs cs hl fun j v c hv hc => ih j v c hv hc (okInL_get (by simpa only [AV.okIn] using hx) hc)
  | any v => exact fun _ => .any v
  | when v c x h hu ih => exact fun hx => .when v c x (fun hc => ih hc (by simpa only [AV.okIn] using hx)) hu

theorem keep_arO (ns : List Nat) (h : ∀ i, memN i ns = true → ka i = true) : (E.arO ns).le ((E.keep kb kr km ka).arO ns) := by
  refine ⟨fun i b e => (by cases e), fun i q e => (by cases e), fun i r e => (by cases e), fun i bs e => ?_⟩
  simp only [Env.arO, Env.keep] at e ⊢
  split at e
  · rename_i hm
    rw [if_pos hm, if_pos (h i hm)]; exact ⟨[], by simpa using e⟩
  · cases e
end

def hasKey {α : Type} : List (Nat × α) → Nat → Bool
  | [], _ => false
  | (j, _) :: l, i => match Nat.beq i j with
    | true => true
    | false => hasKey l i
theorem hasKey_aget {α : Type} : ∀ (l : List (Nat × α)) (i : Nat), hasKey l i = (aget l i).isSome
  | [], i => rfl
  | (j, v) :: l, i => by
    rw [aget_cons]
    simp only [hasKey]
    split
    · rename_i h; rw [if_pos (beq_true h)]; rfl
    · rename_i h; rw [if_neg (beq_false h)]; exact hasKey_aget l i
theorem hasKey_some {α : Type} {l : List (Nat × α)} {i : Nat} {v : α} (h : aget l i = some v) : hasKey l i = true := by rw [hasKey_aget, h]; rfl
theorem hasKey_none {α : Type} {l : List (Nat × α)} {i : Nat} (h : aget l i = none) : hasKey l i = false := by rw [hasKey_aget, h]; rfl

theorem memN_in {i : Nat} : ∀ {l : List Nat}, memN i l = true → i ∈ l
  | [], h => by cases h
  | j :: l, h => by
    simp only [memN] at h
    split at h
    · rename_i e; rw [beq_true e]; simp
    · exact List.mem_cons_of_mem _ (memN_in h)

/-- all of a list are of a kind -/
def allN (f : Nat → Bool) : List Nat → Bool
  | [] => true
  | i :: l => match f i with | true => allN f l | false => false
theorem allN_get {f : Nat → Bool} : ∀ {l : List Nat} {i : Nat}, allN f l = true → i ∈ l → f i = true
  | j :: l, i, h, hi => by
    simp only [allN] at h
    split at h
    · rename_i hj
      rcases List.mem_cons.1 hi with rfl | hi
      · exact hj
      · exact allN_get h hi
    · cases h

def okF (f : AV → Bool) : List (Nat × AV) → Bool
  | [] => true
  | (_, x) :: l => match f x with | true => okF f l | false => false
def okB (f : List AV → Bool) : List (Nat × List AV) → Bool
  | [] => true
  | (_, x) :: l => match f x with | true => okB f l | false => false
def okM (f : List AV → Bool) : List (Nat × List (AV × AV)) → Bool
  | [] => true
  | (_, x) :: l => match f (x.map (·.2)) with | true => okM f l | false => false
def okR (f : List Nat → Bool) : List (Nat × Rw) → Bool
  | [] => true
  | (_, x) :: l => match f x.ns with | true => okR f l | false => false
def okA (f : List Nat → Bool) : List (Nat × Arn) → Bool
  | [] => true
  | (_, x) :: l => match f x.ns with | true => okA f l | false => false
theorem okF_get {f : AV → Bool} : ∀ {l : List (Nat × AV)} {i : Nat} {x : AV}, okF f l = true → aget l i = some x → f x = true
  | [], _, _, _, h => by cases h
  | (j, y) :: l, i, x, hl, h => by
    simp only [okF] at hl
    split at hl
    · rw [aget_cons] at h
      split at h
      · cases h; assumption
      · exact okF_get hl h
    · cases hl
theorem okB_get {f : List AV → Bool} : ∀ {l : List (Nat × List AV)} {i : Nat} {x : List AV}, okB f l = true → aget l i = some x → f x = true
  | [], _, _, _, h => by cases h
  | (j, y) :: l, i, x, hl, h => by
    simp only [okB] at hl
    split at hl
    · rw [aget_cons] at h
      split at h
      · cases h; assumption
      · exact okB_get hl h
    · cases hl
theorem okM_get {f : List AV → Bool} : ∀ {l : List (Nat × List (AV × AV))} {i : Nat} {x : List (AV × AV)}, okM f l = true → aget l i = some x → f (x.map (·.2)) = true
  | [], _, _, _, h => by cases h
  | (j, y) :: l, i, x, hl, h => by
    simp only [okM] at hl
    split at hl
    · rw [aget_cons] at h
      split at h
      · cases h; assumption
      · exact okM_get hl h
    · cases hl
theorem okR_get {f : List Nat → Bool} : ∀ {l : List (Nat × Rw)} {i : Nat} {x : Rw}, okR f l = true → aget l i = some x → f x.ns = true
  | [], _, _, _, h => by cases h
  | (j, y) :: l, i, x, hl, h => by
    simp only [okR] at hl
    split at hl
    · rw [aget_cons] at h
      split at h
      · cases h; assumption
      · exact okR_get hl h
    · cases hl
theorem okA_get {f : List Nat → Bool} : ∀ {l : List (Nat × Arn)} {i : Nat} {x : Arn}, okA f l = true → aget l i = some x → f x.ns = true
  | [], _, _, _, h => by cases h
  | (j, y) :: l, i, x, hl, h => by
    simp only [okA] at hl
    split at hl
    · rw [aget_cons] at h
      split at h
      · cases h; assumption
      · exact okA_get hl h
    · cases hl

/-- what is named is there -/
def closedB (t : S) : Bool := match okF (AV.okIn (hasKey t.bx) (hasKey t.rw) (hasKey t.mp) (hasKey t.ar)) t.fr with
  | true => match okB (AV.okInL (hasKey t.bx) (hasKey t.rw) (hasKey t.mp) (hasKey t.ar)) t.bx with
    | true => match okR (allN (hasKey t.ar)) t.rw with
      | true => okA (allN (hasKey t.ar)) t.ar
      | false => false
    | false => false
  | false => false
theorem closedB_ok {t : S} (h : closedB t = true) : okF (AV.okIn (hasKey t.bx) (hasKey t.rw) (hasKey t.mp) (hasKey t.ar)) t.fr = true ∧ okB (AV.okInL (hasKey t.bx) (hasKey t.rw) (hasKey t.mp) (hasKey t.ar)) t.bx = true ∧
    okR (allN (hasKey t.ar)) t.rw = true ∧ okA (allN (hasKey t.ar)) t.ar = true := by
  unfold closedB at h
  split at h
  · rename_i h1
    split at h
    · rename_i h2
      split at h
      · rename_i h4; exact ⟨h1, h2, h4, h⟩
      · cases h
    · cases h
  · cases h

/-- a part of a state -/
theorem St.sub {g : Gh} {N : Nat} {M : Mem} {E : Env} {s t : S} {tmps : Array Value} {w : World} (hs : St g N M E s tmps w)
    (hf : ∀ i v, aget t.fr i = some v → aget s.fr i = some v) (hb : ∀ i v, aget t.bx i = some v → aget s.bx i = some v) (hr : ∀ i v, aget t.rw i = some v → aget s.rw i = some v) (hm : ∀ i v, aget t.mp i = some v → aget s.mp i = some v)
    (ha : ∀ i v, aget t.ar i = some v → aget s.ar i = some v) (hc : closedB t = true) :
    St g N M (E.keep (hasKey t.bx) (hasKey t.rw) (hasKey t.mp) (hasKey t.ar)) t tmps w := by
  obtain ⟨c1, c2, c4, c5⟩ := closedB_ok hc
  refine hs.weak (fun i y hi => ⟨y, hf i y hi, fun v hv => hv.keep (okF_get c1 hi)⟩) (fun i cs hi => ⟨i, cs, hb i cs hi, fun b h => ?_, fun b h => keep_own h (.inl ⟨rfl, hasKey_some hi⟩), rfl, fun j c c' v h1 h2 hv => ?_⟩) (fun i hi => ?_)
    (fun i r hi => ⟨i, r, hr i r hi, fun q h => ?_, fun b h => keep_own h (.inr (.inl ⟨.inl rfl, hasKey_some hi⟩)), fun b p h => keep_own h (.inr (.inl ⟨.inr rfl, hasKey_some hi⟩)), rfl, rfl, .inl rfl, rfl, rfl, rfl, Nat.le_refl _, fun h => h, fun _ => keep_arO _ fun j hj => ?_⟩) (fun i hi => ?_)
    (fun i es hi => ⟨i, es, hm i es hi, fun b h => ?_, fun b h => keep_own h (.inr (.inr (.inl ⟨rfl, hasKey_some hi⟩))), rfl, fun j c c' h1 h2 => ?_⟩) (fun i hi => ?_)
    (fun i r hi => ⟨ha i r hi, ?_, fun b p h => keep_own h (.inr (.inr (.inr ⟨.inl rfl, hasKey_some hi⟩))), fun b p h => keep_own h (.inr (.inr (.inr ⟨.inr rfl, hasKey_some hi⟩))), keep_arO _ fun j hj => ?_⟩) (fun i hi => ?_) (fun b o ho => ?_)
  · simp [Env.keep, hasKey_some hi, h]
  · rw [h1] at h2; cases h2
    exact hv.keep (okInL_get (okB_get c2 hi) h1)
  · simp [Env.keep, hasKey_none hi]
  · obtain ⟨q', hq', hok⟩ := hs.rw i r (hr i r hi)
    rw [h] at hq'; cases hq'
    simp only [Env.keep, hasKey_some hi, if_true, h]
    rw [← hok.ver]
  · exact allN_get (okR_get c4 hi) (memN_in hj)
  · simp [Env.keep, hasKey_none hi]
  · simp [Env.keep, hasKey_some hi, h]
  · rw [h1] at h2; cases h2
    exact ⟨rfl, fun v hv => hv⟩
  · simp [Env.keep, hasKey_none hi]
  · simp [Env.keep, hasKey_some hi]
  · exact allN_get (okA_get c5 hi) (memN_in hj)
  · simp [Env.keep, hasKey_none hi]
  · obtain ⟨h1, h2⟩ := keep_own' ho
    refine ⟨o, h1, fun j hj => ?_⟩
    obtain ⟨k, i, p⟩ := o
    rcases h2 with ⟨e, h2⟩ | ⟨e, h2⟩ | ⟨e, h2⟩ | ⟨e, h2⟩ <;> simp only at e h2
    · subst e; simp [sealN] at hj
    · rw [hasKey_aget] at h2
      obtain ⟨r, hr2⟩ := Option.isSome_iff_exists.1 h2
      have := hr i r hr2
      rcases e with rfl | rfl <;> simpa [sealN, hr2, this] using hj
    · subst e; simp [sealN] at hj
    · rw [hasKey_aget] at h2
      obtain ⟨r, hr2⟩ := Option.isSome_iff_exists.1 h2
      have := ha i r hr2
      rcases e with rfl | rfl <;> simpa [sealN, hr2, this] using hj

def S.none : S := ⟨[], [], [], [], []⟩
abbrev no : Nat → Bool := fun _ => false
def AV.isPure (x : AV) : Bool := x.okIn no no no no

theorem Env.keep_none (E : Env) : E.keep no no no no = Env.none := by
  have : ∀ b, (E.keep no no no no).own b = Option.none := by
    intro b
    cases h : (E.keep no no no no).own b with
    | none => rfl
    | some o => obtain ⟨_, h | h | h | h⟩ := keep_own' h <;> cases h.2
  simp only [Env.none]
  unfold Env.keep at this ⊢
  simp only [Bool.false_eq_true, if_false]
  congr 1
  funext b
  simpa using this b

theorem Rel.of_pure {M : Mem} {E : Env} (E' : Env) {v : Value} {x : AV} (h : Rel M E v x) (hx : x.okIn no no no no = true) : Rel M E' v x := by
  have h1 := h.keep (kb := no) (kr := no) (km := no) (ka := no) hx
  rw [Env.keep_none] at h1
  exact h1.monoE ⟨fun _ _ h => (by cases h), fun _ _ h => (by cases h), fun _ _ h => (by cases h), fun _ _ h => (by cases h)⟩

/-- the ghost begins anew -/
theorem St.rebase {g : Gh} {M : Mem} {E : Env} {s : S} {N : Nat} {tmps : Array Value} {w : World} (hs : St g N M E s tmps w) (F : Nat → Prop) (hF : ∀ b, F b → b < w.heap.size ∧ E.own b = none) : St ⟨w, F, M, Env.none⟩ N M E s tmps w :=
  { hs with foreign := fun b h => ⟨(hF b h).1, rfl, (hF b h).2⟩, m0 := fun _ _ _ h => h, mf := fun _ _ _ h _ => h, os := rfl, tape := rfl, output := rfl, grow := Nat.le_refl _ }
theorem St.noFr {g : Gh} {M : Mem} {E : Env} {s : S} {N : Nat} {tmps : Array Value} {w : World} (hs : St g N M E s tmps w) : St g 0 M E { s with fr := [] } #[] w :=
  { hs with size := rfl, fr := fun i y h => by cases h }

end Go.Dm
