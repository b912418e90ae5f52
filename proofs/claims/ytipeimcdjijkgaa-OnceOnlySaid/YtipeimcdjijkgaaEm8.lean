/- Names are exchanged: a contract holds under other names, and with other numbers of its rows' headers. -/
import Derived.Test.YtipeimcdjijkgaaEm7
namespace Go.Dm
open Go Go.RowKit
set_option linter.unnecessarySimpa false
set_option linter.constructorNameAsVariable false
set_option linter.unusedSectionVars false
set_option linter.unusedSimpArgs false
set_option linter.unusedVariables false

def sw1 (a b i : Nat) : Nat := match Nat.beq i a with
  | true => b
  | false => match Nat.beq i b with
    | true => a
    | false => i
def swL : List (Nat × Nat) → Nat → Nat
  | [], i => i
  | (a, b) :: l, i => swL l (sw1 a b i)
def swR : List (Nat × Nat) → Nat → Nat
  | [], i => i
  | (a, b) :: l, i => sw1 a b (swR l i)
theorem sw1_eq (a b i : Nat) : sw1 a b i = if i = a then b else if i = b then a else i := by
  unfold sw1
  split
  · rename_i h; rw [if_pos (beq_true h)]
  · rename_i h
    rw [if_neg (beq_false h)]
    split
    · rename_i h'; rw [if_pos (beq_true h')]
    · rename_i h'; rw [if_neg (beq_false h')]
theorem sw1_sw1 (a b i : Nat) : sw1 a b (sw1 a b i) = i := by
  simp only [sw1_eq]
  by_cases h1 : i = a
  · subst h1
    simp only [if_true]
    by_cases h2 : b = i
    · subst h2; simp
    · simp [h2]
  · by_cases h2 : i = b
    · subst h2; simp [h1]
    · simp [h1, h2]
theorem swR_L : ∀ (l : List (Nat × Nat)) (i : Nat), swR l (swL l i) = i
  | [], i => rfl
  | (a, b) :: l, i => by simp only [swL, swR, swR_L l]; exact sw1_sw1 a b i
theorem swL_R : ∀ (l : List (Nat × Nat)) (i : Nat), swL l (swR l i) = i
  | [], i => rfl
  | (a, b) :: l, i => by simp only [swL, swR, sw1_sw1]; exact swL_R l i

def dget : List (Nat × Nat) → Nat → Nat
  | [], _ => 0
  | (j, v) :: l, i => match Nat.beq i j with
    | true => v
    | false => dget l i

structure Ren where
  b : List (Nat × Nat)
  r : List (Nat × Nat)
  m : List (Nat × Nat)
  d : List (Nat × Nat)

mutual
def AV.ren (σ : Ren) : AV → AV
  | .ptr i o => .ptr (swL σ.b i) o
  | .row i v => .row (swL σ.r i) (v + dget σ.d i)
  | .rowv i v o n => .rowv (swL σ.r i) (v + dget σ.d i) o n
  | .ep i v k o => .ep (swL σ.r i) (v + dget σ.d i) k o
  | .mp i => .mp (swL σ.m i)
  | .popt b x => .popt b (AV.ren σ x)
  | .fn f cs => .fn f (AV.renL σ cs)
  | .agg cs => .agg (AV.renL σ cs)
  | .tup cs => .tup (AV.renL σ cs)
  | .when c x => .when c (AV.ren σ x)
  | x => x
def AV.renL (σ : Ren) : List AV → List AV
  | [] => []
  | x :: l => AV.ren σ x :: AV.renL σ l
end
theorem renL_eq (σ : Ren) : ∀ l, AV.renL σ l = l.map (AV.ren σ)
  | [] => rfl
  | x :: l => by simp only [AV.renL, renL_eq σ l, List.map_cons]

def renF (σ : Ren) : List (Nat × AV) → List (Nat × AV)
  | [] => []
  | (i, x) :: l => (i, x.ren σ) :: renF σ l
def renB (σ : Ren) : List (Nat × List AV) → List (Nat × List AV)
  | [] => []
  | (i, x) :: l => (swL σ.b i, AV.renL σ x) :: renB σ l
def renR (σ : Ren) : List (Nat × Rw) → List (Nat × Rw)
  | [] => []
  | (i, ⟨ty, sz, ver, k, cm, nl, pu, ns, xs⟩) :: l => (swL σ.r i, ⟨ty, sz, ver + dget σ.d i, k, cm, nl, pu, ns, xs⟩) :: renR σ l
def renM (σ : Ren) : List (Nat × List (AV × AV)) → List (Nat × List (AV × AV))
  | [] => []
  | (i, x) :: l => (swL σ.m i, x) :: renM σ l
def S.ren (σ : Ren) (s : S) : S := ⟨renF σ s.fr, renB σ s.bx, renR σ s.rw, renM σ s.mp, s.ar⟩

theorem swL_inj {l : List (Nat × Nat)} {i j : Nat} (h : swL l i = swL l j) : i = j := by rw [← swR_L l i, h, swR_L]

theorem renF_get (σ : Ren) : ∀ (l : List (Nat × AV)) (i : Nat), aget (renF σ l) i = (aget l i).map (AV.ren σ)
  | [], i => rfl
  | (j, x) :: l, i => by
    simp only [renF, aget_cons, renF_get σ l i]
    split <;> rfl
theorem renB_get (σ : Ren) : ∀ (l : List (Nat × List AV)) (i : Nat), aget (renB σ l) (swL σ.b i) = (aget l i).map (AV.renL σ)
  | [], i => rfl
  | (j, x) :: l, i => by
    simp only [renB, aget_cons, renB_get σ l i]
    by_cases h : i = j
    · subst h; simp
    · rw [if_neg (fun e => h (swL_inj e)), if_neg h]
theorem renR_get (σ : Ren) : ∀ (l : List (Nat × Rw)) (i : Nat), aget (renR σ l) (swL σ.r i) = (aget l i).map fun r => { r with ver := r.ver + dget σ.d i }
  | [], i => rfl
  | (j, ⟨ty, sz, ver, k, cm, nl, pu, ns, xs⟩) :: l, i => by
    simp only [renR, aget_cons, renR_get σ l i]
    by_cases h : i = j
    · subst h; simp
    · rw [if_neg (fun e => h (swL_inj e)), if_neg h]
theorem renM_get (σ : Ren) : ∀ (l : List (Nat × List (AV × AV))) (i : Nat), aget (renM σ l) (swL σ.m i) = aget l i
  | [], i => rfl
  | (j, x) :: l, i => by
    simp only [renM, aget_cons, renM_get σ l i]
    by_cases h : i = j
    · subst h; simp
    · rw [if_neg (fun e => h (swL_inj e)), if_neg h]

def relab (fb fr fm : Nat → Nat) (o : Nat × Nat × Nat) : Nat × Nat × Nat :=
  if o.1 = 0 then (o.1, fb o.2.1, o.2.2) else if o.1 = 1 ∨ o.1 = 5 then (o.1, fr o.2.1, o.2.2) else if o.1 = 2 then (o.1, fm o.2.1, o.2.2) else o
def Env.fwd (σ : Ren) (E : Env) : Env where
  bx j := E.bx (swR σ.b j)
  rw j := (E.rw (swR σ.r j)).map fun q => { q with ver := q.ver + dget σ.d (swR σ.r j) }
  mp j := E.mp (swR σ.m j)
  ar := E.ar
  own b := (E.own b).map (relab (swL σ.b) (swL σ.r) (swL σ.m))
def Env.back (σ : Ren) (E : Env) : Env where
  bx i := E.bx (swL σ.b i)
  rw i := (E.rw (swL σ.r i)).map fun q => { q with ver := q.ver - dget σ.d i }
  mp i := E.mp (swL σ.m i)
  ar := E.ar
  own b := (E.own b).map (relab (swR σ.b) (swR σ.r) (swR σ.m))

theorem fwd_rw {E : Env} {σ : Ren} {i : Nat} {q : RwE} (h : E.rw i = some q) : (E.fwd σ).rw (swL σ.r i) = some { q with ver := q.ver + dget σ.d i } := by simp only [Env.fwd, swR_L, h, Option.map_some]
theorem back_rw {E : Env} {σ : Ren} {i : Nat} {q : RwE} (h : E.rw (swL σ.r i) = some q) : (E.back σ).rw i = some { q with ver := q.ver - dget σ.d i } := by simp only [Env.back, h, Option.map_some]
section
variable {M : Mem} {E : Env} {σ : Ren}
theorem renL_get {cs : List AV} {j : Nat} {c : AV} (h : (AV.renL σ cs)[j]? = some c) : ∃ c0, cs[j]? = some c0 ∧ c = c0.ren σ := by
  rw [renL_eq, List.getElem?_map, Option.map_eq_some_iff] at h
  obtain ⟨c0, h0, e⟩ := h
  exact ⟨c0, h0, e.symm⟩
theorem RelS.fwd {v : Value} {x : AV} (h : RelS M E v x) : RelS M (E.fwd σ) v (x.ren σ) := by
  induction h with
  | pure h => cases h <;> exact .pure (by constructor <;> assumption)
  | any h => exact .any h
  | ptr i off b h => exact .ptr _ off b (by simp [Env.fwd, swR_L, h])
  | row i vr n c a q hq hv h => exact .row _ _ n c a _ (fwd_rw hq) (by show vr + _ ≤ q.ver + _; omega) (fun e => h (by have e : vr + dget σ.d i = q.ver + dget σ.d i := e; omega))
  | rowv i vr off m n c a q hq hv h => exact .rowv _ _ off m n c a _ (fwd_rw hq) (by show vr + _ ≤ q.ver + _; omega) (fun e => h (by have e : vr + dget σ.d i = q.ver + dget σ.d i := e; omega))
  | ep i vr k off ad q hq hv h => exact .ep _ _ k off ad _ (fwd_rw hq) (by show vr + _ ≤ q.ver + _; omega) (fun e => h (by have e : vr + dget σ.d i = q.ver + dget σ.d i := e; omega))
  | aptr i k off bs b h hk => exact .aptr i k off bs b h hk
  | mp i r h => exact .mp _ r (by simp [Env.fwd, swR_L, h])
  | popt b x ht hf ih => simp only [AV.ren]; exact .popt b _ ih hf
  | fn f vs cs hl h ih =>
    simp only [AV.ren]
    refine .fn f vs _ (by rw [renL_eq, List.length_map]; exact hl) fun j v c hv hc => ?_
    obtain ⟨c0, h0, rfl⟩ := renL_get hc
    exact ih j v c0 hv h0
theorem Rel.fwd {v : Value} {x : AV} (h : Rel M E v x) : Rel M (E.fwd σ) v (x.ren σ) := by
  induction h with
  | cell h => exact .cell h.fwd
  | agg vs cs hl h =>
    simp only [AV.ren]
    refine .agg vs _ (by rw [renL_eq, List.length_map]; exact hl) fun j v c hv hc => ?_
    obtain ⟨c0, h0, rfl⟩ := renL_get hc
    exact (h j v c0 hv h0).fwd
  | tup vs cs hl h ih =>
    simp only [AV.ren]
    refine .tup vs _ (by rw [renL_eq, List.length_map]; exact hl) fun j v c hv hc => ?_
    obtain ⟨c0, h0, rfl⟩ := renL_get hc
    exact ih j v c0 hv h0
  | any v => simp only [AV.ren]; exact .any v
  | when v c x h hu ih => simp only [AV.ren]; exact .when v c _ ih hu

theorem RelP.ren_inv {v : Value} {y x : AV} (h : RelP M v y) (e : y = x.ren σ) : y = x := by
  cases h <;> cases x <;> simp only [AV.ren] at e <;> first | exact e | (cases e; done) | (cases e; rfl)

theorem RelS.back {v : Value} {y : AV} (h : RelS M E v y) : ∀ x : AV, y = x.ren σ → RelS M (E.back σ) v x := by
  induction h with
  | pure h => intro x e; have := h.ren_inv e; subst this; exact .pure h
  | any h =>
    intro x e
    cases x <;> simp only [AV.ren] at e <;> cases e
    exact .any h
  | ptr i off b h =>
    intro x e
    cases x <;> simp only [AV.ren] at e <;> cases e
    exact .ptr _ _ b h
  | row i vr n c a q hq hv h =>
    intro x e
    cases x <;> simp only [AV.ren] at e <;> cases e
    rename_i i0 v0
    exact .row i0 v0 n c a _ (back_rw hq) (by show v0 ≤ q.ver - _; omega) (fun e => h (by have e : v0 = q.ver - dget σ.d i0 := e; omega))
  | rowv i vr off m n c a q hq hv h =>
    intro x e
    cases x <;> simp only [AV.ren] at e <;> cases e
    rename_i i0 v0
    exact .rowv i0 v0 _ _ n c a _ (back_rw hq) (by show v0 ≤ q.ver - _; omega) (fun e => h (by have e : v0 = q.ver - dget σ.d i0 := e; omega))
  | ep i vr k off ad q hq hv h =>
    intro x e
    cases x <;> simp only [AV.ren] at e <;> cases e
    rename_i i0 v0
    exact .ep i0 v0 _ _ ad _ (back_rw hq) (by show v0 ≤ q.ver - _; omega) (fun e => h (by have e : v0 = q.ver - dget σ.d i0 := e; omega))
  | aptr i k off bs b h hk =>
    intro x e
    cases x <;> simp only [AV.ren] at e <;> cases e
    exact .aptr _ _ _ bs b h hk
  | mp i r h =>
    intro x e
    cases x <;> simp only [AV.ren] at e <;> cases e
    exact .mp _ r h
  | popt b x ht hf ih =>
    intro y e
    cases y <;> simp only [AV.ren] at e <;> cases e
    exact .popt _ _ (fun hb => ih hb _ rfl) hf
  | fn f vs cs hl h ih =>
    intro y e
    cases y <;> simp only [AV.ren] at e <;> cases e
    refine .fn _ vs _ (by rw [hl, renL_eq, List.length_map]) fun j v c hv hc => ?_
    exact ih j v (c.ren σ) hv (by rw [renL_eq, List.getElem?_map, hc]; rfl) c rfl
theorem Rel.back {v : Value} {y : AV} (h : Rel M E v y) : ∀ x : AV, y = x.ren σ → Rel M (E.back σ) v x := by
  induction h with
  | cell h => intro x e; exact .cell (h.back x e)
  | agg vs cs hl h =>
    intro y e
    cases y <;> simp only [AV.ren] at e <;> cases e
    refine .agg vs _ (by rw [hl, renL_eq, List.length_map]) fun j v c hv hc => ?_
    exact (h j v (c.ren σ) hv (by rw [renL_eq, List.getElem?_map, hc]; rfl)).back c rfl
  | tup vs cs hl h ih =>
    intro y e
    cases y <;> simp only [AV.ren] at e <;> cases e
    refine .tup vs _ (by rw [hl, renL_eq, List.length_map]) fun j v c hv hc => ?_
    exact ih j v (c.ren σ) hv (by rw [renL_eq, List.getElem?_map, hc]; rfl) c rfl
  | any v =>
    intro y e
    cases y <;> simp only [AV.ren] at e <;> cases e
    exact .any v
  | when v c x h hu ih =>
    intro y e
    cases y <;> simp only [AV.ren] at e <;> cases e
    exact .when v _ _ (fun hc => ih hc _ rfl) hu
end

theorem arO_le_of {E E' : Env} (h : E'.ar = E.ar) (ns : List Nat) : (E.arO ns).le (E'.arO ns) := by
  refine ⟨fun i b e => (by cases e), fun i q e => (by cases e), fun i r e => (by cases e), fun i bs e => ⟨[], ?_⟩⟩
  simp only [Env.arO, h, List.append_nil] at e ⊢
  exact e

theorem relab_inv {fb fr fm gb gr gm : Nat → Nat} (hb : ∀ i, gb (fb i) = i) (hr : ∀ i, gr (fr i) = i) (hm : ∀ i, gm (fm i) = i) (o : Nat × Nat × Nat) : relab gb gr gm (relab fb fr fm o) = o := by
  obtain ⟨k, i, p⟩ := o
  unfold relab
  by_cases h0 : k = 0
  · simp [h0, hb]
  · by_cases h1 : k = 1 ∨ k = 5
    · simp [h0, h1, hr]
    · by_cases h2 : k = 2
      · simp [h0, h1, h2, hm]
      · simp [h0, h1, h2]

theorem sealN_ren (σ : Ren) (s : S) (o : Nat × Nat × Nat) : sealN (s.ren σ) (relab (swL σ.b) (swL σ.r) (swL σ.m) o) = sealN s o := by
  obtain ⟨k, i, p⟩ := o
  by_cases h1 : k = 1
  · subst h1
    simp only [relab, sealN, S.ren]
    simp only [show ¬ ((1 : Nat) = 0) by omega, if_false, true_or, if_true, renR_get]
    cases aget s.rw i <;> simp
  · by_cases h5 : k = 5
    · subst h5
      simp only [relab, sealN, S.ren]
      simp only [show ¬ ((5 : Nat) = 0) by omega, show ¬ ((5 : Nat) = 1) by omega, if_false, or_true, if_true, renR_get, false_and]
      cases aget s.rw i <;> simp
    · by_cases h0 : k = 0
      · subst h0; simp [relab, sealN]
      · by_cases h2 : k = 2
        · subst h2; simp [relab, sealN]
        · simp [relab, sealN, S.ren, h0, h1, h2, h5]

section
variable {g : Gh} {N : Nat} {M : Mem} {E : Env} {s : S} {tmps : Array Value} {w : World}

theorem St.fwd (hs : St g N M E s tmps w) (σ : Ren) : St g N M (E.fwd σ) (s.ren σ) tmps w := by
  have hb : ∀ i', aget (s.ren σ).bx i' = (aget s.bx (swR σ.b i')).map (AV.renL σ) := fun i' => by
    have := renB_get σ s.bx (swR σ.b i'); rwa [swL_R] at this
  have hr : ∀ i', aget (s.ren σ).rw i' = (aget s.rw (swR σ.r i')).map fun r => { r with ver := r.ver + dget σ.d (swR σ.r i') } := fun i' => by
    have := renR_get σ s.rw (swR σ.r i'); rwa [swL_R] at this
  have hm : ∀ i', aget (s.ren σ).mp i' = aget s.mp (swR σ.m i') := fun i' => by
    have := renM_get σ s.mp (swR σ.m i'); rwa [swL_R] at this
  refine hs.weak (fun i y hi => ?_) (fun i' cs' hi => ?_) (fun i hi => ?_) (fun i' r' hi => ?_) (fun i hi => ?_) (fun i' es' hi => ?_) (fun i hi => ?_) (fun i r hi => ⟨hi, rfl, fun b p h => ?_, fun b p h => ?_, arO_le_of (E := E) (E' := E.fwd σ) rfl _⟩) hs.arn (fun b o' ho => ?_)
  · simp only [S.ren, renF_get, Option.map_eq_some_iff] at hi
    obtain ⟨x, hx, rfl⟩ := hi
    exact ⟨x, hx, fun v hv => hv.fwd⟩
  · rw [hb] at hi
    obtain ⟨cs, hcs, rfl⟩ := Option.map_eq_some_iff.1 hi
    refine ⟨_, cs, hcs, fun b h => h, fun b h => ?_, by rw [renL_eq, List.length_map], fun j c c' v h1 h2 hv => ?_⟩
    · simp [Env.fwd, h, relab, swL_R]
    · obtain ⟨c0, h0, rfl⟩ := renL_get h2
      rw [h1] at h0; cases h0
      exact hv.fwd
  · rw [hb, Option.map_eq_none_iff] at hi
    exact hs.bxn _ hi
  · rw [hr] at hi
    obtain ⟨r, hr0, rfl⟩ := Option.map_eq_some_iff.1 hi
    refine ⟨_, r, hr0, fun q hq => ?_, fun b h => ?_, fun b p h => ?_, rfl, rfl, .inl rfl, rfl, rfl, rfl, Nat.le_refl _, fun h => h, fun _ => arO_le_of (E := E) (E' := E.fwd σ) rfl _⟩
    · obtain ⟨q', hq', hok⟩ := hs.rw _ r hr0
      rw [hq] at hq'; cases hq'
      simp only [Env.fwd, hq, Option.map_some, hok.ver]
    · simp [Env.fwd, h, relab, swL_R]
    · simp [Env.fwd, h, relab, swL_R]
  · rw [hr, Option.map_eq_none_iff] at hi
    simp [Env.fwd, hs.rwn _ hi]
  · rw [hm] at hi
    refine ⟨_, es', hi, fun b h => h, fun b h => ?_, rfl, fun j c c' h1 h2 => ?_⟩
    · simp [Env.fwd, h, relab, swL_R]
    · rw [h1] at h2
      cases h2
      exact ⟨rfl, fun v hv => hv⟩
  · rw [hm] at hi
    exact hs.mpn _ hi
  · simp [Env.fwd, h, relab]
  · simp [Env.fwd, h, relab]
  · simp only [Env.fwd, Option.map_eq_some_iff] at ho
    obtain ⟨o, ho, rfl⟩ := ho
    exact ⟨o, ho, fun j hj => by rw [sealN_ren]; exact hj⟩

theorem St.back {σ : Ren} (hs : St g N M E (s.ren σ) tmps w) : St g N M (E.back σ) s tmps w := by
  refine hs.weak (fun i y hi => ?_) (fun i cs hi => ?_) (fun i hi => ?_) (fun i r hi => ?_) (fun i hi => ?_) (fun i es hi => ?_) (fun i hi => ?_) (fun i r hi => ⟨hi, rfl, fun b p h => ?_, fun b p h => ?_, arO_le_of (E := E) (E' := E.back σ) rfl _⟩) hs.arn (fun b o' ho => ?_)
  · exact ⟨y.ren σ, by simp only [S.ren, renF_get, hi, Option.map_some], fun v hv => hv.back y rfl⟩
  · refine ⟨swL σ.b i, AV.renL σ cs, by simp only [S.ren, renB_get, hi, Option.map_some], fun b h => h, fun b h => ?_, by rw [renL_eq, List.length_map], fun j c c' v h1 h2 hv => ?_⟩
    · simp [Env.back, h, relab, swR_L]
    · obtain ⟨c0, h0, rfl⟩ := renL_get h1
      rw [h2] at h0; cases h0
      exact hv.back _ rfl
  · exact hs.bxn _ (by simp only [S.ren, renB_get, hi, Option.map_none])
  · refine ⟨swL σ.r i, { r with ver := r.ver + dget σ.d i }, by simp only [S.ren, renR_get, hi, Option.map_some], fun q hq => ?_, fun b h => ?_, fun b p h => ?_, rfl, rfl, .inl rfl, rfl, rfl, rfl, Nat.le_refl _, fun h => h, fun _ => arO_le_of (E := E) (E' := E.back σ) rfl _⟩
    · obtain ⟨q', hq', hok⟩ := hs.rw (swL σ.r i) { r with ver := r.ver + dget σ.d i } (by simp only [S.ren, renR_get, hi, Option.map_some])
      rw [hq] at hq'; cases hq'
      have := hok.ver
      simp only [Env.back, hq, Option.map_some]
      congr 2
      simp only at this
      omega
    · simp [Env.back, h, relab, swR_L]
    · simp [Env.back, h, relab, swR_L]
  · simp only [Env.back, hs.rwn (swL σ.r i) (by simp only [S.ren, renR_get, hi, Option.map_none]), Option.map_none]
  · refine ⟨swL σ.m i, es, by simp only [S.ren, renM_get, hi], fun b h => h, fun b h => ?_, rfl, fun j c c' h1 h2 => ?_⟩
    · simp [Env.back, h, relab, swR_L]
    · rw [h2] at h1
      cases h1
      exact ⟨rfl, fun v hv => hv⟩
  · exact hs.mpn _ (by simp only [S.ren, renM_get, hi])
  · simp [Env.back, h, relab]
  · simp [Env.back, h, relab]
  · simp only [Env.back, Option.map_eq_some_iff] at ho
    obtain ⟨o, ho, rfl⟩ := ho
    refine ⟨o, ho, fun j hj => ?_⟩
    rw [← sealN_ren σ s, relab_inv (swL_R σ.b) (swL_R σ.r) (swL_R σ.m)]
    exact hj
end

/-- a contract under other names -/
theorem Pe.ren {P : Program} {f : FuncId} {s0 s1 : S} {args : List AV} {r : AV} (h : Pe P f s0 args r s1) (σ : Ren) : Pe P f (s0.ren σ) (AV.renL σ args) (r.ren σ) (s1.ren σ) := by
  refine ⟨h.b, fun w M E F vs hs hr => ?_⟩
  have hr0 : RelL M (E.back σ) vs args := ⟨by rw [hr.1, renL_eq, List.length_map], fun j v c hv hc => (hr.2 j v (c.ren σ) hv (by rw [renL_eq, List.getElem?_map, hc]; rfl)).back c rfl⟩
  refine (h.c w M (E.back σ) F vs hs.back hr0).mono ?_
  rintro e w' ⟨M', E1, v, rfl, hle, hst, hv⟩
  refine ⟨M', E1.fwd σ, v, rfl, ⟨fun j b b' hb hb' => ?_, fun j q q' hq hq' => ?_, fun j r r' hr hr' => ?_, fun j bs bs' hb hb' => hle.ar j bs bs' hb hb'⟩, hst.fwd σ, hv.fwd⟩
  · exact hle.bx (swR σ.b j) b b' (by simp only [Env.back, swL_R]; exact hb) hb'
  · simp only [Env.fwd, Option.map_eq_some_iff] at hq'
    obtain ⟨q1, e1, rfl⟩ := hq'
    obtain ⟨e2, e3⟩ := hle.rw (swR σ.r j) { q with ver := q.ver - dget σ.d (swR σ.r j) } q1 (by simp only [Env.back, swL_R, hq, Option.map_some]) e1
    refine ⟨?_, fun e => ?_⟩
    · have e2 : q.ver - dget σ.d (swR σ.r j) ≤ q1.ver := e2
      show q.ver ≤ q1.ver + dget σ.d (swR σ.r j)
      omega
    · have e : q.ver = q1.ver + dget σ.d (swR σ.r j) := e
      exact e3 (by show q.ver - dget σ.d (swR σ.r j) = q1.ver; omega)
  · exact hle.mp (swR σ.m j) r r' (by simp only [Env.back, swL_R]; exact hr) hr'

end Go.Dm
