/- Contracts: what a called function is handed, and what it leaves; the rest stays. Names may be others. -/
import Derived.Test.YtipeimcdjijkgaaEm6
namespace Go.Dm
open Go Go.RowKit
set_option linter.unnecessarySimpa false
set_option linter.constructorNameAsVariable false
set_option linter.unusedSectionVars false
set_option linter.unusedSimpArgs false
set_option linter.unusedVariables false

def RelL (M : Mem) (E : Env) (vs : List Value) (xs : List AV) : Prop :=
  vs.length = xs.length ∧ ∀ (j : Nat) (v : Value) (c : AV), vs[j]? = some v → xs[j]? = some c → Rel M E v c

/-- a function with a body, of no name that the model runs by itself -/
def Bodied (P : Program) (f : FuncId) : Prop := ∃ fn, P.funcs[f]? = some fn ∧ fn.body.isNone = false ∧ (fn.name == "runtime.NumGoroutine") = false

/-- of what is named in both: it is the same -/
structure Env.lw (E E' : Env) : Prop where
  bx : ∀ i b b', E.bx i = some b → E'.bx i = some b' → b' = b
  rw : ∀ i q q', E.rw i = some q → E'.rw i = some q' → q.ver ≤ q'.ver ∧ (q.ver = q'.ver → q'.a = q.a ∧ q'.n = q.n ∧ q'.c = q.c ∧ q'.sz = q.sz)
  mp : ∀ i r r', E.mp i = some r → E'.mp i = some r' → r' = r
  ar : ∀ i bs bs', E.ar i = some bs → E'.ar i = some bs' → ∃ l, bs' = bs ++ l

/-- a contract: what stands behind a call, of what is handed to it -/
structure Pe (P : Program) (f : FuncId) (s0 : S) (args : List AV) (r : AV) (s1 : S) : Prop where
  b : Bodied P f
  c : ∀ (w : World) (M : Mem) (E : Env) (F : Nat → Prop) (vs : List Value), St ⟨w, F, M, Env.none⟩ 0 M E s0 #[] w → RelL M E vs args →
    Calls P f vs.toArray w fun e w' => ∃ M' E' v, e = .returned v ∧ E.lw E' ∧ St ⟨w, F, M, Env.none⟩ 0 M' E' s1 #[] w' ∧ Rel M' E' v r
/-- of a function that only tells something -/
abbrev Pc (P : Program) (f : FuncId) (args : List AV) (r : AV) : Prop := Pe P f S.none args r S.none

/-- one state laid over another one -/
def S.over (s1 s : S) : S := ⟨s.fr, s1.bx ++ s.bx, s1.rw ++ s.rw, s1.mp ++ s.mp, s1.ar ++ s.ar⟩

theorem aget_over {α : Type} {a b : List (Nat × α)} {i : Nat} : (∃ v, aget a i = some v ∧ aget (a ++ b) i = some v) ∨ (aget a i = none ∧ aget (a ++ b) i = aget b i) := by
  rw [aget_append]
  cases h : aget a i with
  | some v => exact .inl ⟨v, rfl, rfl⟩
  | none => exact .inr ⟨rfl, rfl⟩

/-- names: those of the first are of the second; the second's others are new -/
def namesOk {α : Type} (l0 l1 l : List (Nat × α)) : Prop := (∀ i, hasKey l0 i = true → hasKey l1 i = true) ∧ ∀ i, hasKey l1 i = true → hasKey l0 i = true ∨ (aget l i = none ∧ i < nB)

theorem St.called {g : Gh} {N : Nat} {M M' : Mem} {E E1 : Env} {s s0 s1 : S} {tmps : Array Value} {w w' : World} (hs : St g N M E s tmps w)
    (hc : St ⟨w, fun b => b < w.heap.size ∧ (E.keep (hasKey s0.bx) (hasKey s0.rw) (hasKey s0.mp) (hasKey s0.ar)).own b = none, M, Env.none⟩ 0 M' E1 s1 #[] w')
    (hle : (E.keep (hasKey s0.bx) (hasKey s0.rw) (hasKey s0.mp) (hasKey s0.ar)).lw E1)
    (hsub : (∀ i v, aget s0.bx i = some v → aget s.bx i = some v) ∧ (∀ i v, aget s0.rw i = some v → aget s.rw i = some v) ∧ (∀ i v, aget s0.mp i = some v → aget s.mp i = some v) ∧ ∀ i v, aget s0.ar i = some v → aget s.ar i = some v)
    (nb : namesOk s0.bx s1.bx s.bx) (nr : namesOk s0.rw s1.rw s.rw) (nm : namesOk s0.mp s1.mp s.mp) (na : namesOk s0.ar s1.ar s.ar) :
    ∃ E2, E.up E2 ∧ E1.le E2 ∧ St g N M' E2 (s1.over s) tmps w' := by
  generalize hK : E.keep (hasKey s0.bx) (hasKey s0.rw) (hasKey s0.mp) (hasKey s0.ar) = K at hc hle
  let E2 : Env := ⟨fun i => match E1.bx i with | some b => some b | none => E.bx i, fun i => match E1.rw i with | some q => some q | none => E.rw i,
    fun i => match E1.mp i with | some b => some b | none => E.mp i, fun i => match E1.ar i with | some b => some b | none => E.ar i,
    fun b => match E1.own b with | some o => some o | none => match K.own b with | some _ => none | none => E.own b⟩
  have keyS : ∀ {α : Type} {l : List (Nat × α)} {i : Nat}, ¬ aget l i = none → hasKey l i = true := fun h => by
    obtain ⟨v, hv⟩ := Option.ne_none_iff_exists'.1 h; exact hasKey_some hv
  have kne : ∀ {α : Type} {l : List (Nat × α)} {i : Nat}, hasKey l i = true → ¬ aget l i = none := fun h e => by rw [hasKey_none e] at h; cases h
  have hE1 : E1.le E2 := by
    refine ⟨fun i b h => by simp only [E2, h], fun i q h => ⟨q, by simp only [E2, h], Nat.le_refl _, fun _ => ⟨rfl, rfl, rfl, rfl⟩⟩, fun i r h => by simp only [E2, h], fun i bs h => ⟨[], by simp only [E2, h, List.append_nil]⟩⟩
  have hE : E.le E2 := by
    refine ⟨fun i b h => ?_, fun i q h => ?_, fun i r h => ?_, fun i bs h => ?_⟩
    · cases h1 : E1.bx i with
      | none => simp only [E2, h1, h]
      | some b' =>
        have hk : hasKey s1.bx i = true := keyS fun e => by rw [hc.bxn i e] at h1; cases h1
        rcases nb.2 i hk with hk0 | ⟨hn, _⟩
        · have := hle.bx i b b' (by rw [← hK]; simp [Env.keep, hk0, h]) h1
          simp only [E2, h1, this]
        · rw [hs.bxn i hn] at h; cases h
    · cases h1 : E1.rw i with
      | none => exact ⟨q, by simp only [E2, h1, h], Nat.le_refl _, fun _ => ⟨rfl, rfl, rfl, rfl⟩⟩
      | some q' =>
        have hk : hasKey s1.rw i = true := keyS fun e => by rw [hc.rwn i e] at h1; cases h1
        rcases nr.2 i hk with hk0 | ⟨hn, _⟩
        · obtain ⟨e2, e3⟩ := hle.rw i q q' (by rw [← hK]; simp [Env.keep, hk0, h]) h1
          exact ⟨q', by simp only [E2, h1], e2, e3⟩
        · rw [hs.rwn i hn] at h; cases h
    · cases h1 : E1.mp i with
      | none => simp only [E2, h1, h]
      | some b' =>
        have hk : hasKey s1.mp i = true := keyS fun e => by rw [hc.mpn i e] at h1; cases h1
        rcases nm.2 i hk with hk0 | ⟨hn, _⟩
        · have := hle.mp i r b' (by rw [← hK]; simp [Env.keep, hk0, h]) h1
          simp only [E2, h1, this]
        · rw [hs.mpn i hn] at h; cases h
    · cases h1 : E1.ar i with
      | none => exact ⟨[], by simp only [E2, h1, h, List.append_nil]⟩
      | some b' =>
        have hk : hasKey s1.ar i = true := keyS fun e => by rw [hc.arn i e] at h1; cases h1
        rcases na.2 i hk with hk0 | ⟨hn, _⟩
        · obtain ⟨l, e⟩ := hle.ar i bs b' (by rw [← hK]; simp [Env.keep, hk0, h]) h1
          exact ⟨l, by simp only [E2, h1, e]⟩
        · rw [hs.arn i hn] at h; cases h
  have hown1 : ∀ {b : Nat} {o : Nat × Nat × Nat}, E1.own b = some o → E2.own b = some o := fun h => by simp only [E2, h]
  have hKn : ∀ b, E.own b = none → K.own b = none := fun b h => by
    cases hk : K.own b with
    | none => rfl
    | some o => rw [← hK] at hk; rw [(keep_own' hk).1] at h; cases h
  -- what is not handed over
  have hrest : ∀ {b : Nat} {o : Nat × Nat × Nat}, E.own b = some o → K.own b = none → w'.heap[b]? = w.heap[b]? ∧ E1.own b = none ∧ E2.own b = some o := fun {b o} h hk => by
    have := hc.foreign b ⟨hs.live b o h, hk⟩
    exact ⟨this.2.1, this.2.2, by simp only [E2, this.2.2, hk, h]⟩
  have hlab : ∀ {b : Nat} {k i p : Nat}, E.own b = some (k, i, p) → ¬ ((k = 0 ∧ hasKey s0.bx i = true) ∨ ((k = 1 ∨ k = 5) ∧ hasKey s0.rw i = true) ∨ (k = 2 ∧ hasKey s0.mp i = true) ∨ ((k = 3 ∨ k = 6) ∧ hasKey s0.ar i = true)) → K.own b = none := fun {b k i p} h hn => by
    cases hk : K.own b with
    | none => rfl
    | some o =>
      rw [← hK] at hk
      obtain ⟨h1, h2⟩ := keep_own' hk
      rw [h] at h1; cases h1
      exact absurd h2 hn
  have hsz := hc.grow
  have hP : ∀ E0, Env.p0 E0 E → Env.p0 E0 E2 := fun E0 hp => by
    refine ⟨fun i b hi h => ?_, fun i q hi h hv => ?_, fun i r hi h => ?_, fun i bs hi h => ?_⟩
    · cases h1 : E1.bx i with
      | none => simp only [E2, h1] at h; exact hp.bx i b hi h
      | some b' =>
        simp only [E2, h1, Option.some.injEq] at h
        subst h
        rcases nb.2 i (keyS fun e => by rw [hc.bxn i e] at h1; cases h1) with hk0 | ⟨_, hn⟩
        · cases h2 : E.bx i with
          | none =>
            obtain ⟨v, hv⟩ := Option.ne_none_iff_exists'.1 (kne hk0)
            obtain ⟨b0, hb0, _⟩ := hs.bx i v (hsub.1 i v hv)
            rw [h2] at hb0; cases hb0
          | some b0 =>
            have := hle.bx i b0 b' (by rw [← hK]; simp [Env.keep, hk0, h2]) h1
            subst this
            exact hp.bx i b' hi h2
        · omega
    · cases h1 : E1.rw i with
      | none => simp only [E2, h1] at h; exact hp.rw i q hi h hv
      | some q' =>
        simp only [E2, h1, Option.some.injEq] at h
        subst h
        rcases nr.2 i (keyS fun e => by rw [hc.rwn i e] at h1; cases h1) with hk0 | ⟨_, hn⟩
        · obtain ⟨v, hv0⟩ := Option.ne_none_iff_exists'.1 (kne hk0)
          obtain ⟨q0, hq0, _⟩ := hs.rw i v (hsub.2.1 i v hv0)
          obtain ⟨e2, e3⟩ := hle.rw i q0 q' (by rw [← hK]; simp [Env.keep, hk0, hq0]) h1
          obtain ⟨f1, f2, f3, f4⟩ := e3 (by omega)
          have : q' = q0 := by
            cases q'; cases q0
            simp only at f1 f2 f3 f4 e2 hv
            simp only [RwE.mk.injEq]
            exact ⟨f1, f2, f3, f4, by omega⟩
          subst this
          exact hp.rw i q' hi hq0 hv
        · omega
    · cases h1 : E1.mp i with
      | none => simp only [E2, h1] at h; exact hp.mp i r hi h
      | some b' =>
        simp only [E2, h1, Option.some.injEq] at h
        subst h
        rcases nm.2 i (keyS fun e => by rw [hc.mpn i e] at h1; cases h1) with hk0 | ⟨_, hn⟩
        · obtain ⟨v, hv0⟩ := Option.ne_none_iff_exists'.1 (kne hk0)
          obtain ⟨q0, hq0, _⟩ := hs.mp i v (hsub.2.2.1 i v hv0)
          have := hle.mp i q0 b' (by rw [← hK]; simp [Env.keep, hk0, hq0]) h1
          subst this
          exact hp.mp i b' hi hq0
        · omega
    · cases h1 : E1.ar i with
      | none => simp only [E2, h1] at h; exact hp.ar i bs hi h
      | some b' =>
        simp only [E2, h1, Option.some.injEq] at h
        subst h
        rcases na.2 i (keyS fun e => by rw [hc.arn i e] at h1; cases h1) with hk0 | ⟨_, hn⟩
        · obtain ⟨v, hv0⟩ := Option.ne_none_iff_exists'.1 (kne hk0)
          obtain ⟨q0, hq0, _⟩ := hs.ar i v (hsub.2.2.2 i v hv0)
          obtain ⟨l, e⟩ := hle.ar i q0 b' (by rw [← hK]; simp [Env.keep, hk0, hq0]) h1
          obtain ⟨bs0, l0, f1, f2⟩ := hp.ar i q0 hi hq0
          exact ⟨bs0, l0 ++ l, f1, by rw [e, f2, List.append_assoc]⟩
        · omega
  refine ⟨E2, ⟨hE, hP⟩, hE1, ⟨hs.size, fun i av hi => ?_, fun b j v hv => ?_, fun i cs hi => ?_, fun i hi => ?_, fun i r hi => ?_, fun i hi => ?_, fun i es hi => ?_, fun i hi => ?_, fun i r hi => ?_, fun i hi => ?_, fun b o ho => ?_,
    fun b hb => ?_, fun b j v h => hc.m0 b j v (hs.m0 b j v h), fun b j v hv hF => ?_, hc.os.trans hs.os, hc.tape.trans hs.tape, hc.output.trans hs.output, Nat.le_trans hs.grow hsz⟩⟩
  · obtain ⟨h1, h2⟩ := hs.fr i av hi
    exact ⟨h1, h2.mono hc.m0 hE⟩
  · obtain ⟨h1, h2⟩ := hc.mem b j v hv
    refine ⟨h1, fun o ho => ?_⟩
    cases ho1 : E1.own b with
    | some o1 =>
      rw [hown1 ho1] at ho; cases ho
      have hl := h2 o ho1
      obtain ⟨k, i, p⟩ := o
      simp only [sealN, S.over] at hl ⊢
      rcases aget_over (a := s1.rw) (b := s.rw) (i := i) with ⟨r, e1, e2⟩ | ⟨e1, e2⟩ <;> rcases aget_over (a := s1.ar) (b := s.ar) (i := i) with ⟨q, f1, f2⟩ | ⟨f1, f2⟩ <;> simp only [e1, e2, f1, f2] at hl ⊢ <;>
        (repeat' split at hl) <;> first | omega | (simp only [*, if_true, if_false]; first | exact hl | omega) | skip
      all_goals simp_all
    | none =>
      simp only [E2, ho1] at ho
      split at ho
      · cases ho
      · rename_i hk
        have hlt := hs.live b o ho
        have hM := hc.mf b j v hv ⟨hlt, hk⟩
        have hl := (hs.mem b j v hM).2 o ho
        obtain ⟨k, i, p⟩ := o
        have hnr : (k = 1 ∨ k = 5) → aget s.rw i ≠ none → aget s1.rw i = none := fun hkk hne => by
          cases h1 : aget s1.rw i with
          | none => rfl
          | some r =>
            rcases nr.2 i (hasKey_some h1) with h0 | h0
            · have := keep_own (kb := hasKey s0.bx) (kr := hasKey s0.rw) (km := hasKey s0.mp) (ka := hasKey s0.ar) ho (.inr (.inl ⟨hkk, h0⟩))
              rw [hK, hk] at this; cases this
            · exact absurd h0.1 hne
        have hna : (k = 3 ∨ k = 6) → aget s.ar i ≠ none → aget s1.ar i = none := fun hkk hne => by
          cases h1 : aget s1.ar i with
          | none => rfl
          | some r =>
            rcases na.2 i (hasKey_some h1) with h0 | h0
            · have := keep_own (kb := hasKey s0.bx) (kr := hasKey s0.rw) (km := hasKey s0.mp) (ka := hasKey s0.ar) ho (.inr (.inr (.inr ⟨hkk, h0⟩)))
              rw [hK, hk] at this; cases this
            · exact absurd h0.1 hne
        simp only [sealN] at hl
        by_cases h1 : k = 1 ∧ p = 0
        · rw [if_pos h1] at hl
          have hne : aget s.rw i ≠ none := fun e => by rw [e] at hl; simp at hl
          simp only [sealN, S.over, if_pos h1, aget_append, hnr (.inl h1.1) hne]
          exact hl
        · rw [if_neg h1] at hl
          by_cases h5 : k = 5
          · rw [if_pos h5] at hl
            have hne : aget s.rw i ≠ none := fun e => by rw [e] at hl; simp at hl
            simp only [sealN, S.over, if_neg h1, if_pos h5, aget_append, hnr (.inr h5) hne]
            exact hl
          · rw [if_neg h5] at hl
            by_cases h6 : k = 6
            · rw [if_pos h6] at hl
              have hne : aget s.ar i ≠ none := fun e => by rw [e] at hl; simp at hl
              simp only [sealN, S.over, if_neg h1, if_neg h5, if_pos h6, aget_append, hna (.inr h6) hne]
              exact hl
            · rw [if_neg h6] at hl; omega
  · simp only [S.over] at hi
    rcases aget_over (a := s1.bx) (b := s.bx) (i := i) with ⟨v, e1, e2⟩ | ⟨e1, e2⟩
    · rw [e2] at hi; cases hi
      obtain ⟨b, h1, h2, t, vs, h3, h4, h5⟩ := hc.bx i cs e1
      exact ⟨b, hE1.bx i b h1, hown1 h2, t, vs, h3, h4, fun j v c hv hcc => (h5 j v c hv hcc).monoE hE1⟩
    · rw [e2] at hi
      obtain ⟨b, h1, h2, t, vs, h3, h4, h5⟩ := hs.bx i cs hi
      obtain ⟨g1, g2, g3⟩ := hrest h2 (hlab h2 (by
        rintro (⟨_, h⟩ | ⟨h, _⟩ | ⟨h, _⟩ | ⟨h, _⟩)
        · exact kne (nb.1 i h) e1
        · omega
        · omega
        · omega))
      exact ⟨b, hE.bx i b h1, g3, t, vs, by rw [g1]; exact h3, h4, fun j v c hv hcc => (h5 j v c hv hcc).mono hc.m0 hE⟩
  · simp only [S.over] at hi
    rcases aget_over (a := s1.bx) (b := s.bx) (i := i) with ⟨v, e1, e2⟩ | ⟨e1, e2⟩
    · rw [e2] at hi; cases hi
    · rw [e2] at hi
      simp only [E2, hc.bxn i e1, hs.bxn i hi]
  · simp only [S.over] at hi
    rcases aget_over (a := s1.rw) (b := s.rw) (i := i) with ⟨v, e1, e2⟩ | ⟨e1, e2⟩
    · rw [e2] at hi; cases hi
      obtain ⟨q, h1, hok⟩ := hc.rw i r e1
      exact ⟨q, by simp only [E2, h1], hok.mono (fun _ _ _ h => h) hE1 (fun b h => ⟨hown1 h, rfl⟩) (fun b p h => ⟨hown1 h, rfl⟩)⟩
    · rw [e2] at hi
      obtain ⟨q, h1, hok⟩ := hs.rw i r hi
      have hnk : hasKey s0.rw i = true → False := fun h => kne (nr.1 i h) e1
      have key : ∀ b p k, (k = 1 ∨ k = 5) → E.own b = some (k, i, p) → E2.own b = some (k, i, p) ∧ w'.heap[b]? = w.heap[b]? := fun b p k hk h => by
        obtain ⟨g1, g2, g3⟩ := hrest h (hlab h (by
          rintro (⟨h, _⟩ | ⟨_, h⟩ | ⟨h, _⟩ | ⟨h, _⟩)
          · omega
          · exact hnk h
          · omega
          · omega))
        exact ⟨g3, g1⟩
      exact ⟨q, by simp only [E2, hc.rwn i e1, h1], hok.mono hc.m0 hE (fun b h => key b 0 1 (.inl rfl) h) (fun b p h => key b p 5 (.inr rfl) h)⟩
  · simp only [S.over] at hi
    rcases aget_over (a := s1.rw) (b := s.rw) (i := i) with ⟨v, e1, e2⟩ | ⟨e1, e2⟩
    · rw [e2] at hi; cases hi
    · rw [e2] at hi
      simp only [E2, hc.rwn i e1, hs.rwn i hi]
  · simp only [S.over] at hi
    rcases aget_over (a := s1.mp) (b := s.mp) (i := i) with ⟨v, e1, e2⟩ | ⟨e1, e2⟩
    · rw [e2] at hi; cases hi
      obtain ⟨r, h1, h2, ents, clock, h3, h4, h5⟩ := hc.mp i es e1
      exact ⟨r, hE1.mp i r h1, hown1 h2, ents, clock, h3, h4, fun j e p he hp => h5 j e p he hp⟩
    · rw [e2] at hi
      obtain ⟨r, h1, h2, ents, clock, h3, h4, h5⟩ := hs.mp i es hi
      obtain ⟨g1, g2, g3⟩ := hrest h2 (hlab h2 (by
        rintro (⟨h, _⟩ | ⟨h, _⟩ | ⟨_, h⟩ | ⟨h, _⟩)
        · omega
        · omega
        · exact kne (nm.1 i h) e1
        · omega))
      exact ⟨r, hE.mp i r h1, g3, ents, clock, by rw [g1]; exact h3, h4, fun j e p he hp => ⟨(h5 j e p he hp).1.mono hc.m0, (h5 j e p he hp).2.mono hc.m0 (Env.le_refl _)⟩⟩
  · simp only [S.over] at hi
    rcases aget_over (a := s1.mp) (b := s.mp) (i := i) with ⟨v, e1, e2⟩ | ⟨e1, e2⟩
    · rw [e2] at hi; cases hi
    · rw [e2] at hi
      simp only [E2, hc.mpn i e1, hs.mpn i hi]
  · simp only [S.over] at hi
    rcases aget_over (a := s1.ar) (b := s.ar) (i := i) with ⟨v, e1, e2⟩ | ⟨e1, e2⟩
    · rw [e2] at hi; cases hi
      obtain ⟨bs, h1, hok⟩ := hc.ar i r e1
      exact ⟨bs, by simp only [E2, h1], hok.mono (fun _ _ _ h => h) hE1 (fun b p h => ⟨hown1 h, rfl⟩) (fun b p h => ⟨hown1 h, rfl⟩)⟩
    · rw [e2] at hi
      obtain ⟨bs, h1, hok⟩ := hs.ar i r hi
      have hnk : hasKey s0.ar i = true → False := fun h => kne (na.1 i h) e1
      have key : ∀ b p k, (k = 3 ∨ k = 6) → E.own b = some (k, i, p) → E2.own b = some (k, i, p) ∧ w'.heap[b]? = w.heap[b]? := fun b p k hk h => by
        obtain ⟨g1, g2, g3⟩ := hrest h (hlab h (by
          rintro (⟨h, _⟩ | ⟨h, _⟩ | ⟨h, _⟩ | ⟨_, h⟩)
          · omega
          · omega
          · omega
          · exact hnk h))
        exact ⟨g3, g1⟩
      exact ⟨bs, by simp only [E2, hc.arn i e1, h1], hok.mono hc.m0 hE (fun b p h => key b p 3 (.inl rfl) h) (fun b p h => key b p 6 (.inr rfl) h)⟩
  · simp only [S.over] at hi
    rcases aget_over (a := s1.ar) (b := s.ar) (i := i) with ⟨v, e1, e2⟩ | ⟨e1, e2⟩
    · rw [e2] at hi; cases hi
    · rw [e2] at hi
      simp only [E2, hc.arn i e1, hs.arn i hi]
  · cases ho1 : E1.own b with
    | some o1 => exact hc.live b o1 ho1
    | none =>
      simp only [E2, ho1] at ho
      split at ho
      · cases ho
      · exact Nat.lt_of_lt_of_le (hs.live b o ho) hsz
  · obtain ⟨h1, h2, h3⟩ := hs.foreign b hb
    have := hc.foreign b ⟨h1, hKn b h3⟩
    exact ⟨Nat.lt_of_lt_of_le h1 hsz, by rw [this.2.1]; exact h2, by simp only [E2, this.2.2, hKn b h3, h3]⟩
  · obtain ⟨h1, h2, h3⟩ := hs.foreign b hF
    exact hs.mf b j v (hc.mf b j v hv ⟨h1, hKn b h3⟩) hF

/-- behind a call of a function that is handed nothing, and of whose answer no memory is kept: all that it was told is forgotten -/
theorem St.borrowed {g : Gh} {N : Nat} {M M0 M' : Mem} {E E1 : Env} {s : S} {tmps : Array Value} {w w' : World} (hs : St g N M E s tmps w)
    (hc : St ⟨w, fun b => b < w.heap.size, M0, Env.none⟩ 0 M' E1 S.none #[] w') : St g N M E s tmps w' := by
  have hb : ∀ b, b < w.heap.size → w'.heap[b]? = w.heap[b]? := fun b h => (hc.foreign b h).2.1
  have hg : Grow w w' (fun _ => False) := ⟨hc.os, hc.tape, hc.output, hc.grow, fun b h _ => hb b h⟩
  exact hs.grow' (fun _ => False) (fun _ _ h => h.elim) hg (Env.le_refl E) (fun _ _ _ => rfl) (fun b o h => Nat.lt_of_lt_of_le (hs.live b o h) hc.grow) rfl (fun b j v h => h.elim) (fun b o _ _ => Nat.le_refl _)
    (fun i cs h => .inl ⟨h, fun _ _ h => h⟩) hs.bxn (fun i r h => .inl ⟨h, rfl, fun _ _ _ h => h⟩) hs.rwn (fun i es h => .inl ⟨h, fun _ _ h => h⟩) hs.mpn (fun i r h => .inl ⟨h, rfl, fun _ _ _ h => h⟩) hs.arn

end Go.Dm
