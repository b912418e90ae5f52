/- Regions: calls, guards, all operations in a row. -/
import Derived.Test.YtgflfhdbihahcaaDm11
namespace Go.Dm
open Go Go.RowKit
set_option linter.unusedSimpArgs false
set_option linter.unusedVariables false

variable {C : Cx} {k : List It} {s : S} {τ : TyTab}

theorem nil_sl {M : Mem} {v : Value} {n : Nat} (h : RelP M v .nils) : RelP M v (.sl n []) := by
  cases h
  exact .sl none 0 0 n [] (fun _ => undef) rfl (Nat.le_refl _) (by decide) (by simp) (fun h => absurd rfl h) (fun j u hu => by simp [flat] at hu)
theorem nilS {M : Mem} {E : Env} {v : Value} {n : Nat} (h : RelS M E v .nils) : RelS M E v (.sl n []) := by
  cases h with
  | pure h => exact .pure (nil_sl h)

theorem nrmC_rel {M : Mem} {E : Env} : ∀ {l : List Nat} {cs : List AV} {vs : List Value}, AllR (RelS M E) vs cs → AllR (RelS M E) vs (nrmC l cs)
  | [], cs, vs, h => by simp only [nrmC]; exact h
  | n :: l, [], vs, h => by cases n <;> exact h
  | n :: l, x :: cs, vs, h => by
    obtain ⟨h1, h2⟩ := h
    match vs, h1 with
    | v :: vs, h1 =>
      have ih : AllR (RelS M E) vs (nrmC l cs) := nrmC_rel ⟨by simpa using h1, fun j u c hu hc => h2 (j + 1) u c (by simpa using hu) (by simpa using hc)⟩
      have h0 := h2 0 v x rfl rfl
      have key : ∀ y, RelS M E v y → AllR (RelS M E) (v :: vs) (y :: nrmC l cs) := fun y hy => ⟨by simp [ih.1], fun j u c hu hc => by
        cases j with
        | zero => simp at hu hc; subst hu; subst hc; exact hy
        | succ j => simp only [List.getElem?_cons_succ] at hu hc; exact ih.2 j u c hu hc⟩
      cases n with
      | zero => simp only [nrmC]; exact key x h0
      | succ n => cases x <;> simp only [nrmC] <;> first | exact key _ h0 | exact key _ (nilS h0)

theorem norm_rel {M : Mem} {E : Env} {v : Value} {x : AV} {t : TypeId} (h : Rel M E v x) : Rel M E v (norm τ t x) := by
  unfold norm
  split
  · split
    · obtain ⟨vs, rfl, h1, h2⟩ := h.agg_inv
      have := nrmC_rel (l := ‹TI›.cz) (⟨h1, h2⟩ : AllR (RelS M E) vs _)
      exact .agg _ _ this.1 this.2
    · split
      · cases h with
        | cell h => exact .cell (nilS h)
      · exact h
    · exact h
  · exact h

theorem normL_rel {M : Mem} {E : Env} : ∀ {ts : List TypeId} {xs : List AV} {vs : List Value}, RelL M E vs xs → RelL M E vs (normL τ ts xs)
  | [], xs, vs, h => by simp only [normL]; exact h
  | t :: ts, [], vs, h => by simp only [normL]; exact h
  | t :: ts, x :: xs, vs, h => by
    obtain ⟨h1, h2⟩ := h
    match vs, h1 with
    | v :: vs, h1 =>
      have ih : RelL M E vs (normL τ ts xs) := normL_rel ⟨by simpa using h1, fun j u c hu hc => h2 (j + 1) u c (by simpa using hu) (by simpa using hc)⟩
      simp only [normL]
      refine ⟨by simp [ih.1], fun j u c hu hc => ?_⟩
      cases j with
      | zero => simp at hu hc; subst hu; subst hc; exact norm_rel (h2 0 v x rfl rfl)
      | succ j => simp only [List.getElem?_cons_succ] at hu hc; exact ih.2 j u c hu hc

/-- a contract, of a function that has a body -/
structure Pc (P : Program) (f : FuncId) (args : List AV) (r : AV) : Prop where
  b : Bodied P f
  c : APure P f args r

def guardSlot (all : List Oper) (j : Nat) : Option Nat := match nth all j with
  | some o => o.dst
  | none => none

/-- when an operation is worked out: under these conditions -/
def gcond (all : List Oper) (s : S) (gd : Option (Nat × Bool)) : Option (List (Nat × Bool)) :=
  match gd with
  | none => some []
  | some (j, want) => match guardSlot all j with
    | some d => match aget s.fr d with
      | some (.bool b) => some [(d, match want with | true => b | false => !b)]
      | some (.when cs (.bool b)) => some ((d, match want with | true => b | false => !b) :: cs)
      | _ => none
    | none => none

def asB : Value → Option Bool
  | .bool b => some b
  | _ => none

theorem yielded_slot {all : List Oper} {a : Act} {w : World} {M : Mem} {E : Env} (hs : St C.g C.N M E s a.tmps w) {j d : Nat} (hd : guardSlot all j = some d) {x : AV} (hx : aget s.fr d = some x) {v : Value} (hv : a.tmps.getD d undef = v) :
    yielded all.toArray a.tmps j = asB v := by
  unfold guardSlot at hd
  rw [nth_eq] at hd
  split at hd
  · rename_i o ho
    have hlt : d < a.tmps.size := by rw [hs.size]; exact (hs.fr d x hx).1
    have hv' : (a.tmps[d]? : Option Value) = some v := by
      rw [Array.getD_eq_getD_getElem?, Array.getElem?_eq_getElem hlt] at hv
      rw [Array.getElem?_eq_getElem hlt]
      simpa using hv
    have ho' : all.toArray[j]? = some o := by simpa using ho
    unfold yielded
    simp only [ho', hd, Option.bind_some, hv']
    cases v <;> rfl
  · cases hd

theorem gcond_ok {all : List Oper} {o : Oper} {A : List (Nat × Bool)} (h : gcond all s o.guard = some A) {a : Act} {w : World} (hx : H C.g C.N s a w) : Region.wanted o (yielded all.toArray a.tmps) = allB A := by
  obtain ⟨_, M, E, hs⟩ := hx
  unfold gcond at h
  split at h
  · rename_i hg; cases h; simp [Region.wanted, hg, allB]
  · rename_i j want hg
    split at h
    · rename_i d hd
      split at h
      · rename_i b hb
        cases h
        have hv := (hs.fr d _ hb).2.bool_inv
        rw [Region.wanted, hg]
        simp only [yielded_slot hs hd hb hv, asB, allB]
        cases b <;> cases want <;> rfl
      · rename_i cs b hb
        cases h
        rw [Region.wanted, hg]
        have hr := (hs.fr d _ hb).2
        cases hcs : allB cs with
        | true =>
          have hv := (hr.when_inv hcs).bool_inv
          simp only [yielded_slot hs hd hb hv, asB, allB, hcs]
          cases b <;> cases want <;> rfl
        | false =>
          have hv := hr.when_undef hcs
          simp only [yielded_slot hs hd hb hv, undef, asB, allB, hcs]
          cases want <;> simp
      · cases h
    · cases h

/-- a call of a function that only tells something -/
def evalCall (τ : TyTab) (P : Program) (A : List (Nat × Bool)) (s : S) (an : List An) (f : FuncId) (ops : List Operand) (tys : List TypeId) : Option Res :=
  match vals s ops with
  | some as => match an with
    | .call r :: an => match AV.okInL no no no (normL τ tys as) with
      | true => match AV.isPure r with
        | true => some ⟨[Pc P f (normL τ tys as) r], [], ⟨some r, [], [], []⟩, [], an⟩
        | false => none
      | false => none
    | _ => none
  | none => none

def evalAny (τ : TyTab) (P : Program) (A : List (Nat × Bool)) (s : S) (an : List An) (d : Option Nat) : Op → Option Res
  | .call ⟨.value (.func f), ops, tys⟩ => evalCall τ P A s an f ops.toList tys.toList
  | op => evalOp τ A d s an op

/-- under conditions -/
def und : List (Nat × Bool) → Prop → Prop
  | [], p => p
  | (_, c) :: l, p => c = true → und l p
theorem und_ok : ∀ {A : List (Nat × Bool)} {p : Prop}, und A p → allB A = true → p
  | [], p, h, _ => h
  | (d, c) :: l, p, h, hA => by
    simp only [allB, Bool.and_eq_true] at hA
    exact und_ok (h hA.1) hA.2
def undL (A : List (Nat × Bool)) : List Prop → List Prop
  | [] => []
  | p :: l => und A p :: undL A l
theorem undL_ok {A : List (Nat × Bool)} (hA : allB A = true) : ∀ {l : List Prop}, AllP (undL A l) → AllP l
  | [], _ => trivial
  | p :: l, h => ⟨und_ok h.1 hA, undL_ok hA h.2⟩

def evalG (τ : TyTab) (P : Program) (A : List (Nat × Bool)) (s : S) (an : List An) (o : Oper) : Option Res :=
  match obs A s (needs o.op) with
  | some es => match evalAny τ P A s an o.dst o.op with
    | some r => match A with
      | [] => some ⟨r.gs, es ++ r.eq, r.e, r.rd, r.an⟩
      | (_, _) :: _ => match r.e with
        | ⟨some x, [], [], []⟩ => some ⟨undL A r.gs, es ++ r.eq, ⟨some (.when A x), [], [], []⟩, r.rd, r.an⟩
        | _ => none
    | none => none
  | none => none

/-- one operation of a region -/
def Step (C : Cx) (all : List Oper) (o : Oper) (s s1 : S) : Prop :=
  ∀ a w, H C.g C.N s a w → ∀ (K : Act → World → Prop) (Q : Exit → Act → World → Prop), (∀ a' w', H C.g C.N s1 a' w' → K a' w') →
    if Region.wanted o (yielded all.toArray a.tmps) then o.wp C.P a w K Q else K (a.put o.dst undef) w

/-- one that is worked out -/
def Wp (C : Cx) (o : Oper) (s s1 : S) : Prop :=
  ∀ a w, H C.g C.N s a w → ∀ (K : Act → World → Prop) (Q : Exit → Act → World → Prop), (∀ a' w', H C.g C.N s1 a' w' → K a' w') → o.wp C.P a w K Q

theorem Wp_of_does {o : Oper} {s1 : S} (h : Does C o s s1) : Wp C o s s1 := by
  intro a w hx K Q hK
  obtain ⟨v, w', hrun, hH⟩ := h a w hx
  unfold Oper.wp
  rcases hrun with hrun | ⟨hrun, rfl⟩
  · rw [hrun, Oper.upon_value]; exact hK _ _ hH
  · rw [hrun, Oper.upon_skip]; exact hK _ _ hH

theorem evalCall_sound {o : Oper} {A : List (Nat × Bool)} {an : List An} {f : FuncId} {c : Call} (ho : o.op = .call c) (hc : c.callee = .value (.func f)) (hd : ∀ d, o.dst = some d → d < C.N) (hw : ∀ x ∈ c.args.toList, Done s x) {r : Res} (h : evalCall τ C.P A s an f c.args.toList c.argTypes.toList = some r) (hg : AllP r.gs) :
    Wp C o s (r.e.app o.dst s) := by
  unfold evalCall at h
  split at h
  · rename_i as has
    split at h
    · rename_i r' an'
      split at h
      · rename_i hp
        split at h
        · rename_i hpr
          cases h
          obtain ⟨hb, hcon⟩ := hg.1
          intro a w hx K Q hK
          unfold Oper.wp
          rw [run_call ho hc, run_callFunc hb, Oper.upon_enter]
          obtain ⟨hdf, M, E, hs⟩ := hx
          have hrel0 : RelL M E (c.args.toList.map a.eval) as := vals_rel has hw hs
          have hrel1 := normL_rel (τ := τ) (ts := c.argTypes.toList) hrel0
          have hrel : RelL M Env.none (c.args.toList.map a.eval) (normL τ c.argTypes.toList as) := ⟨hrel1.1, fun j v d hv hd => (hrel1.2 j v d hv hd).of_pure _ (okInL_get hp hd)⟩
          refine (hcon w M Env.none (fun b => b < w.heap.size) _ (St.outer fun b j v hv => (hs.mem b j v hv).1) hrel).mono ?_
          rintro e w' ⟨M', E', v, x, s1, rfl, ⟨rfl, rfl⟩, hst, hr⟩
          refine hK _ _ ⟨by rw [defers_put]; exact hdf, M', E, ?_⟩
          have h1 := hs.after hst
          have h2 : Rel M' E v x := hr.of_pure E hpr
          cases hdd : o.dst with
          | none => exact h1
          | some d => exact h1.putS (hd d hdd) h2
        · cases h
      · cases h
    · cases h
  · cases h

theorem evalAny_sound (hτ : TyOk C.P τ) {A : List (Nat × Bool)} (hA : allB A = true) {o : Oper} {an : List An} (hd : ∀ d, o.dst = some d → d < C.N) (hw : ∀ x ∈ needs o.op, Done s x) {r : Res} (h : evalAny τ C.P A s an o.dst o.op = some r) (hg : AllP r.gs) (he : AllE r.eq) : Wp C o s (r.e.app o.dst s) := by
  unfold evalAny at h
  split at h
  · rename_i f ops tys ho
    rw [ho] at hw
    exact evalCall_sound ho rfl hd hw h hg
  · exact Wp_of_does (evalOp_sound hτ hA o an hd hw r h hg he)

theorem evalG_sound (hτ : TyOk C.P τ) {all : List Oper} {o : Oper} {A : List (Nat × Bool)} {an : List An} (hd : ∀ d, o.dst = some d → d < C.N) (hgc : gcond all s o.guard = some A) {r : Res} (h : evalG τ C.P A s an o = some r) (hg : AllP r.gs) (he : AllE r.eq) :
    Step C all o s (r.e.app o.dst s) := by
  unfold evalG at h
  split at h
  · rename_i es hes
    split at h
    · rename_i r0 hr0
      split at h
      · cases h
        obtain ⟨e1, e2⟩ := AllE_append.1 he
        intro a w hx K Q hK
        rw [gcond_ok hgc hx, if_pos (show allB [] = true from rfl)]
        exact evalAny_sound hτ rfl hd (obs_done rfl hes e1) hr0 hg e2 a w hx K Q hK
      · rename_i d0 c0 A'
        split at h
        · rename_i x hx0
          cases h
          obtain ⟨e1, e2⟩ := AllE_append.1 he
          intro a w hx K Q hK
          rw [gcond_ok hgc hx]
          cases hA : allB ((d0, c0) :: A') with
          | true =>
            rw [if_pos rfl]
            refine evalAny_sound hτ hA hd (obs_done hA hes e1) hr0 (undL_ok hA hg) e2 a w hx K Q fun a' w' hH => hK _ _ ?_
            rw [hx0] at hH
            obtain ⟨hdf, M, E, hs⟩ := hH
            refine ⟨hdf, M, E, ?_⟩
            cases hdd : o.dst with
            | none => rw [hdd] at hs; exact hs
            | some d =>
              rw [hdd] at hs
              refine { hs with fr := fun i av hi => ?_ }
              have hi' : aget ((d, AV.when ((d0, c0) :: A') x) :: s.fr) i = some av := hi
              have hfr : ∀ i av, aget ((d, x) :: s.fr) i = some av → i < C.N ∧ Rel M E (a'.tmps.getD i undef) av := hs.fr
              rw [aget_cons] at hi'
              split at hi'
              · rename_i e
                cases hi'
                obtain ⟨h1, h2⟩ := hfr i x (by rw [aget_cons, if_pos e])
                exact ⟨h1, .when _ _ _ (fun _ => h2) (fun h => by rw [hA] at h; cases h)⟩
              · rename_i e
                exact hfr i av (by rw [aget_cons, if_neg e]; exact hi')
          | false =>
            rw [if_neg (by simp)]
            obtain ⟨hdf, M, E, hs⟩ := hx
            refine hK _ _ ⟨by rw [defers_put]; exact hdf, M, E, ?_⟩
            cases hdd : o.dst with
            | none => exact hs
            | some d => exact hs.putS (hd d hdd) (.when _ _ _ (fun h => by rw [hA] at h; cases h) (fun _ => rfl))
        · cases h
    · cases h
  · cases h

end Go.Dm
