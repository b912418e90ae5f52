/- Loops and cuts: states that are of one form. -/
import Derived.Test.YtgflfhdbihahcaaAbCall
namespace Go.Ab
open Go Go.RowKit
set_option linter.unusedSimpArgs false
set_option linter.unusedVariables false

variable {C : Cx} {k : List It} {s t : S} {τ : TyTab}

def hasKey {α : Type} : List (Nat × α) → Nat → Bool
  | [], _ => false
  | (j, _) :: l, i => if i = j then true else hasKey l i

theorem hasKey_aget {α : Type} : ∀ (l : List (Nat × α)) (i : Nat), hasKey l i = (aget l i).isSome
  | [], i => rfl
  | (j, v) :: l, i => by
    simp only [hasKey, aget, hasKey_aget l i]
    split <;> rfl

def allOk (f : AV → Bool) : List (Nat × AV) → Bool
  | [] => true
  | (_, x) :: l => f x && allOk f l
def allOkL (f : List AV → Bool) : List (Nat × List AV) → Bool
  | [] => true
  | (_, x) :: l => f x && allOkL f l
def allOkM (f : List AV → Bool) : List (Nat × List (AV × AV)) → Bool
  | [] => true
  | (_, x) :: l => f (x.map (·.2)) && allOkM f l
theorem allOk_get {f : AV → Bool} : ∀ {l : List (Nat × AV)} {i : Nat} {x : AV}, allOk f l = true → aget l i = some x → f x = true
  | [], _, _, _, h => by cases h
  | (j, y) :: l, i, x, hl, h => by
    simp only [allOk, Bool.and_eq_true] at hl
    simp only [aget] at h
    split at h
    · cases h; exact hl.1
    · exact allOk_get hl.2 h
theorem allOkL_get {f : List AV → Bool} : ∀ {l : List (Nat × List AV)} {i : Nat} {x : List AV}, allOkL f l = true → aget l i = some x → f x = true
  | [], _, _, _, h => by cases h
  | (j, y) :: l, i, x, hl, h => by
    simp only [allOkL, Bool.and_eq_true] at hl
    simp only [aget] at h
    split at h
    · cases h; exact hl.1
    · exact allOkL_get hl.2 h
theorem allOkM_get {f : List AV → Bool} : ∀ {l : List (Nat × List (AV × AV))} {i : Nat} {x : List (AV × AV)}, allOkM f l = true → aget l i = some x → f (x.map (·.2)) = true
  | [], _, _, _, h => by cases h
  | (j, y) :: l, i, x, hl, h => by
    simp only [allOkM, Bool.and_eq_true] at hl
    simp only [aget] at h
    split at h
    · cases h; exact hl.1
    · exact allOkM_get hl.2 h

/-- what is named is there -/
def S.closed (t : S) : Bool :=
  allOk (AV.okIn (hasKey t.bx) (hasKey t.rw) (hasKey t.mp)) t.fr && (allOkL (AV.okInL (hasKey t.bx) (hasKey t.rw) (hasKey t.mp)) t.bx && allOkM (AV.okInL (hasKey t.bx) (hasKey t.rw) (hasKey t.mp)) t.mp)

/-- each entry of the one is one of the other -/
def subL {α : Type} (l : List (Nat × α)) : List (Nat × α) → Prop
  | [] => True
  | (i, x) :: r => aget l i = some x ∧ subL l r
theorem subL_get {α : Type} {l : List (Nat × α)} : ∀ {r : List (Nat × α)} {i : Nat} {x : α}, subL l r → aget r i = some x → aget l i = some x
  | [], _, _, _, h => by cases h
  | (j, y) :: r, i, x, hl, h => by
    simp only [aget] at h
    split at h
    · rename_i e; subst e; cases h; exact hl.1
    · exact subL_get hl.2 h

structure Sub (s t : S) : Prop where
  fr : subL s.fr t.fr
  bx : subL s.bx t.bx
  rw : subL s.rw t.rw
  mp : subL s.mp t.mp
  closed : t.closed = true

theorem St.sub {g : Gh} {N : Nat} {M : Mem} {E : Env} {tmps : Array Value} {w : World} (hs : St g N M E s tmps w) (h : Sub s t) :
    St g N M (E.keep (hasKey t.bx) (hasKey t.rw) (hasKey t.mp)) t tmps w := by
  have hc := h.closed
  simp only [S.closed, Bool.and_eq_true] at hc
  obtain ⟨hc1, hc2, hc3⟩ := hc
  have hown : ∀ b, E.own b = none → (E.keep (hasKey t.bx) (hasKey t.rw) (hasKey t.mp)).own b = none := fun b h => by simp [Env.keep, h]
  have key : ∀ {α : Type} {l : List (Nat × α)} {i : Nat} {x : α}, aget l i = some x → hasKey l i = true := fun h => by rw [hasKey_aget, h]; rfl
  have nokey : ∀ {α : Type} {l : List (Nat × α)} {i : Nat}, aget l i = none → hasKey l i = false := fun h => by rw [hasKey_aget, h]; rfl
  refine ⟨hs.size, fun i av hi => ?_, fun b j v hv => ⟨(hs.mem b j v hv).1, hown b (hs.mem b j v hv).2⟩, fun i cs hi => ?_, fun i hi => ?_, fun i r hi => ?_, fun i hi => ?_, fun i es hi => ?_, fun i hi => ?_, fun b o h => ?_,
    fun b h => ⟨(hs.foreign b h).1, (hs.foreign b h).2.1, hown b (hs.foreign b h).2.2⟩, hs.m0, hs.mf, hs.os, hs.tape, hs.output, hs.grow⟩
  · obtain ⟨h1, h2⟩ := hs.fr i av (subL_get h.fr hi)
    exact ⟨h1, h2.keep (allOk_get hc1 hi)⟩
  · obtain ⟨b, h1, h2, t', vs, h3, h4, h5⟩ := hs.bx i cs (subL_get h.bx hi)
    exact ⟨b, by simp [Env.keep, key hi, h1], by simp [Env.keep, h2, key hi], t', vs, h3, h4, fun j v c hv hc => (h5 j v c hv hc).keep (okInL_get (allOkL_get hc2 hi) hc)⟩
  · simp [Env.keep, nokey hi]
  · obtain ⟨q, h1, h2, h3, h4, h5, h6, h7, h8⟩ := hs.rw i r (subL_get h.rw hi)
    refine ⟨q, by simp [Env.keep, key hi, h1], h2, h3, h4, h5, h6, h7, ?_⟩
    rcases h8 with h8 | ⟨blk, t', vs, g1, g2, g3, g4, g5⟩
    · exact .inl h8
    · exact .inr ⟨blk, t', vs, g1, by simp [Env.keep, g2, key hi], g3, g4, g5⟩
  · simp [Env.keep, nokey hi]
  · obtain ⟨r, h1, h2, ents, clock, h3, h4, h5⟩ := hs.mp i es (subL_get h.mp hi)
    exact ⟨r, by simp [Env.keep, key hi, h1], by simp [Env.keep, h2, key hi], ents, clock, h3, h4, fun j e p he hp => ⟨(h5 j e p he hp).1, (h5 j e p he hp).2.keep (okInL_get (allOkM_get hc3 hi) (j := j) (by simp [hp]))⟩⟩
  · simp [Env.keep, nokey hi]
  · have : E.own b ≠ none := by
      intro hn
      rw [hown b hn] at h; cases h
    obtain ⟨o', ho'⟩ := Option.ne_none_iff_exists'.1 this
    exact hs.live b o' ho'

theorem H.sub {g : Gh} {N : Nat} {a : Act} {w : World} (hs : H g N s a w) (h : Sub s t) : H g N t a w :=
  ⟨hs.1, hs.2.choose, _, hs.2.choose_spec.choose_spec.sub h⟩

theorem Wk_sub (h : Sub s t) (hw : Wk C k t) : Wk C k s := fun a w hx => hw a w (hx.sub h)

open Classical in
/-- a loop whose states are of one form -/
theorem Wk_for {body : Code} {σ : Type} (st : σ → S) (p : σ → Prop) (m : σ → Nat) (x0 : σ) (hs : Sub s (st x0)) (hp : p x0)
    (hr : ∀ x, p x → Wk C (.code body :: .cut (fun s' => ∃ y, p y ∧ m y < m x ∧ s' = st y) :: k) (st x)) : Wk C (.code (.loop body) :: k) s := by
  refine Wk_sub hs ?_
  intro a w hx
  let Inv : Act → World → Nat → Prop := fun a w n => ∃ x, p x ∧ H C.g C.N (st x) a w ∧ m x = n
  have least : ∀ a w, (∃ n, Inv a w n) → ∃ n, Inv a w n ∧ ∀ j, Inv a w j → n ≤ j := by
    intro a w ⟨n, hn⟩
    induction n using Nat.strongRecOn with
    | _ n ih =>
      by_cases h : ∃ j, j < n ∧ Inv a w j
      · obtain ⟨j, hj, hi⟩ := h; exact ih j hj hi
      · exact ⟨n, hn, fun j hj => Nat.le_of_not_lt fun hlt => h ⟨j, hlt, hj⟩⟩
  let mu : Act → World → Nat := fun a w => if h : ∃ n, Inv a w n then Classical.choose (least a w h) else 0
  have hmu : ∀ a w (h : ∃ n, Inv a w n), Inv a w (mu a w) ∧ ∀ j, Inv a w j → mu a w ≤ j := by
    intro a w h
    have := Classical.choose_spec (least a w h)
    simp only [mu, dif_pos h]
    exact this
  refine wp_loop (fun a w => ∃ n, Inv a w n) mu ⟨_, x0, hp, hx, rfl⟩ ?_
  intro a w hI
  obtain ⟨x, hpx, hHx, hmx⟩ := (hmu a w hI).1
  have hb := hr x hpx a w hHx
  refine wp_mono hb fun e a' w' he => ?_
  cases e with
  | normal =>
    obtain ⟨s2, ⟨y, hpy, hlt, rfl⟩, hH2⟩ := he
    refine ⟨⟨_, y, hpy, hH2, rfl⟩, ?_⟩
    have := (hmu a' w' ⟨_, y, hpy, hH2, rfl⟩).2 _ ⟨y, hpy, hH2, rfl⟩
    omega
  | _ => exact he

/-- a round's end -/
theorem Wk_back {σ : Type} {st : σ → S} {p : σ → Prop} {m : σ → Nat} {n : Nat} (y : σ) (hs : Sub s (st y)) (hp : p y) (hm : m y < n) :
    Wk C (.cut (fun s' => ∃ y, p y ∧ m y < n ∧ s' = st y) :: k) s :=
  Wk_cut (fun _ _ hx => hx.sub hs) ⟨y, hp, hm, rfl⟩

/-- what stands behind a piece is proved once, over a state of one form -/
theorem Wk_meet {x : It} {σ : Type} (st : σ → S) (p : σ → Prop) (h1 : Wk C (x :: .cut (fun s' => ∃ y, p y ∧ s' = st y) :: k) s) (h2 : ∀ y, p y → Wk C k (st y)) : Wk C (x :: k) s :=
  Wk_join _ h1 fun s' ⟨y, hp, e⟩ => by subst e; exact h2 y hp
theorem Wk_met {σ : Type} {st : σ → S} {p : σ → Prop} (y : σ) (hs : Sub s (st y)) (hp : p y) : Wk C (.cut (fun s' => ∃ y, p y ∧ s' = st y) :: k) s :=
  Wk_cut (fun _ _ hx => hx.sub hs) ⟨y, hp, rfl⟩

end Go.Ab
