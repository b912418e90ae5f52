/- States change: boxes, own rows, sealing. -/
import Derived.Test.YtgflfhdbihahcaaDm2
namespace Go.Dm
open Go Go.RowKit
set_option linter.unusedSimpArgs false
set_option linter.unusedVariables false

theorem addr_add (b o j : Nat) : (⟨b, o, none⟩ : Addr).add j = ⟨b, o + j, none⟩ := by
  unfold Addr.add
  split
  · rename_i h; subst h; rfl
  · rfl

/-- the world grows by new blocks, and some owned things are changed -/
structure Grow (w w' : World) (X : Nat → Prop) : Prop where
  os : w'.os = w.os
  tape : w'.tape = w.tape
  output : w'.output = w.output
  size : w.heap.size ≤ w'.heap.size
  block : ∀ b, b < w.heap.size → ¬ X b → w'.heap[b]? = w.heap[b]?

theorem Grow.cell {w w' : World} {X : Nat → Prop} (h : Grow w w' X) {b j : Nat} {v : Value} (hc : w.cell? ⟨b, j, none⟩ = some v) (hX : ¬ X b) : w'.cell? ⟨b, j, none⟩ = some v := by
  have hlt : b < w.heap.size := World.block_lt_of_cell? _ _ hc
  rw [World.cell?_of_block (h.block b hlt hX)]; exact hc

theorem Grow.alloc (w : World) (o : Obj) : Grow w (w.alloc o) (fun _ => False) :=
  ⟨rfl, rfl, rfl, by simp, fun b hb _ => Below.heap_alloc w o b hb⟩
theorem Grow.setRow (w : World) (g : Nat) (cs : Array Value) : Grow w (w.setRow g cs) (fun b => b = g) :=
  ⟨rfl, rfl, rfl, by simp, fun b _ hb => setRow_other w g b cs hb⟩
theorem Grow.refl (w : World) (X : Nat → Prop) : Grow w w X := ⟨rfl, rfl, rfl, Nat.le_refl _, fun _ _ _ => rfl⟩
theorem Grow.mono {w w' : World} {X Y : Nat → Prop} (h : Grow w w' X) (hXY : ∀ b, X b → Y b) : Grow w w' Y := ⟨h.os, h.tape, h.output, h.size, fun b hb hn => h.block b hb fun hx => hn (hXY b hx)⟩
theorem Grow.trans {w w' w'' : World} {X : Nat → Prop} (h : Grow w w' X) (h' : Grow w' w'' X) : Grow w w'' X :=
  ⟨h'.os.trans h.os, h'.tape.trans h.tape, h'.output.trans h.output, Nat.le_trans h.size h'.size, fun b hb hn => (h'.block b (Nat.lt_of_lt_of_le hb h.size) hn).trans (h.block b hb hn)⟩

/-- all that a state holds has names of a kind -/
structure S.okR (kr : Nat → Bool) (s : S) : Prop where
  fr : ∀ i av, aget s.fr i = some av → av.okIn yes kr yes = true
  bx : ∀ i cs, aget s.bx i = some cs → AV.okInL yes kr yes cs = true
  mp : ∀ i es, aget s.mp i = some es → AV.okInL yes kr yes (es.map (·.2)) = true

theorem S.okR_yes (s : S) : s.okR yes := ⟨fun _ _ _ => okIn_yes _, fun _ _ _ => okInL_yes _, fun _ _ _ => okInL_yes _⟩

def okAllF (kr : Nat → Bool) : List (Nat × AV) → Bool
  | [] => true
  | (_, x) :: l => match x.okIn yes kr yes with | true => okAllF kr l | false => false
def okAllB (kr : Nat → Bool) : List (Nat × List AV) → Bool
  | [] => true
  | (_, x) :: l => match AV.okInL yes kr yes x with | true => okAllB kr l | false => false
def okAllM (kr : Nat → Bool) : List (Nat × List (AV × AV)) → Bool
  | [] => true
  | (_, x) :: l => match AV.okInL yes kr yes (x.map (·.2)) with | true => okAllM kr l | false => false
theorem okAllF_get {kr : Nat → Bool} : ∀ {l : List (Nat × AV)} {i : Nat} {x : AV}, okAllF kr l = true → aget l i = some x → x.okIn yes kr yes = true
  | [], _, _, _, h => by cases h
  | (j, y) :: l, i, x, hl, h => by
    simp only [okAllF] at hl
    split at hl
    · rename_i hy
      rw [aget_cons] at h
      split at h
      · cases h; exact hy
      · exact okAllF_get hl h
    · cases hl
theorem okAllB_get {kr : Nat → Bool} : ∀ {l : List (Nat × List AV)} {i : Nat} {x : List AV}, okAllB kr l = true → aget l i = some x → AV.okInL yes kr yes x = true
  | [], _, _, _, h => by cases h
  | (j, y) :: l, i, x, hl, h => by
    simp only [okAllB] at hl
    split at hl
    · rename_i hy
      rw [aget_cons] at h
      split at h
      · cases h; exact hy
      · exact okAllB_get hl h
    · cases hl
theorem okAllM_get {kr : Nat → Bool} : ∀ {l : List (Nat × List (AV × AV))} {i : Nat} {x : List (AV × AV)}, okAllM kr l = true → aget l i = some x → AV.okInL yes kr yes (x.map (·.2)) = true
  | [], _, _, _, h => by cases h
  | (j, y) :: l, i, x, hl, h => by
    simp only [okAllM] at hl
    split at hl
    · rename_i hy
      rw [aget_cons] at h
      split at h
      · cases h; exact hy
      · exact okAllM_get hl h
    · cases hl
def S.okRB (kr : Nat → Bool) (s : S) : Bool := match okAllF kr s.fr with
  | true => match okAllB kr s.bx with
    | true => okAllM kr s.mp
    | false => false
  | false => false
theorem S.okRB_ok {kr : Nat → Bool} {s : S} (h : s.okRB kr = true) : s.okR kr := by
  unfold S.okRB at h
  split at h
  · rename_i h1
    split at h
    · rename_i h2
      exact ⟨fun i av hi => okAllF_get h1 hi, fun i cs hi => okAllB_get h2 hi, fun i es hi => okAllM_get h hi⟩
    · cases h
  · cases h

/-- all that is not changed stays -/
theorem St.grow' {g : Gh} {N : Nat} {M : Mem} {E E' : Env} {s : S} {tmps : Array Value} {w w' : World} {kr : Nat → Bool} (hs : St g N M E s tmps w) (X : Nat → Prop) (hX : ∀ b, b < w.heap.size → X b → ∃ o, E.own b = some o)
    (hg : Grow w w' X) (hE : E.le kr E') (hok : s.okR kr)
    (hown : ∀ b, b < w.heap.size → ¬ X b → E'.own b = E.own b)
    (hlive : ∀ b o, E'.own b = some o → b < w'.heap.size) {s' : S} (hfr : s'.fr = s.fr)
    (hmX : ∀ b j v, X b → M b j = some v → w'.cell? ⟨b, j, none⟩ = some v ∧ (E'.own b = none ∨ ∃ i r, E'.own b = some (1, i) ∧ rget s'.rw i = some r ∧ j < r.k * r.sz))
    (hrk : ∀ b i r, E.own b = some (1, i) → ¬ X b → rget s.rw i = some r → rget s'.rw i = some r)
    (hbx : ∀ i cs, aget s'.bx i = some cs → (aget s.bx i = some cs ∧ ∀ b, E.bx i = some b → ¬ X b) ∨ ∃ b, E'.bx i = some b ∧ E'.own b = some (0, i) ∧ BxOk M E' w' b cs)
    (hbxn : ∀ i, aget s'.bx i = none → E'.bx i = none)
    (hrw : ∀ i r, rget s'.rw i = some r → (rget s.rw i = some r ∧ E'.rw i = E.rw i ∧ ∀ b, E.own b = some (1, i) → ¬ X b) ∨ ∃ q, E'.rw i = some q ∧ RwOk M E' w' i q r)
    (hrwn : ∀ i, rget s'.rw i = none → E'.rw i = none)
    (hmp : ∀ i es, aget s'.mp i = some es → (aget s.mp i = some es ∧ ∀ b, E.mp i = some b → ¬ X b) ∨ ∃ r, E'.mp i = some r ∧ E'.own r = some (2, i) ∧ MpOk M E' w' r es)
    (hmpn : ∀ i, aget s'.mp i = none → E'.mp i = none) : St g N M E' s' tmps w' where
  size := hs.size
  fr := fun i av hi => by
    rw [hfr] at hi
    obtain ⟨h1, h2⟩ := hs.fr i av hi
    exact ⟨h1, h2.mono (fun _ _ _ h => h) hE (hok.fr i av hi)⟩
  mem := fun b j v hv => by
    obtain ⟨h1, h2⟩ := hs.mem b j v hv
    have hlt : b < w.heap.size := World.block_lt_of_cell? _ _ h1
    by_cases hb : X b
    · exact hmX b j v hb hv
    · refine ⟨hg.cell h1 hb, ?_⟩
      rw [hown b hlt hb]
      rcases h2 with h2 | ⟨i, r, h3, h4, h5⟩
      · exact .inl h2
      · exact .inr ⟨i, r, h3, hrk b i r h3 hb h4, h5⟩
  bx := fun i cs hi => by
    rcases hbx i cs hi with ⟨h, hn⟩ | h
    · obtain ⟨b, h1, h2, t, vs, h3, h4, h5⟩ := hs.bx i cs h
      have hlt := hs.live b _ h2
      exact ⟨b, hE.bx i b h1, by rw [hown b hlt (hn b h1)]; exact h2, t, vs, by rw [hg.block b hlt (hn b h1)]; exact h3, h4, fun j v c hv hc => (h5 j v c hv hc).mono (fun _ _ _ h => h) hE (okInL_get (hok.bx i cs h) hc)⟩
    · exact h
  bxn := hbxn
  rw := fun i r hi => by
    rcases hrw i r hi with ⟨h, he, hn⟩ | h
    · obtain ⟨q, h1, h2, h3, h4, h5, h6, h7⟩ := hs.rw i r h
      refine ⟨q, by rw [he]; exact h1, h2, h3, h4, h5, h6, ?_⟩
      rcases h7 with h8 | ⟨blk, t, vs, g1, g2, g3, g4, g5⟩
      · exact .inl h8
      · have hlt := hs.live blk _ g2
        refine .inr ⟨blk, t, vs, g1, by rw [hown blk hlt (hn blk g2)]; exact g2, by rw [hg.block blk hlt (hn blk g2)]; exact g3, g4, fun j u hu => ?_⟩
        exact g5 j u hu
    · exact h
  rwn := hrwn
  mp := fun i es hi => by
    rcases hmp i es hi with ⟨h, hn⟩ | h
    · obtain ⟨r, h1, h2, ents, clock, h3, h4, h5⟩ := hs.mp i es h
      have hlt := hs.live r _ h2
      refine ⟨r, hE.mp i r h1, by rw [hown r hlt (hn r h1)]; exact h2, ents, clock, by rw [hg.block r hlt (hn r h1)]; exact h3, h4,
        fun j e p he hp => ⟨(h5 j e p he hp).1, (h5 j e p he hp).2.mono (fun _ _ _ h => h) hE (okInL_get (hok.mp i es h) (j := j) (by simp [hp]))⟩⟩
    · exact h
  mpn := hmpn
  live := hlive
  foreign := fun b hb => by
    obtain ⟨h1, h2, h3⟩ := hs.foreign b hb
    have hnX : ¬ X b := fun h => by obtain ⟨o, ho⟩ := hX b h1 h; rw [h3] at ho; cases ho
    exact ⟨Nat.lt_of_lt_of_le h1 hg.size, by rw [hg.block b h1 hnX]; exact h2, by rw [hown b h1 hnX]; exact h3⟩
  m0 := hs.m0
  mf := hs.mf
  os := hg.os.trans hs.os
  tape := hg.tape.trans hs.tape
  output := hg.output.trans hs.output
  grow := Nat.le_trans hs.grow hg.size

theorem own_none {g : Gh} {N : Nat} {M : Mem} {E : Env} {s : S} {tmps : Array Value} {w : World} (hs : St g N M E s tmps w) {b : Nat} (hb : w.heap.size ≤ b) : E.own b = none := by
  cases h : E.own b with
  | none => rfl
  | some o => have := hs.live b o h; omega

def AllR (R : Value → AV → Prop) (vs : List Value) (cs : List AV) : Prop :=
  vs.length = cs.length ∧ ∀ (j : Nat) (v : Value) (c : AV), vs[j]? = some v → cs[j]? = some c → R v c

/-- a new box -/
theorem St.box {g : Gh} {N : Nat} {M : Mem} {E : Env} {s : S} {tmps : Array Value} {w : World} (hs : St g N M E s tmps w) {i : Nat} (hi : aget s.bx i = none) {t : TypeId} {vs : List Value} {cs : List AV}
    (h : AllR (RelS M E) vs cs) :
    ∃ E', E.le yes E' ∧ E'.bx i = some w.heap.size ∧ St g N M E' { s with bx := (i, cs) :: s.bx } tmps (w.alloc (.cells vs.toArray t)) := by
  have hnone := own_none hs (Nat.le_refl w.heap.size)
  have hbn := hs.bxn i hi
  have hle : E.le yes { E with bx := fun j => if j = i then some w.heap.size else E.bx j, own := fun b => if b = w.heap.size then some (0, i) else E.own b } := by
    refine ⟨fun j b hb => ?_, fun j q _ hq => hq, fun j r hr => hr⟩
    show (if j = i then some w.heap.size else E.bx j) = some b
    rw [if_neg (by rintro rfl; rw [hbn] at hb; cases hb)]; exact hb
  refine ⟨_, hle, if_pos rfl, ?_⟩
  refine hs.grow' (fun _ => False) (fun _ _ h => h.elim) (Grow.alloc w _) hle s.okR_yes (fun b hb _ => if_neg (by omega)) ?_ rfl (fun b j v h => h.elim) (fun b i r _ _ h => h) ?_ ?_ ?_ hs.rwn ?_ hs.mpn
  · intro b o hb
    simp only at hb
    split at hb
    · simp; omega
    · have := hs.live b o hb; simp; omega
  · intro j cs' hj
    simp only [aget_cons] at hj
    split at hj
    · rename_i e; subst e
      cases hj
      right
      refine ⟨w.heap.size, if_pos rfl, if_pos rfl, t, vs.toArray, heap_alloc_new w _, by simpa using h.1, fun j v c hv hc => (h.2 j v c (by simpa using hv) hc).mono (fun _ _ _ h => h) hle (okIn_yes _)⟩
    · exact .inl ⟨hj, fun _ _ h => h⟩
  · intro j hj
    simp only [aget_cons] at hj
    split at hj
    · cases hj
    · rename_i hne
      show (if j = i then some w.heap.size else E.bx j) = none
      rw [if_neg hne]; exact hs.bxn j hj
  · exact fun j r hj => .inl ⟨hj, rfl, fun _ _ h => h⟩
  · exact fun j es hj => .inl ⟨hj, fun _ _ h => h⟩

/-- a box is changed -/
theorem St.store {g : Gh} {N : Nat} {M : Mem} {E : Env} {s : S} {tmps : Array Value} {w : World} (hs : St g N M E s tmps w) {i b : Nat} {cs cs' : List AV} (hi : aget s.bx i = some cs) (hb : E.bx i = some b)
    {vs : List Value} (h : AllR (RelS M E) vs cs') : St g N M E { s with bx := (i, cs') :: s.bx } tmps (w.setRow b vs.toArray) := by
  obtain ⟨b', hb', hown, t, old, hh, hsz, hold⟩ := hs.bx i cs hi
  rw [hb] at hb'; cases hb'
  have hlt := hs.live b _ hown
  refine hs.grow' (fun k => k = b) (fun k _ hk => ⟨(0, i), by rw [hk]; exact hown⟩) (Grow.setRow w b _) (Env.le_refl yes E) s.okR_yes (fun _ _ _ => rfl) (fun k o hk => by have := hs.live k o hk; simpa using this) rfl ?_ (fun b i r _ _ h => h) ?_ ?_ ?_ hs.rwn ?_ hs.mpn
  · intro k j v hk hv
    subst hk
    rcases (hs.mem k j v hv).2 with h1 | ⟨_, _, h1, _⟩ <;> rw [hown] at h1 <;> cases h1
  · intro j cs2 hj
    simp only [aget_cons] at hj
    split at hj
    · rename_i e; subst e
      cases hj
      right
      exact ⟨b, hb, hown, t, vs.toArray, setRow_heap w b old _ t _ hh, by simpa using h.1, fun j v c hv hc => h.2 j v c (by simpa using hv) hc⟩
    · rename_i hne
      refine .inl ⟨hj, fun k hk hkb => ?_⟩
      obtain ⟨b2, hb2, hown2, _⟩ := hs.bx j cs2 hj
      rw [hk] at hb2; cases hb2
      rw [hkb] at hown2
      rw [hown] at hown2
      cases hown2
      exact hne rfl
  · intro j hj
    simp only [aget_cons] at hj
    split at hj
    · cases hj
    · exact hs.bxn j hj
  · intro j r hj
    refine .inl ⟨hj, rfl, fun k hk hkb => ?_⟩
    rw [hkb, hown] at hk
    cases hk
  · intro j es hj
    refine .inl ⟨hj, fun k hk hkb => ?_⟩
    obtain ⟨r, h1, h2, _⟩ := hs.mp j es hj
    rw [hk] at h1; cases h1
    rw [hkb, hown] at h2
    cases h2

/-- a slot is put -/
theorem St.putS {g : Gh} {N : Nat} {M : Mem} {E : Env} {a : Act} {s : S} {w : World} (hs : St g N M E s a.tmps w) {d : Nat} (hd : d < N) {v : Value} {x : AV}
    (h : Rel M E v x) : St g N M E { s with fr := (d, x) :: s.fr } (a.put (some d) v).tmps w := by
  refine { hs with size := by simpa [Act.put] using hs.size, fr := fun i av hi => ?_ }
  simp only [aget_cons] at hi
  simp only [Act.put, Array.getD_eq_getD_getElem?]
  split at hi
  · rename_i e; subst e
    cases hi
    refine ⟨hd, ?_⟩
    rw [Array.getElem?_setIfInBounds_self_of_lt (by rw [hs.size]; exact hd)]
    exact h
  · rename_i hne
    obtain ⟨h1, h2⟩ := hs.fr i av hi
    rw [Array.getElem?_setIfInBounds_ne (fun e => hne e.symm)]
    rw [Array.getD_eq_getD_getElem?] at h2
    exact ⟨h1, h2⟩

theorem defers_put (a : Act) (d : Option Nat) (v : Value) : (a.put d v).defers = a.defers := by cases d <;> rfl

end Go.Dm
