/- States change: boxes, own rows, sealing. -/
import Derived.Test.YtipeimcdjijkgaaEm2
import Derived.Laws.AppendOwn
import Derived.Laws.OwnMore
namespace Go.Dm
open Go Go.RowKit
set_option linter.unnecessarySimpa false
set_option linter.constructorNameAsVariable false
set_option linter.unusedSectionVars false
set_option linter.unusedSimpArgs false
set_option linter.unusedVariables false

theorem addr_add (b o j : Nat) : (⟨b, o, none⟩ : Addr).add j = ⟨b, o + j, none⟩ := by
  unfold Addr.add
  split
  · rename_i h; subst h; rfl
  · rfl

/-- the world grows by new blocks, and some owned things are changed -/
structure Grow (w w' : World) (X : Nat → Prop) : Prop where
  os : w'.os = w.os
  tape : w'.tape = w.tape
  output : w'.output = w.output
  size : w.heap.size ≤ w'.heap.size
  block : ∀ b, b < w.heap.size → ¬ X b → w'.heap[b]? = w.heap[b]?

theorem Grow.cell {w w' : World} {X : Nat → Prop} (h : Grow w w' X) {b j : Nat} {v : Value} (hc : w.cell? ⟨b, j, none⟩ = some v) (hX : ¬ X b) : w'.cell? ⟨b, j, none⟩ = some v := by
  have hlt : b < w.heap.size := World.block_lt_of_cell? _ _ hc
  rw [World.cell?_of_block (h.block b hlt hX)]; exact hc

theorem Grow.alloc (w : World) (o : Obj) : Grow w (w.alloc o) (fun _ => False) :=
  ⟨rfl, rfl, rfl, by simp, fun b hb _ => Below.heap_alloc w o b hb⟩
theorem Grow.setRow (w : World) (g : Nat) (cs : Array Value) : Grow w (w.setRow g cs) (fun b => b = g) :=
  ⟨rfl, rfl, rfl, by simp, fun b _ hb => setRow_other w g b cs hb⟩
theorem Grow.refl (w : World) (X : Nat → Prop) : Grow w w X := ⟨rfl, rfl, rfl, Nat.le_refl _, fun _ _ _ => rfl⟩
theorem Grow.drew (w : World) : Grow w w.drew (fun _ => False) := ⟨rfl, rfl, rfl, Nat.le_refl _, fun _ _ _ => rfl⟩
theorem Grow.mono {w w' : World} {X Y : Nat → Prop} (h : Grow w w' X) (hXY : ∀ b, X b → Y b) : Grow w w' Y := ⟨h.os, h.tape, h.output, h.size, fun b hb hn => h.block b hb fun hx => hn (hXY b hx)⟩
theorem Grow.trans {w w' w'' : World} {X : Nat → Prop} (h : Grow w w' X) (h' : Grow w' w'' X) : Grow w w'' X :=
  ⟨h'.os.trans h.os, h'.tape.trans h.tape, h'.output.trans h.output, Nat.le_trans h.size h'.size, fun b hb hn => (h'.block b (Nat.lt_of_lt_of_le hb h.size) hn).trans (h.block b hb hn)⟩

/-- all that is not changed stays: 'X' are the changed blocks, each of them owned -/
theorem St.grow' {g : Gh} {N : Nat} {M : Mem} {E E' : Env} {s : S} {tmps : Array Value} {w w' : World} (hs : St g N M E s tmps w) (X : Nat → Prop) (hX : ∀ b, b < w.heap.size → X b → ∃ o, E.own b = some o)
    (hg : Grow w w' X) (hE : E.le E')
    (hown : ∀ b, b < w.heap.size → ¬ X b → E'.own b = E.own b)
    (hlive : ∀ b o, E'.own b = some o → b < w'.heap.size) {s' : S} (hfr : s'.fr = s.fr)
    (hmX : ∀ b j v, X b → M b j = some v → w'.cell? ⟨b, j, none⟩ = some v ∧ ∀ o, E'.own b = some o → j < sealN s' o)
    (hrk : ∀ b o, E.own b = some o → ¬ X b → sealN s o ≤ sealN s' o)
    (hbx : ∀ i cs, aget s'.bx i = some cs → (aget s.bx i = some cs ∧ ∀ b, E.bx i = some b → ¬ X b) ∨ ∃ b, E'.bx i = some b ∧ E'.own b = some (0, i, 0) ∧ BxOk M E' w' b cs)
    (hbxn : ∀ i, aget s'.bx i = none → E'.bx i = none)
    (hrw : ∀ i r, aget s'.rw i = some r → (aget s.rw i = some r ∧ E'.rw i = E.rw i ∧ ∀ b p, E.own b = some (1, i, p) ∨ E.own b = some (5, i, p) → ¬ X b) ∨ ∃ q, E'.rw i = some q ∧ RwOk M E' w' i q r)
    (hrwn : ∀ i, aget s'.rw i = none → E'.rw i = none)
    (hmp : ∀ i es, aget s'.mp i = some es → (aget s.mp i = some es ∧ ∀ b, E.mp i = some b → ¬ X b) ∨ ∃ r, E'.mp i = some r ∧ E'.own r = some (2, i, 0) ∧ MpOk M E' w' r es)
    (hmpn : ∀ i, aget s'.mp i = none → E'.mp i = none)
    (har : ∀ i r, aget s'.ar i = some r → (aget s.ar i = some r ∧ E'.ar i = E.ar i ∧ ∀ b p, E.own b = some (3, i, p) ∨ E.own b = some (6, i, p) → ¬ X b) ∨ ∃ bs, E'.ar i = some bs ∧ ArOk M E' w' i bs r)
    (harn : ∀ i, aget s'.ar i = none → E'.ar i = none) : St g N M E' s' tmps w' where
  size := hs.size
  fr := fun i av hi => by
    rw [hfr] at hi
    obtain ⟨h1, h2⟩ := hs.fr i av hi
    exact ⟨h1, h2.monoE hE⟩
  mem := fun b j v hv => by
    obtain ⟨h1, h2⟩ := hs.mem b j v hv
    have hlt : b < w.heap.size := World.block_lt_of_cell? _ _ h1
    by_cases hb : X b
    · exact hmX b j v hb hv
    · refine ⟨hg.cell h1 hb, fun o ho => ?_⟩
      rw [hown b hlt hb] at ho
      exact Nat.lt_of_lt_of_le (h2 o ho) (hrk b o ho hb)
  bx := fun i cs hi => by
    rcases hbx i cs hi with ⟨h, hn⟩ | h
    · obtain ⟨b, h1, h2, t, vs, h3, h4, h5⟩ := hs.bx i cs h
      have hlt := hs.live b _ h2
      exact ⟨b, hE.bx i b h1, by rw [hown b hlt (hn b h1)]; exact h2, t, vs, by rw [hg.block b hlt (hn b h1)]; exact h3, h4, fun j v c hv hc => (h5 j v c hv hc).monoE hE⟩
    · exact h
  bxn := hbxn
  rw := fun i r hi => by
    rcases hrw i r hi with ⟨h, he, hn⟩ | h
    · obtain ⟨q, h1, h2⟩ := hs.rw i r h
      have key : ∀ b o, E.own b = some o → ¬ X b → E'.own b = some o ∧ w'.heap[b]? = w.heap[b]? := fun b o ho hx =>
        ⟨by rw [hown b (hs.live b o ho) hx]; exact ho, hg.block b (hs.live b o ho) hx⟩
      exact ⟨q, by rw [he]; exact h1, h2.mono (fun _ _ _ h => h) hE (fun b hb => key b _ hb (hn b 0 (.inl hb))) (fun b j hb => key b _ hb (hn b j (.inr hb)))⟩
    · exact h
  rwn := hrwn
  mp := fun i es hi => by
    rcases hmp i es hi with ⟨h, hn⟩ | h
    · obtain ⟨r, h1, h2, ents, clock, h3, h4, h5⟩ := hs.mp i es h
      have hlt := hs.live r _ h2
      refine ⟨r, hE.mp i r h1, by rw [hown r hlt (hn r h1)]; exact h2, ents, clock, by rw [hg.block r hlt (hn r h1)]; exact h3, h4,
        fun j e p he hp => h5 j e p he hp⟩
    · exact h
  mpn := hmpn
  ar := fun i r hi => by
    rcases har i r hi with ⟨h, he, hn⟩ | h
    · obtain ⟨bs, h1, h2⟩ := hs.ar i r h
      have key : ∀ b o, E.own b = some o → ¬ X b → E'.own b = some o ∧ w'.heap[b]? = w.heap[b]? := fun b o ho hx =>
        ⟨by rw [hown b (hs.live b o ho) hx]; exact ho, hg.block b (hs.live b o ho) hx⟩
      exact ⟨bs, by rw [he]; exact h1, h2.mono (fun _ _ _ h => h) hE (fun b j hb => key b _ hb (hn b j (.inl hb))) (fun b j hb => key b _ hb (hn b j (.inr hb)))⟩
    · exact h
  arn := harn
  live := hlive
  foreign := fun b hb => by
    obtain ⟨h1, h2, h3⟩ := hs.foreign b hb
    have hnX : ¬ X b := fun h => by obtain ⟨o, ho⟩ := hX b h1 h; rw [h3] at ho; cases ho
    exact ⟨Nat.lt_of_lt_of_le h1 hg.size, by rw [hg.block b h1 hnX]; exact h2, by rw [hown b h1 hnX]; exact h3⟩
  m0 := hs.m0
  mf := hs.mf
  os := hg.os.trans hs.os
  tape := hg.tape.trans hs.tape
  output := hg.output.trans hs.output
  grow := Nat.le_trans hs.grow hg.size

section
variable {g : Gh} {N : Nat} {M : Mem} {E : Env} {s : S} {tmps : Array Value} {w : World}

theorem own_none (hs : St g N M E s tmps w) {b : Nat} (hb : w.heap.size ≤ b) : E.own b = none := by
  cases h : E.own b with
  | none => rfl
  | some o => have := hs.live b o h; omega

/- what the unchanged parts of a state ask of it -/
theorem St.bxK (hs : St g N M E s tmps w) {X : Nat → Prop} (hX : ∀ b i, X b → E.own b ≠ some (0, i, 0)) : ∀ i cs, aget s.bx i = some cs → aget s.bx i = some cs ∧ ∀ b, E.bx i = some b → ¬ X b := by
  intro i cs h
  refine ⟨h, fun b hb hx => ?_⟩
  obtain ⟨b', h1, h2, _⟩ := hs.bx i cs h
  rw [hb] at h1; cases h1
  exact hX b i hx h2
theorem St.mpK (hs : St g N M E s tmps w) {X : Nat → Prop} (hX : ∀ b i, X b → E.own b ≠ some (2, i, 0)) : ∀ i es, aget s.mp i = some es → aget s.mp i = some es ∧ ∀ b, E.mp i = some b → ¬ X b := by
  intro i es h
  refine ⟨h, fun b hb hx => ?_⟩
  obtain ⟨b', h1, h2, _⟩ := hs.mp i es h
  rw [hb] at h1; cases h1
  exact hX b i hx h2
end

def AllR (R : Value → AV → Prop) (vs : List Value) (cs : List AV) : Prop :=
  vs.length = cs.length ∧ ∀ (j : Nat) (v : Value) (c : AV), vs[j]? = some v → cs[j]? = some c → R v c

/-- a new box -/
theorem St.box {g : Gh} {N : Nat} {M : Mem} {E : Env} {s : S} {tmps : Array Value} {w : World} (hs : St g N M E s tmps w) {i : Nat} (hi : aget s.bx i = none) (hB : i < nB) {t : TypeId} {vs : List Value} {cs : List AV}
    (h : AllR (RelS M E) vs cs) :
    ∃ E', E.up E' ∧ E'.bx i = some w.heap.size ∧ St g N M E' { s with bx := (i, cs) :: s.bx } tmps (w.alloc (.cells vs.toArray t)) := by
  have hnone := own_none hs (Nat.le_refl w.heap.size)
  have hbn := hs.bxn i hi
  have hle : E.le { E with bx := fun j => if j = i then some w.heap.size else E.bx j, own := fun b => if b = w.heap.size then some (0, i, 0) else E.own b } := by
    refine ⟨fun j b hb => ?_, fun j q hq => ⟨q, hq, Nat.le_refl _, fun _ => ⟨rfl, rfl, rfl, rfl⟩⟩, fun j r hr => hr, fun j bs h => ⟨[], by simpa using h⟩⟩
    show (if j = i then some w.heap.size else E.bx j) = some b
    rw [if_neg (by rintro rfl; rw [hbn] at hb; cases hb)]; exact hb
  refine ⟨_, ⟨hle, fun E0 hp => ⟨fun j b hj h => hp.bx j b hj (by simp only at h; rwa [if_neg (by omega)] at h), hp.rw, hp.mp, hp.ar⟩⟩, if_pos rfl, ?_⟩
  refine hs.grow' (fun _ => False) (fun _ _ h => h.elim) (Grow.alloc w _) hle (fun b hb _ => if_neg (by omega)) ?_ rfl (fun b j v h => h.elim) (fun b o _ _ => Nat.le_refl _) ?_ ?_
    (fun j r hj => .inl ⟨hj, rfl, fun _ _ _ h => h⟩) hs.rwn (fun j es hj => .inl ⟨hj, fun _ _ h => h⟩) hs.mpn (fun j r hj => .inl ⟨hj, rfl, fun _ _ _ h => h⟩) hs.arn
  · intro b o hb
    simp only at hb
    split at hb
    · simp; omega
    · have := hs.live b o hb; simp; omega
  · intro j cs' hj
    simp only [aget_cons] at hj
    split at hj
    · rename_i e; subst e
      cases hj
      right
      refine ⟨w.heap.size, if_pos rfl, if_pos rfl, t, vs.toArray, heap_alloc_new w _, by simpa using h.1, fun j v c hv hc => (h.2 j v c (by simpa using hv) hc).monoE hle⟩
    · exact .inl ⟨hj, fun _ _ h => h⟩
  · intro j hj
    simp only [aget_cons] at hj
    split at hj
    · cases hj
    · rename_i hne
      show (if j = i then some w.heap.size else E.bx j) = none
      rw [if_neg hne]; exact hs.bxn j hj

/-- a box is changed -/
theorem St.store {g : Gh} {N : Nat} {M : Mem} {E : Env} {s : S} {tmps : Array Value} {w : World} (hs : St g N M E s tmps w) {i b : Nat} {cs cs' : List AV} (hi : aget s.bx i = some cs) (hb : E.bx i = some b)
    {vs : List Value} (h : AllR (RelS M E) vs cs') : St g N M E { s with bx := (i, cs') :: s.bx } tmps (w.setRow b vs.toArray) := by
  obtain ⟨b', hb', hown, t, old, hh, hsz, hold⟩ := hs.bx i cs hi
  rw [hb] at hb'; cases hb'
  have hlt := hs.live b _ hown
  have hX : ∀ k o, k = b → E.own k = some o → o = (0, i, 0) := fun k o e ho => by rw [e, hown] at ho; cases ho; rfl
  refine hs.grow' (fun k => k = b) (fun k _ hk => ⟨(0, i, 0), by rw [hk]; exact hown⟩) (Grow.setRow w b _) (Env.le_refl E) (fun _ _ _ => rfl) (fun k o hk => by have := hs.live k o hk; simpa using this) rfl ?_ (fun b o _ _ => Nat.le_refl _) ?_ ?_
    (fun j r hj => .inl ⟨hj, rfl, fun k p ho hk => ?_⟩) hs.rwn (fun j es hj => .inl (hs.mpK (fun k i' hk ho => by have := hX k _ hk ho; cases this) j es hj)) hs.mpn (fun j r hj => .inl ⟨hj, rfl, fun k p ho hk => ?_⟩) hs.arn
  · intro k j v hk hv
    subst hk
    have := (hs.mem k j v hv).2 _ hown
    simp [sealN] at this
  · intro j cs2 hj
    simp only [aget_cons] at hj
    split at hj
    · rename_i e; subst e
      cases hj
      right
      exact ⟨b, hb, hown, t, vs.toArray, setRow_heap w b old _ t _ hh, by simpa using h.1, fun j v c hv hc => h.2 j v c (by simpa using hv) hc⟩
    · rename_i hne
      refine .inl ⟨hj, fun k hk hkb => ?_⟩
      obtain ⟨b2, hb2, hown2, _⟩ := hs.bx j cs2 hj
      rw [hk] at hb2; cases hb2
      have := hX _ _ hkb hown2
      cases this
      exact hne rfl
  · intro j hj
    simp only [aget_cons] at hj
    split at hj
    · cases hj
    · exact hs.bxn j hj
  · rcases ho with ho | ho <;> · have := hX k _ hk ho; cases this
  · rcases ho with ho | ho <;> · have := hX k _ hk ho; cases this

/-- a slot is put -/
theorem St.putS {g : Gh} {N : Nat} {M : Mem} {E : Env} {a : Act} {s : S} {w : World} (hs : St g N M E s a.tmps w) {d : Nat} (hd : d < N) {v : Value} {x : AV}
    (h : Rel M E v x) : St g N M E { s with fr := (d, x) :: s.fr } (a.put (some d) v).tmps w := by
  refine { hs with size := by simpa [Act.put] using hs.size, fr := fun i av hi => ?_ }
  simp only [aget_cons] at hi
  simp only [Act.put, Array.getD_eq_getD_getElem?]
  split at hi
  · rename_i e; subst e
    cases hi
    refine ⟨hd, ?_⟩
    rw [Array.getElem?_setIfInBounds_self_of_lt (by rw [hs.size]; exact hd)]
    exact h
  · rename_i hne
    obtain ⟨h1, h2⟩ := hs.fr i av hi
    rw [Array.getElem?_setIfInBounds_ne (fun e => hne e.symm)]
    rw [Array.getD_eq_getD_getElem?] at h2
    exact ⟨h1, h2⟩

theorem defers_put (a : Act) (d : Option Nat) (v : Value) : (a.put d v).defers = a.defers := by cases d <;> rfl

theorem flat_len {sz : Nat} : ∀ {xs : List AV}, (∀ x ∈ xs, x.cells.length = sz) → (flat xs).length = xs.length * sz
  | [], _ => by simp [flat]
  | x :: l, h => by
    have := flat_len (xs := l) fun y hy => h y (by simp [hy])
    simp only [flat, List.flatMap_cons, List.length_append, List.length_cons] at this ⊢
    rw [this, h x (by simp), Nat.succ_mul]; omega
theorem flat_append (a b : List AV) : flat (a ++ b) = flat a ++ flat b := by simp [flat]
theorem flat_cons (x : AV) (xs : List AV) : flat (x :: xs) = x.cells ++ flat xs := by simp [flat]

theorem sealN_row {s : S} {i : Nat} {r : Rw} (h : aget s.rw i = some r) : sealN s (1, i, 0) = r.k * r.sz := by simp [sealN, h]

section
variable {g : Gh} {N : Nat} {M : Mem} {E : Env} {s : S} {tmps : Array Value} {w w1 : World}

/-- a row's elements stand in a new block, under a new name or the next number -/
theorem St.rowNew (hs : St g N M E s tmps w) {i : Nat} {vr : Nat} (hvr : aget s.rw i = none ∧ i < nB ∨ ∃ r, aget s.rw i = some r ∧ r.ver < vr)
    (hg : Grow w w1 (fun _ => False)) {vs : Array Value} {e : TypeId} {sz n c k cm : Nat} {nl : Bool} {pu : Nat} {ns : List Nat} {xs : List AV} (hkx : k ≤ xs.length) (hn : n = xs.length) (hnc : n ≤ c) (hc : c ≤ maxLen) (hsz : ∀ x ∈ xs, x.cells.length = sz)
    (hcm : cm ≤ c) (hnl : nl = true → xs ≠ []) (hvs : vs.size = c * sz) (h5 : ∀ p, sealN s (5, i, p) ≤ ownK (flat xs)[p]?)
    (hrel : CsOk M E w pu ns 5 i 0 vs (flat xs)) :
    ∃ E', E.up E' ∧ E'.rw i = some ⟨some ⟨w1.heap.size, 0, none⟩, n, c, sz, vr⟩ ∧
      St g N M E' { s with rw := (i, ⟨e, sz, vr, k, cm, nl, pu, ns, xs⟩) :: s.rw } tmps (w1.alloc (.cells vs e)) := by
  have hle : E.le { E with
      rw := fun j => if j = i then some ⟨some ⟨w1.heap.size, 0, none⟩, n, c, sz, vr⟩ else E.rw j
      own := fun b => if b = w1.heap.size then some (1, i, 0) else if E.own b = some (1, i, 0) then none else E.own b } := by
    refine ⟨fun j b hb => hb, fun j q hq => ?_, fun j r hr => hr, fun j bs h => ⟨[], by simpa using h⟩⟩
    by_cases hj : j = i
    · subst hj
      have : q.ver < vr := by
        rcases hvr with ⟨h, _⟩ | ⟨r, h, hl⟩
        · rw [hs.rwn j h] at hq; cases hq
        · obtain ⟨q', hq', hok⟩ := hs.rw j r h
          rw [hq] at hq'; cases hq'
          have := hok.ver
          omega
      exact ⟨_, if_pos rfl, Nat.le_of_lt this, fun e => by have e : q.ver = vr := e; omega⟩
    · exact ⟨q, by simp only [if_neg hj]; exact hq, Nat.le_refl _, fun _ => ⟨rfl, rfl, rfl, rfl⟩⟩
  have hsize := hg.size
  refine ⟨_, ⟨hle, fun E0 hp => ⟨hp.bx, fun j q hj h hv => ?_, hp.mp, hp.ar⟩⟩, if_pos rfl, ?_⟩
  · simp only at h
    split at h
    · rename_i e; subst e
      cases h
      simp only at hv
      rcases hvr with ⟨_, h⟩ | ⟨r, _, hl⟩ <;> omega
    · exact hp.rw j q hj h hv
  have hbig : Grow w (w1.alloc (.cells vs e)) (fun _ => False) := (hg.mono (fun _ h => h.elim)).trans ((Grow.alloc w1 _).mono (fun _ h => h.elim))
  refine hs.grow' (fun b => E.own b = some (1, i, 0)) (fun b _ h => ⟨_, h⟩) (hbig.mono (fun _ h => h.elim)) hle
    (fun b hb hX => ?_) ?_ rfl ?_ ?_
    (fun k cs hk => .inl (hs.bxK (fun b i' h ho => by rw [ho] at h; cases h) k cs hk)) hs.bxn ?_ ?_
    (fun k es hk => .inl (hs.mpK (fun b i' h ho => by rw [ho] at h; cases h) k es hk)) hs.mpn
    (fun k r hk => .inl ⟨hk, rfl, fun b p ho h => by rcases ho with ho | ho <;> (rw [ho] at h; cases h)⟩) hs.arn
  · show (if b = w1.heap.size then some ((1 : Nat), i, 0) else if E.own b = some (1, i, 0) then none else E.own b) = E.own b
    rw [if_neg (by omega), if_neg hX]
  · intro b o hb
    simp only at hb
    split at hb
    · simp; omega
    · split at hb
      · cases hb
      · have := hs.live b o hb; simp; omega
  · intro b j v hX hM
    obtain ⟨h1, _⟩ := hs.mem b j v hM
    have hlt : b < w.heap.size := World.block_lt_of_cell? _ _ h1
    refine ⟨hbig.cell h1 (fun h => h), fun o ho => ?_⟩
    simp only at ho
    rw [if_neg (by omega), if_pos hX] at ho
    cases ho
  · intro b o ho hX
    obtain ⟨kd, j, p⟩ := o
    by_cases hj : j = i
    · subst hj
      by_cases h5' : kd = 5
      · subst h5'
        refine Nat.le_trans (h5 p) ?_
        simp [sealN, aget_cons]
      · by_cases h1 : kd = 1
        · subst h1
          by_cases hp : p = 0
          · subst hp; exact absurd ho hX
          · simp [sealN, hp]
        · simp [sealN, h1, h5']
    · simp only [sealN, aget_cons, if_neg hj]; exact Nat.le_refl _
  · intro j r hj
    simp only [aget_cons] at hj
    split at hj
    · rename_i e'; subst e'
      cases hj
      refine .inr ⟨_, if_pos rfl, ⟨rfl, rfl, hn, hnc, hc, hsz, hkx, hcm, fun h => ?_, .inr ⟨w1.heap.size, vs, rfl, if_pos rfl, heap_alloc_new w1 _, hvs, ?_⟩⟩⟩
      · simp only [reduceCtorEq, false_iff]; exact hnl h
      · refine hrel.mono (fun _ _ _ h => h) (fun _ => Env.arO_le hle _) fun b p ho => ?_
        have hlt := hs.live b _ ho
        refine ⟨?_, hbig.block b hlt fun h => h⟩
        show (if b = w1.heap.size then some ((1 : Nat), j, 0) else if E.own b = some (1, j, 0) then none else E.own b) = _
        rw [if_neg (by omega), if_neg (by rw [ho]; simp)]; exact ho
    · rename_i hne
      refine .inl ⟨hj, if_neg hne, fun b p ho h => ?_⟩
      rcases ho with ho | ho
      · rw [ho] at h; cases h; exact hne rfl
      · rw [ho] at h; cases h
  · intro k hk
    simp only [aget_cons] at hk
    split at hk
    · cases hk
    · rename_i hne
      show (if k = i then _ else E.rw k) = none
      rw [if_neg hne]; exact hs.rwn k hk
end

end Go.Dm
