/- The evaluator is sound: loads, stores, boxes, literals. -/
import Derived.Test.YtgflfhdbihahcaaAbEq
namespace Go.Ab
open Go Go.RowKit
set_option linter.unusedSimpArgs false
set_option linter.unusedVariables false

variable {C : Cx} {k : List It} {s : S} {τ : TyTab}

theorem addr_add (b o j : Nat) : (⟨b, o, none⟩ : Addr).add j = ⟨b, o + j, none⟩ := by
  unfold Addr.add
  split
  · rename_i h; subst h; rfl
  · rfl

theorem takeAt_eq : ∀ (l : List AV) (o n : Nat) (r : List AV), takeAt l o n = some r → r = (l.drop o).take n ∧ (0 < n → o + n ≤ l.length)
  | l, o, 0, r, h => by simp only [takeAt] at h; cases h; simp
  | [], _, n + 1, r, h => by simp [takeAt] at h
  | x :: l, 0, n + 1, r, h => by
    simp only [takeAt, Option.map_eq_some_iff] at h
    obtain ⟨r', h', rfl⟩ := h
    obtain ⟨e, hl⟩ := takeAt_eq l 0 n r' h'
    refine ⟨by simp [e], fun _ => ?_⟩
    rcases Nat.eq_zero_or_pos n with hn | hn
    · subst hn; simp
    · have := hl hn; simp; omega
  | x :: l, o + 1, n + 1, r, h => by
    simp only [takeAt] at h
    obtain ⟨e, hl⟩ := takeAt_eq l o (n + 1) r h
    refine ⟨by simp [e], fun hn => ?_⟩
    have := hl hn
    simp; omega

theorem setAt_eq : ∀ (l : List AV) (o : Nat) (vs r : List AV), setAt l o vs = some r → r = l.take o ++ vs ++ l.drop (o + vs.length) ∧ (vs ≠ [] → o + vs.length ≤ l.length)
  | l, o, [], r, h => by simp only [setAt] at h; cases h; simp
  | [], _, v :: vs, r, h => by simp [setAt] at h
  | x :: l, 0, v :: vs, r, h => by
    simp only [setAt, Option.map_eq_some_iff] at h
    obtain ⟨r', h', rfl⟩ := h
    obtain ⟨e, hl⟩ := setAt_eq l 0 vs r' h'
    refine ⟨by simp [e], fun _ => ?_⟩
    cases vs with
    | nil => simp
    | cons u us => have := hl (by simp); simp at this ⊢; omega
  | x :: l, o + 1, v :: vs, r, h => by
    simp only [setAt, Option.map_eq_some_iff] at h
    obtain ⟨r', h', rfl⟩ := h
    obtain ⟨e, hl⟩ := setAt_eq l o (v :: vs) r' h'
    refine ⟨?_, fun hn => ?_⟩
    · rw [e]
      have : o + 1 + (v :: vs).length = (o + (v :: vs).length) + 1 := by omega
      rw [this]
      simp
    · have := hl hn
      simp at this ⊢; omega

section ty
variable {P : Program} {t : TypeId} {i : TI}
theorem TyOk1.loadVar (h : TyOk1 P t i) (w : World) (b o : Nat) (f : Nat → Value) (hc : ∀ j, j < i.sz → w.cell? ⟨b, o + j, none⟩ = some (f j)) :
    (Go.loadVar t ⟨b, o, none⟩).run P w = .ok (if i.k.agg then .agg ((List.range i.sz).map f).toArray else f 0) w := by
  unfold Go.loadVar
  simp only [Sem.run_bind, h.isAgg, Result.andThen_ok]
  cases hk : i.k.agg with
  | true =>
    simp only [if_true, Sem.run_bind, h.sizeOf, Result.andThen_ok, Sem.run_pure]
    rw [run_loadCells w ⟨b, o, none⟩ i.sz f (fun j hj => by rw [addr_add]; exact hc j hj)]
    rfl
  | false =>
    have h1 := h.one hk
    have := hc 0 (by omega)
    simp at this
    simp [this]
theorem TyOk1.part' (h : TyOk1 P t i) (w : World) (vs : List Value) (off : Nat) (hl : off + i.sz ≤ vs.length) :
    (Go.part t vs.toArray off).run P w = .ok (if i.k.agg then .agg ((vs.drop off).take i.sz).toArray else vs.getD off undef) w := by
  unfold Go.part
  simp only [Sem.run_bind, h.isAgg, Result.andThen_ok]
  cases hk : i.k.agg with
  | true =>
    simp only [if_true, Sem.run_bind, h.sizeOf, Result.andThen_ok, Sem.run_pure]
    congr 2
    simp [List.extract_eq_take_drop, Nat.add_sub_cancel_left]
  | false =>
    have h1 := h.one hk
    have hlt : off < vs.length := by omega
    simp [hlt, List.getD]
end ty

theorem fld_sound (hτ : TyOk C.P τ) {st : TypeId} {f : Nat} {i : TI} {off : Nat} (h : fldOf τ st f = some (i, off)) :
    ∃ (fs : Array Field) (fd : Field), C.P.underlying st = some (.struct fs) ∧ fs[f]? = some fd ∧ fd.offset = off ∧ τ fd.type = some i ∧ i.sz ≠ 0 := by
  unfold fldOf at h
  split at h
  · rename_i fl eq sz by' z hst
    obtain ⟨fs, hu, hfl, _⟩ := (hτ st _ hst).kind
    split at h
    · rename_i t o hn
      split at h
      · rename_i i' hi
        split at h
        · cases h
        · rename_i hz
          cases h
          rw [nth_eq, ← hfl, List.getElem?_map, Option.map_eq_some_iff] at hn
          obtain ⟨fd, hfd, e⟩ := hn
          simp only [Prod.mk.injEq] at e
          obtain ⟨rfl, rfl⟩ := e
          exact ⟨fs, fd, hu, by simpa using hfd, rfl, hi, hz⟩
      · cases h
    · cases h
  · cases h

theorem run_fieldAt (hτ : TyOk C.P τ) {st : TypeId} {f : Nat} {i : TI} {off : Nat} (h : fldOf τ st f = some (i, off)) (a : Addr) (w : World) :
    (Instr.fieldAt st (.pointer (some a)) f).run C.P w = .ok (.pointer (some (a.add off))) w := by
  obtain ⟨fs, fd, hu, hf, ho, ht, hz⟩ := fld_sound hτ h
  subst ho
  unfold Instr.fieldAt
  simp [run_underlying hu, hf, Instr.sureAddr, fieldPlace, (hτ _ _ ht).sizeOf, hz]

theorem AllR.get {R : Value → AV → Prop} {vs : List Value} {cs : List AV} (h : AllR R vs cs) {j : Nat} {c : AV} (hc : cs[j]? = some c) : ∃ v, vs[j]? = some v ∧ R v c := by
  have hl := (List.getElem?_eq_some_iff.1 hc).1
  have hl' : j < vs.length := by rw [h.1]; exact hl
  exact ⟨vs[j], List.getElem?_eq_getElem hl', h.2 j _ _ (List.getElem?_eq_getElem hl') hc⟩
theorem AllR.sub {R : Value → AV → Prop} {vs : List Value} {cs : List AV} (h : AllR R vs cs) (o n : Nat) : AllR R ((vs.drop o).take n) ((cs.drop o).take n) := by
  refine ⟨by simp [h.1], fun j v c hv hc => ?_⟩
  rw [List.getElem?_take] at hv hc
  split at hv
  · rename_i hj
    rw [if_pos hj] at hc
    rw [List.getElem?_drop] at hv hc
    exact h.2 _ _ _ hv hc
  · cases hv
theorem AllR.set {R : Value → AV → Prop} {vs us : List Value} {cs ds : List AV} (h : AllR R vs cs) (h' : AllR R us ds) (o : Nat) (ho : us ≠ [] → o + us.length ≤ vs.length) :
    AllR R (vs.take o ++ us ++ vs.drop (o + us.length)) (cs.take o ++ ds ++ cs.drop (o + ds.length)) := by
  have hl := h.1
  have hl' := h'.1
  refine ⟨by simp [hl, hl'], fun j v c hv hc => ?_⟩
  rcases Nat.eq_zero_or_pos us.length with h0 | h0
  · have e1 : us = [] := List.eq_nil_of_length_eq_zero h0
    have e2 : ds = [] := List.eq_nil_of_length_eq_zero (by omega)
    subst e1; subst e2
    simp at hv hc
    exact h.2 j v c hv hc
  · have hb := ho (by intro e; subst e; simp at h0)
    have et : (vs.take o).length = o := by simp; omega
    have et' : (cs.take o).length = o := by simp; omega
    rw [List.append_assoc, List.getElem?_append] at hv hc
    rw [et] at hv
    rw [et'] at hc
    split at hv
    · rename_i hj
      rw [if_pos hj] at hc
      rw [List.getElem?_take, if_pos hj] at hv hc
      exact h.2 j v c hv hc
    · rename_i hj
      rw [if_neg hj] at hc
      rw [List.getElem?_append] at hv hc
      split at hv
      · rename_i hj2
        rw [if_pos (by omega)] at hc
        exact h'.2 _ v c hv hc
      · rename_i hj2
        rw [if_neg (by omega)] at hc
        rw [List.getElem?_drop] at hv hc
        have e : o + us.length + (j - o - us.length) = j := by omega
        have e' : o + ds.length + (j - o - ds.length) = j := by omega
        rw [e] at hv
        rw [e'] at hc
        exact h.2 _ v c hv hc

theorem Rel.allR {M : Mem} {E : Env} {v : Value} {x : AV} (h : Rel M E v x) (hx : x.cells.all AV.isCell = true) : AllR (RelS M E) v.cells.toList x.cells := by
  have hx1 : x ≠ .any := by rintro rfl; simp [AV.cells, AV.isCell] at hx
  have hx2 : ∀ l, x ≠ .tup l := by rintro l rfl; simp [AV.cells, AV.isCell] at hx
  obtain ⟨h1, h2⟩ := h.cells hx1 hx2
  exact ⟨by simpa using h1, fun j v c hv hc => h2 j v c (by simpa using hv) hc⟩

theorem AllR.one {M : Mem} {E : Env} {vs : List Value} {cs : List AV} (h : AllR (RelS M E) vs cs) : ∀ v ∈ vs, v.oneCell' = true := by
  intro v hv
  obtain ⟨j, hj, rfl⟩ := List.mem_iff_getElem.1 hv
  have hj' : j < cs.length := by rw [← h.1]; exact hj
  exact (h.2 j _ _ (List.getElem?_eq_getElem hj) (List.getElem?_eq_getElem hj')).one.1

theorem part_rel {M : Mem} {E : Env} {i : TI} {P : Program} {t : TypeId} (hi : TyOk1 P t i) {vs : List Value} {cs : List AV} (h : AllR (RelS M E) vs cs) {off : Nat} {x : AV} (hp : partOf i cs off = some x) (hz : i.sz ≠ 0 ∨ i.k.agg = true) :
    (off + i.sz ≤ vs.length ∨ i.sz = 0) ∧ Rel M E (if i.k.agg then .agg ((vs.drop off).take i.sz).toArray else vs.getD off undef) x ∧
      (∀ R, AllR R vs cs → AllR R ((vs.drop off).take i.sz) x.cells) := by
  unfold partOf at hp
  cases hk : i.k.agg with
  | true =>
    rw [hk, if_pos rfl, Option.map_eq_some_iff] at hp
    obtain ⟨ds, hd, rfl⟩ := hp
    obtain ⟨e, hl⟩ := takeAt_eq _ _ _ _ hd
    rw [if_pos rfl]
    refine ⟨?_, ?_, fun R hR => ?_⟩
    · rcases Nat.eq_zero_or_pos i.sz with h0 | h0
      · exact .inr h0
      · left; rw [h.1]; exact hl h0
    · have := h.sub off i.sz
      rw [e]
      exact .agg _ _ this.1 this.2
    · rw [e]; exact hR.sub off i.sz
  | false =>
    rw [hk, if_neg (by simp), nth_eq] at hp
    have h1 := hi.one hk
    have hlt : off < cs.length := (List.getElem?_eq_some_iff.1 hp).1
    have hlt' : off < vs.length := by rw [h.1]; exact hlt
    obtain ⟨v, hv, hr⟩ := h.get hp
    rw [if_neg (by simp)]
    have e1 : (vs.drop off).take 1 = [v] := by
      have hv' := (List.getElem?_eq_some_iff.1 hv).2
      rw [List.drop_eq_getElem_cons hlt', hv']
      rfl
    refine ⟨.inl (by omega), ?_, fun R hR => ?_⟩
    · have : vs.getD off undef = v := by simp [List.getD, hv]
      rw [this]; exact .cell hr
    · rw [h1, e1, hr.one.2]
      obtain ⟨v', hv', hr'⟩ := hR.get hp
      rw [hv] at hv'; cases hv'
      refine ⟨rfl, fun j u c hu hc => ?_⟩
      cases j with
      | zero => simp at hu hc; subst hu; subst hc; exact hr'
      | succ j => simp at hu

theorem BxOk.allR {M : Mem} {E : Env} {w : World} {b : Nat} {cs : List AV} (h : BxOk M E w b cs) :
    ∃ (t : TypeId) (vs : List Value), w.heap[b]? = some (.cells vs.toArray t (0, 0)) ∧ AllR (RelS M E) vs cs := by
  obtain ⟨t, ⟨vs⟩, h1, h2, h3⟩ := h
  exact ⟨t, vs, h1, by simpa using h2, fun j v c hv hc => h3 j v c (by simpa using hv) hc⟩

theorem cell_of_heap {w : World} {b o : Nat} {vs : List Value} {t : TypeId} {fr : Nat × Nat} (h : w.heap[b]? = some (.cells vs.toArray t fr)) : w.cell? ⟨b, o, none⟩ = vs[o]? := by
  simp [World.cell?, h]

theorem Sound.load (hτ : TyOk C.P τ) {o : Oper} {t : TypeId} {x : Operand} (ho : o.op = .load t x) (hd : ∀ d, o.dst = some d → d < C.N) {u : AV} (hx : val s x = some u) :
    Sound C o s (evalLoad τ o.dst s t u) := by
  have run : ∀ (a : Act) (w : World) (b off : Nat) (v : Value), a.eval x = .pointer (some ⟨b, off, none⟩) → (loadVar t ⟨b, off, none⟩).run C.P w = .ok v w → (execOp a.eval o).run C.P w = .ok (.value v) w := by
    intro a w b off v he hr
    simp [execOp, ho, he, Instr.loadAt, Instr.sureAddr, hr]
  unfold evalLoad
  split
  · rename_i i off
    split
    · rename_i ti cs hti hcs
      refine .ret1 hd fun v hv a w M E hs => ?_
      obtain ⟨b, hb, he⟩ := (val_rel hs hx).ptr_inv
      obtain ⟨b', hb', hown, hbx⟩ := hs.bx i cs hcs
      rw [hb] at hb'; cases hb'
      obtain ⟨ty, vs, hh, hall⟩ := hbx.allR
      have hz : ti.sz ≠ 0 ∨ ti.k.agg = true := by
        cases hk : ti.k.agg with
        | true => exact .inr rfl
        | false => exact .inl (by have := (hτ _ _ hti).one hk; omega)
      obtain ⟨hlen, hrel, _⟩ := part_rel (hτ _ _ hti) hall hv hz
      have hl := (hτ _ _ hti).loadVar w b off (fun j => vs.getD (off + j) undef) (fun j hj => by
        rw [cell_of_heap hh]
        have : off + j < vs.length := by omega
        simp [List.getD, this])
      refine ⟨_, run a w b off _ he hl, ?_⟩
      have e1 : (List.range ti.sz).map (fun j => vs.getD (off + j) undef) = (vs.drop off).take ti.sz := by
        apply List.ext_getElem?
        intro j
        rw [List.getElem?_take]
        by_cases hj : j < ti.sz
        · have : off + j < vs.length := by omega
          simp [hj, List.getD, this]
        · simp [hj]
      rw [e1]
      simpa using hrel
    · exact .stop
  · rename_i y
    split
    · rename_i ti hti
      split
      · rename_i hf
        refine .ret1 hd fun v hv a w M E hs => ?_
        cases hv
        obtain ⟨blk, off, he, f, hM, hP⟩ := (val_rel hs hx).rp_inv
        have hcl : y.cells.length = ti.sz ∧ ((ti.k.agg = true ∧ ∃ cs, y = .agg cs) ∨ (ti.k.agg = false ∧ y.cells = [y])) := by
          cases y <;> simp [fits] at hf
          all_goals first
            | (refine ⟨by rw [(hτ _ _ hti).one hf]; rfl, .inr ⟨hf, rfl⟩⟩; done)
            | (rename_i cs; exact ⟨hf.2, .inl ⟨hf.1, cs, rfl⟩⟩)
        have hl := (hτ _ _ hti).loadVar w blk off f (fun j hj => (hs.mem _ _ _ (hM j (by omega))).1)
        refine ⟨_, run a w blk off _ he hl, ?_⟩
        rcases hcl.2 with ⟨hk, cs, rfl⟩ | ⟨hk, hc⟩
        · rw [if_pos hk]
          refine .agg _ _ (by simp [AV.cells] at hcl ⊢; omega) (fun j v c hv hc => ?_)
          have hj : j < ti.sz := by have := (List.getElem?_eq_some_iff.1 hv).1; simpa using this
          simp [hj] at hv
          subst hv
          exact .pure (hP j c hc)
        · rw [if_neg (by simp [hk])]
          have := hP 0 y (by rw [hc]; rfl)
          exact .cell (.pure this)
      · exact .stop
    · exact .stop
  · exact .stop

/-- the world grows by new blocks, and one owned thing is changed -/
structure Grow (w w' : World) (X : Nat → Prop) : Prop where
  os : w'.os = w.os
  tape : w'.tape = w.tape
  output : w'.output = w.output
  size : w.heap.size ≤ w'.heap.size
  block : ∀ b, b < w.heap.size → ¬ X b → w'.heap[b]? = w.heap[b]?

theorem Grow.cell {w w' : World} {X : Nat → Prop} (h : Grow w w' X) {b j : Nat} {v : Value} (hc : w.cell? ⟨b, j, none⟩ = some v) (hX : ¬ X b) : w'.cell? ⟨b, j, none⟩ = some v := by
  have hlt : b < w.heap.size := World.block_lt_of_cell? _ _ hc
  rw [World.cell?_of_block (h.block b hlt hX)]; exact hc

theorem Grow.alloc (w : World) (o : Obj) : Grow w (w.alloc o) (fun _ => False) :=
  ⟨rfl, rfl, rfl, by simp, fun b hb _ => Below.heap_alloc w o b hb⟩
theorem Grow.setRow (w : World) (g : Nat) (cs : Array Value) : Grow w (w.setRow g cs) (fun b => b = g) :=
  ⟨rfl, rfl, rfl, by simp, fun b _ hb => setRow_other w g b cs hb⟩

/-- all that is not owned by one stays -/
theorem St.grow' {g : Gh} {N : Nat} {M : Mem} {E E' : Env} {s : S} {tmps : Array Value} {w w' : World} (hs : St g N M E s tmps w) (X : Nat → Prop) (hX : ∀ b, b < w.heap.size → X b → ∃ o, E.own b = some o)
    (hg : Grow w w' X) (hE : E.le E')
    (hown : ∀ b, b < w.heap.size → ¬ X b → E'.own b = E.own b)
    (hlive : ∀ b o, E'.own b = some o → b < w'.heap.size) {s' : S} (hfr : s'.fr = s.fr)
    (hbx : ∀ i cs, aget s'.bx i = some cs → (aget s.bx i = some cs ∧ ∀ b, E.bx i = some b → ¬ X b) ∨ ∃ b, E'.bx i = some b ∧ E'.own b = some (0, i) ∧ BxOk M E' w' b cs)
    (hbxn : ∀ i, aget s'.bx i = none → E'.bx i = none)
    (hrw : ∀ i r, aget s'.rw i = some r → (aget s.rw i = some r ∧ E'.rw i = E.rw i ∧ ∀ b, E.own b = some (1, i) → ¬ X b) ∨ ∃ q, E'.rw i = some q ∧ RwOk M E' w' i q r)
    (hrwn : ∀ i, aget s'.rw i = none → E'.rw i = none)
    (hmp : ∀ i es, aget s'.mp i = some es → (aget s.mp i = some es ∧ ∀ b, E.mp i = some b → ¬ X b) ∨ ∃ r, E'.mp i = some r ∧ E'.own r = some (2, i) ∧ MpOk M E' w' r es)
    (hmpn : ∀ i, aget s'.mp i = none → E'.mp i = none) : St g N M E' s' tmps w' where
  size := hs.size
  fr := fun i av hi => by
    rw [hfr] at hi
    obtain ⟨h1, h2⟩ := hs.fr i av hi
    exact ⟨h1, h2.mono (fun _ _ _ h => h) hE⟩
  mem := fun b j v hv => by
    obtain ⟨h1, h2⟩ := hs.mem b j v hv
    have hlt : b < w.heap.size := World.block_lt_of_cell? _ _ h1
    have hnX : ¬ X b := fun h => by obtain ⟨o, ho⟩ := hX b hlt h; rw [h2] at ho; cases ho
    exact ⟨hg.cell h1 hnX, by rw [hown b hlt hnX]; exact h2⟩
  bx := fun i cs hi => by
    rcases hbx i cs hi with ⟨h, hn⟩ | h
    · obtain ⟨b, h1, h2, t, vs, h3, h4, h5⟩ := hs.bx i cs h
      have hlt := hs.live b _ h2
      exact ⟨b, hE.bx i b h1, by rw [hown b hlt (hn b h1)]; exact h2, t, vs, by rw [hg.block b hlt (hn b h1)]; exact h3, h4, fun j v c hv hc => (h5 j v c hv hc).mono (fun _ _ _ h => h) hE⟩
    · exact h
  bxn := hbxn
  rw := fun i r hi => by
    rcases hrw i r hi with ⟨h, he, hn⟩ | h
    · obtain ⟨q, h1, h2, h3, h4, h5, h6, h7, h8⟩ := hs.rw i r h
      refine ⟨q, by rw [he]; exact h1, h2, h3, h4, h5, h6, h7, ?_⟩
      rcases h8 with h8 | ⟨blk, t, vs, g1, g2, g3, g4, g5⟩
      · exact .inl h8
      · have hlt := hs.live blk _ g2
        refine .inr ⟨blk, t, vs, g1, by rw [hown blk hlt (hn blk g2)]; exact g2, by rw [hg.block blk hlt (hn blk g2)]; exact g3, g4, fun j u hu => ?_⟩
        exact g5 j u hu
    · exact h
  rwn := hrwn
  mp := fun i es hi => by
    rcases hmp i es hi with ⟨h, hn⟩ | h
    · obtain ⟨r, h1, h2, ents, clock, h3, h4, h5⟩ := hs.mp i es h
      have hlt := hs.live r _ h2
      exact ⟨r, hE.mp i r h1, by rw [hown r hlt (hn r h1)]; exact h2, ents, clock, by rw [hg.block r hlt (hn r h1)]; exact h3, h4,
        fun j e p he hp => ⟨(h5 j e p he hp).1, (h5 j e p he hp).2.mono (fun _ _ _ h => h) hE⟩⟩
    · exact h
  mpn := hmpn
  live := hlive
  foreign := fun b hb => by
    obtain ⟨h1, h2, h3⟩ := hs.foreign b hb
    have hnX : ¬ X b := fun h => by obtain ⟨o, ho⟩ := hX b h1 h; rw [h3] at ho; cases ho
    exact ⟨Nat.lt_of_lt_of_le h1 hg.size, by rw [hg.block b h1 hnX]; exact h2, by rw [hown b h1 hnX]; exact h3⟩
  m0 := hs.m0
  mf := hs.mf
  os := hg.os.trans hs.os
  tape := hg.tape.trans hs.tape
  output := hg.output.trans hs.output
  grow := Nat.le_trans hs.grow hg.size

theorem own_none {g : Gh} {N : Nat} {M : Mem} {E : Env} {s : S} {tmps : Array Value} {w : World} (hs : St g N M E s tmps w) {b : Nat} (hb : w.heap.size ≤ b) : E.own b = none := by
  cases h : E.own b with
  | none => rfl
  | some o => have := hs.live b o h; omega

/-- a new box -/
theorem St.box {g : Gh} {N : Nat} {M : Mem} {E : Env} {s : S} {tmps : Array Value} {w : World} (hs : St g N M E s tmps w) {i : Nat} (hi : aget s.bx i = none) {t : TypeId} {vs : List Value} {cs : List AV}
    (h : AllR (RelS M E) vs cs) :
    ∃ E', E.le E' ∧ E'.bx i = some w.heap.size ∧ St g N M E' { s with bx := aput s.bx i cs } tmps (w.alloc (.cells vs.toArray t)) := by
  have hnone := own_none hs (Nat.le_refl w.heap.size)
  have hbn := hs.bxn i hi
  have hle : E.le { E with bx := fun j => if j = i then some w.heap.size else E.bx j, own := fun b => if b = w.heap.size then some (0, i) else E.own b } := by
    refine ⟨fun j b hb => ?_, fun j q hq => ⟨q, hq, Nat.le_refl _, fun _ => rfl⟩, fun j r hr => hr⟩
    show (if j = i then some w.heap.size else E.bx j) = some b
    rw [if_neg (by rintro rfl; rw [hbn] at hb; cases hb)]; exact hb
  refine ⟨_, hle, if_pos rfl, ?_⟩
  refine hs.grow' (fun _ => False) (fun _ _ h => h.elim) (Grow.alloc w _) hle (fun b hb _ => if_neg (by omega)) ?_ rfl ?_ ?_ ?_ hs.rwn ?_ hs.mpn
  · intro b o hb
    simp only at hb
    split at hb
    · simp; omega
    · have := hs.live b o hb; simp; omega
  · intro j cs' hj
    simp only [get_put] at hj
    split at hj
    · rename_i e; subst e
      cases hj
      right
      refine ⟨w.heap.size, if_pos rfl, if_pos rfl, t, vs.toArray, heap_alloc_new w _, by simpa using h.1, fun j v c hv hc => (h.2 j v c (by simpa using hv) hc).mono (fun _ _ _ h => h) hle⟩
    · exact .inl ⟨hj, fun _ _ h => h⟩
  · intro j hj
    simp only [get_put] at hj
    split at hj
    · cases hj
    · rename_i hne
      show (if j = i then some w.heap.size else E.bx j) = none
      rw [if_neg hne]; exact hs.bxn j hj
  · exact fun j r hj => .inl ⟨hj, rfl, fun _ _ h => h⟩
  · exact fun j es hj => .inl ⟨hj, fun _ _ h => h⟩

/-- a box is changed -/
theorem St.store {g : Gh} {N : Nat} {M : Mem} {E : Env} {s : S} {tmps : Array Value} {w : World} (hs : St g N M E s tmps w) {i b : Nat} {cs cs' : List AV} (hi : aget s.bx i = some cs) (hb : E.bx i = some b)
    {vs : List Value} (h : AllR (RelS M E) vs cs') : St g N M E { s with bx := aput s.bx i cs' } tmps (w.setRow b vs.toArray) := by
  obtain ⟨b', hb', hown, t, old, hh, hsz, hold⟩ := hs.bx i cs hi
  rw [hb] at hb'; cases hb'
  have hlt := hs.live b _ hown
  refine hs.grow' (fun k => k = b) (fun k _ hk => ⟨(0, i), by rw [hk]; exact hown⟩) (Grow.setRow w b _) (Env.le_refl E) (fun _ _ _ => rfl) (fun k o hk => by have := hs.live k o hk; simpa using this) rfl ?_ ?_ ?_ hs.rwn ?_ hs.mpn
  · intro j cs2 hj
    simp only [get_put] at hj
    split at hj
    · rename_i e; subst e
      cases hj
      right
      exact ⟨b, hb, hown, t, vs.toArray, setRow_heap w b old _ t _ hh, by simpa using h.1, fun j v c hv hc => h.2 j v c (by simpa using hv) hc⟩
    · rename_i hne
      refine .inl ⟨hj, fun k hk hkb => ?_⟩
      obtain ⟨b2, hb2, hown2, _⟩ := hs.bx j cs2 hj
      rw [hk] at hb2; cases hb2
      rw [hkb] at hown2
      rw [hown] at hown2
      cases hown2
      exact hne rfl
  · intro j hj
    simp only [get_put] at hj
    split at hj
    · cases hj
    · exact hs.bxn j hj
  · intro j r hj
    refine .inl ⟨hj, rfl, fun k hk hkb => ?_⟩
    rw [hkb, hown] at hk
    cases hk
  · intro j es hj
    refine .inl ⟨hj, fun k hk hkb => ?_⟩
    obtain ⟨r, h1, h2, _⟩ := hs.mp j es hj
    rw [hk] at h1; cases h1
    rw [hkb, hown] at h2
    cases h2

theorem AllR.mono {M : Mem} {E E' : Env} {vs : List Value} {cs : List AV} (h : AllR (RelS M E) vs cs) (hE : E.le E') : AllR (RelS M E') vs cs :=
  ⟨h.1, fun j v c hv hc => (h.2 j v c hv hc).mono (fun _ _ _ h => h) hE⟩

theorem Sound.store (hτ : TyOk C.P τ) {o : Oper} {t : TypeId} {x y : Operand} (ho : o.op = .store t x y) (hd : o.dst = none) {u v : AV} (hy : val s y = some v) (hx : val s x = some u) :
    Sound C o s (evalStore τ s t v u) := by
  unfold evalStore
  split
  · rename_i i off
    split
    · rename_i ti cs hti hcs
      split
      · rename_i hcond
        split
        · rename_i cs' hset
          refine .leaf fun a w ⟨hdf, M, E, hs⟩ => ?_
          obtain ⟨b, hb, he⟩ := (val_rel hs hx).ptr_inv
          obtain ⟨b', hb', hown, hbx⟩ := hs.bx i cs hcs
          rw [hb] at hb'; cases hb'
          obtain ⟨ty, vs, hh, hall⟩ := hbx.allR
          obtain ⟨e, hl⟩ := setAt_eq _ _ _ _ hset
          have hv := (val_rel hs hy).allR hcond.2
          have hlen : (a.eval y).cells.toList.length = v.cells.length := hv.1
          have hsz : off + 0 + (a.eval y).cells.toList.length ≤ vs.toArray.size ∨ v.cells = [] := by
            by_cases h0 : v.cells = []
            · exact .inr h0
            · left; have := hl h0; rw [hlen]; simp [hall.1]; omega
          refine ⟨undef, w.setRow b ((vs.take off ++ (a.eval y).cells.toList ++ vs.drop (off + (a.eval y).cells.toList.length)).toArray), .inr ⟨?_, rfl⟩, ?_⟩
          · have hst : (storeVar t ⟨b, off, none⟩ (a.eval y)).run C.P w = .ok () (w.setRow b ((vs.take off ++ (a.eval y).cells.toList ++ vs.drop (off + (a.eval y).cells.toList.length)).toArray)) := by
              unfold storeVar
              have hne : ¬ (a.eval y).cells.size ≠ ti.sz := by rw [← hcond.1, ← hlen]; simp
              simp only [Sem.run_bind, (hτ _ _ hti).sizeOf, Result.andThen_ok, if_neg hne, Sem.run_pure]
              rcases hsz with hsz | hsz
              · have := run_storeCells_at (P := C.P) b off ty (a.eval y).cells.toList 0 vs.toArray w hh hsz (fun u hu => hv.one u hu)
                simpa using this
              · have e0 : (a.eval y).cells.toList = [] := List.eq_nil_of_length_eq_zero (by rw [hlen, hsz]; rfl)
                rw [e0]
                simp only [storeCells, List.append_nil, List.length_nil, Nat.add_zero, List.take_append_drop]
                rw [setRow_self w b _ ty _ hh]
                rfl
            simp [execOp, ho, he, Instr.storeAt, Instr.sureAddr, hst]
          · rw [hd]
            refine ⟨hdf, M, E, ?_⟩
            refine hs.store hcs hb ?_
            rw [e]
            have := hall.set hv off (fun hne => by
              have h0 : v.cells ≠ [] := by intro h0; apply hne; exact List.eq_nil_of_length_eq_zero (by rw [hlen, h0]; rfl)
              have := hl h0
              rw [hlen, hall.1]; omega)
            rw [hlen] at this ⊢
            exact this
        · exact .stop
      · exact .stop
    · exact .stop
  · exact .stop

theorem Sound.boxed {o : Oper} {cs : List AV} (hd : ∀ d, o.dst = some d → d < C.N)
    (h : ∀ (a : Act) (w : World) (M : Mem) (E : Env), St C.g C.N M E s a.tmps w → ∃ (t : TypeId) (vs : List Value), AllR (RelS M E) vs cs ∧
      (execOp a.eval o).run C.P w = .ok (.value (.pointer (some ⟨w.heap.size, 0, none⟩))) (w.alloc (.cells vs.toArray t))) : Sound C o s (evalBox o.dst s cs) := by
  unfold evalBox
  split
  · rename_i i hi
    split
    · rename_i hn
      split
      · refine .leaf fun a w ⟨hdf, M, E, hs⟩ => ?_
        obtain ⟨t, vs, hall, hrun⟩ := h a w M E hs
        obtain ⟨E', hE, hb, hs'⟩ := hs.box hn (t := t) hall
        refine ⟨_, _, .inl hrun, by rw [defers_put]; exact hdf, M, E', ?_⟩
        have := St.setD (a := a) hs' (d := some i) (fun j hj => hd j (by rw [hi]; exact hj)) (v := .pointer (some ⟨w.heap.size, 0, none⟩)) (x := .ptr i 0) (.cell (.ptr i 0 _ hb))
        rw [hi]
        exact this
      · exact .stop
    · exact .stop
  · exact .stop

theorem zv_rel {M : Mem} {x : AV} (h : x.isZ = true) : RelP M x.zv x := by
  cases x <;> simp [AV.isZ] at h <;> constructor

theorem zero_rel {M : Mem} {E : Env} {l : List AV} (h : l.all AV.isZ = true) : AllR (RelS M E) (l.map AV.zv) l := by
  refine ⟨by simp, fun j v c hv hc => ?_⟩
  rw [List.getElem?_map, hc] at hv
  cases hv
  refine .pure (zv_rel ?_)
  exact (List.all_eq_true.1 h) c (List.mem_of_getElem? hc)

theorem Sound.alloc (hτ : TyOk C.P τ) {o : Oper} {t : TypeId} {ti : TI} (ho : o.op = .alloc t) (hd : ∀ d, o.dst = some d → d < C.N) (hti : τ t = some ti) : Sound C o s (evalBox o.dst s ti.zero) := by
  refine .boxed hd fun a w M E hs => ?_
  obtain ⟨inf, z, hi, _, _, hz, hzz⟩ := (hτ _ _ hti).info
  refine ⟨t, ti.zero.map AV.zv, zero_rel (hτ _ _ hti).lit, ?_⟩
  rw [← hzz]
  simp [execOp, ho, Instr.alloc, zeroValue, typeInfo, hi, hz, newVar, newRow]

theorem Sound.box (hτ : TyOk C.P τ) {o : Oper} {t : TypeId} {x : Operand} (ho : o.op = .box t x) (hd : ∀ d, o.dst = some d → d < C.N) {v : AV} (hx : val s x = some v) : Sound C o s (evalBox o.dst s v.cells) := by
  by_cases hc : v.cells.all AV.isCell = true
  · refine .boxed hd fun a w M E hs => ?_
    refine ⟨t, (a.eval x).cells.toList, (val_rel hs hx).allR hc, ?_⟩
    simp [execOp, ho, Instr.box, newVar, newRow]
  · unfold evalBox
    split
    · split
      · rw [if_neg hc]; exact .stop
      · exact .stop
    · exact .stop

end Go.Ab
