/- The evaluator is sound: loads, stores, boxes, literals, lists that are read. -/
import Derived.Test.YtipeimcdjijkgaaEm11
namespace Go.Dm
open Go Go.RowKit
set_option linter.unnecessarySimpa false
set_option linter.constructorNameAsVariable false
set_option linter.unusedSectionVars false
set_option linter.unusedSimpArgs false
set_option linter.unusedVariables false

variable {C : Cx} {k : List It} {s : S} {τ : TyTab}

/-- an operand is said to be so -/
def Has (C : Cx) (s : S) (x : Operand) (u : AV) : Prop := ∀ (a : Act) (w : World) (M : Mem) (E : Env), St C.g C.N M E s a.tmps w → Rel M E (a.eval x) u

theorem takeAt_eq : ∀ (l : List AV) (o n : Nat) (r : List AV), takeAt l o n = some r → r = (l.drop o).take n ∧ (0 < n → o + n ≤ l.length)
  | l, o, 0, r, h => by simp only [takeAt] at h; cases h; simp
  | [], _, n + 1, r, h => by simp [takeAt] at h
  | x :: l, 0, n + 1, r, h => by
    simp only [takeAt] at h
    split at h
    · rename_i r' h'
      cases h
      obtain ⟨e, hl⟩ := takeAt_eq l 0 n r' h'
      refine ⟨by simp [e], fun _ => ?_⟩
      rcases Nat.eq_zero_or_pos n with hn | hn
      · subst hn; simp
      · have := hl hn; simp; omega
    · cases h
  | x :: l, o + 1, n + 1, r, h => by
    simp only [takeAt] at h
    obtain ⟨e, hl⟩ := takeAt_eq l o (n + 1) r h
    refine ⟨by simp [e], fun hn => ?_⟩
    have := hl hn
    simp; omega

theorem setAt_eq : ∀ (l : List AV) (o : Nat) (vs r : List AV), setAt l o vs = some r → r = l.take o ++ vs ++ l.drop (o + vs.length) ∧ (vs ≠ [] → o + vs.length ≤ l.length)
  | l, o, [], r, h => by cases l <;> cases o <;> (simp only [setAt] at h; cases h; simp)
  | [], _, v :: vs, r, h => by simp [setAt] at h
  | x :: l, 0, v :: vs, r, h => by
    simp only [setAt] at h
    split at h
    · rename_i r' h'
      cases h
      obtain ⟨e, hl⟩ := setAt_eq l 0 vs r' h'
      refine ⟨by simp [e], fun _ => ?_⟩
      cases vs with
      | nil => simp
      | cons u us => have := hl (by simp); simp at this ⊢; omega
    · cases h
  | x :: l, o + 1, v :: vs, r, h => by
    simp only [setAt] at h
    split at h
    · rename_i r' h'
      cases h
      obtain ⟨e, hl⟩ := setAt_eq l o (v :: vs) r' h'
      refine ⟨?_, fun hn => ?_⟩
      · rw [e]
        have : o + 1 + (v :: vs).length = (o + (v :: vs).length) + 1 := by omega
        rw [this]
        simp
      · have := hl hn
        simp at this ⊢; omega
    · cases h

theorem allCell_all : ∀ {l : List AV}, allCell l = true → l.all AV.isCell = true
  | [], _ => rfl
  | x :: l, h => by
    simp only [allCell] at h
    split at h
    · rename_i hx; simp only [List.all_cons, hx, allCell_all h, Bool.and_self]
    · cases h
section ty
variable {P : Program} {t : TypeId} {i : TI}
theorem TyOk1.loadVar (h : TyOk1 P t i) (w : World) (b o : Nat) (f : Nat → Value) (hc : ∀ j, j < i.sz → w.cell? ⟨b, o + j, none⟩ = some (f j)) :
    (Go.loadVar t ⟨b, o, none⟩).run P w = .ok (if i.k.agg then .agg ((List.range i.sz).map f).toArray else f 0) w := by
  unfold Go.loadVar
  simp only [Sem.run_bind, h.isAgg, Result.andThen_ok]
  cases hk : i.k.agg with
  | true =>
    simp only [if_true, Sem.run_bind, h.sizeOf, Result.andThen_ok, Sem.run_pure]
    rw [run_loadCells w ⟨b, o, none⟩ i.sz f (fun j hj => by rw [addr_add]; exact hc j hj)]
    rfl
  | false =>
    have h1 := h.one hk
    have := hc 0 (by omega)
    simp at this
    simp [this]
theorem TyOk1.part' (h : TyOk1 P t i) (w : World) (vs : List Value) (off : Nat) (hl : off + i.sz ≤ vs.length) :
    (Go.part t vs.toArray off).run P w = .ok (if i.k.agg then .agg ((vs.drop off).take i.sz).toArray else vs.getD off undef) w := by
  unfold Go.part
  simp only [Sem.run_bind, h.isAgg, Result.andThen_ok]
  cases hk : i.k.agg with
  | true =>
    simp only [if_true, Sem.run_bind, h.sizeOf, Result.andThen_ok, Sem.run_pure]
    congr 2
    simp [List.extract_eq_take_drop, Nat.add_sub_cancel_left]
  | false =>
    have h1 := h.one hk
    have hlt : off < vs.length := by omega
    simp [hlt, List.getD]
end ty

theorem fld_sound (hτ : TyOk C.P τ) {st : TypeId} {f : Nat} {i : TI} {off : Nat} (h : fldOf τ st f = some (i, off)) :
    ∃ (fs : Array Field) (fd : Field), C.P.underlying st = some (.struct fs) ∧ fs[f]? = some fd ∧ fd.offset = off ∧ τ fd.type = some i ∧ i.sz ≠ 0 := by
  unfold fldOf at h
  split at h
  · rename_i fl eq sz by' z cz hst
    obtain ⟨fs, hu, hfl, _⟩ := (hτ st _ hst).kind
    split at h
    · rename_i t o hn
      split at h
      · rename_i i' hi
        split at h
        · cases h
        · rename_i n hz
          cases h
          rw [nth_eq, ← hfl, List.getElem?_map, Option.map_eq_some_iff] at hn
          obtain ⟨fd, hfd, e⟩ := hn
          simp only [Prod.mk.injEq] at e
          obtain ⟨rfl, rfl⟩ := e
          exact ⟨fs, fd, hu, by simpa using hfd, rfl, hi, by omega⟩
      · cases h
    · cases h
  · cases h

theorem run_fieldAt (hτ : TyOk C.P τ) {st : TypeId} {f : Nat} {i : TI} {off : Nat} (h : fldOf τ st f = some (i, off)) (a : Addr) (w : World) :
    (Instr.fieldAt st (.pointer (some a)) f).run C.P w = .ok (.pointer (some (a.add off))) w := by
  obtain ⟨fs, fd, hu, hf, ho, ht, hz⟩ := fld_sound hτ h
  subst ho
  unfold Instr.fieldAt
  simp [run_underlying hu, hf, Instr.sureAddr, fieldPlace, (hτ _ _ ht).sizeOf, hz]

theorem AllR.get {R : Value → AV → Prop} {vs : List Value} {cs : List AV} (h : AllR R vs cs) {j : Nat} {c : AV} (hc : cs[j]? = some c) : ∃ v, vs[j]? = some v ∧ R v c := by
  have hl := (List.getElem?_eq_some_iff.1 hc).1
  have hl' : j < vs.length := by rw [h.1]; exact hl
  exact ⟨vs[j], List.getElem?_eq_getElem hl', h.2 j _ _ (List.getElem?_eq_getElem hl') hc⟩
theorem AllR.sub {R : Value → AV → Prop} {vs : List Value} {cs : List AV} (h : AllR R vs cs) (o n : Nat) : AllR R ((vs.drop o).take n) ((cs.drop o).take n) := by
  refine ⟨by simp [h.1], fun j v c hv hc => ?_⟩
  rw [List.getElem?_take] at hv hc
  split at hv
  · rename_i hj
    rw [if_pos hj] at hc
    rw [List.getElem?_drop] at hv hc
    exact h.2 _ _ _ hv hc
  · cases hv
theorem AllR.set {R : Value → AV → Prop} {vs us : List Value} {cs ds : List AV} (h : AllR R vs cs) (h' : AllR R us ds) (o : Nat) (ho : us ≠ [] → o + us.length ≤ vs.length) :
    AllR R (vs.take o ++ us ++ vs.drop (o + us.length)) (cs.take o ++ ds ++ cs.drop (o + ds.length)) := by
  have hl := h.1
  have hl' := h'.1
  refine ⟨by simp [hl, hl'], fun j v c hv hc => ?_⟩
  rcases Nat.eq_zero_or_pos us.length with h0 | h0
  · have e1 : us = [] := List.eq_nil_of_length_eq_zero h0
    have e2 : ds = [] := List.eq_nil_of_length_eq_zero (by omega)
    subst e1; subst e2
    simp at hv hc
    exact h.2 j v c hv hc
  · have hb := ho (by intro e; subst e; simp at h0)
    have et : (vs.take o).length = o := by simp; omega
    have et' : (cs.take o).length = o := by simp; omega
    rw [List.append_assoc, List.getElem?_append] at hv hc
    rw [et] at hv
    rw [et'] at hc
    split at hv
    · rename_i hj
      rw [if_pos hj] at hc
      rw [List.getElem?_take, if_pos hj] at hv hc
      exact h.2 j v c hv hc
    · rename_i hj
      rw [if_neg hj] at hc
      rw [List.getElem?_append] at hv hc
      split at hv
      · rename_i hj2
        rw [if_pos (by omega)] at hc
        exact h'.2 _ v c hv hc
      · rename_i hj2
        rw [if_neg (by omega)] at hc
        rw [List.getElem?_drop] at hv hc
        have e : o + us.length + (j - o - us.length) = j := by omega
        have e' : o + ds.length + (j - o - ds.length) = j := by omega
        rw [e] at hv
        rw [e'] at hc
        exact h.2 _ v c hv hc

theorem Rel.allR {M : Mem} {E : Env} {v : Value} {x : AV} (h : Rel M E v x) (hx : x.cells.all AV.isCell = true) : AllR (RelS M E) v.cells.toList x.cells := by
  obtain ⟨h1, h2⟩ := h.cells hx
  exact ⟨by simpa using h1, fun j v c hv hc => h2 j v c (by simpa using hv) hc⟩

theorem AllR.one {M : Mem} {E : Env} {vs : List Value} {cs : List AV} (h : AllR (RelS M E) vs cs) : ∀ v ∈ vs, v.oneCell' = true := by
  intro v hv
  obtain ⟨j, hj, rfl⟩ := List.mem_iff_getElem.1 hv
  have hj' : j < cs.length := by rw [← h.1]; exact hj
  exact (h.2 j _ _ (List.getElem?_eq_getElem hj) (List.getElem?_eq_getElem hj')).one.1

theorem part_rel {M : Mem} {E : Env} {i : TI} {P : Program} {t : TypeId} (hi : TyOk1 P t i) {vs : List Value} {cs : List AV} (h : AllR (RelS M E) vs cs) {off : Nat} {x : AV} (hp : partOf i cs off = some x) (hz : i.sz ≠ 0 ∨ i.k.agg = true) :
    (off + i.sz ≤ vs.length ∨ i.sz = 0) ∧ Rel M E (if i.k.agg then .agg ((vs.drop off).take i.sz).toArray else vs.getD off undef) x ∧
      (∀ R, AllR R vs cs → AllR R ((vs.drop off).take i.sz) x.cells) := by
  unfold partOf at hp
  cases hk : i.k.agg with
  | true =>
    simp only [hk] at hp
    obtain ⟨ds, hd, rfl⟩ : ∃ ds, takeAt cs off i.sz = some ds ∧ x = .agg ds := by
      split at hp
      · rename_i r hr; cases hp; exact ⟨r, hr, rfl⟩
      · cases hp
    obtain ⟨e, hl⟩ := takeAt_eq _ _ _ _ hd
    rw [if_pos rfl]
    refine ⟨?_, ?_, fun R hR => ?_⟩
    · rcases Nat.eq_zero_or_pos i.sz with h0 | h0
      · exact .inr h0
      · left; rw [h.1]; exact hl h0
    · have := h.sub off i.sz
      rw [e]
      exact .agg _ _ this.1 this.2
    · rw [e]; exact hR.sub off i.sz
  | false =>
    simp only [hk] at hp
    rw [nth_eq] at hp
    have h1 := hi.one hk
    have hlt : off < cs.length := (List.getElem?_eq_some_iff.1 hp).1
    have hlt' : off < vs.length := by rw [h.1]; exact hlt
    obtain ⟨v, hv, hr⟩ := h.get hp
    rw [if_neg (by simp)]
    have e1 : (vs.drop off).take 1 = [v] := by
      have hv' := (List.getElem?_eq_some_iff.1 hv).2
      rw [List.drop_eq_getElem_cons hlt', hv']
      rfl
    refine ⟨.inl (by omega), ?_, fun R hR => ?_⟩
    · have : vs.getD off undef = v := by simp [List.getD, hv]
      rw [this]; exact .cell hr
    · rw [h1, e1, hr.one.2]
      obtain ⟨v', hv', hr'⟩ := hR.get hp
      rw [hv] at hv'; cases hv'
      refine ⟨rfl, fun j u c hu hc => ?_⟩
      cases j with
      | zero => simp at hu hc; subst hu; subst hc; exact hr'
      | succ j => simp at hu

theorem BxOk.allR {M : Mem} {E : Env} {w : World} {b : Nat} {cs : List AV} (h : BxOk M E w b cs) :
    ∃ (t : TypeId) (vs : List Value), w.heap[b]? = some (.cells vs.toArray t (0, 0)) ∧ AllR (RelS M E) vs cs := by
  obtain ⟨t, ⟨vs⟩, h1, h2, h3⟩ := h
  exact ⟨t, vs, h1, by simpa using h2, fun j v c hv hc => h3 j v c (by simpa using hv) hc⟩

theorem cell_of_heap {w : World} {b o : Nat} {vs : List Value} {t : TypeId} {fr : Nat × Nat} (h : w.heap[b]? = some (.cells vs.toArray t fr)) : w.cell? ⟨b, o, none⟩ = vs[o]? := by
  simp [World.cell?, h]

theorem Sound.load (hτ : TyOk C.P τ) {o : Oper} {t : TypeId} {x : Operand} (ho : o.op = .load t x) (hd : ∀ d, o.dst = some d → d < C.N) {an : List An} {u : AV} (hx : Has C s x u) :
    Sound C o s (evalLoad τ s an t u) := by
  have run : ∀ (a : Act) (w : World) (b off : Nat) (v : Value), a.eval x = .pointer (some ⟨b, off, none⟩) → (loadVar t ⟨b, off, none⟩).run C.P w = .ok v w → (execOp a.eval o).run C.P w = .ok (.value v) w := by
    intro a w b off v he hr
    simp [execOp, ho, he, Instr.loadAt, Instr.sureAddr, hr]
  unfold evalLoad
  split
  · rename_i i off
    split
    · rename_i ti hti
      split
      · rename_i cs hcs
        split
        · rename_i v hv
          intro res hres _ _
          cases hres
          refine pureDoes hd fun a w M E hs => ?_
          obtain ⟨b, hb, he⟩ := (hx a w M E hs).ptr_inv
          obtain ⟨b', hb', hown, hbx⟩ := hs.bx i cs hcs
          rw [hb] at hb'; cases hb'
          obtain ⟨ty, vs, hh, hall⟩ := hbx.allR
          have hz : ti.sz ≠ 0 ∨ ti.k.agg = true := by
            cases hk : ti.k.agg with
            | true => exact .inr rfl
            | false => exact .inl (by have := (hτ _ _ hti).one hk; omega)
          obtain ⟨hlen, hrel, _⟩ := part_rel (hτ _ _ hti) hall hv hz
          have hl := (hτ _ _ hti).loadVar w b off (fun j => vs.getD (off + j) undef) (fun j hj => by
            rw [cell_of_heap hh]
            have : off + j < vs.length := by omega
            simp [List.getD, this])
          refine ⟨_, run a w b off _ he hl, ?_⟩
          have e1 : (List.range ti.sz).map (fun j => vs.getD (off + j) undef) = (vs.drop off).take ti.sz := by
            apply List.ext_getElem?
            intro j
            rw [List.getElem?_take]
            by_cases hj : j < ti.sz
            · have : off + j < vs.length := by omega
              simp [hj, List.getD, this]
            · simp [hj]
          rw [e1]
          simpa using hrel
        · exact .nil
      · exact .nil
    · exact .nil
  · rename_i y
    split
    · rename_i ti hti
      split
      · rename_i hf
        refine .retV hd fun a w M E hs => ?_
        obtain ⟨blk, off, he, f, hM, hP⟩ := (hx a w M E hs).rp_inv
        have hcl : y.cells.length = ti.sz ∧ ((ti.k.agg = true ∧ ∃ cs, y = .agg cs) ∨ (ti.k.agg = false ∧ y.cells = [y])) := by
          cases y <;> simp only [fits] at hf
          all_goals first
            | (cases hf; done)
            | (have hf' : ti.k.agg = false := by simpa using hf
               refine ⟨by rw [(hτ _ _ hti).one hf']; rfl, .inr ⟨hf', rfl⟩⟩; done)
            | (rename_i cs
               split at hf
               · rename_i hk; exact ⟨beq_true hf, .inl ⟨hk, cs, rfl⟩⟩
               · cases hf)
        have hl := (hτ _ _ hti).loadVar w blk off f (fun j hj => (hs.mem _ _ _ (hM j (by omega))).1)
        refine ⟨_, run a w blk off _ he hl, ?_⟩
        rcases hcl.2 with ⟨hk, cs, rfl⟩ | ⟨hk, hc⟩
        · rw [if_pos hk]
          refine .agg _ _ (by simp [AV.cells] at hcl ⊢; omega) (fun j v c hv hc => ?_)
          have hj : j < ti.sz := by have := (List.getElem?_eq_some_iff.1 hv).1; simpa using this
          simp [hj] at hv
          subst hv
          exact .pure (hP j c hc)
        · rw [if_neg (by simp [hk])]
          have := hP 0 y (by rw [hc]; rfl)
          exact .cell (.pure this)
      · exact .nil
    · exact .nil
  · exact .nil

theorem Sound.store (hτ : TyOk C.P τ) {o : Oper} {an : List An} {t : TypeId} {x y : Operand} (ho : o.op = .store t x y) (hd : o.dst = none) {u v : AV} (hy : Has C s y v) (hx : Has C s x u) :
    Sound C o s (evalStore τ s an t v u) := by
  unfold evalStore
  split
  · rename_i i off
    split
    · rename_i ti hti
      split
      · rename_i cs hcs
        split
        · rename_i hc1
          split
          · rename_i hc2
            split
            · rename_i cs' hset
              intro res hres _ _
              cases hres
              intro a w ⟨hdf, M, E, hs, hp0⟩
              have hc1 := beq_true hc1
              have hc2 := allCell_all hc2
              obtain ⟨b, hb, he⟩ := (hx a w M E hs).ptr_inv
              obtain ⟨b', hb', hown, hbx⟩ := hs.bx i cs hcs
              rw [hb] at hb'; cases hb'
              obtain ⟨ty, vs, hh, hall⟩ := hbx.allR
              obtain ⟨e, hl⟩ := setAt_eq _ _ _ _ hset
              have hv := (hy a w M E hs).allR hc2
              have hlen : (a.eval y).cells.toList.length = v.cells.length := hv.1
              have hsz : off + 0 + (a.eval y).cells.toList.length ≤ vs.toArray.size ∨ v.cells = [] := by
                by_cases h0 : v.cells = []
                · exact .inr h0
                · left; have := hl h0; rw [hlen]; simp [hall.1]; omega
              refine ⟨undef, w.setRow b ((vs.take off ++ (a.eval y).cells.toList ++ vs.drop (off + (a.eval y).cells.toList.length)).toArray), .inr ⟨?_, rfl⟩, ?_⟩
              · have hst : (storeVar t ⟨b, off, none⟩ (a.eval y)).run C.P w = .ok () (w.setRow b ((vs.take off ++ (a.eval y).cells.toList ++ vs.drop (off + (a.eval y).cells.toList.length)).toArray)) := by
                  unfold storeVar
                  have hne : ¬ (a.eval y).cells.size ≠ ti.sz := by rw [← hc1, ← hlen]; simp
                  simp only [Sem.run_bind, (hτ _ _ hti).sizeOf, Result.andThen_ok, if_neg hne, Sem.run_pure]
                  rcases hsz with hsz | hsz
                  · have := run_storeCells_at (P := C.P) b off ty (a.eval y).cells.toList 0 vs.toArray w hh hsz (fun u hu => hv.one u hu)
                    simpa using this
                  · have e0 : (a.eval y).cells.toList = [] := List.eq_nil_of_length_eq_zero (by rw [hlen, hsz]; rfl)
                    rw [e0]
                    simp only [storeCells, List.append_nil, List.length_nil, Nat.add_zero, List.take_append_drop]
                    rw [setRow_self w b _ ty _ hh]
                    rfl
                simp [execOp, ho, he, Instr.storeAt, Instr.sureAddr, hst]
              · rw [hd]
                refine ⟨hdf, M, E, ?_, hp0⟩
                refine hs.store hcs hb ?_
                rw [e]
                have := hall.set hv off (fun hne => by
                  have h0 : v.cells ≠ [] := by intro h0; apply hne; exact List.eq_nil_of_length_eq_zero (by rw [hlen, h0]; rfl)
                  have := hl h0
                  rw [hlen, hall.1]; omega)
                rw [hlen] at this ⊢
                exact this
            · exact .nil
          · exact .nil
        · exact .nil
      · exact .nil
    · exact .nil
  · exact .nil

theorem Sound.boxed {o : Oper} {an : List An} {cs : List AV} (hd : ∀ d, o.dst = some d → d < C.N)
    (h : allCell cs = true → ∀ (a : Act) (w : World) (M : Mem) (E : Env), St C.g C.N M E s a.tmps w → ∃ (t : TypeId) (vs : List Value), AllR (RelS M E) vs cs ∧
      (execOp a.eval o).run C.P w = .ok (.value (.pointer (some ⟨w.heap.size, 0, none⟩))) (w.alloc (.cells vs.toArray t))) : Sound C o s (evalBox o.dst s an cs) := by
  unfold evalBox
  split
  · rename_i i hi
    split
    · rename_i hn
      split
      · rename_i hcc
        intro res hres _ _
        cases hres
        intro a w ⟨hdf, M, E, hs, hp0⟩
        obtain ⟨hcc, hB⟩ := Bool.and_eq_true_iff.1 hcc
        have hB : i < nB := by simpa [Nat.blt_eq] using hB
        obtain ⟨t, vs, hall, hrun⟩ := h hcc a w M E hs
        obtain ⟨E', hE, hb, hs'⟩ := hs.box hn hB (t := t) hall
        refine ⟨_, _, .inl hrun, by rw [defers_put]; exact hdf, M, E', ?_, hE.p _ hp0⟩
        have := hs'.putS (hd i hi) (v := .pointer (some ⟨w.heap.size, 0, none⟩)) (x := .ptr i 0) (.cell (.ptr i 0 _ hb))
        rw [hi]
        exact this
      · exact .nil
    · exact .nil
  · exact .nil

theorem zv_rel {M : Mem} {x : AV} (h : x.isZ = true) : RelP M x.zv x := by
  cases x <;> simp [AV.isZ] at h <;> constructor

theorem zero_rel {M : Mem} {E : Env} {l : List AV} (h : l.all AV.isZ = true) : AllR (RelS M E) (l.map AV.zv) l := by
  refine ⟨by simp, fun j v c hv hc => ?_⟩
  rw [List.getElem?_map, hc] at hv
  cases hv
  refine .pure (zv_rel ?_)
  exact (List.all_eq_true.1 h) c (List.mem_of_getElem? hc)

theorem Sound.alloc (hτ : TyOk C.P τ) {o : Oper} {an : List An} {t : TypeId} {ti : TI} (ho : o.op = .alloc t) (hd : ∀ d, o.dst = some d → d < C.N) (hti : τ t = some ti) : Sound C o s (evalBox o.dst s an ti.zero) := by
  refine .boxed hd fun _ a w M E hs => ?_
  obtain ⟨inf, z, hi, _, _, hz, hzz⟩ := (hτ _ _ hti).info
  refine ⟨t, ti.zero.map AV.zv, zero_rel (hτ _ _ hti).lit, ?_⟩
  rw [← hzz]
  simp [execOp, ho, Instr.alloc, zeroValue, typeInfo, hi, hz, newVar, newRow]

theorem Sound.box {o : Oper} {an : List An} {t : TypeId} {x : Operand} (ho : o.op = .box t x) (hd : ∀ d, o.dst = some d → d < C.N) {v : AV} (hx : Has C s x v) : Sound C o s (evalBox o.dst s an v.cells) := by
  refine .boxed hd fun hc a w M E hs => ?_
  refine ⟨t, (a.eval x).cells.toList, (hx a w M E hs).allR (allCell_all hc), ?_⟩
  simp [execOp, ho, Instr.box, newVar, newRow]

end Go.Dm
