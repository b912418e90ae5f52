/- The evaluator is sound: own rows are read, written, cut, sealed. -/
import Derived.Test.YtipeimcdjijkgaaEm15
namespace Go.Dm
open Go Go.RowKit
set_option linter.unnecessarySimpa false
set_option linter.constructorNameAsVariable false
set_option linter.unusedSectionVars false
set_option linter.unusedSimpArgs false
set_option linter.unusedVariables false

variable {C : Cx} {k : List It} {s : S} {τ : TyTab}

theorem nil_sl {M : Mem} {v : Value} {n : Nat} (h : RelP M v .nils) : RelP M v (.sl n []) := by
  cases h
  exact .sl none 0 0 n [] (fun _ => undef) rfl (Nat.le_refl _) (by decide) (by simp) (fun h => absurd rfl h) (fun j u hu => by simp [flat] at hu)
theorem nilS {M : Mem} {E : Env} {v : Value} {n : Nat} (h : RelS M E v .nils) : RelS M E v (.sl n []) := by
  cases h with
  | pure h => exact .pure (nil_sl h)

theorem nrmC_rel {M : Mem} {E : Env} : ∀ {l : List Nat} {cs : List AV} {vs : List Value}, AllR (RelS M E) vs cs → AllR (RelS M E) vs (nrmC l cs)
  | [], cs, vs, h => by simp only [nrmC]; exact h
  | n :: l, [], vs, h => by cases n <;> exact h
  | n :: l, x :: cs, vs, h => by
    obtain ⟨h1, h2⟩ := h
    match vs, h1 with
    | v :: vs, h1 =>
      have ih : AllR (RelS M E) vs (nrmC l cs) := nrmC_rel ⟨by simpa using h1, fun j u c hu hc => h2 (j + 1) u c (by simpa using hu) (by simpa using hc)⟩
      have h0 := h2 0 v x rfl rfl
      have key : ∀ y, RelS M E v y → AllR (RelS M E) (v :: vs) (y :: nrmC l cs) := fun y hy => ⟨by simp [ih.1], fun j u c hu hc => by
        cases j with
        | zero => simp at hu hc; subst hu; subst hc; exact hy
        | succ j => simp only [List.getElem?_cons_succ] at hu hc; exact ih.2 j u c hu hc⟩
      cases n with
      | zero => simp only [nrmC]; exact key x h0
      | succ n => cases x <;> simp only [nrmC] <;> first | exact key _ h0 | exact key _ (nilS h0)

theorem norm_rel {M : Mem} {E : Env} {v : Value} {x : AV} {t : TypeId} (h : Rel M E v x) : Rel M E v (norm τ t x) := by
  unfold norm
  split
  · split
    · obtain ⟨vs, rfl, h1, h2⟩ := h.agg_inv
      have := nrmC_rel (l := ‹TI›.cz) (⟨h1, h2⟩ : AllR (RelS M E) vs _)
      exact .agg _ _ this.1 this.2
    · split
      · cases h with
        | cell h => exact .cell (nilS h)
      · exact h
    · exact h
  · exact h

theorem normL_rel {M : Mem} {E : Env} : ∀ {ts : List TypeId} {xs : List AV} {vs : List Value}, RelL M E vs xs → RelL M E vs (normL τ ts xs)
  | [], xs, vs, h => by simp only [normL]; exact h
  | t :: ts, [], vs, h => by simp only [normL]; exact h
  | t :: ts, x :: xs, vs, h => by
    obtain ⟨h1, h2⟩ := h
    match vs, h1 with
    | v :: vs, h1 =>
      have ih : RelL M E vs (normL τ ts xs) := normL_rel ⟨by simpa using h1, fun j u c hu hc => h2 (j + 1) u c (by simpa using hu) (by simpa using hc)⟩
      simp only [normL]
      refine ⟨by simp [ih.1], fun j u c hu hc => ?_⟩
      cases j with
      | zero => simp at hu hc; subst hu; subst hc; exact norm_rel (h2 0 v x rfl rfl)
      | succ j => simp only [List.getElem?_cons_succ] at hu hc; exact ih.2 j u c hu hc


theorem effDoes {o : Oper} {e : Eff} {x : AV} (hx : e.x = some x) (hd : ∀ d, o.dst = some d → d < C.N)
    (h : ∀ (a : Act) (w : World) (M : Mem) (E : Env), St C.g C.N M E s a.tmps w → ∃ v w' M' E', (execOp a.eval o).run C.P w = .ok (.value v) w' ∧ St C.g C.N M' E' (e.app none s) a.tmps w' ∧ Rel M' E' v x ∧ E.up E') : Does C o s (e.app o.dst s) := by
  intro a w ⟨hdf, M, E, hs, hp0⟩
  obtain ⟨v, w', M', E', hrun, hs', hr, hup⟩ := h a w M E hs
  refine ⟨v, w', .inl hrun, by rw [defers_put]; exact hdf, M', E', ?_, hup.p _ hp0⟩
  cases hdd : o.dst with
  | none => exact hs'
  | some d =>
    have := hs'.putS (hd d hdd) hr
    simpa only [Eff.app, hx] using this

section
variable {g : Gh} {N : Nat} {M : Mem} {E : Env} {tmps : Array Value} {w : World} {v : Value}

theorem cR.cell {pu : Nat} {ns : List Nat} {kd i p : Nat} {u : AV} (h : cR M E w pu ns kd i p v u) (hc : u.isCell = true) : RelS M E v u := by
  match pu, h with
  | 0, h => exact .pure h
  | 1, h => exact RelS.monoE (Env.arO_sub E ns) h
  | n + 2, h =>
    have h : RelC M (E.arO ns) w kd i p v u := h
    cases h with
    | rel h => exact h.monoE (Env.arO_sub E ns)
    | own => cases hc

theorem isP_rel {u : AV} (hp : u.isP = true) (h : RelS M E v u) : RelP M v u := by
  cases h with
  | pure h => exact h
  | _ => cases hp

theorem elemOk_rel {pu : Nat} {ns : List Nat} {u : AV} (hp : elemOk pu ns u = true) (h : RelS M E v u) : eR M E pu ns v u := by
  by_cases hq : u.isP = true
  · have := isP_rel hq h
    match pu with
    | 0 => exact this
    | n + 1 => exact RelS.pure this
  · cases u with
    | aptr i k off =>
      cases pu with
      | zero => cases hp
      | succ n =>
        have hm : memN i ns = true := hp
        cases h with
        | pure h => cases h
        | aptr i k off bs b h hk => exact RelS.aptr i k off bs b (by simp only [Env.arO, if_pos hm]; exact h) hk
    | _ => first | exact absurd hp hq | (exact absurd (by simpa only [elemOk] using hp) hq)
theorem elemsOk_get {pu : Nat} {ns : List Nat} : ∀ {l : List AV} {j : Nat} {u : AV}, elemsOk pu ns l = true → l[j]? = some u → elemOk pu ns u = true
  | x :: l, 0, u, h, hu => by
    simp at hu; subst hu
    simp only [elemsOk] at h
    split at h
    · assumption
    · cases h
  | x :: l, j + 1, u, h, hu => by
    simp only [elemsOk] at h
    split at h
    · exact elemsOk_get h (by simpa using hu)
    · cases h
theorem elemsOk_isCell {pu : Nat} {ns : List Nat} {l : List AV} (h : elemsOk pu ns l = true) : allCell l = true := by
  induction l with
  | nil => rfl
  | cons x l ih =>
    have h0 := elemsOk_get (j := 0) h rfl
    have hx : x.isCell = true := by
      cases x <;> first | rfl | (simp [elemOk, AV.isP] at h0)
    simp only [elemsOk] at h
    split at h
    · simp only [allCell, hx, ih h]
    · cases h

theorem partOf_at {P : Program} {t : TypeId} {ti : TI} (hi : TyOk1 P t ti) {cs : List AV} {o : Nat} {x : AV} (h : partOf ti cs o = some x) :
    (ti.k.agg = true ∧ x = .agg ((cs.drop o).take ti.sz) ∧ (0 < ti.sz → o + ti.sz ≤ cs.length)) ∨ (ti.k.agg = false ∧ ti.sz = 1 ∧ cs[o]? = some x) := by
  unfold partOf at h
  split at h
  · rename_i hk
    split at h
    · rename_i r hr
      cases h
      obtain ⟨e, hl⟩ := takeAt_eq _ _ _ _ hr
      exact .inl ⟨hk, by rw [e], hl⟩
    · cases h
  · rename_i hk
    rw [nth_eq] at h
    exact .inr ⟨hk, hi.one hk, h⟩

/-- the cells of one element -/
theorem RwOk.elem {i : Nat} {q : RwE} {r : Rw} (hok : RwOk M E w i q r) {vs : Array Value} (hcs : CsOk M E w r.pu r.ns 5 i 0 vs (flat r.xs)) {k : Nat} {u : AV} (hu : r.xs[k]? = some u) {j : Nat} {c : AV} (hc : u.cells[j]? = some c) :
    ∃ v, vs[k * r.sz + j]? = some v ∧ cR M E w r.pu r.ns 5 i (k * r.sz + j) v c := by
  obtain ⟨v, hv, hr⟩ := hcs _ c (flat_at hok.es hu hc)
  exact ⟨v, hv, by simpa using hr⟩

theorem sealed_row (hs : St g N M E s tmps w) {i vr : Nat} {r : Rw} (hr : curRow s i vr = some r) (hp : r.pu = 0) :
    ∃ M', (∀ b j v, M b j = some v → M' b j = some v) ∧ St g N M' E { s with rw := (i, { r with k := r.xs.length }) :: s.rw } tmps w ∧ ∀ v, RelS M E v (.row i vr) → RelS M' E v (.sl r.sz r.xs) := by
  obtain ⟨h1, h2⟩ := curRow_get hr
  subst h2
  obtain ⟨M', hM, hs', hrel⟩ := hs.sealRow h1 hp
  exact ⟨M', hM, hs', fun v hv => .pure (hrel v hv)⟩

/-- the rows of one state are those of another one, but for how much of them is sealed -/
def likeRows (s s1 : S) : Prop := s1.fr = s.fr ∧ s1.bx = s.bx ∧ s1.mp = s.mp ∧ s1.ar = s.ar ∧ ∀ i r, aget s.rw i = some r → ∃ k', aget s1.rw i = some { r with k := k' }

theorem sealC_ok {s1 : S} (hl : likeRows s s1) {x y : AV} {e : List (Nat × Rw)} (h : sealC s x = some (y, e)) (hs : St g N M E s1 tmps w) (hx : RelS M E v x) :
    ∃ M', (∀ b j v, M b j = some v → M' b j = some v) ∧ St g N M' E { s1 with rw := e ++ s1.rw } tmps w ∧ RelS M' E v y ∧ likeRows s { s1 with rw := e ++ s1.rw } := by
  cases x with
  | row i vr =>
    simp only [sealC] at h
    split at h
    · rename_i r hr
      split at h
      · rename_i hp
        cases h
        obtain ⟨h1, h2⟩ := curRow_get hr
        obtain ⟨l1, l2, l3, l4, l5⟩ := hl
        obtain ⟨k', hk'⟩ := l5 i r h1
        have hc : curRow s1 i vr = some { r with k := k' } := by
          simp only [curRow, hk', h2, Nat.beq_refl]
        obtain ⟨M', hM, hs', hrel⟩ := sealed_row hs hc hp
        refine ⟨M', hM, hs', hrel v hx, l1, l2, l3, l4, fun j r' hj => ?_⟩
        simp only [List.cons_append, List.nil_append, aget_cons]
        by_cases e : j = i
        · subst e
          rw [h1] at hj; cases hj
          exact ⟨_, if_pos rfl⟩
        · rw [if_neg e]; exact l5 j r' hj
      · cases h
    · cases h
  | _ =>
    simp only [sealC] at h
    cases h
    exact ⟨M, fun _ _ _ h => h, hs, hx, hl⟩

theorem sealL_ok : ∀ {cs ds : List AV} {e : List (Nat × Rw)} {s1 : S} {vs : List Value} {M : Mem}, likeRows s s1 → sealL s cs = some (ds, e) → St g N M E s1 tmps w → AllR (RelS M E) vs cs →
    ∃ M', (∀ b j v, M b j = some v → M' b j = some v) ∧ St g N M' E { s1 with rw := e ++ s1.rw } tmps w ∧ AllR (RelS M' E) vs ds ∧ likeRows s { s1 with rw := e ++ s1.rw }
  | [], ds, e, s1, vs, M, hl, h, hs, hv => by
    simp only [sealL] at h
    cases h
    exact ⟨M, fun _ _ _ h => h, hs, hv, hl⟩
  | x :: cs, ds, e, s1, vs, M, hl, h, hs, hv => by
    simp only [sealL] at h
    split at h
    · rename_i y e1 h1
      split at h
      · rename_i m e2 h2
        cases h
        match vs, hv with
        | [], hv => exact absurd hv.1 (by simp)
        | u :: vs, hv =>
          obtain ⟨M1, hM1, hs1, hr1, hl1⟩ := sealC_ok hl h1 hs (hv.2 0 u x rfl rfl)
          have htail : AllR (RelS M1 E) vs cs := ⟨by simpa using hv.1, fun j v c hj hc => (hv.2 (j + 1) v c (by simpa using hj) (by simpa using hc)).monoM hM1⟩
          obtain ⟨M2, hM2, hs2, hr2, hl2⟩ := sealL_ok hl1 h2 hs1 htail
          refine ⟨M2, fun b j v h => hM2 b j v (hM1 b j v h), by simpa only [List.append_assoc] using hs2, ⟨by simp [hr2.1], fun j v c hj hc => ?_⟩, by simpa only [List.append_assoc] using hl2⟩
          cases j with
          | zero => simp at hj hc; subst hj; subst hc; exact hr1.monoM hM2
          | succ j => simp only [List.getElem?_cons_succ] at hj hc; exact hr2.2 j v c hj hc
      · cases h
    · cases h

theorem sealA_ok {s1 : S} (hl : likeRows s s1) {x y : AV} {e : List (Nat × Rw)} (h : sealA s x = some (y, e)) (hs : St g N M E s1 tmps w) (hx : Rel M E v x) :
    ∃ M', (∀ b j v, M b j = some v → M' b j = some v) ∧ St g N M' E { s1 with rw := e ++ s1.rw } tmps w ∧ Rel M' E v y ∧ likeRows s { s1 with rw := e ++ s1.rw } := by
  cases x with
  | agg cs =>
    simp only [sealA] at h
    split at h
    · rename_i ds e1 h1
      cases h
      obtain ⟨vs, rfl, hlen, hr⟩ := hx.agg_inv
      obtain ⟨M', hM, hs', hr', hl'⟩ := sealL_ok hl h1 hs ⟨hlen, hr⟩
      exact ⟨M', hM, hs', .agg vs _ hr'.1 hr'.2, hl'⟩
    · cases h
  | row i vr =>
    simp only [sealA] at h
    obtain ⟨M', hM, hs', hr, hl'⟩ := sealC_ok hl h hs (hx.of_cell rfl)
    exact ⟨M', hM, hs', .cell hr, hl'⟩
  | _ =>
    simp only [sealA, sealC] at h
    cases h
    exact ⟨M, fun _ _ _ h => h, hs, hx, hl⟩

theorem sealAL_ok : ∀ {cs ds : List AV} {e : List (Nat × Rw)} {s1 : S} {vs : List Value} {M : Mem}, likeRows s s1 → sealAL s cs = some (ds, e) → St g N M E s1 tmps w → RelL M E vs cs →
    ∃ M', (∀ b j v, M b j = some v → M' b j = some v) ∧ St g N M' E { s1 with rw := e ++ s1.rw } tmps w ∧ RelL M' E vs ds ∧ likeRows s { s1 with rw := e ++ s1.rw }
  | [], ds, e, s1, vs, M, hl, h, hs, hv => by
    simp only [sealAL] at h
    cases h
    exact ⟨M, fun _ _ _ h => h, hs, hv, hl⟩
  | x :: cs, ds, e, s1, vs, M, hl, h, hs, hv => by
    simp only [sealAL] at h
    split at h
    · rename_i y e1 h1
      split at h
      · rename_i m e2 h2
        cases h
        match vs, hv with
        | [], hv => exact absurd hv.1 (by simp)
        | u :: vs, hv =>
          obtain ⟨M1, hM1, hs1, hr1, hl1⟩ := sealA_ok hl h1 hs (hv.2 0 u x rfl rfl)
          have htail : RelL M1 E vs cs := ⟨by simpa using hv.1, fun j v c hj hc => (hv.2 (j + 1) v c (by simpa using hj) (by simpa using hc)).monoM hM1⟩
          obtain ⟨M2, hM2, hs2, hr2, hl2⟩ := sealAL_ok hl1 h2 hs1 htail
          refine ⟨M2, fun b j v h => hM2 b j v (hM1 b j v h), by simpa only [List.append_assoc] using hs2, ⟨by simp [hr2.1], fun j v c hj hc => ?_⟩, by simpa only [List.append_assoc] using hl2⟩
          cases j with
          | zero => simp at hj hc; subst hj; subst hc; exact hr1.monoM hM2
          | succ j => simp only [List.getElem?_cons_succ] at hj hc; exact hr2.2 j v c hj hc
      · cases h
    · cases h

theorem likeRows.refl (hs : St g N M E s tmps w) : likeRows s s := ⟨rfl, rfl, rfl, rfl, fun i r h => ⟨r.k, h⟩⟩
end

/-- an element of a row is read -/
theorem Sound.loadEp (hτ : TyOk C.P τ) {o : Oper} {t : TypeId} {x : Operand} (ho : o.op = .load t x) (hd : ∀ d, o.dst = some d → d < C.N) {an : List An} {i vr k' of : Nat} (hx : Has C s x (.ep i vr k' of)) :
    Sound C o s (evalLoadEp τ s an t i vr k' of) := by
  unfold evalLoadEp
  split
  · rename_i ti hti
    split
    · rename_i r hr
      split
      · rename_i u an'
        split
        · rename_i y hy
          split
          · rename_i hcell
            split
            · rename_i hfit
              intro res hres hg _
              cases hres
              refine pureDoes hd fun a w M E hs => ?_
              have hu : r.xs[k']? = some u := hg.1
              obtain ⟨q, blk, he, ha, hq, hok⟩ := ep_cur hs (hx a w M E hs) hr
              rcases hok.blk with hc0 | ⟨blk', vs, g1, g2, g3, g4, g5⟩
              · have h1 := hok.n
                have h2 := hok.nc
                have : r.xs = [] := List.eq_nil_of_length_eq_zero (by omega)
                rw [this] at hu; simp at hu
              rw [ha] at g1; cases g1
              have hcell := allCell_all hcell
              obtain ⟨f, hread⟩ : ∃ f : Nat → Value, ∀ j c, u.cells[of + j]? = some c → w.cell? ⟨blk, k' * r.sz + of + j, none⟩ = some (f j) ∧ cR M E w r.pu r.ns 5 i (k' * r.sz + (of + j)) (f j) c := by
                refine ⟨fun j => vs.getD (k' * r.sz + of + j) undef, fun j c hc => ?_⟩
                obtain ⟨v, hv, hrel⟩ := hok.elem g5 hu hc
                rw [← Nat.add_assoc] at hv
                refine ⟨?_, ?_⟩
                · rw [cell_of_row w blk _ vs r.ty (0, 0) g3, hv]; simp [Array.getD_eq_getD_getElem?, hv]
                · simp only [Array.getD_eq_getD_getElem?, hv, Option.getD_some]; exact hrel
              have run : ∀ v, (loadVar t ⟨blk, k' * r.sz + of, none⟩).run C.P w = .ok v w → (execOp a.eval o).run C.P w = .ok (.value v) w := fun v hv => by
                simp [execOp, ho, he, Instr.loadAt, Instr.sureAddr, hv]
              rcases partOf_at (hτ _ _ hti) hy with ⟨hk, rfl, hl⟩ | ⟨hk, h1, hc⟩
              · have hl' : ∀ j, j < ti.sz → ∃ c, u.cells[of + j]? = some c := fun j hj => ⟨_, List.getElem?_eq_getElem (by have := hl (by omega); omega)⟩
                have hload := (hτ _ _ hti).loadVar w blk (k' * r.sz + of) f (fun j hj => by
                  obtain ⟨c, hc⟩ := hl' j hj
                  exact (hread j c hc).1)
                refine ⟨_, run _ hload, ?_⟩
                rw [if_pos hk]
                refine .agg _ _ (by
                  simp only [List.length_map, List.length_range, List.length_take, List.length_drop]
                  rcases Nat.eq_zero_or_pos ti.sz with h0 | h0
                  · omega
                  · have := hl h0; omega) fun j v c hv hc => ?_
                rw [List.getElem?_map, Option.map_eq_some_iff] at hv
                obtain ⟨j', hj', rfl⟩ := hv
                have hj : j < ti.sz := by have := (List.getElem?_eq_some_iff.1 hj').1; simpa using this
                rw [List.getElem?_range hj] at hj'; cases hj'
                have hci : c.isCell = true := (List.all_eq_true.1 hcell) c (List.mem_of_getElem? (by simpa [AV.cells] using hc))
                rw [List.getElem?_take, if_pos hj, List.getElem?_drop] at hc
                exact (hread j c hc).2.cell hci
              · have hload := (hτ _ _ hti).loadVar w blk (k' * r.sz + of) f (fun j hj => by
                  have : j = 0 := by omega
                  subst this
                  exact (hread 0 y (by simpa using hc)).1)
                refine ⟨_, run _ hload, ?_⟩
                rw [if_neg (by simp [hk])]
                have hyc : y.isCell = true := by
                  cases y <;> first
                    | (simp [fits, hk] at hfit; done)
                    | (exact (List.all_eq_true.1 hcell) _ (by simp [AV.cells]))
                exact .cell ((hread 0 y (by simpa using hc)).2.cell hyc)
            · exact .nil
          · exact .nil
        · exact .nil
      · exact .nil
    · exact .nil
  · exact .nil

end Go.Dm
