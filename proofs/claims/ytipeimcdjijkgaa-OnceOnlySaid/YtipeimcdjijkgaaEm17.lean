/- The evaluator is sound: own rows are written and cut. -/
import Derived.Test.YtipeimcdjijkgaaEm16
namespace Go.Dm
open Go Go.RowKit
set_option linter.unnecessarySimpa false
set_option linter.constructorNameAsVariable false
set_option linter.unusedSectionVars false
set_option linter.unusedSimpArgs false
set_option linter.unusedVariables false

variable {C : Cx} {k : List It} {s : S} {τ : TyTab}

theorem flat_set {xs : List AV} {sz k o : Nat} {u u' : AV} {ys : List AV} (hz : ∀ x ∈ xs, x.cells.length = sz) (hu : xs[k]? = some u) (hc : u'.cells = u.cells.take o ++ ys ++ u.cells.drop (o + ys.length)) (ho : o + ys.length ≤ sz) :
    flat (xs.set k u') = (flat xs).take (k * sz + o) ++ ys ++ (flat xs).drop (k * sz + o + ys.length) := by
  have hk := (List.getElem?_eq_some_iff.1 hu).1
  have hul : u.cells.length = sz := hz u (List.mem_of_getElem? hu)
  have hA : (flat (xs.take k)).length = k * sz := by rw [flat_len (fun y hy => hz y (List.mem_of_mem_take hy)), List.length_take, Nat.min_eq_left (by omega)]
  have e1 : flat xs = flat (xs.take k) ++ (u.cells ++ flat (xs.drop (k + 1))) := by
    conv => lhs; rw [← List.take_append_drop k xs, List.drop_eq_getElem_cons hk, (List.getElem?_eq_some_iff.1 hu).2, flat_append, flat_cons]
  have e2 : flat (xs.set k u') = flat (xs.take k) ++ (u'.cells ++ flat (xs.drop (k + 1))) := by
    rw [List.set_eq_take_append_cons_drop, if_pos hk, flat_append, flat_cons]
  rw [e2, hc, e1]
  have h1 : (flat (xs.take k) ++ (u.cells ++ flat (xs.drop (k + 1)))).take (k * sz + o) = flat (xs.take k) ++ u.cells.take o := by
    rw [← hA, List.take_length_add_append, List.take_append_of_le_length (by omega)]
  have h2 : (flat (xs.take k) ++ (u.cells ++ flat (xs.drop (k + 1)))).drop (k * sz + o + ys.length) = u.cells.drop (o + ys.length) ++ flat (xs.drop (k + 1)) := by
    rw [Nat.add_assoc, ← hA, List.drop_length_add_append, List.drop_append_of_le_length (by omega)]
  rw [h1, h2]
  simp only [List.append_assoc]

section
variable {M : Mem} {E : Env} {w : World}
theorem CsOk.put {pu : Nat} {ns : List Nat} {kd i : Nat} {vs : List Value} {cs : List AV} (h : CsOk M E w pu ns kd i 0 vs.toArray cs) {nv : List Value} {ys : List AV} (hl : nv.length = ys.length)
    (hy : ∀ (j : Nat) (u : AV), ys[j]? = some u → ∃ v, nv[j]? = some v ∧ eR M E pu ns v u) {o : Nat} (ho : o + ys.length ≤ cs.length) (hv : o + ys.length ≤ vs.length) :
    CsOk M E w pu ns kd i 0 (vs.take o ++ nv ++ vs.drop (o + nv.length)).toArray (cs.take o ++ ys ++ cs.drop (o + ys.length)) := by
  intro j u hu
  have t1 : (vs.take o).length = o := by simp; omega
  have t2 : (cs.take o).length = o := by simp; omega
  rw [List.append_assoc] at hu
  rw [List.getElem?_toArray, List.append_assoc]
  by_cases h1 : j < o
  · rw [List.getElem?_append_left (by omega), List.getElem?_take, if_pos h1] at hu
    rw [List.getElem?_append_left (by omega), List.getElem?_take, if_pos h1]
    simpa using h j u hu
  · rw [List.getElem?_append_right (by omega), t2] at hu
    rw [List.getElem?_append_right (by omega), t1]
    by_cases h2 : j - o < ys.length
    · rw [List.getElem?_append_left h2] at hu
      rw [List.getElem?_append_left (by omega)]
      obtain ⟨v, hv, hr⟩ := hy _ u hu
      exact ⟨v, hv, hr.c w _ _ _⟩
    · rw [List.getElem?_append_right (by omega), List.getElem?_drop] at hu
      rw [List.getElem?_append_right (by omega), List.getElem?_drop, hl]
      have e : o + ys.length + (j - o - ys.length) = j := by omega
      rw [e] at hu ⊢
      simpa using h j u hu
end

/-- an element of a row is written -/
theorem Sound.storeEp (hτ : TyOk C.P τ) {o : Oper} {an : List An} {t : TypeId} {x y : Operand} (ho : o.op = .store t x y) (hd : o.dst = none) {i vr k' of : Nat} {v : AV} (hy : Has C s y v) (hx : Has C s x (.ep i vr k' of)) :
    Sound C o s (evalStoreEp τ s an t v i vr k' of) := by
  unfold evalStoreEp
  split
  · rename_i ti hti
    split
    · rename_i r hr
      split
      · rename_i y' e hse
        split
        · rename_i hnk
          split
          · rename_i hc1
            split
            · rename_i hel
              split
              · rename_i u zs an'
                split
                · rename_i old hold
                  split
                  · rename_i hoc
                    split
                    · rename_i u' hput
                      intro res hres hg _
                      cases hres
                      intro a w ⟨hdf, M, E, hs, hp0⟩
                      obtain ⟨hu, hzs, hk, _⟩ := hg
                      have hc1 := beq_true hc1
                      obtain ⟨q, blk, he, ha, hq, hok⟩ := ep_cur hs (hx a w M E hs) hr
                      obtain ⟨M', hM, hs1, hv, _⟩ := sealA_ok (likeRows.refl hs) hse hs (norm_rel (hy a w M E hs))
                      have hr0 : aget s.rw i = some r := (curRow_get hr).1
                      have hr1 : aget (e ++ s.rw) i = some r := by
                        rw [aget_append]
                        cases hh : aget e i with
                        | none => exact hr0
                        | some r' => rw [hasKey_some hh] at hnk; cases hnk
                      obtain ⟨q', hq', hok1⟩ := hs1.rw i r hr1
                      rw [hq] at hq'; cases hq'
                      have hxs : r.xs ≠ [] := by rintro h0; rw [h0] at hu; simp at hu
                      rcases hok1.blk with hc0 | ⟨blk', vs, g1, g2, g3, g4, g5⟩
                      · have h1 := hok1.n
                        have h2 := hok1.nc
                        exact absurd (List.eq_nil_of_length_eq_zero (by omega)) hxs
                      rw [ha] at g1; cases g1
                      have hall := hv.allR (allCell_all (elemsOk_isCell hel))
                      obtain ⟨eold, hlo⟩ := takeAt_eq _ _ _ _ hold
                      have hul : u.cells.length = r.sz := hok1.es u (List.mem_of_getElem? hu)
                      -- the element as it is then
                      obtain ⟨hu'c, hu'l⟩ : u'.cells = u.cells.take of ++ y'.cells ++ u.cells.drop (of + y'.cells.length) ∧ u'.cells.length = r.sz := by
                        unfold putCells at hput
                        split at hput
                        · rename_i ds hds
                          obtain ⟨e1, e2⟩ := setAt_eq _ _ _ _ hds
                          have hdl : ds.length = r.sz := by
                            rw [e1]
                            simp only [List.length_append, List.length_take, List.length_drop]
                            by_cases h0 : y'.cells = []
                            · rw [h0]; simp; omega
                            · have := e2 h0; omega
                          split at hput
                          · cases hput; exact ⟨e1, hdl⟩
                          · split at hput
                            · rename_i d
                              split at hput
                              · rename_i hdc
                                cases hput
                                have : u'.cells = [u'] := by cases u' <;> first | rfl | (simp [AV.isCell] at hdc)
                                exact ⟨by rw [this]; exact e1, by rw [this]; exact hdl⟩
                              · cases hput
                            · cases hput
                        · cases hput
                      have hfit : of + y'.cells.length ≤ r.sz ∨ y'.cells = [] := by
                        by_cases h0 : y'.cells = []
                        · exact .inr h0
                        · left
                          have : 0 < ti.sz := by rw [← hc1]; exact List.length_pos_iff.2 h0
                          have := hlo this
                          omega
                      have hk' := (List.getElem?_eq_some_iff.1 hu).1
                      have hn := hok1.n
                      have hnc := hok1.nc
                      have hflen := flat_len hok1.es
                      have hle : (k' + 1) * r.sz ≤ r.xs.length * r.sz := Nat.mul_le_mul_right _ hk'
                      have hle2 : r.xs.length * r.sz ≤ vs.size := by rw [g4, hok1.sz]; exact Nat.mul_le_mul_right _ (by omega)
                      rw [Nat.succ_mul] at hle
                      have hnl : (a.eval y).cells.toList.length = y'.cells.length := hall.1
                      have hnl' : (a.eval y).cells.size = y'.cells.length := by simpa using hnl
                      have hnc2 : (k' * r.sz + of) + y'.cells.length ≤ vs.size ∨ y'.cells = [] := by rcases hfit with h | h <;> first | exact .inr h | (left; omega)
                      rcases hfit with hfit | hnil
                      · have hfl := flat_set hok1.es hu hu'c hfit
                        have hvs : vs.toList.toArray = vs := by simp
                        have hst : (storeVar t ⟨blk, k' * r.sz + of, none⟩ (a.eval y)).run C.P w = .ok () (w.setRow blk ((vs.toList.take (k' * r.sz + of) ++ (a.eval y).cells.toList ++ vs.toList.drop (k' * r.sz + of + (a.eval y).cells.toList.length)).toArray)) := by
                          unfold storeVar
                          have hne : ¬ (a.eval y).cells.size ≠ ti.sz := by rw [← hc1, ← hnl]; simp
                          simp only [Sem.run_bind, (hτ _ _ hti).sizeOf, Result.andThen_ok, if_neg hne, Sem.run_pure]
                          have := run_storeCells_at (P := C.P) blk (k' * r.sz + of) r.ty (a.eval y).cells.toList 0 vs w g3 (by rw [hnl]; omega) (fun u hu => hall.one u hu)
                          simpa using this
                        refine ⟨undef, w.setRow blk ((vs.toList.take (k' * r.sz + of) ++ (a.eval y).cells.toList ++ vs.toList.drop (k' * r.sz + of + (a.eval y).cells.toList.length)).toArray), .inr ⟨by simp [execOp, ho, he, Instr.storeAt, Instr.sureAddr, hst], rfl⟩, ?_⟩
                        rw [hd]
                        obtain ⟨E', hE', hq2, hst2⟩ := hs1.rowPut (w' := w.setRow blk ((vs.toList.take (k' * r.sz + of) ++ (a.eval y).cells.toList ++ vs.toList.drop (k' * r.sz + of + (a.eval y).cells.toList.length)).toArray)) hr1 hq
                          (r' := { r with xs := zs }) (n' := q.n) (.inl ⟨rfl, rfl⟩) ((Grow.setRow w blk _).mono fun b e => by rw [e]; exact g2) rfl (by show q.n = zs.length; rw [hzs, List.length_set]; exact hn) hnc
                          (fun z hz => by
                            have hz : z ∈ zs := hz
                            rw [hzs] at hz
                            rcases List.mem_or_eq_of_mem_set hz with h | h
                            · exact hok1.es z h
                            · rw [h]; exact hu'l)
                          (by show r.k ≤ zs.length; rw [hzs, List.length_set]; exact hok1.k) hok1.cm
                          (fun h => by
                            show q.a = none ↔ zs = []
                            rw [ha]
                            simp only [reduceCtorEq, false_iff]
                            intro h0; apply hxs; apply List.eq_nil_of_length_eq_zero
                            have := congrArg List.length h0
                            rw [hzs, List.length_set] at this; simpa using this) (Nat.le_refl _)
                          (fun p => by
                            have e0 : sealN { s with rw := e ++ s.rw } (5, i, p) = ownK (flat r.xs)[p]? := by simp [sealN, hr1]
                            rw [e0]
                            show _ ≤ ownK (flat zs)[p]?
                            rw [hzs, hfl]
                            have t2 : ((flat r.xs).take (k' * r.sz + of)).length = k' * r.sz + of := by rw [List.length_take]; omega
                            rw [List.append_assoc]
                            by_cases h1 : p < k' * r.sz + of
                            · rw [List.getElem?_append_left (by omega), List.getElem?_take, if_pos h1]; exact Nat.le_refl _
                            · by_cases h2 : p < k' * r.sz + of + y'.cells.length
                              · -- what stood there was no row of the cell's own
                                have hp : (flat r.xs)[p]? = u.cells[p - k' * r.sz]? := by
                                  have hcc : u.cells[p - k' * r.sz]? = some u.cells[p - k' * r.sz] := List.getElem?_eq_getElem (by omega)
                                  rw [hcc, ← flat_at hok1.es hu hcc]
                                  congr 1; omega
                                have hp2 : u.cells[p - k' * r.sz]? = old[p - k' * r.sz - of]? := by
                                  rw [eold, List.getElem?_take, if_pos (by omega), List.getElem?_drop]
                                  congr 1; omega
                                rw [hp, hp2]
                                cases ho2 : old[p - k' * r.sz - of]? with
                                | none => exact Nat.zero_le _
                                | some c =>
                                  have := (List.all_eq_true.1 (allCell_all hoc)) c (List.mem_of_getElem? ho2)
                                  cases c <;> simp only [ownK] <;> first | exact Nat.zero_le _ | (simp [AV.isCell] at this)
                              · rw [List.getElem?_append_right (by omega), t2, List.getElem?_append_right (by omega), List.getElem?_drop]
                                have e3 : k' * r.sz + of + y'.cells.length + (p - (k' * r.sz + of) - y'.cells.length) = p := by omega
                                rw [e3]; exact Nat.le_refl _)
                          (fun b j v' ho' hv' => by
                            obtain ⟨h1, h2⟩ := hs1.mem b j v' hv'
                            by_cases hbb : b = blk
                            · subst hbb
                              have h3 := h2 _ ho'
                              rw [sealN_row hr1] at h3
                              have h4 : j < k' * r.sz := Nat.lt_of_lt_of_le h3 (Nat.mul_le_mul_right _ hk)
                              rw [cell_of_row _ b j _ r.ty (0, 0) (setRow_heap w b vs _ r.ty _ g3)]
                              rw [cell_of_row w b j vs r.ty (0, 0) g3] at h1
                              rw [List.getElem?_toArray, List.append_assoc, List.getElem?_append_left (by rw [List.length_take, Array.length_toList]; omega), List.getElem?_take, if_pos (by omega)]
                              simpa using h1
                            · exact (Grow.setRow w blk _).cell h1 hbb)
                          (fun blk' vs' e1 e2 e3 e4 e5 => by
                            rw [ha] at e1; cases e1
                            rw [g3] at e3; cases e3
                            refine ⟨_, setRow_heap w blk vs _ r.ty _ g3, ?_, ?_⟩
                            · simp only [List.size_toArray, List.length_append, List.length_take, List.length_drop, Array.length_toList]
                              omega
                            · show CsOk M' E w r.pu r.ns 5 i 0 _ (flat zs)
                              rw [hzs, hfl]
                              rw [← hvs] at g5
                              exact g5.put hnl (fun j c hc => by
                                have hj := (List.getElem?_eq_some_iff.1 hc).1
                                have hvj : (a.eval y).cells.toList[j]? = some (a.eval y).cells.toList[j] := List.getElem?_eq_getElem (by omega)
                                exact ⟨_, hvj, elemOk_rel (elemsOk_get hel hc) (hall.2 j _ c hvj hc)⟩) (by omega) (by simp; omega))
                        exact ⟨hdf, M', E', hst2, hE'.p _ hp0⟩
                      · -- nothing is written
                        have hz0 : ti.sz = 0 := by rw [← hc1, hnil]; rfl
                        have e0 : (a.eval y).cells.toList = [] := List.eq_nil_of_length_eq_zero (by rw [hnl, hnil]; rfl)
                        have hne : ¬ (a.eval y).cells.size ≠ ti.sz := by rw [← hc1, ← hnl]; simp
                        have hst : (storeVar t ⟨blk, k' * r.sz + of, none⟩ (a.eval y)).run C.P w = .ok () w := by
                          unfold storeVar
                          simp only [Sem.run_bind, (hτ _ _ hti).sizeOf, Result.andThen_ok, if_neg hne, Sem.run_pure]
                          rw [e0]
                          simp [storeCells]
                        refine ⟨undef, w, .inr ⟨by simp [execOp, ho, he, Instr.storeAt, Instr.sureAddr, hst], rfl⟩, ?_⟩
                        rw [hd]
                        have hcu : u'.cells = u.cells := by rw [hu'c, hnil]; simp
                        have hfl : flat zs = flat r.xs := by
                          have e1 : flat r.xs = flat (r.xs.take k') ++ (u.cells ++ flat (r.xs.drop (k' + 1))) := by
                            conv => lhs; rw [← List.take_append_drop k' r.xs, List.drop_eq_getElem_cons hk', (List.getElem?_eq_some_iff.1 hu).2, flat_append, flat_cons]
                          rw [hzs, List.set_eq_take_append_cons_drop, if_pos hk', flat_append, flat_cons, hcu, e1]
                        obtain ⟨E', hE', hq2, hst2⟩ := hs1.rowPut (w' := w) hr1 hq
                          (r' := { r with xs := zs }) (n' := q.n) (.inl ⟨rfl, rfl⟩) (Grow.refl w _) rfl (by show q.n = zs.length; rw [hzs, List.length_set]; exact hn) hnc
                          (fun z hz => by
                            have hz : z ∈ zs := hz
                            rw [hzs] at hz
                            rcases List.mem_or_eq_of_mem_set hz with h | h
                            · exact hok1.es z h
                            · rw [h]; exact hu'l)
                          (by show r.k ≤ zs.length; rw [hzs, List.length_set]; exact hok1.k) hok1.cm
                          (fun h => by
                            show q.a = none ↔ zs = []
                            rw [ha]
                            simp only [reduceCtorEq, false_iff]
                            intro h0; apply hxs; apply List.eq_nil_of_length_eq_zero
                            have := congrArg List.length h0
                            rw [hzs, List.length_set] at this; simpa using this) (Nat.le_refl _)
                          (fun p => by
                            have e0 : sealN { s with rw := e ++ s.rw } (5, i, p) = ownK (flat r.xs)[p]? := by simp [sealN, hr1]
                            rw [e0]; show _ ≤ ownK (flat zs)[p]?; rw [hfl]; exact Nat.le_refl _)
                          (fun b j v' ho' hv' => (hs1.mem b j v' hv').1)
                          (fun blk' vs' e1 e2 e3 e4 e5 => ⟨vs', e3, rfl, by show CsOk M' E w r.pu r.ns 5 i 0 _ (flat zs); rw [hfl]; exact e5⟩)
                        exact ⟨hdf, M', E', hst2, hE'.p _ hp0⟩
                    · exact .nil
                  · exact .nil
                · exact .nil
              · exact .nil
            · exact .nil
          · exact .nil
        · exact .nil
      · exact .nil
    · exact .nil
  · exact .nil

end Go.Dm
