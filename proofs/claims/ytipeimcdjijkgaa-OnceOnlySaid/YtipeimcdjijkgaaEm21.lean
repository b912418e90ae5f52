/- The evaluator is sound: literals, rows that are made, rows that are cleared. -/
import Derived.Test.YtipeimcdjijkgaaEm20
namespace Go.Dm
open Go Go.RowKit
set_option linter.unnecessarySimpa false
set_option linter.constructorNameAsVariable false
set_option linter.unusedSectionVars false
set_option linter.unusedSimpArgs false
set_option linter.unusedVariables false

variable {C : Cx} {k : List It} {s : S} {τ : TyTab}

theorem Sound.append (hτ : TyOk C.P τ) {o : Oper} {an : List An} {c : Call} {x y : Operand} {t t2 : TypeId} (ho : o.op = .call c) (hc : c.callee = .builtin .append) (hargs : c.args.toList = [x, y]) (htys : c.argTypes.toList = [t, t2]) (hd : ∀ d, o.dst = some d → d < C.N)
    {x1 x2 : AV} (hx : Has C s x x1) (hy : Has C s y x2) : Sound C o s (evalAppend τ s an o.dst t t2 x1 x2) := by
  unfold evalAppend
  split
  · rename_i e szt bt zt czt ht
    split
    · rename_i ie hie
      split
      · rename_i h2
        have ht2 : (∃ e, C.P.underlying t2 = some (.slice e)) ∨ C.P.underlying t2 = some .string := by
          simp only [Bool.or_eq_true] at h2
          rcases h2 with h | h
          · exact .inr (isStrT_sound hτ h)
          · exact .inl (isSlT_sound hτ h)
        split
        · rename_i i vr
          split
          · rename_i r hr
            split
            · rename_i h3
              split
              · rename_i h4
                refine .appendTo hτ ho hc hargs htys hd ht hie ht2 (beq_true h3) (beq_true h4) hy (.inr rfl) fun a w M E hs => ?_
                obtain ⟨q, he, hq, hok⟩ := row_cur hs (hx a w M E hs) hr
                exact ⟨E, s, q, Env.up_refl E, hs, fun _ => rfl, (curRow_get hr).1, hq, by rw [he, hok.n]; rfl, fun _ _ _ _ h => h⟩
              · exact .nil
            · exact .nil
          · exact .nil
        · rename_i i vr n
          split
          · rename_i r hr
            split
            · rename_i h3
              split
              · rename_i h4
                split
                · rename_i hp
                  refine .appendTo hτ ho hc hargs htys hd ht hie ht2 (beq_true h3) (beq_true h4) hy (.inl hp) fun a w M E hs => ?_
                  obtain ⟨q, c', ad, he, hq, hok, hc1, hc2, haz, _⟩ := rowv_cur hs (hx a w M E hs) hr
                  exact ⟨E, s, q, Env.up_refl E, hs, fun _ => rfl, (curRow_get hr).1, hq, by rw [he, haz rfl]; rw [Nat.zero_add] at hc1; rw [hc1]; rfl, fun _ _ _ _ h => h⟩
                · exact .nil
              · exact .nil
            · exact .nil
          · exact .nil
        · split
          · rename_i i hi
            split
            · rename_i hn
              split
              case h_2 => exact .nil
              rename_i hB
              have hB : i < nB := by simpa [Nat.blt_eq] using hB
              refine .appendTo hτ ho hc hargs htys hd ht hie ht2 rfl rfl hy (.inl rfl) fun a w M E hs => ?_
              obtain ⟨E', hle, hq, hst⟩ := hs.row0 hn hB none e ie.sz true 0 [] (fun _ => rfl)
              refine ⟨E', _, _, hle, hst, fun _ => rfl, by simp only [aget_cons, if_true], hq, by rw [(hx a w M E hs).nils_inv]; rfl, fun r' M' E2 w' h => ?_⟩
              refine h.weak (fun j y hj => ⟨y, hj, fun v hv => hv⟩) (fun j cs hj => ⟨j, cs, hj, fun b h => h, fun b h => h, rfl, fun m c c' v h1 h2 hv => by rw [h1] at h2; cases h2; exact hv⟩) h.bxn
                (fun j r2 hj => ?_) (fun j hj => ?_) (fun j es hj => ⟨j, es, hj, fun b h => h, fun b h => h, rfl, fun m c c' h1 h2 => by rw [h1] at h2; cases h2; exact ⟨rfl, fun v hv => hv⟩⟩) h.mpn
                (fun j r2 hj => ⟨hj, rfl, fun b p h => h, fun b p h => h, (Env.le_refl _)⟩) h.arn (fun b o' ho' => ⟨o', ho', fun m hm => ?_⟩)
              · have : aget ((i, r') :: (i, (⟨e, ie.sz, 0, 0, 0, true, 0, [], []⟩ : Rw)) :: s.rw) j = some r2 := by
                  simp only [aget_cons] at hj ⊢
                  split at hj
                  · rename_i e; rw [if_pos e]; exact hj
                  · rename_i e; rw [if_neg e, if_neg e]; exact hj
                refine ⟨j, r2, this, fun q hq => ?_, fun b h => h, fun b p h => h, rfl, rfl, .inl rfl, rfl, rfl, rfl, Nat.le_refl _, fun h => h, fun _ => Env.le_refl _⟩
                obtain ⟨q', hq', hok⟩ := h.rw j r2 this
                rw [hq] at hq'; cases hq'
                rw [← hok.ver]; exact hq
              · refine h.rwn j ?_
                simp only [aget_cons] at hj ⊢
                split at hj
                · cases hj
                · rename_i e; rw [if_neg e, if_neg e]; exact hj
              · obtain ⟨kd, j, p⟩ := o'
                have : aget ((i, r') :: (i, (⟨e, ie.sz, 0, 0, 0, true, 0, [], []⟩ : Rw)) :: s.rw) j = aget ((i, r') :: s.rw) j := by
                  simp only [aget_cons]
                  split
                  · rfl
                  · rfl
                simp only [sealN, this] at hm ⊢
                exact hm
            · exact .nil
          · exact .nil
        · exact .nil
      · exact .nil
    · exact .nil
  · exact .nil

theorem cellsAll_eq : ∀ l : List AV, cellsAll l = flat l
  | [] => rfl
  | x :: l => by rw [cellsAll, flat_cons, cellsAll_eq l]
theorem sizesOk_get {sz : Nat} : ∀ {l : List AV}, sizesOk sz l = true → ∀ x ∈ l, x.cells.length = sz
  | y :: l, h, x, hx => by
    simp only [sizesOk] at h
    split at h
    · rename_i hy
      rcases List.mem_cons.1 hx with rfl | hx
      · exact beq_true hy
      · exact sizesOk_get h x hx
    · cases h
theorem litParts_ok : ∀ {l : List (Nat × Operand)} {k : Nat} {ops : List Operand}, litParts k l = some ops → l = (ops.zipIdx k).map fun p => (p.2, p.1)
  | [], k, ops, h => by simp only [litParts] at h; cases h; rfl
  | (i, x) :: l, k, ops, h => by
    simp only [litParts] at h
    split at h
    · rename_i hi
      split at h
      · rename_i r hr
        cases h
        rw [List.zipIdx_cons, List.map_cons, ← litParts_ok hr, beq_true hi]
      · cases h
    · cases h
theorem normE_rel {M : Mem} {E : Env} {e : TypeId} : ∀ {xs : List AV} {vs : List Value}, RelL M E vs xs → RelL M E vs (normE τ e xs)
  | [], vs, h => h
  | x :: xs, [], h => absurd h.1 (by simp)
  | x :: xs, v :: vs, h => by
    have ih := normE_rel (e := e) (xs := xs) (vs := vs) ⟨by simpa using h.1, fun j u c hu hc => h.2 (j + 1) u c (by simpa using hu) (by simpa using hc)⟩
    refine ⟨by simp [normE, ih.1], fun j u c hu hc => ?_⟩
    cases j with
    | zero => simp [normE] at hu hc; subst hu; subst hc; exact norm_rel (h.2 0 v x rfl rfl)
    | succ j => simp only [normE, List.getElem?_cons_succ] at hu hc; exact ih.2 j u c hu hc

theorem fold_set : ∀ (l : List Value) (c : List Value) (o k : Nat), o + k + l.length ≤ c.length →
    ((l.zipIdx k).foldl (fun (cs : Array Value) (p : Value × Nat) => cs.setIfInBounds (o + p.2) p.1) c.toArray) = (c.take (o + k) ++ l ++ c.drop (o + k + l.length)).toArray := by
  intro l
  induction l with
  | nil => intro c o k _; simp
  | cons y l ih =>
    intro c o k hb
    simp only [List.zipIdx_cons, List.foldl_cons]
    have : (c.toArray.setIfInBounds (o + k) y) = (c.set (o + k) y).toArray := by simp
    rw [this, ih (c.set (o + k) y) o (k + 1) (by simp at hb ⊢; omega)]
    congr 1
    simp only [List.length_cons] at hb ⊢
    apply List.ext_getElem?
    intro j
    simp only [List.append_assoc, List.getElem?_append, List.getElem?_take, List.getElem?_drop, List.getElem?_set, List.length_take, List.length_set, List.getElem?_cons]
    grind

theorem fill_lit {sz : Nat} : ∀ (vs : List Value) (k : Nat) (pre suf : List Value), pre.length = k * sz → (∀ v ∈ vs, v.cells.size = sz) → suf.length = vs.length * sz →
    Instr.fill (fun i => some (i * sz, sz)) (pre ++ suf).toArray ((vs.zipIdx k).map fun p => (p.2, p.1)) = some (pre ++ vs.flatMap fun v => v.cells.toList).toArray
  | [], k, pre, suf, hp, _, hs => by
    have : suf = [] := List.eq_nil_of_length_eq_zero (by simpa using hs)
    subst this
    simp [Instr.fill]
  | v :: vs, k, pre, suf, hp, hv, hs => by
    have hvs := hv v (by simp)
    simp only [List.zipIdx_cons, List.map_cons, Instr.fill]
    rw [List.length_cons, Nat.succ_mul] at hs
    have hcnd : ¬ ((decide (v.cells.size ≠ sz) || decide (k * sz + v.cells.size > (pre ++ suf).toArray.size)) = true) := by
      simp only [Bool.or_eq_true, decide_eq_true_eq, List.size_toArray, List.length_append]
      omega
    rw [if_neg hcnd]
    have hfold : (Array.foldl (fun cs (x : Value × Nat) => cs.setIfInBounds (k * sz + x.2) x.1) (pre ++ suf).toArray v.cells.zipIdx) = ((pre ++ v.cells.toList) ++ suf.drop sz).toArray := by
      rw [← Array.foldl_toList]
      have := fold_set v.cells.toList (pre ++ suf) (k * sz) 0 (by simp; omega)
      have e1 : v.cells.toList.length = sz := by simpa using hvs
      rw [e1, Nat.add_zero, ← hp, List.take_left, List.drop_length_add_append] at this
      have e2 : v.cells.zipIdx.toList = v.cells.toList.zipIdx := by simp
      rw [e2, ← hp]
      exact this
    rw [hfold, fill_lit vs (k + 1) (pre ++ v.cells.toList) (suf.drop sz) (by rw [List.length_append, Nat.succ_mul, hp]; simp [hvs]) (fun u hu => hv u (by simp [hu])) (by rw [List.length_drop]; omega)]
    simp

/-- the cells of a literal's elements -/
theorem lit_cells {M : Mem} {E : Env} {sz : Nat} : ∀ {ws : List AV} {vs : List Value}, RelL M E vs ws → allCell (cellsAll ws) = true → (∀ x ∈ ws, x.cells.length = sz) →
    (∀ v ∈ vs, v.cells.size = sz) ∧ AllR (RelS M E) (vs.flatMap fun v => v.cells.toList) (flat ws)
  | [], [], h, _, _ => ⟨by simp, by simp [flat], by simp [flat]⟩
  | [], v :: vs, h, _, _ => absurd h.1 (by simp)
  | x :: ws, [], h, _, _ => absurd h.1 (by simp)
  | x :: ws, v :: vs, h, hc, hz => by
    have hsplit : ∀ a b : List AV, allCell (a ++ b) = true → allCell a = true ∧ allCell b = true := by
      intro a b
      induction a with
      | nil => intro h; exact ⟨rfl, h⟩
      | cons y a ih =>
        intro h
        simp only [List.cons_append, allCell] at h ⊢
        split at h
        · exact ih h
        · cases h
    obtain ⟨hc1, hc2⟩ := hsplit _ _ hc
    obtain ⟨h1, h2⟩ := lit_cells (ws := ws) (vs := vs) (sz := sz) ⟨by simpa using h.1, fun j u c hu hcc => h.2 (j + 1) u c (by simpa using hu) (by simpa using hcc)⟩ hc2 (fun y hy => hz y (by simp [hy]))
    have h0 := (h.2 0 v x rfl rfl).allR (allCell_all hc1)
    have hx := hz x (by simp)
    refine ⟨fun u hu => ?_, ?_⟩
    · rcases List.mem_cons.1 hu with rfl | hu
      · have := h0.1; simp at this; omega
      · exact h1 u hu
    · rw [List.flatMap_cons, flat_cons]
      refine ⟨by simp only [List.length_append]; rw [h0.1, h2.1], fun j u c hu hcc => ?_⟩
      rw [List.getElem?_append] at hu hcc
      rw [h0.1] at hu
      split at hu
      · rename_i hj; rw [if_pos hj] at hcc; exact h0.2 j u c hu hcc
      · rename_i hj; rw [if_neg hj] at hcc; exact h2.2 _ u c hu hcc

theorem arNames_in : ∀ {l : List AV} {j : Nat} {u : AV} {i k o : Nat}, l[j]? = some u → u = .aptr i k o → memN i (arNames l) = true
  | x :: l, 0, u, i, k, o, h, e => by
    simp at h; subst h; subst e
    simp [arNames, memN]
  | x :: l, j + 1, u, i, k, o, h, e => by
    have ih := arNames_in (l := l) (j := j) (by simpa using h) e
    cases x <;> simp only [arNames] <;> first | exact ih | skip
    simp only [memN]
    split
    · rfl
    · exact ih

theorem Sound.buildSlice (hτ : TyOk C.P τ) {o : Oper} {an : List An} {t : TypeId} {len : Nat} {parts : Array (Nat × Operand)} (ho : o.op = .buildSlice t len parts) (hd : ∀ d, o.dst = some d → d < C.N) (hw : ∀ p ∈ parts.toList, Done s p.2) :
    Sound C o s (evalBuildSlice τ s an o.dst t len parts.toList) := by
  unfold evalBuildSlice
  split
  · rename_i e szt bt zt czt ht
    split
    · rename_i ie hie
      split
      · rename_i ops hops
        split
        · rename_i hlen
          split
          · rename_i hbig
            split
            · rename_i vs hvs
              split
              · rename_i ws ef hse
                split
                · rename_i hsz
                  split
                  · rename_i hsh
                    have hlen := beq_true hlen
                    obtain ⟨hbig, hlb⟩ := Bool.and_eq_true_iff.1 hbig
                    have hbig := Nat.le_of_ble_eq_true hbig
                    have hlb := Nat.le_of_ble_eq_true hlb
                    have hes := sizesOk_get hsz
                    have hparts := litParts_ok hops
                    have hun := (hτ _ _ ht).kind
                    obtain ⟨inf, z, hi, hsize, hby, hz, hzz⟩ := (hτ _ _ hie).info
                    have hzl : z.cells.size = ie.sz := by
                      have := congrArg List.length hzz
                      simp only [Array.length_toList, List.length_map] at this
                      rw [this, (hτ _ _ hie).len]
                    have hwo : ∀ x ∈ ops, Done s x := fun x hx => by
                      obtain ⟨j, hj⟩ := List.getElem?_of_mem hx
                      have : (j, x) ∈ parts.toList := by
                        rw [hparts, List.mem_map]
                        exact ⟨(x, j), by rw [List.mem_zipIdx_iff_getElem?]; exact hj, rfl⟩
                      exact hw _ this
                    -- what it does
                    have main : allCell (cellsAll ws) = true → ∀ (a : Act) (w : World) (M : Mem) (E : Env), St C.g C.N M E s a.tmps w → ∃ M', (∀ b j v, M b j = some v → M' b j = some v) ∧ St C.g C.N M' E { s with rw := ef ++ s.rw } a.tmps w ∧
                        ∃ cs : List Value, AllR (RelS M' E) cs (flat ws) ∧ ws.length = len ∧ (execOp a.eval o).run C.P w = .ok (.value (.slice (some ⟨w.heap.size, 0, none⟩) len len)) (w.alloc (.cells cs.toArray e)) := by
                      intro hcell a w M E hs
                      have hr0 := vals_rel hvs hwo hs
                      obtain ⟨M', hM, hs', hr1, _⟩ := sealAL_ok (likeRows.refl hs) hse hs (normE_rel (τ := τ) (e := e) hr0)
                      obtain ⟨hvz, hall⟩ := lit_cells hr1 hcell hes
                      have hwl : ws.length = len := by rw [← hr1.1, List.length_map, hlen]
                      refine ⟨M', hM, hs', _, hall, hwl, ?_⟩
                      have hp : (parts.map fun p => (p.1, a.eval p.2)).toList = ((ops.map a.eval).zipIdx 0).map fun p => (p.2, p.1) := by
                        rw [Array.toList_map, hparts, List.zipIdx_map]
                        simp [Function.comp_def]
                      have hfl := fill_lit (sz := ie.sz) (ops.map a.eval) 0 [] (((Array.range (len * ie.sz)).map (fun x => z.cells[x % z.cells.size]!)).toList) (by simp) hvz (by simp [hlen])
                      simp only [List.nil_append, Array.toArray_toList] at hfl
                      by_cases h0 : len * ie.sz = 0
                      · have hr : (Array.range (len * ie.sz)).map (fun x => z.cells[x % z.cells.size]!) = #[] := by rw [h0]; simp
                        rw [hr] at hfl
                        simp only [execOp, ho, Instr.buildSlice, Sem.run_bind, run_underlying hun, Result.andThen_ok, (hτ _ _ hie).sizeOf, if_neg (show ¬ (len * ie.sz > 2 ^ 24) by omega), if_pos h0, Sem.run_pure]
                        have hr2 : (Array.range (len * ie.sz)).map (fun x => (#[] : Array Value)[x % (#[] : Array Value).size]!) = #[] := by rw [h0]; simp
                        simp only [hr2, hp, hfl, newRow]
                        simp
                      · simp only [execOp, ho, Instr.buildSlice, Sem.run_bind, run_underlying hun, Result.andThen_ok, (hτ _ _ hie).sizeOf, if_neg (show ¬ (len * ie.sz > 2 ^ 24) by omega), if_neg h0, zeroValue, typeInfo, hi, hz, Sem.run_pure, hp, hfl, newRow]
                        simp [hi, hz]
                        rw [hfl]
                        simp
                    have hlm : len ≤ maxLen := by unfold maxLen; omega
                    have hflen := flat_len hes
                    -- named
                    have named : ∀ (i : Nat), o.dst = some i → aget s.rw i = none → (hasKey ef i || Nat.ble nB i) = false → ∀ (pu : Nat) (ns : List Nat), elemsOk pu ns (cellsAll ws) = true →
                        Does C o s ((⟨some (.row i 0), [], (i, ⟨e, ie.sz, 0, 0, 0, match ws with | [] => false | _ :: _ => true, pu, ns, ws⟩) :: ef, [], []⟩ : Eff).app o.dst s) := by
                      intro i hi' hn hk pu ns hel
                      obtain ⟨hk, hB⟩ := Bool.or_eq_false_iff.1 hk
                      have hB : i < nB := by
                        rcases Nat.lt_or_ge i nB with h | h
                        · exact h
                        · rw [Nat.ble_eq_true_of_le h] at hB; cases hB
                      refine effDoes rfl hd fun a w M E hs => ?_
                      obtain ⟨M', hM, hs', cs, hall, hwl, hrun⟩ := main (elemsOk_isCell hel) a w M E hs
                      have hn' : aget (ef ++ s.rw) i = none := by
                        rw [aget_append]
                        cases hh : aget ef i with
                        | none => exact hn
                        | some r' => rw [hasKey_some hh] at hk; cases hk
                      have hcl : cs.length = len * ie.sz := by rw [hall.1, hflen, hwl]
                      obtain ⟨E', hle, hq, hst⟩ := hs'.rowNew (i := i) (vr := 0) (.inl ⟨hn', hB⟩) (w1 := w) (Grow.refl w _) (vs := cs.toArray) (e := e) (sz := ie.sz) (n := len) (c := len) (k := 0) (cm := 0) (nl := match ws with | [] => false | _ :: _ => true) (pu := pu) (ns := ns) (xs := ws)
                        (Nat.zero_le _) hwl.symm (Nat.le_refl _) hlm hes (Nat.zero_le _) (fun h => by cases ws with
                          | nil => cases h
                          | cons _ _ => simp) (by simpa using hcl) (fun p => by simp [sealN, hn'])
                        (fun j u hu => by
                          have hj := (List.getElem?_eq_some_iff.1 hu).1
                          obtain ⟨cj, hv⟩ : ∃ cj, cs[j]? = some cj := ⟨_, List.getElem?_eq_getElem (by rw [hall.1]; exact hj)⟩
                          refine ⟨_, by simpa using hv, ?_⟩
                          exact (elemOk_rel (elemsOk_get hel (by rw [cellsAll_eq]; exact hu)) (hall.2 j _ u hv hu)).c w _ _ _)
                      exact ⟨_, _, M', E', hrun, hst, .cell (.row i 0 _ _ _ _ hq (Nat.le_refl _) fun _ => ⟨rfl, rfl, rfl⟩), hle⟩
                    split
                    · rename_i an'
                      split
                      · rename_i hel
                        intro res hres _ _
                        cases hres
                        refine effDoes rfl hd fun a w M E hs => ?_
                        obtain ⟨M', hM, hs', cs, hall, hwl, hrun⟩ := main (elemsOk_isCell hel) a w M E hs
                        obtain ⟨M2, hM2, hs2, hr2⟩ := hs'.newSealed (w1 := w) (Grow.refl w _) (vs := cs.toArray) (e := e) (fr := (0, 0)) (sz := ie.sz) (n := len) (c := len) (xs := ws) hwl (Nat.le_refl _) hlm hes (fun j u hu => by
                          have hj := (List.getElem?_eq_some_iff.1 hu).1
                          obtain ⟨cj, hv⟩ : ∃ cj, cs[j]? = some cj := ⟨_, List.getElem?_eq_getElem (by rw [hall.1]; exact hj)⟩
                          exact ⟨_, by simpa using hv, elemOk_rel (pu := 0) (ns := []) (elemsOk_get hel (by rw [cellsAll_eq]; exact hu)) (hall.2 j _ u hv hu)⟩)
                        exact ⟨_, _, M2, E, hrun, hs2, .cell (.pure hr2), Env.up_refl E⟩
                      · exact .nil
                    · split
                      · rename_i i hi'
                        split
                        · rename_i hn
                          split
                          · exact .nil
                          · rename_i hk
                            split
                            · rename_i hel
                              intro res hres _ _
                              cases hres
                              exact named i hi' hn hk 0 [] hel
                            · split
                              · rename_i hel
                                intro res hres _ _
                                cases hres
                                exact named i hi' hn hk 1 _ hel
                              · exact .nil
                        · exact .nil
                      · exact .nil
                  · exact .nil
                · exact .nil
              · exact .nil
            · exact .nil
          · exact .nil
        · exact .nil
      · exact .nil
    · exact .nil
  · exact .nil

end Go.Dm
