/- The evaluator is sound: rows that are made and cleared. -/
import Derived.Test.YtipeimcdjijkgaaEm21
import Derived.Laws.MakeOwn
namespace Go.Dm
open Go Go.RowKit
set_option linter.unnecessarySimpa false
set_option linter.constructorNameAsVariable false
set_option linter.unusedSectionVars false
set_option linter.unusedSimpArgs false
set_option linter.unusedVariables false

variable {C : Cx} {k : List It} {s : S} {τ : TyTab}

theorem AllR.isP {M : Mem} {E : Env} {vs : List Value} {cs : List AV} (h : AllR (RelS M E) vs cs) (hp : elemsOk 0 [] cs = true) : AllR (RelP M) vs cs :=
  ⟨h.1, fun j v c hv hc => elemOk_rel (pu := 0) (ns := []) (elemsOk_get hp hc) (h.2 j v c hv hc)⟩

/-- the cells of an element that is zero -/
theorem zeroEl_rel {P : Program} {e : TypeId} {ie : TI} (hi : TyOk1 P e ie) {zel : AV} (h : zeroEl τ e ie = some zel) (hp : elemsOk 0 [] zel.cells = true) (M : Mem) : AllR (RelP M) (ie.zero.map AV.zv) zel.cells := by
  have hz : AllR (RelS M Env.none) (ie.zero.map AV.zv) ie.zero := zero_rel hi.lit
  have hc := allCell_all (elemsOk_isCell hp)
  unfold zeroEl at h
  split at h
  · cases h
    have h1 : Rel M Env.none (.agg (ie.zero.map AV.zv).toArray) (.agg ie.zero) := .agg _ _ hz.1 hz.2
    have h2 := (norm_rel (τ := τ) (t := e) h1).allR hc
    exact AllR.isP (by simpa [Value.cells] using h2) hp
  · split at h
    · rename_i z1 hz1
      cases h
      rw [hz1] at hz
      have h0 := hz.2 0 _ _ rfl rfl
      have h1 : Rel M Env.none z1.zv z1 := .cell h0
      have h2 := (norm_rel (τ := τ) (t := e) h1).allR hc
      rw [cells_of_one h0.one.1] at h2
      rw [hz1]
      exact AllR.isP (by simpa using h2) hp
    · cases h

theorem rep_at {zel : AV} {sz : Nat} (hs : zel.cells.length = sz) : ∀ (n j : Nat) (u : AV), (flat (List.replicate n zel))[j]? = some u → j < n * sz ∧ zel.cells[j % sz]? = some u
  | 0, j, u, h => by simp [flat] at h
  | n + 1, j, u, h => by
    rw [List.replicate_succ, flat_cons] at h
    by_cases hj : j < sz
    · rw [List.getElem?_append_left (by omega)] at h
      rw [Nat.mod_eq_of_lt hj, Nat.succ_mul]
      exact ⟨by omega, h⟩
    · rw [List.getElem?_append_right (by omega), hs] at h
      obtain ⟨h1, h2⟩ := rep_at hs n _ u h
      rw [Nat.succ_mul]
      refine ⟨by omega, ?_⟩
      rw [← Nat.mod_eq_sub_mod (by omega)] at h2
      exact h2

theorem zget {zc : List Value} {z : Value} (hz : z.cells.toList = zc) {p : Nat} (h : p < zc.length) : z.cells[p]! = zc[p] := by
  subst hz
  have : p < z.cells.size := by simpa using h
  simp [this]

theorem Sound.makeSlice (hτ : TyOk C.P τ) {o : Oper} {an : List An} {t : TypeId} {x y : Operand} (ho : o.op = .makeSlice t x y) (hd : ∀ d, o.dst = some d → d < C.N) {n c : Int} (hx : Has C s x (.int .i64 n)) (hy : Has C s y (.int .i64 c)) :
    Sound C o s (evalMakeSlice τ s an o.dst t n c) := by
  unfold evalMakeSlice
  split
  · rename_i e szt bt zt czt ht
    split
    · rename_i ie hie
      split
      · rename_i z hz
        split
        · rename_i i hi'
          split
          · rename_i hn
            split
            · rename_i zs an'
              split
              · rename_i hb
                intro res hres hg _
                cases hres
                obtain ⟨⟨g1, g2, g3⟩, g4, _⟩ := hg
                obtain ⟨hb, hB⟩ := Bool.and_eq_true_iff.1 hb
                obtain ⟨hb1, hel⟩ := Bool.and_eq_true_iff.1 hb
                have hB : i < nB := by simpa [Nat.blt_eq] using hB
                have hb1 := Nat.le_of_ble_eq_true hb1
                obtain ⟨inf, zv, hi, hsize, hby, hzv, hzz⟩ := (hτ _ _ hie).info
                refine effDoes rfl hd fun a w M E hs => ?_
                have e1 := (hx a w M E hs).int_inv
                have e2 := (hy a w M E hs).int_inv
                have hzr := zeroEl_rel (hτ _ _ hie) hz hel M
                have hsz : z.cells.length = ie.sz := by rw [← hzr.1, List.length_map, (hτ _ _ hie).len]
                have hc0 : c.toNat ≤ c.toNat * ie.bytes := Nat.le_mul_of_pos_right _ hb1
                have hcc : (c.toNat : Int) = c := by omega
                have hbc : (inf.bytes : Int) * c ≤ 281474976710656 := by
                  rw [← hcc, hby]
                  have : (((c.toNat * ie.bytes : Nat)) : Int) ≤ 281474976710656 := by omega
                  rw [Int.natCast_mul] at this
                  rw [Int.mul_comm]; exact this
                have hrun := run_make (P := C.P) w t e inf zv (hτ _ _ ht).kind hi hzv .i64 .i64 n c g1 g2 hbc (by omega)
                obtain ⟨E', hle, hq, hst⟩ := hs.rowNew (i := i) (vr := 0) (.inl ⟨hn, hB⟩) (w1 := w) (Grow.refl w _) (vs := madeCells zv.cells (c.toNat * inf.size)) (e := e) (sz := ie.sz) (n := n.toNat) (c := c.toNat) (k := 0) (cm := 0) (nl := false) (pu := 0) (ns := []) (xs := zs)
                  (Nat.zero_le _) (by rw [g4]; simp) (by omega) (by unfold maxLen; omega) (fun y hy => by rw [g4] at hy; rw [List.eq_of_mem_replicate hy]; exact hsz) (Nat.zero_le _) (fun h => by cases h) (by rw [size_madeCells, hsize])
                  (fun p => by simp [sealN, hn])
                  (fun j u hu => by
                    rw [g4] at hu
                    obtain ⟨hj, hzu⟩ := rep_at hsz _ j u hu
                    have hpos : 0 < ie.sz := Nat.pos_of_ne_zero fun h => by rw [h] at hj; simp at hj
                    have hm : j % ie.sz < (ie.zero.map AV.zv).length := by rw [List.length_map, (hτ _ _ hie).len]; exact Nat.mod_lt _ hpos
                    have hzs : zv.cells.size = ie.sz := by
                      have := congrArg List.length hzz
                      simp only [Array.length_toList, List.length_map] at this
                      rw [this, (hτ _ _ hie).len]
                    refine ⟨(ie.zero.map AV.zv)[j % ie.sz], ?_, hzr.2 _ _ u (List.getElem?_eq_getElem hm) hzu⟩
                    have hjl : j < c.toNat * inf.size := by
                      rw [hsize]
                      have : n.toNat * ie.sz ≤ c.toNat * ie.sz := Nat.mul_le_mul_right _ (by omega)
                      omega
                    have : (madeCells zv.cells (c.toNat * inf.size))[j]? = some (zv.cells[j % zv.cells.size]!) := by
                      simp [madeCells, hjl]
                    rw [this, hzs, zget hzz hm])
                exact ⟨_, _, M, E', by simp [execOp, ho, e1, e2, hrun], hst, .cell (.row i 0 _ _ _ _ hq (Nat.le_refl _) fun _ => ⟨rfl, rfl, rfl⟩), hle⟩
              · exact .nil
            · exact .nil
          · exact .nil
        · exact .nil
      · exact .nil
    · exact .nil
  · exact .nil

theorem run_append_zeros {P : Program} (w : World) (t t2 ty e : TypeId) (i : TypeInfo) (z : Value) (ht : P.underlying t = some (.slice e)) (h2 : P.underlying t2 = some (.int .i64)) (hi : P.info? e = some i) (hz : i.zero = some z) (n : Int) (h0 : 0 < n) (h47 : n.toNat * i.bytes ≤ 140737488351232) (hb : 1 ≤ i.bytes) (hs : 1 ≤ i.size) :
    (Builtin.append_ #[t, t2] ty #[.slice none 0 0, .int .i64 n]).run P w = .ok (.slice (some ⟨w.heap.size, 0, none⟩) n.toNat (grownCap w n.toNat 0 e)) (w.drew.alloc (.cells (Builtin.zeroCells z.cells n.toNat ++ Builtin.zeroCells z.cells (grownCap w n.toNat 0 e - n.toNat)) e)) := by
  obtain ⟨m, rfl⟩ : ∃ m : Nat, n = (m : Int) := ⟨n.toNat, by omega⟩
  simp only [Int.toNat_natCast] at h47 ⊢
  have hle : m ≤ m * i.bytes := Nat.le_mul_of_pos_right _ hb
  have wn : IntKind.i64.wrap (m : Int) = m := by rw [IntKind.wrap_i64]; omega
  have n1 : ¬ ((m : Int) < 0) := by omega
  have n2 : ¬ (281474976710656 < (m : Int) * (i.bytes : Int)) := by
    rw [← Int.natCast_mul]; omega
  have n3 : ¬ (m = 0) := by omega
  have n4 : ¬ (9223372036854775807 < (m : Int)) := by omega
  have n5 : ¬ (281474976710656 < Builtin.nextslicecap m 0 * i.bytes) := by rw [nextslicecap_zero (by omega)]; omega
  have n6 : ¬ (i.size = 0) := by omega
  simp [Builtin.append_, run_underlying ht, run_underlying h2, asInt, asIntOf, sizeOf, typeInfo, zeroValue, hi, hz, wn, n1, n2, n3, n4, n5, n6, Question.forced, run_firstCells_none, newRow, grownCap]
  intro h
  have : 0 < m * i.size := Nat.mul_pos (by omega) (by omega)
  omega
theorem run_append_zero0 {P : Program} (w : World) (t t2 ty e : TypeId) (i : TypeInfo) (ht : P.underlying t = some (.slice e)) (h2 : P.underlying t2 = some (.int .i64)) (hi : P.info? e = some i) :
    (Builtin.append_ #[t, t2] ty #[.slice none 0 0, .int .i64 0]).run P w = .ok (.slice none 0 0) w := by
  have wn : IntKind.i64.wrap 0 = 0 := by rw [IntKind.wrap_i64]; omega
  simp [Builtin.append_, run_underlying ht, run_underlying h2, asInt, asIntOf, sizeOf, typeInfo, hi, wn]
theorem zc_get (z : Array Value) (n m j : Nat) (h : j < (n + m) * z.size) : (Builtin.zeroCells z n ++ Builtin.zeroCells z m)[j]? = some z[j % z.size]! := by
  rw [Array.getElem?_append]
  have e1 : (Builtin.zeroCells z n).size = n * z.size := by simp [Builtin.zeroCells]
  rw [Nat.add_mul] at h
  split
  · rename_i hj
    rw [e1] at hj
    simp [Builtin.zeroCells, hj]
  · rename_i hj
    rw [e1] at hj
    rw [e1]
    have e2 : j % z.size = (j - n * z.size) % z.size := by
      conv => lhs; rw [show j = (j - n * z.size) + n * z.size by omega]
      rw [Nat.add_mul_mod_self_right]
    rw [e2]
    simp [Builtin.zeroCells, show j - n * z.size < m * z.size by omega]
theorem Sound.appZ (hτ : TyOk C.P τ) {o : Oper} {an : List An} {c : Call} {x y : Operand} {t t2 : TypeId} (ho : o.op = .call c) (hc : c.callee = .builtin .append) (hargs : c.args.toList = [x, y]) (htys : c.argTypes.toList = [t, t2]) (hd : ∀ d, o.dst = some d → d < C.N) (h2 : C.P.underlying t2 = some (.int .i64))
    {x1 x2 : AV} (hx : Has C s x x1) (hy : Has C s y x2) : Sound C o s (evalAppZ τ s an o.dst t x1 x2) := by
  unfold evalAppZ
  split
  · split
    · rename_i n
      split
      · rename_i e szt bt zt czt ht
        split
        · rename_i ie hie
          split
          · rename_i z hz
            split
            · rename_i i hi'
              split
              · rename_i hn
                split
                · rename_i zs an'
                  split
                  · rename_i hb
                    intro res hres hg _
                    cases hres
                    obtain ⟨⟨g1, g2⟩, g4, _⟩ := hg
                    obtain ⟨hb, hB⟩ := Bool.and_eq_true_iff.1 hb
                    obtain ⟨hb, hel⟩ := Bool.and_eq_true_iff.1 hb
                    obtain ⟨hb1, hs1⟩ := Bool.and_eq_true_iff.1 hb
                    have hB : i < nB := by simpa [Nat.blt_eq] using hB
                    have hb1 := Nat.le_of_ble_eq_true hb1
                    have hs1 := Nat.le_of_ble_eq_true hs1
                    obtain ⟨inf, zv, hi, hsize, hby, hzv, hzz⟩ := (hτ _ _ hie).info
                    have e1' : c.argTypes = #[t, t2] := by apply Array.ext'; simpa using htys
                    refine effDoes rfl hd fun a w M E hs => ?_
                    have e1 := (hx a w M E hs).nils_inv
                    have e2 := (hy a w M E hs).int_inv
                    have e3 : c.args.map a.eval = #[.slice none 0 0, .int .i64 n] := by
                      have : c.args = #[x, y] := by apply Array.ext'; simpa using hargs
                      rw [this]; simp [e1, e2]
                    have hzr := zeroEl_rel (hτ _ _ hie) hz hel M
                    have hsz : z.cells.length = ie.sz := by rw [← hzr.1, List.length_map, (hτ _ _ hie).len]
                    have hle0 : n.toNat ≤ n.toNat * ie.bytes := Nat.le_mul_of_pos_right _ hb1
                    by_cases h0 : n = 0
                    · subst h0
                      have hzs : zs = [] := by rw [g4]; simp
                      subst hzs
                      obtain ⟨E', hle, hq, hst⟩ := hs.row0 hn hB none e ie.sz true 0 [] (fun _ => rfl)
                      refine ⟨_, w, M, E', ?_, hst, .cell (.row i 0 _ _ _ _ hq (Nat.le_refl _) fun _ => ⟨rfl, rfl, rfl⟩), hle⟩
                      refine run_builtin ho hc a.eval w w ?_
                      rw [e3, e1']
                      exact by simp [builtin, run_append_zero0 w t t2 o.type e inf (hτ _ _ ht).kind h2 hi]
                    · have hrun := run_append_zeros (P := C.P) w t t2 o.type e inf zv (hτ _ _ ht).kind h2 hi hzv n (by omega) (by rw [hby]; exact g2) (by omega) (by omega)
                      have hzs : zv.cells.size = ie.sz := by
                        have := congrArg List.length hzz
                        simp only [Array.length_toList, List.length_map] at this
                        rw [this, (hτ _ _ hie).len]
                      have hge := grownCap_ge w n.toNat 0 e
                      have hcm := grownCap_le_maxLen w n.toNat 0 e (by unfold maxLen; omega)
                      obtain ⟨E', hle, hq, hst⟩ := hs.rowNew (i := i) (vr := 0) (.inl ⟨hn, hB⟩) (w1 := w.drew) (Grow.drew w) (vs := Builtin.zeroCells zv.cells n.toNat ++ Builtin.zeroCells zv.cells (grownCap w n.toNat 0 e - n.toNat)) (e := e) (sz := ie.sz) (n := n.toNat) (c := grownCap w n.toNat 0 e) (k := 0) (cm := 0) (nl := true) (pu := 0) (ns := []) (xs := zs)
                        (Nat.zero_le _) (by rw [g4]; simp) hge hcm (fun y hy => by rw [g4] at hy; rw [List.eq_of_mem_replicate hy]; exact hsz) (Nat.zero_le _) (fun _ h => by
                          have := congrArg List.length h
                          rw [g4] at this
                          simp at this
                          omega) (by
                          rw [Array.size_append, size_zeroCells, size_zeroCells, hzs, ← Nat.add_mul]
                          congr 1; omega)
                        (fun p => by simp [sealN, hn])
                        (fun j u hu => by
                          rw [g4] at hu
                          obtain ⟨hj, hzu⟩ := rep_at hsz _ j u hu
                          have hm : j % ie.sz < (ie.zero.map AV.zv).length := by rw [List.length_map, (hτ _ _ hie).len]; exact Nat.mod_lt _ (by omega)
                          refine ⟨(ie.zero.map AV.zv)[j % ie.sz], ?_, hzr.2 _ _ u (List.getElem?_eq_getElem hm) hzu⟩
                          rw [zc_get _ _ _ _ (by
                            rw [hzs]
                            have : n.toNat * ie.sz ≤ (n.toNat + (grownCap w n.toNat 0 e - n.toNat)) * ie.sz := Nat.mul_le_mul_right _ (by omega)
                            omega), hzs, zget hzz hm])
                      refine ⟨_, _, M, E', ?_, hst, .cell (.row i 0 _ _ _ _ hq (Nat.le_refl _) fun _ => ⟨rfl, rfl, rfl⟩), hle⟩
                      refine run_builtin ho hc a.eval w _ ?_
                      rw [e3, e1']
                      exact by simp [builtin, hrun]
                  · exact .nil
                · exact .nil
              · exact .nil
            · exact .nil
          · exact .nil
        · exact .nil
      · exact .nil
    · exact .nil
  · exact .nil
theorem isI64T_sound (hτ : TyOk C.P τ) {t : TypeId} (h : isI64T τ t = true) : C.P.underlying t = some (.int .i64) := by
  unfold isI64T at h
  split at h
  · rename_i h1; exact (hτ _ _ h1).kind
  · cases h
theorem Sound.app2 (hτ : TyOk C.P τ) {o : Oper} {an : List An} {c : Call} {x y : Operand} {t t2 : TypeId} (ho : o.op = .call c) (hc : c.callee = .builtin .append) (hargs : c.args.toList = [x, y]) (htys : c.argTypes.toList = [t, t2]) (hd : ∀ d, o.dst = some d → d < C.N)
    {x1 x2 : AV} (hx : Has C s x x1) (hy : Has C s y x2) : Sound C o s (evalApp2 τ s an o.dst t t2 x1 x2) := by
  unfold evalApp2
  split
  · rename_i h; exact .appZ hτ ho hc hargs htys hd (isI64T_sound hτ h) hx hy
  · exact .append hτ ho hc hargs htys hd hx hy
theorem Sound.clear (hτ : TyOk C.P τ) {o : Oper} {an : List An} {c : Call} {x : Operand} {t : TypeId} (ho : o.op = .call c) (hc : c.callee = .builtin .clear) (hargs : c.args.toList = [x]) (htys : c.argTypes.toList = [t]) (hd : ∀ d, o.dst = some d → d < C.N)
    {i vr off n : Nat} (hx : Has C s x (.rowv i vr off n)) : Sound C o s (evalClear τ s an t i vr off n) := by
  unfold evalClear
  split
  · rename_i e szt bt zt czt ht
    split
    · rename_i ie hie
      split
      · rename_i z hz
        split
        · rename_i r hr
          split
          · rename_i hty
            split
            · rename_i hsz0
              split
              · rename_i hpu
                split
                · exact .nil
                · rename_i hel
                  split
                  · rename_i zs an'
                    intro res hres hg _
                    cases hres
                    obtain ⟨g1, g2, _⟩ := hg
                    have hty := beq_true hty
                    have hsz0 := beq_true hsz0
                    obtain ⟨inf, zv, hi, hsize, hby, hzv, hzz⟩ := (hτ _ _ hie).info
                    refine effDoes rfl hd fun a w M E hs => ?_
                    obtain ⟨q, cp, ad, he, hq, hok, hc1, hc2, haz, hav⟩ := rowv_cur hs (hx a w M E hs) hr
                    have hzr := zeroEl_rel (hτ _ _ hie) hz hel M
                    have hzl : z.cells.length = ie.sz := by rw [← hzr.1, List.length_map, (hτ _ _ hie).len]
                    have hzs : zv.cells.size = ie.sz := by
                      have := congrArg List.length hzz
                      simp only [Array.length_toList, List.length_map] at this
                      rw [this, (hτ _ _ hie).len]
                    have hr0 : aget s.rw i = some r := (curRow_get hr).1
                    have hn := hok.n
                    have hnc := hok.nc
                    have hzlen : zs.length = r.xs.length := by
                      rw [g1]; simp only [List.length_append, List.length_take, List.length_replicate, List.length_drop]; omega
                    have hzes : ∀ y ∈ zs, y.cells.length = r.sz := fun y hy => by
                      rw [g1] at hy
                      simp only [List.mem_append] at hy
                      rcases hy with (hy | hy) | hy
                      · exact hok.es y (List.mem_of_mem_take hy)
                      · rw [List.eq_of_mem_replicate hy, hzl, hsz0]
                      · exact hok.es y (List.mem_of_mem_drop hy)
                    have hb : ∀ w', (Builtin.clear_ #[t] o.type #[a.eval x]).run C.P w = .ok (.tuple #[]) w' → (execOp a.eval o).run C.P w = .ok (.value (.tuple #[])) w' := fun w' h => by
                      refine run_builtin ho hc a.eval w w' ?_
                      have e1 : c.args.map a.eval = #[a.eval x] := by
                        have : c.args = #[x] := by apply Array.ext'; simpa using hargs
                        rw [this]; simp
                      have e2 : c.argTypes = #[t] := by apply Array.ext'; simpa using htys
                      rw [e1, e2]
                      simp [builtin, h]
                    have htup : ∀ (M : Mem) (E : Env), Rel M E (.tuple #[]) (.tup []) := fun M E => .tup [] [] rfl (by simp)
                    have hnlz : r.nl = true → (q.a = none ↔ zs = []) := fun h => by
                      rw [hok.nl h]
                      constructor
                      · intro e; exact List.eq_nil_of_length_eq_zero (by rw [hzlen, e]; rfl)
                      · intro e; exact List.eq_nil_of_length_eq_zero (by rw [← hzlen, e]; rfl)
                    have hown : ∀ p, sealN s (5, i, p) ≤ ownK (flat zs)[p]? := fun p => by
                      have e0 : sealN s (5, i, p) = ownK (flat r.xs)[p]? := by simp [sealN, hr0]
                      rw [e0, hok.own0 hpu]; exact Nat.zero_le _
                    by_cases hn0 : n = 0
                    · -- nothing to clear
                      have hzx : zs = r.xs := by rw [g1, hn0]; simp
                      obtain ⟨E', hle, hq2, hst⟩ := hs.rowPut (w' := w) hr0 hq (r' := { r with xs := zs }) (n' := q.n) (.inl ⟨rfl, rfl⟩) (Grow.refl w _) rfl (by rw [hzlen]; exact hn) hnc hzes (by rw [hzlen]; exact hok.k) hok.cm hnlz (Nat.le_refl _) hown
                        (fun b j v _ hv => (hs.mem b j v hv).1) (fun blk vs e1 e2 e3 e4 e5 => ⟨vs, e3, rfl, by show CsOk M E w r.pu r.ns 5 i 0 vs (flat zs); rw [hzx]; exact e5⟩)
                      refine ⟨_, w, M, E', hb w ?_, hst, htup _ _, hle⟩
                      rw [he, hn0]
                      cases ad <;> simp [Builtin.clear_, run_underlying (hτ _ _ ht).kind]
                    · rcases hok.blk with hb0 | ⟨blk, vs, h1, h2, h3, h4, h5⟩
                      · omega
                      have hadr : ad = some ⟨blk, off * r.sz, none⟩ := by rw [hav (by omega), viewA_at h1 hc1 (by omega), hok.sz]
                      have hzc : (Builtin.zeroCells zv.cells n).toList.length = n * r.sz := by simp [size_zeroCells, hzs, hsz0]
                      have hfit : off * r.sz + n * r.sz ≤ vs.size := by
                        rw [h4, hok.sz, ← Nat.add_mul]; exact Nat.mul_le_mul_right _ (by omega)
                      have hone : ∀ u ∈ (Builtin.zeroCells zv.cells n).toList, u.oneCell' = true := fun u hu => by
                        have hu : u ∈ (Array.range (n * zv.cells.size)).toList.map fun i => zv.cells[i % zv.cells.size]! := by simpa [Builtin.zeroCells] using hu
                        rw [List.mem_map] at hu
                        obtain ⟨p, hp, rfl⟩ := hu
                        have hp : p < n * zv.cells.size := by simpa using hp
                        have hpos : 0 < ie.sz := Nat.pos_of_ne_zero fun h => by rw [hzs, h] at hp; simp at hp
                        have hm : p % ie.sz < (ie.zero.map AV.zv).length := by rw [List.length_map, (hτ _ _ hie).len]; exact Nat.mod_lt _ hpos
                        rw [hzs, zget hzz hm]
                        have hc := List.getElem?_eq_getElem (l := z.cells) (i := p % ie.sz) (by rw [hzl]; exact Nat.mod_lt _ hpos)
                        exact (hzr.2 _ _ _ (List.getElem?_eq_getElem hm) hc).one.1
                      have hst := run_storeCells_at (P := C.P) blk (off * r.sz) r.ty (Builtin.zeroCells zv.cells n).toList 0 vs w h3 (by rw [hzc]; omega) hone
                      simp only [Nat.add_zero] at hst
                      have hrun : (Builtin.clear_ #[t] o.type #[a.eval x]).run C.P w = .ok (.tuple #[]) (w.setRow blk (vs.toList.take (off * r.sz) ++ (Builtin.zeroCells zv.cells n).toList ++ vs.toList.drop (off * r.sz + (Builtin.zeroCells zv.cells n).toList.length)).toArray) := by
                        rw [he, hadr]
                        obtain ⟨m, rfl⟩ : ∃ m, n = m + 1 := ⟨n - 1, by omega⟩
                        simp [Builtin.clear_, run_underlying (hτ _ _ ht).kind, zeroValue, typeInfo, hi, hzv]
                        simp at hst
                        rw [hst]
                        rfl
                      obtain ⟨E', hle, hq2, hst2⟩ := hs.rowPut (w' := w.setRow blk (vs.toList.take (off * r.sz) ++ (Builtin.zeroCells zv.cells n).toList ++ vs.toList.drop (off * r.sz + (Builtin.zeroCells zv.cells n).toList.length)).toArray) hr0 hq
                        (r' := { r with xs := zs }) (n' := q.n) (.inl ⟨rfl, rfl⟩) ((Grow.setRow w blk _).mono fun b e => by rw [e]; exact h2) rfl (by rw [hzlen]; exact hn) hnc hzes (by rw [hzlen]; exact hok.k) hok.cm hnlz (Nat.le_refl _) hown
                        (fun b j v ho' hv => by
                          obtain ⟨m1, m2⟩ := hs.mem b j v hv
                          by_cases hbb : b = blk
                          · subst hbb
                            have m3 := m2 _ ho'
                            rw [sealN_row hr0] at m3
                            have m4 : j < off * r.sz := Nat.lt_of_lt_of_le m3 (Nat.mul_le_mul_right _ g2)
                            rw [cell_of_row _ b j _ r.ty (0, 0) (setRow_heap w b vs _ r.ty _ h3)]
                            rw [cell_of_row w b j vs r.ty (0, 0) h3] at m1
                            rw [List.getElem?_toArray, List.append_assoc, List.getElem?_append_left (by rw [List.length_take, Array.length_toList]; omega), List.getElem?_take, if_pos m4]
                            simpa using m1
                          · exact (Grow.setRow w blk _).cell m1 hbb)
                        (fun blk' vs' e1 e2 e3 e4 e5 => by
                          rw [h1] at e1; cases e1
                          rw [h3] at e3; cases e3
                          refine ⟨_, setRow_heap w blk vs _ r.ty _ h3, ?_, ?_⟩
                          · simp only [List.size_toArray, List.length_append, List.length_take, List.length_drop, Array.length_toList, hzc]
                            have : (Builtin.zeroCells zv.cells n).size = n * r.sz := by simpa using hzc
                            omega
                          · show CsOk M E w r.pu r.ns 5 i 0 _ (flat zs)
                            rw [hpu]
                            have hcs := cs_pure h5 hpu
                            have tl : (vs.toList.take (off * r.sz)).length = off * r.sz := by rw [List.length_take, Array.length_toList]; omega
                            intro j u hu
                            rw [g1, flat_append, flat_append] at hu
                            have t1 : (flat (r.xs.take off)).length = min off r.xs.length * r.sz := by rw [flat_len (fun y hy => hok.es y (List.mem_of_mem_take hy)), List.length_take]
                            have t2 : (flat (List.replicate (min n (r.xs.length - off)) z)).length = min n (r.xs.length - off) * r.sz := by
                              rw [flat_len (sz := r.sz) (fun y hy => by rw [List.eq_of_mem_replicate hy, hzl, hsz0]), List.length_replicate]
                            have hmin : min off r.xs.length * r.sz ≤ off * r.sz := Nat.mul_le_mul_right _ (Nat.min_le_left _ _)
                            rw [List.append_assoc] at hu
                            rw [List.getElem?_toArray, List.append_assoc]
                            by_cases c1 : j < min off r.xs.length * r.sz
                            · rw [List.getElem?_append_left (by rw [t1]; exact c1), flat_take off hok.es, List.getElem?_take, if_pos (by omega)] at hu
                              obtain ⟨v, hv, hr2⟩ := hcs j u hu
                              exact ⟨v, by rw [List.getElem?_append_left (by rw [tl]; omega), List.getElem?_take, if_pos (by omega)]; simpa using hv, hr2⟩
                            · rw [List.getElem?_append_right (by rw [t1]; omega), t1] at hu
                              by_cases c2 : off ≤ r.xs.length
                              · rw [Nat.min_eq_left c2] at c1 hu
                                by_cases c3 : j - off * r.sz < min n (r.xs.length - off) * r.sz
                                · rw [List.getElem?_append_left (by rw [t2]; exact c3)] at hu
                                  obtain ⟨hj, hzu⟩ := rep_at (sz := ie.sz) hzl _ _ u hu
                                  have hpos : 0 < ie.sz := Nat.pos_of_ne_zero fun h => by rw [h] at hj; simp at hj
                                  have hm : (j - off * r.sz) % ie.sz < (ie.zero.map AV.zv).length := by rw [List.length_map, (hτ _ _ hie).len]; exact Nat.mod_lt _ hpos
                                  refine ⟨_, ?_, hzr.2 _ _ u (List.getElem?_eq_getElem hm) hzu⟩
                                  have hjn : j - off * r.sz < n * r.sz := by
                                    have : min n (r.xs.length - off) * r.sz ≤ n * r.sz := Nat.mul_le_mul_right _ (Nat.min_le_left _ _)
                                    omega
                                  rw [List.getElem?_append_right (by rw [tl]; omega), tl, List.getElem?_append_left (by rw [hzc]; exact hjn)]
                                  have : (Builtin.zeroCells zv.cells n)[j - off * r.sz]? = some (zv.cells[(j - off * r.sz) % zv.cells.size]!) := by
                                    simp [Builtin.zeroCells, hzs, ← hsz0, hjn]
                                  rw [Array.getElem?_toList, this, hzs, zget hzz hm]
                                · rw [List.getElem?_append_right (by rw [t2]; omega), t2] at hu
                                  have hjl := (List.getElem?_eq_some_iff.1 hu).1
                                  have hdl : (flat (r.xs.drop (off + n))).length = (r.xs.length - (off + n)) * r.sz := by rw [flat_len (fun y hy => hok.es y (List.mem_of_mem_drop hy)), List.length_drop]
                                  rw [hdl] at hjl
                                  by_cases c4 : n ≤ r.xs.length - off
                                  · rw [Nat.min_eq_left c4] at c3 hu hjl
                                    rw [flat_drop _ hok.es, List.getElem?_drop, Nat.add_mul] at hu
                                    have ej : off * r.sz + n * r.sz + (j - off * r.sz - n * r.sz) = j := by omega
                                    rw [ej] at hu
                                    obtain ⟨v, hv, hr2⟩ := hcs j u hu
                                    refine ⟨v, ?_, hr2⟩
                                    rw [List.getElem?_append_right (by rw [tl]; omega), tl, List.getElem?_append_right (by rw [hzc]; omega), hzc, List.getElem?_drop, ej]
                                    simpa using hv
                                  · have : r.xs.length - (off + n) = 0 := by omega
                                    rw [this] at hjl; simp at hjl
                              · exfalso
                                have e1 : min n (r.xs.length - off) = 0 := by omega
                                rw [e1, List.drop_eq_nil_of_le (by omega)] at hu
                                simp [flat] at hu)
                      exact ⟨_, _, M, E', hb _ hrun, hst2, htup _ _, hle⟩
                  · exact .nil
              · exact .nil
            · exact .nil
          · exact .nil
        · exact .nil
      · exact .nil
    · exact .nil
  · exact .nil

end Go.Dm
