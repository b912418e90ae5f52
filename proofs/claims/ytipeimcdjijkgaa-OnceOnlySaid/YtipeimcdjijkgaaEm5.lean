/- States change: what is put behind an own row's elements, into its places, and cut off. -/
import Derived.Test.YtipeimcdjijkgaaEm4
namespace Go.Dm
open Go Go.RowKit
set_option linter.unnecessarySimpa false
set_option linter.constructorNameAsVariable false
set_option linter.unusedSectionVars false
set_option linter.unusedSimpArgs false
set_option linter.unusedVariables false

section
variable {g : Gh} {N : Nat} {M : Mem} {E : Env} {s : S} {tmps : Array Value} {w w' : World}

theorem RelP.notOwn {v : Value} {u : AV} (h : RelP M v u) : ownK (some u) = 0 := by cases h <;> rfl
theorem RelS.notOwn {v : Value} {u : AV} (h : RelS M E v u) : ownK (some u) = 0 := by
  cases h with
  | pure h => exact h.notOwn
  | _ => rfl
theorem eR.notOwn {pu : Nat} {ns : List Nat} {v : Value} {u : AV} (h : eR M E pu ns v u) : ownK (some u) = 0 := by
  match pu, h with
  | 0, h => exact RelP.notOwn h
  | n + 1, h => exact RelS.notOwn h
theorem RwOk.own0 {i : Nat} {q : RwE} {r : Rw} (h : RwOk M E w i q r) (hp : r.pu = 0) (p : Nat) : ownK (flat r.xs)[p]? = 0 := by
  rcases h.blk with hc | ⟨blk, vs, _, _, _, _, hcs⟩
  · have h1 := h.n
    have h2 := h.nc
    have : r.xs = [] := List.eq_nil_of_length_eq_zero (by omega)
    rw [this]; simp [flat, ownK]
  · cases hu : (flat r.xs)[p]? with
    | none => rfl
    | some u => obtain ⟨v, _, hr⟩ := cs_pure hcs hp p u hu; exact hr.notOwn

theorem flat_drop {sz : Nat} : ∀ {xs : List AV} (m : Nat), (∀ x ∈ xs, x.cells.length = sz) → flat (xs.drop m) = (flat xs).drop (m * sz)
  | xs, 0, _ => by simp
  | [], m + 1, _ => by simp [flat]
  | x :: xs, m + 1, h => by
    have hx := h x (by simp)
    rw [List.drop_succ_cons, flat_drop m fun y hy => h y (by simp [hy]), flat_cons, Nat.succ_mul, Nat.add_comm, ← List.drop_drop, ← hx]
    simp
theorem flat_take {sz : Nat} : ∀ {xs : List AV} (m : Nat), (∀ x ∈ xs, x.cells.length = sz) → flat (xs.take m) = (flat xs).take (m * sz)
  | xs, 0, _ => by simp [flat]
  | [], m + 1, _ => by simp [flat]
  | x :: xs, m + 1, h => by
    have hx := h x (by simp)
    rw [List.take_succ_cons, flat_cons, flat_take m fun y hy => h y (by simp [hy]), flat_cons, Nat.succ_mul, Nat.add_comm, ← hx, List.take_length_add_append]

/-- elements are put behind the first ones of a row -/
theorem St.appendRow (hs : St g N M E s tmps w) {i : Nat} {r : Rw} {q : RwE} (hr : aget s.rw i = some r) (hq : E.rw i = some q)
    {P : Program} {t t2 ty : TypeId} {inf : TypeInfo} {z : Value} (ht : P.underlying t = some (.slice r.ty)) (hi : P.info? r.ty = some inf) (hz : inf.zero = some z)
    (hsize : inf.size = r.sz) (hzs : z.cells.size = r.sz) (hpos : 0 < r.sz) {n0 m : Nat} (hn0 : n0 ≤ r.xs.length) (hk : r.k ≤ n0) (hdeep : r.pu = 0 ∨ n0 = r.xs.length) {x : Value} {nx : List AV} {news : List Value} (hx : SrcV P w t2 x r.sz m news) (hm : m = nx.length)
    (hsz2 : ∀ y ∈ nx, y.cells.length = r.sz) (hrel2 : ∀ (j : Nat) (u : AV), (flat nx)[j]? = some u → ∃ v, news[j]? = some v ∧ eR M E r.pu r.ns v u)
    {cm' : Nat} {nl' : Bool} (hcm : cm' ≤ r.xs.length ∨ cm' ≤ r.cm) (hnl : nl' = true → r.nl = true ∧ n0 = r.xs.length)
    (h63 : n0 + m ≤ maxLen) (hbytes : (n0 + m) * inf.bytes ≤ 140737488355328) :
    ∃ v' w' E', (Builtin.append_ #[t, t2] ty #[.slice q.a n0 q.c, x]).run P w = .ok v' w' ∧ E.up E' ∧ RelS M E' v' (.row i (r.ver + 1)) ∧
      St g N M E' { s with rw := (i, { r with ver := r.ver + 1, cm := cm', nl := nl', xs := r.xs.take n0 ++ nx }) :: s.rw } tmps w' := by
  obtain ⟨q', hq', hok⟩ := hs.rw i r hr
  rw [hq] at hq'; cases hq'
  have hlen := flat_len hok.es
  have hlen2 := flat_len hsz2
  have hnews : news.length = (flat nx).length := by rw [hx.n, hm, hlen2]
  have hes : ∀ y ∈ r.xs.take n0 ++ nx, y.cells.length = r.sz := fun y hy => by
    rcases List.mem_append.1 hy with h | h
    · exact hok.es y (List.mem_of_mem_take h)
    · exact hsz2 y h
  have htl : (flat (r.xs.take n0)).length = n0 * r.sz := by
    rw [flat_len (fun y hy => hok.es y (List.mem_of_mem_take hy)), List.length_take, Nat.min_eq_left hn0]
  have hlx : (r.xs.take n0 ++ nx).length = n0 + m := by rw [List.length_append, List.length_take, Nat.min_eq_left hn0, hm]
  have hqn := hok.n
  have hnc := hok.nc
  have hcap := hok.cap
  have hcmq := hok.cm
  have hown2 : ∀ u ∈ flat nx, ownK (some u) = 0 := fun u hu => by
    obtain ⟨j, hj⟩ := List.getElem?_of_mem hu
    obtain ⟨v, _, hr2⟩ := hrel2 j u hj
    exact hr2.notOwn
  have h5 : ∀ p, sealN s (5, i, p) ≤ ownK (flat (r.xs.take n0 ++ nx))[p]? := by
    intro p
    have e : sealN s (5, i, p) = ownK (flat r.xs)[p]? := by simp [sealN, hr]
    rw [e]
    rcases hdeep with hp | hp
    · rw [hok.own0 hp]; exact Nat.zero_le _
    · rw [hp, List.take_length, flat_append, ← ownK_append hown2]; exact Nat.le_refl _
  have hrow : ∀ {E' : Env} {a : Option Addr} {n c sz : Nat}, E'.rw i = some ⟨a, n, c, sz, r.ver + 1⟩ → RelS M E' (.slice a n c) (.row i (r.ver + 1)) := fun h =>
    .row i _ _ _ _ _ h (Nat.le_refl _) fun _ => ⟨rfl, rfl, rfl⟩
  have hx' : SrcV P w t2 x inf.size m news := by rw [hsize]; exact hx
  -- the cells behind
  have hcs : ∀ (vs : Array Value), vs.size = q.c * q.sz → CsOk M E w r.pu r.ns 5 i 0 vs (flat r.xs) → ∀ tl : List Value, CsOk M E w r.pu r.ns 5 i 0 (vs.toList.take (n0 * r.sz) ++ news ++ tl).toArray (flat (r.xs.take n0 ++ nx)) := by
    intro vs hvs hcs tl j u hu
    rw [flat_append] at hu
    have hvl : (vs.toList.take (n0 * r.sz)).length = n0 * r.sz := by
      rw [List.length_take, Array.length_toList, hvs, hok.sz, Nat.min_eq_left (Nat.mul_le_mul_right _ (by omega))]
    by_cases hj : j < n0 * r.sz
    · rw [List.getElem?_append_left (by rw [htl]; exact hj), flat_take n0 hok.es, List.getElem?_take, if_pos hj] at hu
      obtain ⟨v, hv, hr2⟩ := hcs j u hu
      refine ⟨v, ?_, hr2⟩
      rw [List.getElem?_toArray, List.append_assoc, List.getElem?_append_left (by rw [hvl]; exact hj), List.getElem?_take, if_pos hj]
      simpa using hv
    · rw [List.getElem?_append_right (by rw [htl]; omega), htl] at hu
      obtain ⟨v, hv, hr2⟩ := hrel2 _ u hu
      refine ⟨v, ?_, ?_⟩
      · have hj2 := (List.getElem?_eq_some_iff.1 hv).1
        rw [List.getElem?_toArray, List.append_assoc, List.getElem?_append_right (by rw [hvl]; omega), hvl, List.getElem?_append_left hj2]; exact hv
      · exact hr2.c w _ _ _
  by_cases hm0 : m = 0
  · -- nothing is put
    have hnx : nx = [] := List.eq_nil_of_length_eq_zero (by omega)
    have hf : flat nx = [] := by rw [hnx]; rfl
    obtain ⟨E', hle, hE', hst⟩ := hs.rowPut (w' := w) hr hq (r' := { r with ver := r.ver + 1, cm := cm', nl := nl', xs := r.xs.take n0 ++ nx }) (n' := n0) (.inr (Nat.lt_succ_self _)) (Grow.refl w _) rfl (by rw [hlx]; omega) (by omega) hes
      (by rw [hlx]; show r.k ≤ n0 + m; omega) (by show cm' ≤ q.c; omega) (fun h => by
        obtain ⟨h1, h2⟩ := hnl h
        rw [hok.nl h1, hnx, h2]; simp) (Nat.le_refl _) h5 (fun b j v _ hv => (hs.mem b j v hv).1) (fun blk vs g1 g2 g3 g4 g5 => ⟨vs, g3, rfl, fun j u hu => by
        have hu : (flat (r.xs.take n0 ++ nx))[j]? = some u := hu
        rw [hnx, List.append_nil, flat_take n0 hok.es, List.getElem?_take] at hu
        split at hu
        · exact g5 j u hu
        · cases hu⟩)
    exact ⟨_, w, E', append_none ht hi hx' hm0 (by omega), hle, hrow hE', hst⟩
  by_cases hroom : n0 + m ≤ q.c
  · -- there is room
    rcases hok.blk with hb | ⟨blk, vs, g1, g2, g3, g4, g5⟩
    · omega
    have hfit : n0 * inf.size + news.length ≤ vs.size := by
      rw [hx.n, hsize, ← Nat.add_mul, g4, hok.sz]; exact Nat.mul_le_mul_right _ hroom
    have hrun := append_room (P := P) (ty := ty) ht hi hx' g3 hroom hfit
    obtain ⟨E', hle, hE', hst⟩ := hs.rowPut (w' := w.setRow blk (vs.toList.take (n0 * inf.size) ++ news ++ vs.toList.drop (n0 * inf.size + news.length)).toArray) hr hq
      (r' := { r with ver := r.ver + 1, cm := cm', nl := nl', xs := r.xs.take n0 ++ nx }) (n' := n0 + m) (.inr (Nat.lt_succ_self _)) ((Grow.setRow w blk _).mono fun b e => by rw [e]; exact g2) rfl (by rw [hlx]) hroom hes
      (by rw [hlx]; show r.k ≤ n0 + m; omega) (by show cm' ≤ q.c; omega) (fun h => by
        rw [g1]; simp only [reduceCtorEq, false_iff]
        intro e; rw [e] at hlx; simp at hlx; omega) (Nat.le_refl _) h5 (fun b j v ho hv => by
        obtain ⟨h1, h2⟩ := hs.mem b j v hv
        by_cases hbb : b = blk
        · subst hbb
          have h3 := h2 _ ho
          rw [sealN_row hr] at h3
          have h4 : j < n0 * r.sz := Nat.lt_of_lt_of_le h3 (Nat.mul_le_mul_right _ hk)
          rw [cell_of_row _ b j _ r.ty (0, 0) (setRow_heap w b vs _ r.ty _ g3)]
          rw [cell_of_row w b j vs r.ty (0, 0) g3] at h1
          rw [List.getElem?_toArray, List.append_assoc, List.getElem?_append_left (by rw [List.length_take, Array.length_toList, hsize, Nat.min_eq_left (by rw [hsize] at hfit; omega)]; exact h4), List.getElem?_take, if_pos (by rw [hsize]; exact h4)]
          simpa using h1
        · exact (Grow.setRow w blk _).cell h1 hbb) (fun blk' vs' e1 e2 e3 e4 e5 => by
        rw [g1] at e1; cases e1
        rw [g3] at e3; cases e3
        refine ⟨_, setRow_heap w blk vs _ r.ty _ g3, ?_, ?_⟩
        · simp only [List.size_toArray, List.length_append, List.length_take, List.length_drop, Array.length_toList]
          omega
        · rw [hsize]; exact hcs vs g4 g5 _)
    exact ⟨_, _, E', by rw [g1]; exact hrun, hle, by have := hrow hE'; rwa [g1] at this, hst⟩
  · -- a new block
    have hold : ∃ olds : List Value, (Builtin.firstCells inf.size n0 (.slice q.a n0 q.c)).run P w.drew = .ok olds.toArray w.drew ∧ olds.length = n0 * r.sz ∧
        ∀ tl : List Value, CsOk M E w r.pu r.ns 5 i 0 (olds ++ news ++ tl).toArray (flat (r.xs.take n0 ++ nx)) := by
      rcases hok.blk with hb | ⟨blk, vs, g1, g2, g3, g4, g5⟩
      · have hn : n0 = 0 := by omega
        refine ⟨[], ?_, by rw [hn]; simp, fun tl => ?_⟩
        · rw [hn]; exact firstCells_read (P := P) w.drew (by simp) (fun h => absurd (Nat.zero_mul _) h)
        · intro j u hu
          rw [hn, List.take_zero, List.nil_append] at hu
          obtain ⟨v, hv, hr2⟩ := hrel2 j u hu
          have hj2 := (List.getElem?_eq_some_iff.1 hv).1
          exact ⟨v, by rw [List.getElem?_toArray, List.nil_append, List.getElem?_append_left hj2]; exact hv, hr2.c w _ _ _⟩
      · have hvl : (vs.toList.take (n0 * r.sz)).length = n0 * r.sz := by
          rw [List.length_take, Array.length_toList, g4, hok.sz, Nat.min_eq_left (Nat.mul_le_mul_right _ (by omega))]
        refine ⟨vs.toList.take (n0 * r.sz), ?_, hvl, hcs vs g4 g5⟩
        refine firstCells_read (P := P) w.drew (by rw [hvl, hsize]) (fun _ => ⟨blk, 0, g1, fun j v hv => ?_⟩)
        rw [Nat.zero_add, World.cell?_drew, cell_of_row w blk j vs r.ty (0, 0) g3]
        rw [List.getElem?_take] at hv
        split at hv
        · simpa using hv
        · cases hv
    obtain ⟨olds, ho1, ho2, ho3⟩ := hold
    have hrun := append_grow (P := P) (ty := ty) ht hi hz hx' ho1 (by omega) h63 (growslice_fits (by omega) hbytes)
    have hge := grownCap_ge w (n0 + m) q.c r.ty
    have hcm2 : grownCap w (n0 + m) q.c r.ty ≤ maxLen := grownCap_le_maxLen w _ _ r.ty h63
    obtain ⟨E', hle, hE', hst⟩ := hs.rowNew (i := i) (vr := r.ver + 1) (.inr ⟨r, hr, Nat.lt_succ_self _⟩) (w1 := w.drew) (Grow.drew w)
      (vs := olds.toArray ++ news.toArray ++ Builtin.zeroCells z.cells (grownCap w (n0 + m) q.c r.ty - (n0 + m))) (e := r.ty) (sz := r.sz)
      (n := n0 + m) (c := grownCap w (n0 + m) q.c r.ty) (k := r.k) (cm := cm') (nl := nl') (pu := r.pu) (ns := r.ns) (xs := r.xs.take n0 ++ nx) (by rw [hlx]; omega) (by rw [hlx]) hge hcm2 hes (by omega)
      (fun _ e => by rw [e] at hlx; simp at hlx; omega)
      (by
        simp only [Array.size_append, List.size_toArray, size_zeroCells, hzs, ho2, hx.n, ← Nat.add_mul]
        congr 1; omega) h5
      (by
        have := ho3 (Builtin.zeroCells z.cells (grownCap w (n0 + m) q.c r.ty - (n0 + m))).toList
        have e : (olds ++ news ++ (Builtin.zeroCells z.cells (grownCap w (n0 + m) q.c r.ty - (n0 + m))).toList).toArray = olds.toArray ++ news.toArray ++ Builtin.zeroCells z.cells (grownCap w (n0 + m) q.c r.ty - (n0 + m)) := by
          apply Array.ext'; simp
        rwa [e] at this)
    exact ⟨_, _, E', hrun, hle, hrow hE', hst⟩
end

end Go.Dm
