/- States change: own rows are written, sealed, begun; what is put behind them. -/
import Derived.Test.YtipeimcdjijkgaaEm3
namespace Go.Dm
open Go Go.RowKit
set_option linter.unnecessarySimpa false
set_option linter.constructorNameAsVariable false
set_option linter.unusedSectionVars false
set_option linter.unusedSimpArgs false
set_option linter.unusedVariables false

section
variable {g : Gh} {N : Nat} {M : Mem} {E : Env} {s : S} {tmps : Array Value} {w w' : World}

/-- a row's block is written, or its header changed -/
theorem St.rowPut (hs : St g N M E s tmps w) {i : Nat} {r r' : Rw} {q : RwE} (hr : aget s.rw i = some r) (hq : E.rw i = some q) {n' : Nat}
    (hver : (r'.ver = r.ver ∧ n' = q.n) ∨ r.ver < r'.ver) (hg : Grow w w' (fun b => E.own b = some (1, i, 0))) (hsz : r'.sz = r.sz) (hn : n' = r'.xs.length) (hnc : n' ≤ q.c)
    (hes : ∀ x ∈ r'.xs, x.cells.length = r.sz) (hk : r'.k ≤ r'.xs.length) (hcm : r'.cm ≤ q.c) (hnl : r'.nl = true → (q.a = none ↔ r'.xs = [])) (hkk : r.k ≤ r'.k)
    (h5 : ∀ p, sealN s (5, i, p) ≤ ownK (flat r'.xs)[p]?)
    (hM : ∀ b j v, E.own b = some (1, i, 0) → M b j = some v → w'.cell? ⟨b, j, none⟩ = some v)
    (hblk : ∀ blk vs, q.a = some ⟨blk, 0, none⟩ → E.own blk = some (1, i, 0) → w.heap[blk]? = some (.cells vs r.ty (0, 0)) → vs.size = q.c * q.sz → CsOk M E w r.pu r.ns 5 i 0 vs (flat r.xs) →
      ∃ vs', w'.heap[blk]? = some (.cells vs' r'.ty (0, 0)) ∧ vs'.size = vs.size ∧ CsOk M E w r'.pu r'.ns 5 i 0 vs' (flat r'.xs)) :
    ∃ E', E.up E' ∧ E'.rw i = some ⟨q.a, n', q.c, q.sz, r'.ver⟩ ∧ St g N M E' { s with rw := (i, r') :: s.rw } tmps w' := by
  obtain ⟨q', hq', hok⟩ := hs.rw i r hr
  rw [hq] at hq'; cases hq'
  have hle : E.le { E with rw := fun j => if j = i then some ⟨q.a, n', q.c, q.sz, r'.ver⟩ else E.rw j } := by
    refine ⟨fun j b hb => hb, fun j q2 hq2 => ?_, fun j r hr => hr, fun j bs h => ⟨[], by simpa using h⟩⟩
    by_cases hj : j = i
    · subst hj
      rw [hq] at hq2; cases hq2
      have h1 := hok.ver
      refine ⟨_, if_pos rfl, ?_, fun e => ?_⟩
      · show q.ver ≤ r'.ver
        omega
      · have e : q.ver = r'.ver := e
        have : n' = q.n := by omega
        exact ⟨rfl, this, rfl, rfl⟩
    · exact ⟨q2, by simp only [if_neg hj]; exact hq2, Nat.le_refl _, fun _ => ⟨rfl, rfl, rfl, rfl⟩⟩
  refine ⟨_, ⟨hle, fun E0 hp => ⟨hp.bx, fun j q2 hj h hv => ?_, hp.mp, hp.ar⟩⟩, if_pos rfl, ?_⟩
  · simp only at h
    split at h
    · rename_i e; subst e
      cases h
      simp only at hv
      rcases hver with ⟨e1, e2⟩ | hl
      · have h1 := hok.ver
        subst e2
        have := hp.rw j q hj hq (by omega)
        rw [this]
        congr 1
        rw [hv, ← (show q.ver = 0 by omega)]
      · omega
    · exact hp.rw j q2 hj h hv
  refine hs.grow' (fun b => E.own b = some (1, i, 0)) (fun b _ h => ⟨_, h⟩) hg hle (fun b hb hX => rfl) (fun b o hb => Nat.lt_of_lt_of_le (hs.live b o hb) hg.size) rfl ?_ ?_
    (fun k cs hk => .inl (hs.bxK (fun b i' h ho => by rw [ho] at h; cases h) k cs hk)) hs.bxn ?_ ?_
    (fun k es hk => .inl (hs.mpK (fun b i' h ho => by rw [ho] at h; cases h) k es hk)) hs.mpn
    (fun k r hk => .inl ⟨hk, rfl, fun b p ho h => by rcases ho with ho | ho <;> (rw [ho] at h; cases h)⟩) hs.arn
  · intro b j v hX hv
    refine ⟨hM b j v hX hv, fun o ho => ?_⟩
    have ho : E.own b = some o := ho
    rw [hX] at ho; cases ho
    have := (hs.mem b j v hv).2 _ hX
    rw [sealN_row hr] at this
    rw [sealN_row (by simp [aget_cons] : aget ((i, r') :: s.rw) i = some r'), hsz]
    exact Nat.lt_of_lt_of_le this (Nat.mul_le_mul_right _ hkk)
  · intro b o ho hX
    obtain ⟨kd, j, p⟩ := o
    by_cases hj : j = i
    · subst hj
      by_cases h5' : kd = 5
      · subst h5'
        refine Nat.le_trans (h5 p) ?_
        simp [sealN, aget_cons]
      · by_cases h1 : kd = 1
        · subst h1
          by_cases hp : p = 0
          · subst hp; exact absurd ho hX
          · simp [sealN, hp]
        · simp [sealN, h1, h5']
    · simp only [sealN, aget_cons, if_neg hj]; exact Nat.le_refl _
  · intro j r2 hj
    simp only [aget_cons] at hj
    split at hj
    · rename_i e'; subst e'
      cases hj
      refine .inr ⟨_, if_pos rfl, ⟨by rw [hsz]; exact hok.sz, rfl, hn, hnc, hok.cap, by rw [hsz]; exact hes, hk, hcm, hnl, ?_⟩⟩
      rcases hok.blk with hb | ⟨blk, vs, g1, g2, g3, g4, g5⟩
      · exact .inl hb
      · obtain ⟨vs', e1, e2, e3⟩ := hblk blk vs g1 g2 g3 g4 g5
        refine .inr ⟨blk, vs', g1, g2, e1, by rw [e2]; exact g4, e3.mono (fun _ _ _ h => h) (fun _ => Env.arO_le hle _) fun b p ho => ⟨ho, hg.block b (hs.live b _ ho) (by rw [ho]; simp)⟩⟩
    · rename_i hne
      refine .inl ⟨hj, if_neg hne, fun b p ho h => ?_⟩
      rcases ho with ho | ho
      · rw [ho] at h; cases h; exact hne rfl
      · rw [ho] at h; cases h
  · intro k hk
    simp only [aget_cons] at hk
    split at hk
    · cases hk
    · rename_i hne
      show (if k = i then _ else E.rw k) = none
      rw [if_neg hne]; exact hs.rwn k hk

/-- a row of no elements, in no block -/
theorem St.row0 (hs : St g N M E s tmps w) {i : Nat} (hi : aget s.rw i = none) (hB : i < nB) (a : Option Addr) (e : TypeId) (sz : Nat) (nl : Bool) (pu : Nat) (ns : List Nat) (hnl : nl = true → a = none) :
    ∃ E', E.up E' ∧ E'.rw i = some ⟨a, 0, 0, sz, 0⟩ ∧ St g N M E' { s with rw := (i, ⟨e, sz, 0, 0, 0, nl, pu, ns, []⟩) :: s.rw } tmps w := by
  have hle : E.le { E with rw := fun j => if j = i then some ⟨a, 0, 0, sz, 0⟩ else E.rw j, own := fun b => if E.own b = some (1, i, 0) then none else E.own b } := by
    refine ⟨fun j b hb => hb, fun j q hq => ?_, fun j r hr => hr, fun j bs h => ⟨[], by simpa using h⟩⟩
    have hne : j ≠ i := by rintro rfl; rw [hs.rwn j hi] at hq; cases hq
    exact ⟨q, by simp only [if_neg hne]; exact hq, Nat.le_refl _, fun _ => ⟨rfl, rfl, rfl, rfl⟩⟩
  refine ⟨_, ⟨hle, fun E0 hp => ⟨hp.bx, fun j q2 hj h hv => hp.rw j q2 hj (by simp only at h; rwa [if_neg (by omega)] at h) hv, hp.mp, hp.ar⟩⟩, if_pos rfl, ?_⟩
  have hm : ∀ b j v, E.own b = some (1, i, 0) → M b j = some v → False := by
    intro b j v ho hv
    have := (hs.mem b j v hv).2 _ ho
    simp [sealN, hi] at this
  refine hs.grow' (fun b => E.own b = some (1, i, 0)) (fun b _ h => ⟨_, h⟩) (Grow.refl w _) hle (fun b hb hX => if_neg hX) (fun b o hb => ?_) rfl (fun b j v hX hv => (hm b j v hX hv).elim) ?_
    (fun k cs hk => .inl (hs.bxK (fun b i' h ho => by rw [ho] at h; cases h) k cs hk)) hs.bxn ?_ ?_
    (fun k es hk => .inl (hs.mpK (fun b i' h ho => by rw [ho] at h; cases h) k es hk)) hs.mpn
    (fun k r hk => .inl ⟨hk, rfl, fun b p ho h => by rcases ho with ho | ho <;> (rw [ho] at h; cases h)⟩) hs.arn
  · simp only at hb
    split at hb
    · cases hb
    · exact hs.live b o hb
  · intro b o ho hX
    obtain ⟨kd, j, p⟩ := o
    by_cases hj : j = i
    · subst hj
      by_cases h5' : kd = 5
      · subst h5'; simp [sealN, hi]
      · by_cases h1 : kd = 1
        · subst h1; simp [sealN, hi]
        · simp [sealN, h1, h5']
    · simp only [sealN, aget_cons, if_neg hj]; exact Nat.le_refl _
  · intro j r2 hj
    simp only [aget_cons] at hj
    split at hj
    · rename_i e'; subst e'
      cases hj
      exact .inr ⟨_, if_pos rfl, ⟨rfl, rfl, rfl, Nat.le_refl _, Nat.zero_le _, by simp, Nat.le_refl _, Nat.le_refl _, fun h => by simp [hnl h], .inl rfl⟩⟩
    · rename_i hne
      refine .inl ⟨hj, if_neg hne, fun b p ho h => ?_⟩
      rcases ho with ho | ho
      · rw [ho] at h; cases h; exact hne rfl
      · rw [ho] at h; cases h
  · intro k hk
    simp only [aget_cons] at hk
    split at hk
    · cases hk
    · rename_i hne
      show (if k = i then _ else E.rw k) = none
      rw [if_neg hne]; exact hs.rwn k hk

theorem cs_pure {pu : Nat} {ns : List Nat} {kd i p : Nat} {vs : Array Value} {cs : List AV} (h : CsOk M E w pu ns kd i p vs cs) (hp : pu = 0) : ∀ (j : Nat) (u : AV), cs[j]? = some u → ∃ v, vs[j]? = some v ∧ RelP M v u := by
  subst hp
  exact h

/-- memory that is known grows: a state stays a state -/
theorem St.moreM {M' : Mem} {s' : S} (hs : St g N M E s tmps w) (hM : ∀ b j v, M b j = some v → M' b j = some v)
    (hmem : ∀ b j v, M' b j = some v → w.cell? ⟨b, j, none⟩ = some v ∧ ∀ o, E.own b = some o → j < sealN s' o)
    (hmf : ∀ b j v, M' b j = some v → g.F b → g.M0 b j = some v) (hfr : s'.fr = s.fr) (hbx : s'.bx = s.bx) (hmp : s'.mp = s.mp) (har : s'.ar = s.ar)
    (hrw : ∀ i r', aget s'.rw i = some r' → ∃ r, aget s.rw i = some r ∧ ∃ k', r' = { r with k := k' } ∧ k' ≤ r.xs.length) (hrn : ∀ i, aget s'.rw i = none → aget s.rw i = none) : St g N M' E s' tmps w where
  size := hs.size
  fr := fun i av hi => by
    rw [hfr] at hi
    exact ⟨(hs.fr i av hi).1, (hs.fr i av hi).2.monoM hM⟩
  mem := hmem
  bx := fun i cs hi => by
    rw [hbx] at hi
    obtain ⟨b, h1, h2, t, vs, h3, h4, h5⟩ := hs.bx i cs hi
    exact ⟨b, h1, h2, t, vs, h3, h4, fun j v c hv hc => (h5 j v c hv hc).monoM hM⟩
  bxn := fun i hi => hs.bxn i (by rw [← hbx]; exact hi)
  rw := fun i r' hi => by
    obtain ⟨r, hr, k', rfl, hk⟩ := hrw i r' hi
    obtain ⟨q, h1, hok⟩ := hs.rw i r hr
    have := hok.mono hM (Env.le_refl E) (fun b h => ⟨h, rfl⟩) (fun b j h => ⟨h, rfl⟩)
    exact ⟨q, h1, { this with k := hk }⟩
  rwn := fun i hi => hs.rwn i (hrn i hi)
  mp := fun i es hi => by
    rw [hmp] at hi
    obtain ⟨r, h1, h2, ents, clock, h3, h4, h5⟩ := hs.mp i es hi
    exact ⟨r, h1, h2, ents, clock, h3, h4, fun j e p he hp => ⟨(h5 j e p he hp).1.mono hM, (h5 j e p he hp).2.monoM hM⟩⟩
  mpn := fun i hi => hs.mpn i (by rw [← hmp]; exact hi)
  ar := fun i r hi => by
    rw [har] at hi
    obtain ⟨bs, h1, hok⟩ := hs.ar i r hi
    exact ⟨bs, h1, hok.mono hM (Env.le_refl E) (fun b j h => ⟨h, rfl⟩) (fun b j h => ⟨h, rfl⟩)⟩
  arn := fun i hi => hs.arn i (by rw [← har]; exact hi)
  live := hs.live
  foreign := hs.foreign
  m0 := fun b j v h => hM b j v (hs.m0 b j v h)
  mf := hmf
  os := hs.os
  tape := hs.tape
  output := hs.output
  grow := hs.grow

/-- a row is sealed: its slice may be told as a list -/
theorem St.sealRow (hs : St g N M E s tmps w) {i : Nat} {r : Rw} (hr : aget s.rw i = some r) (hpu : r.pu = 0) :
    ∃ M', (∀ b j v, M b j = some v → M' b j = some v) ∧ St g N M' E { s with rw := (i, { r with k := r.xs.length }) :: s.rw } tmps w ∧ (∀ v, RelS M E v (.row i r.ver) → RelP M' v (.sl r.sz r.xs)) := by
  obtain ⟨q, hq, hok⟩ := hs.rw i r hr
  have hrw : ∀ i' r', aget ((i, { r with k := r.xs.length }) :: s.rw) i' = some r' → ∃ r0, aget s.rw i' = some r0 ∧ ∃ k', r' = { r0 with k := k' } ∧ k' ≤ r0.xs.length := by
    intro i' r' h
    rw [aget_cons] at h
    split at h
    · rename_i e; subst e; cases h
      exact ⟨r, hr, _, rfl, Nat.le_refl _⟩
    · obtain ⟨q', _, hok'⟩ := hs.rw i' r' h
      exact ⟨r', h, r'.k, rfl, hok'.k⟩
  have hrn : ∀ i', aget ((i, { r with k := r.xs.length }) :: s.rw) i' = none → aget s.rw i' = none := by
    intro i' h
    rw [aget_cons] at h
    split at h
    · cases h
    · exact h
  have hseal : ∀ o, sealN s o ≤ sealN { s with rw := (i, { r with k := r.xs.length }) :: s.rw } o := by
    rintro ⟨kd, j, p⟩
    by_cases hj : j = i
    · subst hj
      simp only [sealN, aget_cons, if_true, hr]
      split
      · exact Nat.mul_le_mul_right _ hok.k
      · exact Nat.le_refl _
    · simp only [sealN, aget_cons, if_neg hj]; exact Nat.le_refl _
  have hold : ∀ b j v, M b j = some v → w.cell? ⟨b, j, none⟩ = some v ∧ ∀ o, E.own b = some o → j < sealN { s with rw := (i, { r with k := r.xs.length }) :: s.rw } o := by
    intro b j v h
    obtain ⟨h1, h2⟩ := hs.mem b j v h
    exact ⟨h1, fun o ho => Nat.lt_of_lt_of_le (h2 o ho) (hseal o)⟩
  rcases hok.blk with hc | ⟨blk, vs, ha, ho, hh, hvs, hrel⟩
  · refine ⟨M, fun _ _ _ h => h, hs.moreM (fun _ _ _ h => h) hold hs.mf rfl rfl rfl rfl hrw hrn, ?_⟩
    intro v hv
    obtain ⟨n, c, a, q', rfl, hq', _, himp⟩ := (Rel.cell hv).row_inv
    rw [hq] at hq'; cases hq'
    obtain ⟨e1, e2, e3⟩ := himp hok.ver.symm
    have h1 := hok.n
    have h2 := hok.nc
    have hx : r.xs = [] := List.eq_nil_of_length_eq_zero (by omega)
    refine .sl a n c r.sz r.xs (fun _ => undef) (by omega) (by omega) (by omega) hok.es (fun h => absurd hx h) (fun j u hu => ?_)
    rw [hx] at hu; simp [flat] at hu
  · have hrel := cs_pure hrel hpu
    have hlen := flat_len hok.es
    have hle : ∀ b j v, M b j = some v → (if b = blk ∧ j < (flat r.xs).length then vs[j]? else M b j) = some v := by
      intro b j v h
      split
      · rename_i hb
        obtain ⟨rfl, _⟩ := hb
        have := (hs.mem b j v h).1
        rw [cell_of_row w b j vs r.ty (0, 0) hh] at this
        exact this
      · exact h
    refine ⟨fun b j => if b = blk ∧ j < (flat r.xs).length then vs[j]? else M b j, hle, hs.moreM hle ?_ ?_ rfl rfl rfl rfl hrw hrn, ?_⟩
    · intro b j v h
      split at h
      · rename_i hb
        obtain ⟨rfl, hj⟩ := hb
        refine ⟨by rw [cell_of_row w b j vs r.ty (0, 0) hh]; exact h, fun o ho' => ?_⟩
        rw [ho] at ho'; cases ho'
        rw [sealN_row (by simp [aget_cons] : aget ((i, { r with k := r.xs.length }) :: s.rw) i = some { r with k := r.xs.length })]
        rw [hlen] at hj; exact hj
      · exact hold b j v h
    · intro b j v h hF
      split at h
      · rename_i hb
        obtain ⟨rfl, _⟩ := hb
        have := (hs.foreign b hF).2.2
        rw [ho] at this; cases this
      · exact hs.mf b j v h hF
    · intro v hv
      obtain ⟨n, c, a, q', rfl, hq', _, himp⟩ := (Rel.cell hv).row_inv
      rw [hq] at hq'; cases hq'
      obtain ⟨e1, e2, e3⟩ := himp hok.ver.symm
      have h1 := hok.n
      have h2 := hok.nc
      have h3 := hok.cap
      refine .sl a n c r.sz r.xs (fun j => vs.getD j undef) (by omega) (by omega) (by omega) hok.es (fun _ => ⟨blk, 0, by rw [e1, ha], fun j hj => ?_⟩) (fun j u hu => ?_)
      · obtain ⟨u, hu⟩ : ∃ u, (flat r.xs)[j]? = some u := ⟨_, List.getElem?_eq_getElem hj⟩
        obtain ⟨v, hv, _⟩ := hrel j u hu
        show (if blk = blk ∧ 0 + j < (flat r.xs).length then vs[0 + j]? else M blk (0 + j)) = _
        rw [Nat.zero_add, if_pos ⟨rfl, hj⟩, hv]
        simp [Array.getD_eq_getD_getElem?, hv]
      · obtain ⟨v, hv, hr⟩ := hrel j u hu
        simp only [Array.getD_eq_getD_getElem?, hv, Option.getD_some]
        exact hr.mono hle
end

def newsOf (f : Nat → Value) (n : Nat) : List Value := (List.range n).map f
theorem newsOf_len (f : Nat → Value) (n : Nat) : (newsOf f n).length = n := by simp [newsOf]
theorem newsOf_get {f : Nat → Value} {n j : Nat} (h : j < n) : (newsOf f n)[j]? = some (f j) := by simp [newsOf, h]
theorem newsOf_get' {f : Nat → Value} {n j : Nat} {u : Value} (h : (newsOf f n)[j]? = some u) : j < n ∧ u = f j := by
  have hj : j < n := by
    have := (List.getElem?_eq_some_iff.1 h).1
    rwa [newsOf_len] at this
  rw [newsOf_get hj] at h
  cases h; exact ⟨hj, rfl⟩

/-- what is appended: its cells -/
structure SrcV (P : Program) (w : World) (t2 : TypeId) (x : Value) (size m : Nat) (news : List Value) : Prop where
  ty : (∃ e, P.underlying t2 = some (.slice e)) ∨ P.underlying t2 = some .string
  len : ∀ w', (Builtin.lenOf x).run P w' = .ok m w'
  cells : (Builtin.firstCells size m x).run P w = .ok news.toArray w
  cells' : (Builtin.firstCells size m x).run P w.drew = .ok news.toArray w.drew
  n : news.length = m * size
  one : ∀ u ∈ news, u.oneCell' = true

section
variable {P : Program} {w : World} {t t2 ty e : TypeId} {inf : TypeInfo} {x : Value} {m : Nat} {news : List Value}

theorem append_none (ht : P.underlying t = some (.slice e)) (hi : P.info? e = some inf) (hx : SrcV P w t2 x inf.size m news) {base : Option Addr} {n0 c : Nat} (hm : m = 0) (hn : n0 ≤ c) :
    (Builtin.append_ #[t, t2] ty #[.slice base n0 c, x]).run P w = .ok (.slice base n0 c) w := by
  have hz : news = [] := List.eq_nil_of_length_eq_zero (by rw [hx.n, hm, Nat.zero_mul])
  have h1 := hx.cells
  rw [hz, hm] at h1
  have h2 := hx.len w
  rw [hm] at h2
  rcases hx.ty with ⟨e2, hd⟩ | hd <;> cases base <;> simp [Builtin.append_, run_underlying ht, run_underlying hd, sizeOf, typeInfo, hi, h2, h1, hn, storeCells]

theorem append_room (ht : P.underlying t = some (.slice e)) (hi : P.info? e = some inf) (hx : SrcV P w t2 x inf.size m news) {blk n0 c : Nat} {cur : Array Value} (hg : w.heap[blk]? = some (.cells cur e (0, 0)))
    (hroom : n0 + m ≤ c) (hfit : n0 * inf.size + news.length ≤ cur.size) :
    (Builtin.append_ #[t, t2] ty #[.slice (some ⟨blk, 0, none⟩) n0 c, x]).run P w =
      .ok (.slice (some ⟨blk, 0, none⟩) (n0 + m) c) (w.setRow blk (cur.toList.take (n0 * inf.size) ++ news ++ cur.toList.drop (n0 * inf.size + news.length)).toArray) := by
  have hst := run_storeCells_at P blk (n0 * inf.size) e news 0 cur w hg (by simpa using hfit) hx.one
  simp only [Nat.add_zero] at hst
  rcases hx.ty with ⟨e2, hd⟩ | hd <;> simp [Builtin.append_, run_underlying ht, run_underlying hd, sizeOf, typeInfo, hi, hx.len, hroom, hx.cells, Addr.add_lit, hst]

theorem append_grow {z : Value} (ht : P.underlying t = some (.slice e)) (hi : P.info? e = some inf) (hz : inf.zero = some z) (hx : SrcV P w t2 x inf.size m news) {base : Option Addr} {n0 c : Nat} {olds : List Value}
    (hold : (Builtin.firstCells inf.size n0 (.slice base n0 c)).run P w.drew = .ok olds.toArray w.drew) (hg : c < n0 + m) (h63 : n0 + m ≤ maxLen) (hfit : Builtin.nextslicecap (n0 + m) c * inf.bytes ≤ 281474976710656) :
    (Builtin.append_ #[t, t2] ty #[.slice base n0 c, x]).run P w =
      .ok (.slice (some ⟨w.heap.size, 0, none⟩) (n0 + m) (grownCap w (n0 + m) c e))
        (w.drew.alloc (.cells (olds.toArray ++ news.toArray ++ Builtin.zeroCells z.cells (grownCap w (n0 + m) c e - (n0 + m))) e)) := by
  have hn : ¬ (n0 + m ≤ c) := by omega
  have h63' : ¬ (9223372036854775807 < ((n0 : Int) + (m : Int))) := by simp only [maxLen] at h63; omega
  have h48' : ¬ (281474976710656 < Builtin.nextslicecap (n0 + m) c * inf.bytes) := by omega
  rcases hx.ty with ⟨e2, hd⟩ | hd <;>
  · simp [Builtin.append_, run_underlying ht, run_underlying hd, sizeOf, typeInfo, zeroValue, hi, hz, hx.len, hn, h63', h48', Question.forced, hx.cells', hold, newRow, grownCap]
    try (congr 2; apply Array.ext'; simp [List.append_assoc])
end

/-- cells that are read one behind the other -/
theorem firstCells_read {P : Program} (w : World) {size n : Nat} {a : Option Addr} {len c : Nat} {cs : List Value} (hl : cs.length = n * size) (h : n * size ≠ 0 → ∃ blk off, a = some ⟨blk, off, none⟩ ∧ ∀ j v, cs[j]? = some v → w.cell? ⟨blk, off + j, none⟩ = some v) :
    (Builtin.firstCells size n (.slice a len c)).run P w = .ok cs.toArray w := by
  by_cases hz : n * size = 0
  · have : cs = [] := List.eq_nil_of_length_eq_zero (by omega)
    subst this
    cases a with
    | none => simp [Builtin.firstCells]
    | some a => simp [Builtin.firstCells, hz, loadCells, loadCellsFrom]
  · obtain ⟨blk, off, rfl, hc⟩ := h hz
    exact run_firstCells_some (P := P) w size n ⟨blk, off, none⟩ len c cs hl (fun j v hv => by rw [addr_add]; exact hc j v hv)

theorem srcV_slice {P : Program} {w : World} {t2 : TypeId} (ht : (∃ e, P.underlying t2 = some (.slice e)) ∨ P.underlying t2 = some .string) {a : Option Addr} {size m c : Nat} {news : List Value} (hl : news.length = m * size) (h1 : ∀ u ∈ news, u.oneCell' = true)
    (h : m * size ≠ 0 → ∃ blk off, a = some ⟨blk, off, none⟩ ∧ ∀ j v, news[j]? = some v → w.cell? ⟨blk, off + j, none⟩ = some v) : SrcV P w t2 (.slice a m c) size m news where
  ty := ht
  len := fun w' => rfl
  cells := firstCells_read w hl h
  cells' := firstCells_read w.drew hl (fun hz => let ⟨b, o, e, hc⟩ := h hz; ⟨b, o, e, fun j v hv => by simpa using hc j v hv⟩)
  n := hl
  one := h1
theorem srcV_str {P : Program} {w : World} {t2 : TypeId} (ht : (∃ e, P.underlying t2 = some (.slice e)) ∨ P.underlying t2 = some .string) (l : List UInt8) : SrcV P w t2 (.string ⟨l.toArray⟩) 1 l.length (l.map fun b => .int .u8 (b.toNat : Int)) where
  ty := ht
  len := fun w' => by simp [Builtin.lenOf, ByteArray.size]
  cells := by
    have : (ByteArray.mk l.toArray).extract 0 l.length = ⟨l.toArray⟩ := by
      apply ByteArray.ext
      simp [ByteArray.data_extract]
    simp [Builtin.firstCells, this]
  cells' := by
    have : (ByteArray.mk l.toArray).extract 0 l.length = ⟨l.toArray⟩ := by
      apply ByteArray.ext
      simp [ByteArray.data_extract]
    simp [Builtin.firstCells, this]
  n := by simp
  one := by simp [Value.oneCell']

theorem ownK_append {a b : List AV} {p : Nat} (h : ∀ u ∈ b, ownK (some u) = 0) : ownK a[p]? = ownK (a ++ b)[p]? := by
  by_cases hp : p < a.length
  · rw [List.getElem?_append_left hp]
  · rw [List.getElem?_append_right (by omega), List.getElem?_eq_none (by omega : a.length ≤ p)]
    cases hb : b[p - a.length]? with
    | none => rfl
    | some u => rw [h u (List.mem_of_getElem? hb)]; rfl

end Go.Dm
