/- The evaluator is sound: parts of own rows; what is held against nil; texts and bytes. -/
import Derived.Test.YtipeimcdjijkgaaEm17
namespace Go.Dm
open Go Go.RowKit
set_option linter.unnecessarySimpa false
set_option linter.constructorNameAsVariable false
set_option linter.unusedSectionVars false
set_option linter.unusedSimpArgs false
set_option linter.unusedVariables false

variable {C : Cx} {k : List It} {s : S} {τ : TyTab}

theorem RwOk.own1 {M : Mem} {E : Env} {w : World} {i : Nat} {q : RwE} {r : Rw} (h : RwOk M E w i q r) (hp : r.pu ≤ 1) (p : Nat) : ownK (flat r.xs)[p]? = 0 := by
  rcases h.blk with hc | ⟨blk, vs, _, _, _, _, hcs⟩
  · have h1 := h.n
    have h2 := h.nc
    have : r.xs = [] := List.eq_nil_of_length_eq_zero (by omega)
    rw [this]; simp [flat, ownK]
  · cases hu : (flat r.xs)[p]? with
    | none => rfl
    | some u =>
      obtain ⟨v, _, hr⟩ := hcs p u hu
      rcases (show r.pu = 0 ∨ r.pu = 1 by omega) with e | e
      · rw [e] at hr; exact RelP.notOwn hr
      · rw [e] at hr; exact RelS.notOwn hr

/-- a cut, run -/
theorem run_cut {o : Oper} {t : TypeId} {x : Operand} {lo hi : Option Operand} (ho : o.op = .slice t x lo hi none) {l h : Option Int} (hlo : bound s lo = some l) (hhi : bound s hi = some h) (hwl : ∀ x, lo = some x → Done s x) (hwh : ∀ x, hi = some x → Done s x)
    {e : TypeId} {sz : Nat} (hun : C.P.underlying t = some (.slice e)) (hse : ∀ w, (sizeOf e).run C.P w = .ok sz w) {a : Act} {w : World} {M : Mem} {E : Env} (hs : St C.g C.N M E s a.tmps w) {ad : Option Addr} {len cap : Nat} (he : a.eval x = .slice ad len cap)
    {i j : Nat} (hl : l.map Int.toNat = some i ∨ (l = none ∧ i = 0)) (hh : h.map Int.toNat = some j ∨ (h = none ∧ j = len)) (h0 : ∀ n, l = some n → 0 ≤ n) (h1 : ∀ n, h = some n → 0 ≤ n) (hij : i ≤ j) (hjc : h ≠ none → j ≤ cap) :
    (execOp a.eval o).run C.P w = .ok (.value (.slice (if cap = i then ad else ad.map (·.add (i * sz))) (j - i) (cap - i))) w := by
  have e1 : (Option.map a.eval lo) = (l.map fun n => Value.int .i64 n) := bound_rel hlo hwl hs
  have e2 : (Option.map a.eval hi) = (h.map fun n => Value.int .i64 n) := bound_rel hhi hwh hs
  have hb := sliceBounds_run (P := C.P) w true len cap l h i j hl hh h0 h1 hij hjc
  simp only [execOp, ho, Instr.sliceAt, Sem.run_bind, run_underlying hun, Result.andThen_ok, e1, e2, Option.map_none]
  simp only [Instr.slice, Sem.run_bind, run_underlying hun, Result.andThen_ok, he, hb, hse, Sem.run_pure]

section
variable {M : Mem} {E : Env} {w : World}
theorem mention_v {i vr off m : Nat} {q : RwE} {c : Nat} {ad : Option Addr} (hq : E.rw i = some q) (hv : vr = q.ver) (hz : off = 0 → ad = q.a) (ha : c ≠ 0 → ad = viewA q off) (hc : off + c = q.c) (hm : m ≤ c) : Rel M E (.slice ad m c) (.rowv i vr off m) :=
  .cell (.rowv i vr off m m c ad q hq (by omega) fun _ => ⟨rfl, hz, ha, hc, hm⟩)
end

theorem Sound.sliceRow (hτ : TyOk C.P τ) {o : Oper} {an : List An} {t : TypeId} {x : Operand} {lo hi : Option Operand} (ho : o.op = .slice t x lo hi none) (hd : ∀ d, o.dst = some d → d < C.N) {l h : Option Int} {i vr : Nat}
    (hx : Has C s x (.row i vr)) (hlo : bound s lo = some l) (hhi : bound s hi = some h) (hwl : ∀ x, lo = some x → Done s x) (hwh : ∀ x, hi = some x → Done s x) : Sound C o s (evalSliceRow τ s an t l h i vr) := by
  unfold evalSliceRow
  split
  · rename_i z hz
    obtain ⟨e, hun, hse⟩ := elemSz_sound hτ hz
    split
    · rename_i r hr
      split
      · rename_i hsz
        have hsz := beq_true hsz
        have main : ∀ (a0 b0 n : Nat), (l.map Int.toNat = some a0 ∨ (l = none ∧ a0 = 0)) → (∀ (q : RwE), q.n = r.xs.length → (h.map Int.toNat = some b0 ∨ (h = none ∧ b0 = q.n))) → (∀ n, l = some n → 0 ≤ n) → (∀ n, h = some n → 0 ≤ n) → a0 + n = b0 → (h ≠ none → b0 ≤ r.xs.length ∨ b0 ≤ r.cm) →
            (h = none → b0 = r.xs.length) → Does C o s ((⟨some (.rowv i vr a0 n), [], [], [], []⟩ : Eff).app o.dst s) := by
          intro a0 b0 n h1 h2 h3 h4 h5 h6 h7
          refine pureDoes hd fun a w M E hs => ?_
          obtain ⟨q, he, hq, hok⟩ := row_cur hs (hx a w M E hs) hr
          have hn := hok.n
          have hnc := hok.nc
          have hcm := hok.cm
          have hbc : b0 ≤ q.c := by
            by_cases hh : h = none
            · have := h7 hh; omega
            · rcases h6 hh with h | h <;> omega
          refine ⟨_, run_cut ho hlo hhi hwl hwh hun hse hs he h1 (h2 q hn) h3 h4 (by omega) (fun _ => hbc), ?_⟩
          have e1 : b0 - a0 = n := by omega
          rw [e1]
          have hadd0 : ∀ x : Option Addr, x.map (fun y => y.add (0 * z)) = x := fun x => by cases x <;> simp [Addr.add]
          refine mention_v hq (by rw [hok.ver]; exact (curRow_get hr).2) (fun h0 => ?_) (fun hne => ?_) (by omega) (by omega)
          · subst h0
            split
            · rfl
            · exact hadd0 _
          · rw [if_neg (by omega)]
            unfold viewA
            by_cases h0 : a0 = 0
            · subst h0; rw [if_pos rfl]; exact hadd0 _
            · rw [if_neg h0, hok.sz, hsz]
        split
        · rename_i n an'
          split
          · intro res hres hg he
            cases hres
            have hg : n = r.xs.length := hg.1
            exact main 0 r.xs.length n (.inr ⟨rfl, rfl⟩) (fun q hq => .inr ⟨rfl, hq.symm⟩) (fun n h => by cases h) (fun n h => by cases h) (by omega) (fun h => absurd rfl h) (fun _ => rfl)
          · rename_i av
            intro res hres hg he
            cases hres
            have hg : 0 ≤ av ∧ av.toNat + n = r.xs.length := hg.1
            exact main av.toNat r.xs.length n (.inl rfl) (fun q hq => .inr ⟨rfl, hq.symm⟩) (fun n h => by cases h; exact hg.1) (fun n h => by cases h) hg.2 (fun h => absurd rfl h) (fun _ => rfl)
          · rename_i bv
            intro res hres hg he
            cases hres
            have hg : 0 ≤ bv ∧ n = bv.toNat ∧ (bv.toNat ≤ r.xs.length ∨ bv.toNat ≤ r.cm) := hg.1
            exact main 0 bv.toNat n (.inr ⟨rfl, rfl⟩) (fun q hq => .inl rfl) (fun n h => by cases h) (fun n h => by cases h; exact hg.1) (by omega) (fun _ => hg.2.2) (fun h => by cases h)
          · rename_i av bv
            intro res hres hg he
            cases hres
            have hg : 0 ≤ av ∧ 0 ≤ bv ∧ av.toNat + n = bv.toNat ∧ (bv.toNat ≤ r.xs.length ∨ bv.toNat ≤ r.cm) := hg.1
            exact main av.toNat bv.toNat n (.inl rfl) (fun q hq => .inl rfl) (fun n h => by cases h; exact hg.1) (fun n h => by cases h; exact hg.2.1) hg.2.2.1 (fun _ => hg.2.2.2) (fun h => by cases h)
        · rename_i ys an'
          split
          · rename_i hpu
            split
            · rename_i q0 hq0
              intro res hres hg he
              cases hres
              -- sealed first, then cut as a list
              have hx0 : q0.e.x = some (.sl r.sz ys) ∧ q0.eq = [] ∧ (AllP q0.gs → ∃ a0 b0 : Nat, (l.map Int.toNat = some a0 ∨ (l = none ∧ a0 = 0)) ∧ (h.map Int.toNat = some b0 ∨ (h = none ∧ b0 = r.xs.length)) ∧ (∀ n, l = some n → 0 ≤ n) ∧ (∀ n, h = some n → 0 ≤ n) ∧ a0 ≤ b0 ∧ b0 ≤ r.xs.length ∧ ys = (r.xs.take b0).drop a0) := by
                unfold evalSlice at hq0
                simp only at hq0
                split at hq0
                · split at hq0
                  · split at hq0
                    · cases hq0
                      refine ⟨rfl, rfl, fun hg => ⟨0, r.xs.length, .inr ⟨rfl, rfl⟩, .inr ⟨rfl, rfl⟩, fun n h => (by cases h), fun n h => (by cases h), Nat.zero_le _, Nat.le_refl _, ?_⟩⟩
                      have := hg.1; simpa using this
                    · rename_i av
                      cases hq0
                      refine ⟨rfl, rfl, fun hg => ?_⟩
                      obtain ⟨g1, g2, g3⟩ := hg.1
                      exact ⟨av.toNat, r.xs.length, .inl rfl, .inr ⟨rfl, rfl⟩, fun n h => (by cases h; exact g1), fun n h => (by cases h), g2, Nat.le_refl _, by simpa using g3⟩
                    · rename_i bv
                      cases hq0
                      refine ⟨rfl, rfl, fun hg => ?_⟩
                      obtain ⟨g1, g2, g3⟩ := hg.1
                      exact ⟨0, bv.toNat, .inr ⟨rfl, rfl⟩, .inl rfl, fun n h => (by cases h), fun n h => (by cases h; exact g1), Nat.zero_le _, g2, by simpa using g3⟩
                    · rename_i av bv
                      cases hq0
                      refine ⟨rfl, rfl, fun hg => ?_⟩
                      obtain ⟨g1, g2, g3, g4⟩ := hg.1
                      exact ⟨av.toNat, bv.toNat, .inl rfl, .inl rfl, fun n h => (by cases h; exact g1), fun n h => (by cases h; omega), by omega, g3, g4⟩
                  · cases hq0
                · cases hq0
              obtain ⟨hx1, _, hx2⟩ := hx0
              obtain ⟨a0, b0, c1, c2, c3, c4, c5, c6, c7⟩ := hx2 hg
              refine effDoes (x := .sl r.sz ys) hx1 hd fun a w M E hs => ?_
              obtain ⟨q, hev, hq, hok⟩ := row_cur hs (hx a w M E hs) hr
              obtain ⟨M', hM, hs', hrel⟩ := sealed_row hs hr hpu
              have hsl := (Rel.cell (hrel _ ((hx a w M E hs).of_cell rfl))).sl_inv.1
              have hn := hok.n
              have hnc := hok.nc
              rw [hev, hn] at hsl
              have hsub := hsl.sl_sub c5 c6
              rw [← c7] at hsub
              refine ⟨_, w, M', E, run_cut ho hlo hhi hwl hwh hun hse hs hev c1 (by rw [hn]; exact c2) c3 c4 c5 (fun _ => by omega), hs', ?_, Env.up_refl E⟩
              rw [← hsz]
              exact .cell (.pure hsub)
            · exact .nil
          · exact .nil
        · split
          · rename_i bv
            split
            · rename_i hpu
              intro res hres hg he
              cases hres
              have hg : 0 ≤ bv ∧ bv.toNat ≤ r.xs.length ∧ r.k ≤ bv.toNat ∧ _ = r.xs.take bv.toNat := hg.1
              rw [hg.2.2.2]
              have hp1 : r.pu ≤ 1 := Nat.le_of_ble_eq_true hpu
              refine effDoes (x := .row i (vr + 1)) rfl hd fun a w M E hs => ?_
              obtain ⟨q, hev, hq, hok⟩ := row_cur hs (hx a w M E hs) hr
              obtain ⟨hr1, hr2⟩ := curRow_get hr
              have hn := hok.n
              have hnc := hok.nc
              have hlt : (r.xs.take bv.toNat).length = bv.toNat := by rw [List.length_take, Nat.min_eq_left hg.2.1]
              obtain ⟨E', hup, hE', hst⟩ := hs.rowPut (w' := w) hr1 hq (r' := { r with ver := r.ver + 1, cm := r.xs.length, nl := false, xs := r.xs.take bv.toNat }) (n' := bv.toNat) (.inr (Nat.lt_succ_self _)) (Grow.refl w _) rfl hlt.symm (by omega)
                (fun y hy => hok.es y (List.mem_of_mem_take hy)) (by show r.k ≤ (r.xs.take bv.toNat).length; rw [hlt]; exact hg.2.2.1) (by show r.xs.length ≤ q.c; omega) (fun h => by cases h) (Nat.le_refl _)
                (fun p => by
                  have e : sealN s (5, i, p) = ownK (flat r.xs)[p]? := by simp [sealN, hr1]
                  rw [e, hok.own1 hp1]; exact Nat.zero_le _) (fun b j v _ hv => (hs.mem b j v hv).1) (fun blk vs g1 g2 g3 g4 g5 => ⟨vs, g3, rfl, fun m u hu => by
                  have hu : (flat (r.xs.take bv.toNat))[m]? = some u := hu
                  rw [flat_take bv.toNat hok.es, List.getElem?_take] at hu
                  split at hu
                  · exact g5 m u hu
                  · cases hu⟩)
              refine ⟨_, w, M, E', run_cut ho hlo hhi hwl hwh hun hse hs hev (.inr ⟨rfl, rfl⟩) (.inl rfl) (fun n h => by cases h) (fun n h => by cases h; exact hg.1) (Nat.zero_le _) (fun _ => by omega), hst, ?_, hup⟩
              have hadd0 : (if q.c = 0 then q.a else q.a.map (fun y => y.add (0 * z))) = q.a := by
                split
                · rfl
                · cases q.a <;> simp [Addr.add]
              rw [hadd0, Nat.sub_zero, Nat.sub_zero]
              exact .cell (.row i _ _ q.c q.a _ hE' (by rw [hr2]; exact Nat.le_refl _) fun _ => ⟨rfl, rfl, rfl⟩)
            · exact .nil
          · exact .nil
        · exact .nil
      · exact .nil
    · exact .nil
  · exact .nil

theorem Sound.sliceV (hτ : TyOk C.P τ) {o : Oper} {an : List An} {t : TypeId} {x : Operand} {lo hi : Option Operand} (ho : o.op = .slice t x lo hi none) (hd : ∀ d, o.dst = some d → d < C.N) {l h : Option Int} {i vr off m : Nat}
    (hx : Has C s x (.rowv i vr off m)) (hlo : bound s lo = some l) (hhi : bound s hi = some h) (hwl : ∀ x, lo = some x → Done s x) (hwh : ∀ x, hi = some x → Done s x) : Sound C o s (evalSliceV τ s an t l h i vr off m) := by
  unfold evalSliceV
  split
  · rename_i z hz
    obtain ⟨e, hun, hse⟩ := elemSz_sound hτ hz
    split
    · rename_i r hr
      split
      · rename_i hsz
        have hsz := beq_true hsz
        have main : ∀ (a0 b0 n : Nat), (l.map Int.toNat = some a0 ∨ (l = none ∧ a0 = 0)) → (h.map Int.toNat = some b0 ∨ (h = none ∧ b0 = m)) → (∀ n, l = some n → 0 ≤ n) → (∀ n, h = some n → 0 ≤ n) → a0 + n = b0 → b0 ≤ m →
            Does C o s ((⟨some (.rowv i vr (off + a0) n), [], [], [], []⟩ : Eff).app o.dst s) := by
          intro a0 b0 n h1 h2 h3 h4 h5 h6
          refine pureDoes hd fun a w M E hs => ?_
          obtain ⟨q, c, ad, he, hq, hok, hc1, hc2, haz, hav⟩ := rowv_cur hs (hx a w M E hs) hr
          refine ⟨_, run_cut ho hlo hhi hwl hwh hun hse hs he h1 h2 h3 h4 (by omega) (fun _ => by omega), ?_⟩
          have e1 : b0 - a0 = n := by omega
          rw [e1]
          have hadd0 : ∀ x : Option Addr, x.map (fun y => y.add (0 * z)) = x := fun x => by cases x <;> simp [Addr.add]
          refine mention_v hq (by rw [hok.ver]; exact (curRow_get hr).2) (fun h0 => ?_) (fun hne => ?_) (by omega) (by omega)
          · have ha0 : a0 = 0 := by omega
            have ho0 : off = 0 := by omega
            rw [ha0, haz ho0]
            split
            · rfl
            · exact hadd0 _
          · rw [if_neg (by omega)]
            rcases hok.blk with hb | ⟨blk, vs, g1, _⟩
            · omega
            · rw [hav (by omega), viewA_at g1 hc1 (by omega), viewA_at (c := c - a0) g1 (by omega) (by omega)]
              simp [addr_add, hok.sz, hsz, Nat.add_mul]
        split
        · rename_i n an'
          split
          · rename_i av
            intro res hres hg he
            cases hres
            have hg : 0 ≤ av ∧ av.toNat + n = m := hg.1
            exact main av.toNat m n (.inl rfl) (.inr ⟨rfl, rfl⟩) (fun n h => by cases h; exact hg.1) (fun n h => by cases h) hg.2 (Nat.le_refl _)
          · rename_i bv
            intro res hres hg he
            cases hres
            have hg : 0 ≤ bv ∧ n = bv.toNat ∧ bv.toNat ≤ m := hg.1
            have := main 0 bv.toNat n (.inr ⟨rfl, rfl⟩) (.inl rfl) (fun n h => by cases h) (fun n h => by cases h; exact hg.1) (by omega) hg.2.2
            simpa using this
          · rename_i av bv
            intro res hres hg he
            cases hres
            have hg : 0 ≤ av ∧ 0 ≤ bv ∧ av.toNat + n = bv.toNat ∧ bv.toNat ≤ m := hg.1
            exact main av.toNat bv.toNat n (.inl rfl) (.inl rfl) (fun n h => by cases h; exact hg.1) (fun n h => by cases h; exact hg.2.1) hg.2.2.1 hg.2.2.2
          · exact .nil
        · exact .nil
      · exact .nil
    · exact .nil
  · exact .nil

end Go.Dm
