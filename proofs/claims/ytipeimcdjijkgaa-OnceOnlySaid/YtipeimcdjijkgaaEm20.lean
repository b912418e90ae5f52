/- The evaluator is sound: what is appended, made, and cleared. -/
import Derived.Test.YtipeimcdjijkgaaEm19
namespace Go.Dm
open Go Go.RowKit
set_option linter.unnecessarySimpa false
set_option linter.constructorNameAsVariable false
set_option linter.unusedSectionVars false
set_option linter.unusedSimpArgs false
set_option linter.unusedVariables false

variable {C : Cx} {k : List It} {s : S} {τ : TyTab}

section
variable {g : Gh} {N : Nat} {M : Mem} {E : Env} {tmps : Array Value} {w : World} {P : Program} {t2 : TypeId}

/-- what is appended can be read -/
def SrcOk (P : Program) (M : Mem) (E : Env) (w : World) (t2 : TypeId) (v : Value) (sz pu : Nat) (ns : List Nat) (ys : List AV) : Prop :=
  ∃ news, SrcV P w t2 v sz ys.length news ∧ (∀ y ∈ ys, y.cells.length = sz) ∧ ∀ (j : Nat) (u : AV), (flat ys)[j]? = some u → ∃ v, news[j]? = some v ∧ eR M E pu ns v u

theorem eR.of_pure {pu : Nat} {ns : List Nat} {v : Value} {u : AV} (h : RelP M v u) : eR M E pu ns v u := by
  match pu with
  | 0 => exact h
  | n + 1 => exact RelS.pure h
theorem eR.one {pu : Nat} {ns : List Nat} {v : Value} {u : AV} (h : eR M E pu ns v u) : v.oneCell' = true := by
  match pu, h with
  | 0, h => exact (RelP.one h).1
  | n + 1, h => exact (RelS.one h).1

/-- the elements of a part of a row -/
theorem src_part (ht : (∃ e, P.underlying t2 = some (.slice e)) ∨ P.underlying t2 = some .string) {i : Nat} {q : RwE} {r : Rw} (hok : RwOk M E w i q r) {pu : Nat} {ns : List Nat} (hel : ∀ {vs : Array Value}, CsOk M E w r.pu r.ns 5 i 0 vs (flat r.xs) → ∀ (j : Nat) (u : AV), (flat r.xs)[j]? = some u → ∃ v, vs[j]? = some v ∧ eR M E pu ns v u)
    {off n c : Nat} {ad : Option Addr} (hon : off + n ≤ r.xs.length) (hc : off + c = q.c) (hav : c ≠ 0 → ad = viewA q off) (hnc : n ≤ c) : SrcOk P M E w t2 (.slice ad n c) r.sz pu ns ((r.xs.drop off).take n) := by
  have hlen : ((r.xs.drop off).take n).length = n := by simp; omega
  have hes : ∀ y ∈ (r.xs.drop off).take n, y.cells.length = r.sz := fun y hy => hok.es y (List.mem_of_mem_drop (List.mem_of_mem_take hy))
  have hfl : flat ((r.xs.drop off).take n) = ((flat r.xs).drop (off * r.sz)).take (n * r.sz) := by
    rw [flat_take n (fun y hy => hok.es y (List.mem_of_mem_drop hy)), flat_drop off hok.es]
  have hfx := flat_len hok.es
  have hle : (off + n) * r.sz ≤ r.xs.length * r.sz := Nat.mul_le_mul_right _ hon
  rw [Nat.add_mul] at hle
  by_cases hc0 : c = 0
  · have hn0 : n = 0 := by omega
    have hnil : (r.xs.drop off).take n = [] := by rw [hn0]; simp
    refine ⟨[], ?_, hes, fun j u hu => by rw [hnil] at hu; simp [flat] at hu⟩
    rw [hnil]
    have : (([] : List AV).length) = n := by rw [hn0]; rfl
    rw [this]
    exact srcV_slice ht (by simp [hn0]) (by simp) (fun h => absurd (by rw [hn0, Nat.zero_mul]) h)
  · rcases hok.blk with hb | ⟨blk, vs, g1, g2, g3, g4, g5⟩
    · omega
    have hnl : ((vs.toList.drop (off * r.sz)).take (n * r.sz)).length = n * r.sz := by
      have hn := hok.n
      have h1 : (off + n) * r.sz ≤ vs.size := by rw [g4, hok.sz]; exact Nat.mul_le_mul_right _ (by have := hok.nc; omega)
      rw [Nat.add_mul] at h1
      simp only [List.length_take, List.length_drop, Array.length_toList]
      omega
    have hget : ∀ j, j < n * r.sz → ((vs.toList.drop (off * r.sz)).take (n * r.sz))[j]? = vs[off * r.sz + j]? := fun j hj => by
      rw [List.getElem?_take, if_pos hj, List.getElem?_drop]; simp
    have hel := hel g5
    have key : ∀ (j : Nat) (u : AV), (flat ((r.xs.drop off).take n))[j]? = some u → ∃ v, ((vs.toList.drop (off * r.sz)).take (n * r.sz))[j]? = some v ∧ eR M E pu ns v u := fun j u hu => by
      rw [hfl, List.getElem?_take] at hu
      split at hu
      · rename_i hj
        rw [List.getElem?_drop] at hu
        obtain ⟨v, hv, hr⟩ := hel _ u hu
        exact ⟨v, by rw [hget j hj]; exact hv, hr⟩
      · cases hu
    refine ⟨(vs.toList.drop (off * r.sz)).take (n * r.sz), ?_, hes, key⟩
    rw [hlen]
    refine srcV_slice ht hnl (fun u hu => ?_) (fun _ => ⟨blk, off * r.sz, by rw [hav hc0, viewA_at g1 hc hc0, hok.sz], fun j v hv => ?_⟩)
    · obtain ⟨j, hj⟩ := List.getElem?_of_mem hu
      have hjl : j < n * r.sz := by have := (List.getElem?_eq_some_iff.1 hj).1; omega
      have : (flat ((r.xs.drop off).take n)).length = n * r.sz := by rw [flat_len hes, hlen]
      obtain ⟨v, hv, hr⟩ := key j _ (List.getElem?_eq_getElem (by omega))
      rw [hj] at hv; cases hv
      exact hr.one
    · have hjl : j < n * r.sz := by have := (List.getElem?_eq_some_iff.1 hv).1; omega
      rw [hget j hjl] at hv
      rw [cell_of_row w blk _ vs r.ty (0, 0) g3]; exact hv

theorem src_ok (hs : St g N M E s tmps w) (ht : (∃ e, P.underlying t2 = some (.slice e)) ∨ P.underlying t2 = some .string) {sz pu : Nat} {u8 : Bool} {ns : List Nat} {x : AV} {v : Value} {ys : List AV} {gs : List Prop} {ks : List Key} (hu8 : u8 = true → sz = 1)
    (h : srcAny s sz u8 pu ns x = some (ys, gs, ks)) (hg : AllP gs) (hx : Rel M E v x) : SrcOk P M E w t2 v sz pu ns ys := by
  unfold srcAny at h
  split at h
  · rename_i r0 h0
    cases h
    unfold srcOf at h0
    split at h0
    · rename_i z ys'
      split at h0
      · rename_i hz
        have hz := beq_true hz
        subst hz
        cases h0
        obtain ⟨hP, _⟩ := hx.sl_inv
        cases hP with
        | sl a n c sz _ f hn hc hb hzz ha hf =>
          refine ⟨newsOf f (flat ys).length, ?_, hzz, fun j u hu => ⟨f j, newsOf_get (List.getElem?_eq_some_iff.1 hu).1, eR.of_pure (hf j u hu)⟩⟩
          rw [hn]
          refine srcV_slice ht (by rw [newsOf_len, flat_len hzz, hn]) (fun u hu => ?_) (fun hne => ?_)
          · obtain ⟨j, hj⟩ := List.getElem?_of_mem hu
            obtain ⟨hj', rfl⟩ := newsOf_get' hj
            exact (hf j _ (List.getElem?_eq_getElem hj')).one.1
          · have hxs : ys ≠ [] := by rintro rfl; simp at hn; subst hn; simp at hne
            obtain ⟨blk, off, e, hM⟩ := ha hxs
            refine ⟨blk, off, e, fun j v hv => ?_⟩
            obtain ⟨hj', rfl⟩ := newsOf_get' hv
            exact (hs.mem _ _ _ (hM j hj')).1
      · cases h0
    · cases h0
      have := hx.nils_inv
      subst this
      exact ⟨[], srcV_slice ht (by simp) (by simp) (fun h => absurd (by simp) h), by simp, fun j u hu => by simp [flat] at hu⟩
    · rename_i l
      split at h0
      · cases h0
        have := hx.str_inv
        subst this
        have hsz := hu8 rfl
        subst hsz
        refine ⟨l.map fun b => .int .u8 (b.toNat : Int), ?_, fun y hy => ?_, fun j u hu => ?_⟩
        · have : (u8s l).length = l.length := by simp [u8s]
          rw [this]; exact srcV_str ht l
        · simp only [u8s, List.mem_map] at hy
          obtain ⟨b, _, rfl⟩ := hy
          rfl
        · rw [u8s_flat] at hu
          simp only [u8s, List.getElem?_map, Option.map_eq_some_iff] at hu
          obtain ⟨b, hb, rfl⟩ := hu
          exact ⟨.int .u8 (b.toNat : Int), by simp [hb], eR.of_pure (.int _ _)⟩
      · cases h0
    · rename_i j vr
      split at h0
      · rename_i r hr
        split at h0
        · rename_i hp
          split at h0
          · rename_i hz
            have hz := beq_true hz
            cases h0
            obtain ⟨q, he, hq, hok⟩ := row_cur hs hx hr
            subst he
            have := src_part (P := P) (t2 := t2) (pu := pu) (ns := ns) ht hok (fun hcs j u hu => let ⟨v, hv, hrel⟩ := cs_pure hcs hp j u hu; ⟨v, hv, eR.of_pure hrel⟩) (off := 0) (n := r.xs.length) (c := q.c) (ad := q.a) (by omega) (by omega) (fun _ => by simp [viewA]) (by have := hok.n; have := hok.nc; omega)
            rw [List.drop_zero, List.take_length] at this
            rw [hok.n, ← hz]
            exact this
          · cases h0
        · cases h0
      · cases h0
    · rename_i j vr off n
      split at h0
      · rename_i r hr
        split at h0
        · rename_i hp
          split at h0
          · rename_i hz
            have hz := beq_true hz
            cases h0
            obtain ⟨q, c, ad, he, hq, hok, hc1, hc2, _, hav⟩ := rowv_cur hs hx hr
            subst he
            rw [← hz]
            exact src_part ht hok (fun hcs j u hu => let ⟨v, hv, hrel⟩ := cs_pure hcs hp j u hu; ⟨v, hv, eR.of_pure hrel⟩) hg.1 hc1 hav hc2
          · cases h0
        · cases h0
      · cases h0
    · cases h0
  · split at h
    · cases h
    · rename_i pu'
      unfold srcA at h
      split at h
      · rename_i j vr
        split at h
        · rename_i r hr
          split at h
          · rename_i hp
            split at h
            · rename_i hns
              split at h
              · rename_i hz
                have hz := beq_true hz
                cases h
                obtain ⟨q, he, hq, hok⟩ := row_cur hs hx hr
                subst he
                have hle : (E.arO r.ns).le (E.arO ns) := by
                  refine ⟨fun i b e => (by cases e), fun i q e => (by cases e), fun i r e => (by cases e), fun i bs e => ⟨[], ?_⟩⟩
                  simp only [Env.arO, List.append_nil] at e ⊢
                  split at e
                  · rename_i hm
                    rw [if_pos (allN_get hns (memN_in hm))]; exact e
                  · cases e
                have := src_part (P := P) (t2 := t2) (pu := pu' + 1) (ns := ns) ht hok (fun hcs j u hu => by
                  obtain ⟨v, hv, hrel⟩ := hcs j u hu
                  rw [hp] at hrel
                  have hrel : RelS M (E.arO r.ns) v u := hrel
                  exact ⟨v, hv, show RelS M (E.arO ns) v u from hrel.monoE hle⟩) (off := 0) (n := r.xs.length) (c := q.c) (ad := q.a) (by omega) (by omega) (fun _ => by simp [viewA]) (by have := hok.n; have := hok.nc; omega)
                rw [List.drop_zero, List.take_length] at this
                rw [hok.n, ← hz]
                exact this
              · cases h
            · cases h
          · cases h
        · cases h
      · cases h
end

theorem Sound.appendTo (hτ : TyOk C.P τ) {o : Oper} {an : List An} {c : Call} {x y : Operand} {t t2 : TypeId} (ho : o.op = .call c) (hc : c.callee = .builtin .append) (hargs : c.args.toList = [x, y]) (htys : c.argTypes.toList = [t, t2]) (hd : ∀ d, o.dst = some d → d < C.N)
    {e : TypeId} {ie : TI} {szt bt : Nat} {zt : List AV} {czt : List Nat} (ht : τ t = some ⟨.slice e, szt, bt, zt, czt⟩) (hie : τ e = some ie) (ht2 : (∃ e, C.P.underlying t2 = some (.slice e)) ∨ C.P.underlying t2 = some .string) {i : Nat} {r : Rw} (hrt : r.ty = e) (hrs : r.sz = ie.sz)
    {full : Bool} {n0 : Nat} {x2 : AV} (hy : Has C s y x2) {rd : List Key} (hdeep : r.pu = 0 ∨ full = true)
    (hst : ∀ (a : Act) (w : World) (M : Mem) (E : Env), St C.g C.N M E s a.tmps w → ∃ E1 s1 q, E.up E1 ∧ St C.g C.N M E1 s1 a.tmps w ∧ (∀ r', ({ s with rw := (i, r') :: s.rw } : S) = { s with rw := (i, r') :: s.rw }) ∧ aget s1.rw i = some r ∧ E1.rw i = some q ∧
      a.eval x = .slice q.a (bif full then r.xs.length else n0) q.c ∧ ∀ r' M' E' w', St C.g C.N M' E' { s1 with rw := (i, r') :: s1.rw } a.tmps w' → St C.g C.N M' E' { s with rw := (i, r') :: s.rw } a.tmps w') :
    Sound C o s (Dm.appendTo s an ie.bytes i r full n0 (isU8 τ e) x2 rd) := by
  unfold Dm.appendTo
  split
  · rename_i ys gs ks hsrc
    split
    · rename_i zs an'
      split
      · rename_i hb1
        split
        · rename_i hs1
          intro res hres hg _
          cases hres
          obtain ⟨hzs, hbytes, hg2⟩ := hg
          have hg2 : AllP ((bif full then [] else [n0 ≤ r.xs.length ∧ r.k ≤ n0]) ++ gs) := hg2
          obtain ⟨hg3, hg4⟩ := AllP_append.1 hg2
          refine effDoes rfl hd fun a w M E hs => ?_
          obtain ⟨E1, s1, q, hle, hst1, _, hr1, hq1, hev, hback⟩ := hst a w M E hs
          have hu8 : isU8 τ e = true → r.sz = 1 := fun h => by
            unfold isU8 at h
            split at h
            · rename_i sz2 by2 z2 cz2 h2
              rw [hie] at h2; cases h2
              rw [hrs]; exact (hτ _ _ hie).one rfl
            · cases h
          obtain ⟨news, hsv, hsz2, hrel2⟩ := src_ok (P := C.P) (t2 := t2) hs ht2 hu8 hsrc hg4 (hy a w M E hs)
          obtain ⟨inf, z, hi, hsize, hby, hz, hzz⟩ := (hτ _ _ hie).info
          have hzl : z.cells.size = r.sz := by
            have := congrArg List.length hzz
            simp only [Array.length_toList, List.length_map] at this
            rw [this, (hτ _ _ hie).len, hrs]
          obtain ⟨q', hq', hok⟩ := hst1.rw i r hr1
          rw [hq1] at hq'; cases hq'
          have hzl2 : zs.length = (bif full then r.xs.length else n0) + ys.length := by
            rw [hzs, List.length_append]
            cases full with
            | true => rfl
            | false =>
              have h3 : n0 ≤ r.xs.length ∧ r.k ≤ n0 := hg3.1
              simp only [cond_false, List.length_take]; omega
          have hbytes' : zs.length * ie.bytes ≤ 140737488351232 := hbytes
          have hb1' : 1 ≤ ie.bytes := Nat.le_of_ble_eq_true hb1
          have hzb : zs.length ≤ zs.length * ie.bytes := Nat.le_mul_of_pos_right _ hb1'
          subst hrt
          obtain ⟨v', w', E', hrun, hle', hrel', hst'⟩ := hst1.appendRow (P := C.P) (t := t) (t2 := t2) (ty := o.type) hr1 hq1 (hτ _ _ ht).kind hi hz (by rw [hsize, hrs]) hzl (Nat.le_of_ble_eq_true hs1)
            (n0 := bif full then r.xs.length else n0) (m := ys.length)
            (by cases full with
                | true => exact Nat.le_refl _
                | false => exact hg3.1.1)
            (by cases full with
                | true => exact hok.k
                | false => exact hg3.1.2)
            (by rcases hdeep with h | h
                · exact .inl h
                · subst h; exact .inr rfl)
            (x := a.eval y) (nx := ys) (news := news) hsv rfl hsz2 (fun j u hu => by
              obtain ⟨v, hv, hr⟩ := hrel2 j u hu
              refine ⟨v, hv, ?_⟩
              generalize r.pu = pu at hr
              match pu, hr with
              | 0, hr => exact hr
              | n + 1, hr => exact RelS.monoE (Env.arO_le hle.le r.ns) hr)
            (cm' := bif full then r.cm else r.xs.length) (nl' := bif full then r.nl else false)
            (by cases full with
                | true => exact .inr (Nat.le_refl _)
                | false => exact .inl (Nat.le_refl _))
            (fun h => by cases full with
                | true => exact ⟨h, rfl⟩
                | false => cases h)
            (by unfold maxLen; omega) (by rw [← hzl2, hby]; omega)
          refine ⟨v', w', M, E', ?_, ?_, .cell hrel', Env.up_trans hle hle'⟩
          · refine run_builtin ho hc a.eval w w' ?_
            have e1 : c.args.map a.eval = #[a.eval x, a.eval y] := by
              have : c.args = #[x, y] := by apply Array.ext'; simpa using hargs
              rw [this]; simp
            have e2 : c.argTypes = #[t, t2] := by apply Array.ext'; simpa using htys
            rw [e1, e2]
            rw [← hev] at hrun
            simp [builtin, hrun]
          · have := hback _ M E' w' hst'
            have hzs' : zs = r.xs.take (bif full then r.xs.length else n0) ++ ys := by
              rw [hzs]
              cases full with
              | true => simp
              | false => rfl
            rw [← hzs'] at this
            exact this
        · exact .nil
      · exact .nil
    · exact .nil
  · exact .nil

end Go.Dm
