/- The evaluator is sound: the last operations; all of them. -/
import Derived.Test.YtipeimcdjijkgaaEm13
import Derived.MapKept
namespace Go.Dm
open Go Go.RowKit
set_option linter.unnecessarySimpa false
set_option linter.constructorNameAsVariable false
set_option linter.unusedSectionVars false
set_option linter.unusedSimpArgs false
set_option linter.unusedVariables false

variable {C : Cx} {k : List It} {s : S} {τ : TyTab}

theorem curRow_get {s : S} {i v : Nat} {r : Rw} (h : curRow s i v = some r) : aget s.rw i = some r ∧ v = r.ver := by
  unfold curRow at h
  split at h
  · rename_i r' hr
    split at h
    · rename_i hv; cases h; exact ⟨hr, beq_true hv⟩
    · cases h
  · cases h
section
variable {g : Gh} {N : Nat} {M : Mem} {E : Env} {tmps : Array Value} {w : World} {v : Value}
theorem row_cur (hs : St g N M E s tmps w) {i vr : Nat} {r : Rw} (hx : Rel M E v (.row i vr)) (hr : curRow s i vr = some r) : ∃ q, v = .slice q.a q.n q.c ∧ E.rw i = some q ∧ RwOk M E w i q r := by
  obtain ⟨h1, h2⟩ := curRow_get hr
  obtain ⟨n, c, a, q, rfl, hq, hle, h⟩ := hx.row_inv
  obtain ⟨q', hq', hok⟩ := hs.rw i r h1
  rw [hq] at hq'; cases hq'
  obtain ⟨rfl, rfl, rfl⟩ := h (by rw [hok.ver]; exact h2)
  exact ⟨q, rfl, hq, hok⟩
theorem rowv_cur (hs : St g N M E s tmps w) {i vr off m : Nat} {r : Rw} (hx : Rel M E v (.rowv i vr off m)) (hr : curRow s i vr = some r) :
    ∃ q c a, v = .slice a m c ∧ E.rw i = some q ∧ RwOk M E w i q r ∧ off + c = q.c ∧ m ≤ c ∧ (off = 0 → a = q.a) ∧ (c ≠ 0 → a = viewA q off) := by
  obtain ⟨h1, h2⟩ := curRow_get hr
  obtain ⟨n, c, a, q, rfl, hq, hle, h⟩ := hx.rowv_inv
  obtain ⟨q', hq', hok⟩ := hs.rw i r h1
  rw [hq] at hq'; cases hq'
  obtain ⟨rfl, hz, ha, h3, h4⟩ := h (by rw [hok.ver]; exact h2)
  exact ⟨q, c, a, rfl, hq, hok, h3, h4, hz, ha⟩
theorem ep_cur (hs : St g N M E s tmps w) {i vr k o : Nat} {r : Rw} (hx : Rel M E v (.ep i vr k o)) (hr : curRow s i vr = some r) :
    ∃ q blk, v = .pointer (some ⟨blk, k * r.sz + o, none⟩) ∧ q.a = some ⟨blk, 0, none⟩ ∧ E.rw i = some q ∧ RwOk M E w i q r := by
  obtain ⟨h1, h2⟩ := curRow_get hr
  obtain ⟨ad, q, rfl, hq, hle, h⟩ := hx.ep_inv
  obtain ⟨q', hq', hok⟩ := hs.rw i r h1
  rw [hq] at hq'; cases hq'
  obtain ⟨blk, h3, h4⟩ := h (by rw [hok.ver]; exact h2)
  exact ⟨q, blk, by rw [h4, hok.sz], h3, hq, hok⟩
/-- where a part of a row begins -/
theorem viewA_at {q : RwE} {blk off c : Nat} (ha : q.a = some ⟨blk, 0, none⟩) (h : off + c = q.c) (hc : c ≠ 0) : viewA q off = some ⟨blk, off * q.sz, none⟩ := by
  unfold viewA
  split
  · rename_i e; rw [ha, e, Nat.zero_mul]
  · rw [ha]
    simp [addr_add]
end

theorem allTy_get : ∀ {l : List (TypeId × Nat)} {p : TypeId × Nat}, allTy τ l = true → p ∈ l → ∃ i, τ p.1 = some i
  | q :: l, p, h, hp => by
    simp only [allTy] at h
    split at h
    · rename_i i hi
      rcases List.mem_cons.1 hp with rfl | hp
      · exact ⟨i, hi⟩
      · exact allTy_get h hp
    · cases h

theorem Sound.build (hτ : TyOk C.P τ) {o : Oper} {t : TypeId} {an : List An} {parts : Array (Nat × Operand)} (ho : o.op = .build t parts) (hd : ∀ d, o.dst = some d → d < C.N) (hw : ∀ p ∈ parts.toList, Done s p.2) :
    Sound C o s (evalBuild τ s an t parts.toList) := by
  unfold evalBuild
  split
  · rename_i fl eq sz by' z cz hti
    split
    · rename_i hall
      split
      · rename_i cs hcs
        refine .retV hd fun a w M E hs => ?_
        obtain ⟨inf, zv, hi, _, _, hz, hzz⟩ := (hτ _ _ hti).info
        obtain ⟨fs, hu, hfl, _⟩ := (hτ _ _ hti).kind
        let g : Field → Nat × Nat := fun f => (f.offset, ((τ f.type).map (·.sz)).getD 0)
        have hm : (fs.mapM fun f => (do pure (f.offset, ← sizeOf f.type) : Sem (Nat × Nat))).run C.P w = .ok (fs.map g) w := by
          refine run_mapM _ g w fs fun f hf => ?_
          obtain ⟨i, hi⟩ := allTy_get hall (p := (f.type, f.offset)) (by rw [← hfl]; exact List.mem_map.2 ⟨f, hf, rfl⟩)
          simp [(hτ _ _ hi).sizeOf, g, hi]
        obtain ⟨us, h1, h2⟩ := fill_sound hτ hu hs parts.toList z cs (z.map AV.zv) hcs hw (zero_rel (hτ _ _ hti).lit) (fs.map g) (fun f fd i hf hti' => by
          simp [hf, g, hti'])
        refine ⟨.agg us.toArray, ?_, .agg us cs h2.1 h2.2⟩
        have hzv : zv.cells = (z.map AV.zv).toArray := by rw [← hzz]
        have hp : (parts.map fun (i, x) => (i, a.eval x)).toList = parts.toList.map fun p => (p.1, a.eval p.2) := by simp
        simp only [execOp, ho, Instr.build, Sem.run_bind, zeroValue, typeInfo, run_program, hi, hz, Sem.run_pure, Result.andThen_ok, run_underlying hu, hm, hzv, hp, h1]
      · exact .nil
    · exact .nil
  · exact .nil

theorem run_builtin {P : Program} {o : Oper} {c : Call} {b : Builtin} (ho : o.op = .call c) (hc : c.callee = .builtin b) (ρ : Operand → Value) (w w' : World) {n : Next}
    (h : (builtin b c.argTypes o.type (c.args.map fun | .const _ => true | _ => false) (c.args.map ρ)).run P w = .ok n w') : (execOp ρ o).run P w = .ok n w' := by
  simp only [execOp, ho, resolve, hc, invoke, Sem.run_bind, Sem.run_pure, Result.andThen_ok]
  exact h

theorem toList_one {α : Type} {a : Array α} {x : α} (h : a.toList = [x]) : a = #[x] := by
  cases a; simp at h; simp [h]

theorem Sound.len (hτ : TyOk C.P τ) {o : Oper} {an : List An} {x : Operand} {t : TypeId} {c : Call} (ho : o.op = .call c) (hc : c.callee = .builtin .len) (hx : c.args.toList = [x]) (hty : c.argTypes.toList = [t]) {i : TI} (hti : τ t = some i)
    (hd : ∀ d, o.dst = some d → d < C.N) {u : AV} (hv : Has C s x u) : Sound C o s (evalLen s an i.k u) := by
  have ha := toList_one hx
  have hb := toList_one hty
  have hk := (hτ _ _ hti).kind
  have run : ∀ (a : Act) (w : World) (n : Nat), (Builtin.len_ #[t] o.type #[a.eval x]).run C.P w = .ok (goInt n) w → (execOp a.eval o).run C.P w = .ok (.value (.int .i64 n)) w := by
    intro a w n hr
    refine run_builtin ho hc a.eval w w ?_
    rw [ha, hb]
    simp only [builtin, List.map_toArray, List.map_cons, List.map_nil, Sem.run_bind, hr, Result.andThen_ok, Sem.run_pure]
    rfl
  unfold evalLen
  split
  · rename_i e sz xs he
    split
    · rename_i n an'
      refine .retG hd fun hg a w M E hs => ?_
      obtain ⟨_, ad, cp, hval, _⟩ := (hv a w M E hs).sl_inv
      rw [he] at hk
      rw [hg.1]
      exact ⟨_, run a w _ (by rw [hval]; simp [Builtin.len_, run_underlying hk]), .cell (.pure (.int _ _))⟩
    · exact .nil
  · rename_i e he
    refine .retV hd fun a w M E hs => ?_
    have hval := (hv a w M E hs).nils_inv
    rw [he] at hk
    exact ⟨_, run a w 0 (by rw [hval]; simp [Builtin.len_, run_underlying hk]), .cell (.pure (.int _ _))⟩
  · rename_i y he
    refine .retV hd fun a w M E hs => ?_
    have hval := (hv a w M E hs).str_inv
    rw [he] at hk
    exact ⟨_, run a w _ (by rw [hval]; simp [Builtin.len_, run_underlying hk]; rfl), .cell (.pure (.int _ _))⟩
  · rename_i e j vr he
    split
    · rename_i r hr
      split
      · rename_i n an'
        intro res hres hg _
        cases hres
        refine pureDoes hd fun a w M E hs => ?_
        obtain ⟨q, hval, hq, hok⟩ := row_cur hs (hv a w M E hs) hr
        rw [he] at hk
        refine ⟨_, run a w _ (by rw [hval]; simp [Builtin.len_, run_underlying hk]; rfl), ?_⟩
        have h3 : n = (r.xs.length : Int) := hg.1
        rw [hok.n, h3]
        exact .cell (.pure (.int _ _))
      · exact .nil
    · exact .nil
  · rename_i e j vr off n he
    split
    · rename_i r hr
      intro res hres hg _
      cases hres
      refine pureDoes hd fun a w M E hs => ?_
      obtain ⟨q, c, ad, hval, hq, hok, _, _⟩ := rowv_cur hs (hv a w M E hs) hr
      rw [he] at hk
      exact ⟨_, run a w _ (by rw [hval]; simp [Builtin.len_, run_underlying hk]), .cell (.pure (.int _ _))⟩
    · exact .nil
  · rename_i kt et j he
    split
    · rename_i es hes
      split
      · rename_i n an'
        intro res hres hg _
        cases hres
        refine pureDoes hd fun a w M E hs => ?_
        obtain ⟨r, hr, hval⟩ := (hv a w M E hs).mp_inv
        obtain ⟨r', hr', _, ents, clk, hh, hsz, _⟩ := hs.mp j es hes
        rw [hr] at hr'; cases hr'
        rw [he] at hk
        refine ⟨_, run a w _ (by rw [hval]; simp [Builtin.len_, run_underlying hk, Go.MapKept.run_getObj_map hh]; rfl), ?_⟩
        have h3 : n = (es.length : Int) := hg.1
        rw [hsz, h3]
        exact .cell (.pure (.int _ _))
      · exact .nil
    · exact .nil
  · exact .nil


theorem Sound.cap (hτ : TyOk C.P τ) {o : Oper} {an : List An} {x : Operand} {t : TypeId} {c : Call} (ho : o.op = .call c) (hc : c.callee = .builtin .cap) (hx : c.args.toList = [x]) (hty : c.argTypes.toList = [t]) {i : TI} (hti : τ t = some i)
    (hd : ∀ d, o.dst = some d → d < C.N) {u : AV} (hv : Has C s x u) : Sound C o s (evalCap an i.k u) := by
  have ha := toList_one hx
  have hb := toList_one hty
  have hk := (hτ _ _ hti).kind
  have run : ∀ (a : Act) (w : World) (n : Nat), (Builtin.cap_ #[t] o.type #[a.eval x]).run C.P w = .ok (goInt n) w → (execOp a.eval o).run C.P w = .ok (.value (.int .i64 n)) w := by
    intro a w n hr
    refine run_builtin ho hc a.eval w w ?_
    rw [ha, hb]
    simp only [builtin, List.map_toArray, List.map_cons, List.map_nil, Sem.run_bind, hr, Result.andThen_ok, Sem.run_pure]
    rfl
  unfold evalCap
  split
  · rename_i e he
    refine .retV hd fun a w M E hs => ?_
    have hval := (hv a w M E hs).nils_inv
    rw [he] at hk
    exact ⟨_, run a w 0 (by rw [hval]; simp [Builtin.cap_, run_underlying hk]), .cell (.pure (.int _ _))⟩
  · exact .nil

theorem Sound.minmax {o : Oper} {an : List An} {c : Call} (ho : o.op = .call c) (mx : Bool) (hc : c.callee = .builtin (if mx then .max else .min)) (hd : ∀ d, o.dst = some d → d < C.N)
    {vs : List AV} (hv : vals s c.args.toList = some vs) (hw : ∀ x ∈ c.args.toList, Done s x) : Sound C o s (evalMinMax mx an vs) := by
  unfold evalMinMax
  split
  · rename_i k a k' b
    split
    · rename_i hk
      have hk := sameKind_eq hk
      subst hk
      split
      · exact .nil
      · refine .retV hd fun x w M E hs => ?_
        obtain ⟨h1, h2⟩ := vals_rel hv hw hs
        simp only [List.length_map, List.length_cons, List.length_nil] at h1
        have hl : c.args.toList.length = 2 := h1
        match hcl : c.args.toList, hl with
        | [p, q], _ =>
          rw [hcl] at h2
          have e1 := (h2 0 _ _ rfl rfl).int_inv
          have e2 := (h2 1 _ _ rfl rfl).int_inv
          have ea : c.args = #[p, q] := by
            cases hca : c.args; rw [hca] at hcl; simp at hcl; simp [hcl]
          cases mx with
          | true =>
            refine ⟨_, run_builtin (b := .max) ho (by simpa using hc) x.eval w w (n := .value (.int k (max a b))) ?_, .cell (.pure (.int _ _))⟩
            rw [ea]
            simp only [builtin, List.map_toArray, List.map_cons, List.map_nil, e1, e2, Builtin.max_]
            simp [Builtin.max2]
            omega
          | false =>
            refine ⟨_, run_builtin (b := .min) ho (by simpa using hc) x.eval w w (n := .value (.int k (min a b))) ?_, .cell (.pure (.int _ _))⟩
            rw [ea]
            simp only [builtin, List.map_toArray, List.map_cons, List.map_nil, e1, e2, Builtin.min_]
            simp [Builtin.min2]
            omega
    · exact .nil
  · exact .nil

theorem elemSz_sound {P : Program} (hτ : TyOk P τ) {t : TypeId} {sz : Nat} (h : elemSz τ t = some sz) : ∃ e, P.underlying t = some (.slice e) ∧ ∀ w, (sizeOf e).run P w = .ok sz w := by
  unfold elemSz at h
  split at h
  · rename_i e sz' b z cz ht
    split at h
    · rename_i i hi
      cases h
      exact ⟨e, (hτ _ _ ht).kind, fun w => (hτ _ _ hi).sizeOf w⟩
    · cases h
  · cases h

theorem Sound.indexAddr (hτ : TyOk C.P τ) {o : Oper} {an : List An} {t : TypeId} {x ix : Operand} (ho : o.op = .indexAddr t x ix) (hd : ∀ d, o.dst = some d → d < C.N) {u v : AV} (hx : Has C s x u) (hi : Has C s ix v) :
    Sound C o s (evalIndexAddr τ s an t u v) := by
  unfold evalIndexAddr
  split
  · rename_i sz xs kk n
    split
    · rename_i z hz
      split
      · rename_i hsz
        have hsz := beq_true hsz
        subst hsz
        split
        · rename_i y an'
          refine .retG hd fun hg a w M E hs => ?_
          obtain ⟨h0, hu⟩ := hg.1
          obtain ⟨hP, _⟩ := (hx a w M E hs).sl_inv
          obtain ⟨blk, off, c, he, hlt, huz, hr⟩ := hP.sl_at hu
          have hi' := (hi a w M E hs).int_inv
          obtain ⟨e, hun, hse⟩ := elemSz_sound hτ hz
          refine ⟨_, ?_, .cell (.pure hr)⟩
          have h1 : n < (xs.length : Int) := by omega
          simp only [execOp, ho, Instr.indexAt, he, hi', asIntOf, Sem.run_bind, Sem.run_pure, Result.andThen_ok, run_underlying hun]
          simp [h1, h0, hse, addr_add]
        · exact .nil
      · exact .nil
    · exact .nil
  · rename_i i vr kk n
    split
    · rename_i z hz
      split
      · rename_i r hr
        split
        · rename_i hsz
          have hsz := beq_true hsz
          intro res hres hg _
          cases hres
          refine pureDoes hd fun a w M E hs => ?_
          have hg' : 0 ≤ n ∧ n.toNat < r.xs.length := hg.1
          obtain ⟨q, hval, hq, hok⟩ := row_cur hs (hx a w M E hs) hr
          have hi' := (hi a w M E hs).int_inv
          obtain ⟨e, hun, hse⟩ := elemSz_sound hτ hz
          have h1 := hok.n
          have h2 := hok.nc
          rcases hok.blk with h6 | ⟨blk, vs, g1, g2, g3, g4, g5⟩
          · omega
          · refine ⟨.pointer (some ⟨blk, n.toNat * z, none⟩), ?_, .cell (.ep _ _ _ _ _ q hq ?_ fun _ => ⟨blk, g1, by rw [hok.sz, hsz]; simp⟩)⟩
            · have h7 : n < (q.n : Int) := by omega
              rw [g1] at hval
              simp only [execOp, ho, Instr.indexAt, hval, hi', asIntOf, Sem.run_bind, Sem.run_pure, Result.andThen_ok, run_underlying hun]
              simp [h7, hg'.1, hse, addr_add]
            · rw [hok.ver, (curRow_get hr).2]; exact Nat.le_refl _
        · exact .nil
      · exact .nil
    · exact .nil
  · rename_i i vr off m kk n
    split
    · rename_i z hz
      split
      · rename_i r hr
        split
        · rename_i hsz
          have hsz := beq_true hsz
          intro res hres hg _
          cases hres
          refine pureDoes hd fun a w M E hs => ?_
          have hg' : 0 ≤ n ∧ n.toNat < m := hg.1
          obtain ⟨q, c, ad, hval, hq, hok, hc1, hc2, _, hav⟩ := rowv_cur hs (hx a w M E hs) hr
          have hi' := (hi a w M E hs).int_inv
          obtain ⟨e, hun, hse⟩ := elemSz_sound hτ hz
          rcases hok.blk with h6 | ⟨blk, vs, g1, g2, g3, g4, g5⟩
          · omega
          · refine ⟨.pointer (some ⟨blk, (off + n.toNat) * z, none⟩), ?_, .cell (.ep _ _ _ _ _ q hq ?_ fun _ => ⟨blk, g1, by rw [hok.sz, hsz]; simp⟩)⟩
            · have h7 : n < (m : Int) := by omega
              rw [hav (by omega), viewA_at g1 hc1 (by omega)] at hval
              simp only [execOp, ho, Instr.indexAt, hval, hi', asIntOf, Sem.run_bind, Sem.run_pure, Result.andThen_ok, run_underlying hun]
              simp [h7, hg'.1, hse, addr_add, hok.sz, hsz, Nat.add_mul]
            · rw [hok.ver, (curRow_get hr).2]; exact Nat.le_refl _
        · exact .nil
      · exact .nil
    · exact .nil
  · exact .nil

theorem Sound.index (hτ : TyOk C.P τ) {o : Oper} {an : List An} {t : TypeId} {x ix : Operand} (ho : o.op = .index t x ix) (hd : ∀ d, o.dst = some d → d < C.N) {u v : AV} (hx : Has C s x u) (hi : Has C s ix v) :
    Sound C o s (evalIndex τ an t u v) := by
  unfold evalIndex
  split
  · rename_i bs kk n
    split
    · rename_i ti sz by' z cz hti
      split
      · rename_i b an'
        refine .retG hd fun hg a w M E hs => ?_
        obtain ⟨h0, hu⟩ := hg.1
        have he := (hx a w M E hs).str_inv
        have hi' := (hi a w M E hs).int_inv
        have ht : C.P.underlying t = some .string := (hτ _ _ hti).kind
        refine ⟨_, ?_, .cell (.pure (.int _ _))⟩
        have hlt := (List.getElem?_eq_some_iff.1 hu).1
        have hg : (ByteArray.mk bs.toArray)[n.toNat]? = some b := by
          have h1 : n.toNat < (ByteArray.mk bs.toArray).size := by simpa [ByteArray.size] using hlt
          rw [ByteArray.getElem?_lt' _ _ h1]
          congr 1
          have := (List.getElem?_eq_some_iff.1 hu).2
          show bs.toArray[n.toNat] = b
          simpa using this
        simp only [execOp, ho, Instr.index, he, hi', asIntOf, Sem.run_bind, Sem.run_pure, Result.andThen_ok, run_underlying ht]
        simp [h0, hg]
      · exact .nil
    · exact .nil
  · exact .nil

end Go.Dm
