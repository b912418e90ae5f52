/- '==' on structs, cell by cell. -/
import Derived.Test.YtipeimcdjijkgaaEm10
namespace Go.Dm
open Go Go.RowKit
set_option linter.unnecessarySimpa false
set_option linter.constructorNameAsVariable false
set_option linter.unusedSectionVars false
set_option linter.unusedSimpArgs false
set_option linter.unusedVariables false

variable {C : Cx} {k : List It} {s : S} {τ : TyTab}

/-- two lists of plain cells are the same -/
def cellsEq : List AV → List AV → Prop
  | [], [] => True
  | .int _ a :: l, .int _ b :: r => a = b ∧ cellsEq l r
  | .str a :: l, .str b :: r => a = b ∧ cellsEq l r
  | .bool a :: l, .bool b :: r => a = b ∧ cellsEq l r
  | _, _ => False

theorem eqB_iff : ∀ {l r : List AV} {e : Bool}, eqB l r = some e → (e = true ↔ cellsEq l r)
  | [], [], e, h => by simp only [eqB] at h; cases h; simp [cellsEq]
  | [], _ :: _, e, h => by simp [eqB] at h
  | x :: l, [], e, h => by cases x <;> simp [eqB] at h
  | x :: l, y :: r, e, h => by
    cases x <;> cases y <;> simp only [eqB] at h <;> first | (cases h; done) | skip
    all_goals
      split at h
      · rename_i e' he
        cases h
        simp [cellsEq, eqB_iff he]
      · cases h

theorem shapes_cons {f : TypeId → Option (List Sh)} {o : Nat} {t : TypeId} {off : Nat} {l : List (TypeId × Nat)} {sh : List Sh} (h : shapes f o ((t, off) :: l) = some sh) :
    off = o ∧ ∃ a b, f t = some a ∧ shapes f (o + a.length) l = some b ∧ sh = a ++ b := by
  simp only [shapes] at h
  split at h
  · rename_i ho
    split at h
    · rename_i a ha
      split at h
      · rename_i b hb
        cases h
        exact ⟨beq_true ho, a, b, ha, hb, rfl⟩
      · cases h
    · cases h
  · cases h

theorem AllR.drop {R : Value → AV → Prop} {vs : List Value} {cs : List AV} (h : AllR R vs cs) (o : Nat) : AllR R (vs.drop o) (cs.drop o) :=
  ⟨by simp [h.1], fun j v c hv hc => h.2 (o + j) v c (by simpa using hv) (by simpa using hc)⟩
theorem AllR.take {R : Value → AV → Prop} {vs : List Value} {cs : List AV} (h : AllR R vs cs) (n : Nat) : AllR R (vs.take n) (cs.take n) := by
  refine ⟨by simp [h.1], fun j v c hv hc => ?_⟩
  rw [List.getElem?_take] at hv hc
  split at hv
  · rename_i hj; rw [if_pos hj] at hc; exact h.2 j v c hv hc
  · cases hv

theorem hasSh_len : ∀ {sh : List Sh} {cs : List AV}, hasSh sh cs = true → sh.length = cs.length
  | [], [], _ => rfl
  | [], _ :: _, h => by simp [hasSh] at h
  | x :: sh, [], h => by cases x <;> simp [hasSh] at h
  | x :: sh, y :: cs, h => by
    cases x <;> cases y <;> simp [hasSh] at h
    all_goals first
      | (simp [hasSh_len h.2]; done)
      | (simp [hasSh_len h]; done)

theorem hasSh_app : ∀ {a b : List Sh} {cs : List AV}, hasSh (a ++ b) cs = true → hasSh a (cs.take a.length) = true ∧ hasSh b (cs.drop a.length) = true
  | [], b, cs, h => by simpa [hasSh] using h
  | x :: a, b, [], h => by cases x <;> simp [hasSh] at h
  | x :: a, b, y :: cs, h => by
    cases x <;> cases y <;> simp only [List.cons_append, hasSh, Bool.and_eq_true] at h <;> first | (cases h; done) | skip
    all_goals first
      | (obtain ⟨h1, h2⟩ := h
         simp only [List.length_cons, List.take_succ_cons, List.drop_succ_cons, hasSh, Bool.and_eq_true]
         exact ⟨⟨h1, (hasSh_app h2).1⟩, (hasSh_app h2).2⟩)
      | (simp only [List.length_cons, List.take_succ_cons, List.drop_succ_cons, hasSh]
         exact hasSh_app h)

theorem cellsEq_split : ∀ (n : Nat) {sh : List Sh} {cs ds : List AV}, hasSh sh cs = true → hasSh sh ds = true → (cellsEq cs ds ↔ cellsEq (cs.take n) (ds.take n) ∧ cellsEq (cs.drop n) (ds.drop n))
  | 0, sh, cs, ds, _, _ => by simp [cellsEq]
  | n + 1, [], [], [], _, _ => by simp [cellsEq]
  | n + 1, [], [], _ :: _, _, h => by simp [hasSh] at h
  | n + 1, [], _ :: _, _, h, _ => by simp [hasSh] at h
  | n + 1, z :: sh, [], _, h, _ => by cases z <;> simp [hasSh] at h
  | n + 1, z :: sh, x :: cs, [], _, h => by cases z <;> simp [hasSh] at h
  | n + 1, z :: sh, x :: cs, y :: ds, h, h' => by
    cases z <;> cases x <;> simp only [hasSh, Bool.and_eq_true] at h <;> first | (cases h; done) | skip
    all_goals
      cases y <;> simp only [hasSh, Bool.and_eq_true] at h' <;> first | (cases h'; done) | skip
    all_goals first
      | (simp only [List.take_succ_cons, List.drop_succ_cons, cellsEq, cellsEq_split n h.2 h'.2, and_assoc]; done)
      | (simp only [List.take_succ_cons, List.drop_succ_cons, cellsEq, cellsEq_split n h h', and_assoc]; done)

theorem RelS.int_inv {M : Mem} {E : Env} {v : Value} {k : IntKind} {n : Int} (h : RelS M E v (.int k n)) : v = .int k n := (Rel.cell h).int_inv
theorem RelS.str_inv {M : Mem} {E : Env} {v : Value} {x : List UInt8} (h : RelS M E v (.str x)) : v = .string ⟨x.toArray⟩ := (Rel.cell h).str_inv
theorem RelS.bool_inv {M : Mem} {E : Env} {v : Value} {x : Bool} (h : RelS M E v (.bool x)) : v = .bool x := (Rel.cell h).bool_inv

/-- a variable's value out of its cells -/
def ofCells (i : TI) (vs : List Value) : Value := if i.k.agg then .agg vs.toArray else vs.getD 0 undef

theorem one_of_len {α : Type} {l : List α} (h : l.length = 1) : ∃ x, l = [x] := by
  match l, h with
  | [x], _ => exact ⟨x, rfl⟩

section
variable {P : Program} {t : TypeId} {i : TI}
theorem TyOk1.sizeOf (h : TyOk1 P t i) (w : World) : (sizeOf t).run P w = .ok i.sz w := by
  obtain ⟨inf, z, hi, hs, _⟩ := h.info
  simp [Go.sizeOf, typeInfo, hi, hs]
theorem TyOk1.isAgg (h : TyOk1 P t i) (w : World) : (isAgg t).run P w = .ok i.k.agg w := by
  have hk := h.kind
  unfold Go.isAgg
  cases hkk : i.k with
  | struct fl eq => rw [hkk] at hk; obtain ⟨fs, hu, _⟩ := hk; simp [run_underlying hu, TK.agg]
  | other =>
    rw [hkk] at hk
    obtain ⟨d, hu, hd⟩ := hk
    cases d <;> simp at hd <;> simp [run_underlying hu, TK.agg]
  | func => rw [hkk] at hk; obtain ⟨ps, rs, v, hu⟩ := hk; simp [run_underlying hu, TK.agg]
  | _ => rw [hkk] at hk; simp only [TKOk] at hk; simp [run_underlying hk, TK.agg]
theorem TyOk1.part (h : TyOk1 P t i) (w : World) (vs : List Value) (off : Nat) (hl : off + i.sz ≤ vs.length) :
    (Go.part t vs.toArray off).run P w = .ok (ofCells i ((vs.drop off).take i.sz)) w := by
  unfold Go.part ofCells
  simp only [Sem.run_bind, h.isAgg, Result.andThen_ok]
  cases hk : i.k.agg with
  | true =>
    simp only [if_true, Sem.run_bind, h.sizeOf, Result.andThen_ok, Sem.run_pure]
    congr 2
    simp [List.extract_eq_take_drop, Nat.add_sub_cancel_left]
  | false =>
    have h1 := h.one hk
    have hlt : off < vs.length := by omega
    simp [hlt, List.getD, h1]
end

theorem shape_sz {P : Program} {n : Nat} {t : TypeId} {sh : List Sh} (hτ : TyOk P τ) (h : shapeOf τ n t = some sh) : ∃ i, τ t = some i ∧ i.sz = sh.length := by
  cases n with
  | zero => simp [shapeOf] at h
  | succ n =>
    simp only [shapeOf] at h
    split at h
    · rename_i k sz b z cz hi; cases h; exact ⟨_, hi, (hτ _ _ hi).one rfl⟩
    · rename_i sz b z cz hi; cases h; exact ⟨_, hi, (hτ _ _ hi).one rfl⟩
    · rename_i sz b z cz hi; cases h; exact ⟨_, hi, (hτ _ _ hi).one rfl⟩
    · rename_i fl sz b z cz hi
      split at h
      · split at h
        · rename_i hl; cases h; exact ⟨_, hi, (beq_true hl).symm⟩
        · cases h
      · cases h
    · cases h

theorem equal_run {P : Program} (hτ : TyOk P τ) {M : Mem} {E : Env} (w : World) : ∀ (n : Nat) (t : TypeId) (sh : List Sh) (i : TI), shapeOf τ n t = some sh → τ t = some i → ∀ (d : Nat), n ≤ d →
    ∀ (vs us : List Value) (cs ds : List AV), AllR (RelS M E) vs cs → AllR (RelS M E) us ds → hasSh sh cs = true → hasSh sh ds = true →
      ∃ b, (Op.equalIn d t (ofCells i vs) (ofCells i us)).run P w = .ok b w ∧ (b = true ↔ cellsEq cs ds)
  | 0, t, sh, i, h, _, _, _, _, _, _, _, _, _, _, _ => by simp [shapeOf] at h
  | n + 1, t, sh, i, h, hi, d, hd, vs, us, cs, ds, hv, hu, hc, hc' => by
    obtain ⟨d, rfl⟩ : ∃ d', d = d' + 1 := ⟨d - 1, by omega⟩
    have hkind := (hτ _ _ hi).kind
    have scalar : ∀ {z : Sh}, sh = [z] → ∃ v u c e, vs = [v] ∧ us = [u] ∧ cs = [c] ∧ ds = [e] := by
      rintro z rfl
      obtain ⟨c, rfl⟩ := one_of_len (hasSh_len hc).symm
      obtain ⟨e, rfl⟩ := one_of_len (hasSh_len hc').symm
      obtain ⟨v, rfl⟩ := one_of_len (by rw [hv.1]; rfl : vs.length = 1)
      obtain ⟨u, rfl⟩ := one_of_len (by rw [hu.1]; rfl : us.length = 1)
      exact ⟨v, u, c, e, rfl, rfl, rfl, rfl⟩
    simp only [shapeOf] at h
    rw [hi] at h
    split at h
    · rename_i k sz b z cz hi'
      cases hi'
      cases h
      obtain ⟨v, u, c, e, rfl, rfl, rfl, rfl⟩ := scalar rfl
      cases c <;> simp [hasSh] at hc
      cases e <;> simp [hasSh] at hc'
      have hc := sameKind_eq hc
      have hc' := sameKind_eq hc'
      subst hc; subst hc'
      have h1 := (hv.2 0 v _ rfl rfl).int_inv
      have h2 := (hu.2 0 u _ rfl rfl).int_inv
      subst h1; subst h2
      refine ⟨_, run_equalIn_int w d t _ _ _ _ hkind, ?_⟩
      simp [cellsEq]
    · rename_i sz b z cz hi'
      cases hi'
      cases h
      obtain ⟨v, u, c, e, rfl, rfl, rfl, rfl⟩ := scalar rfl
      cases c <;> simp [hasSh] at hc
      cases e <;> simp [hasSh] at hc'
      have h1 := (hv.2 0 v _ rfl rfl).bool_inv
      have h2 := (hu.2 0 u _ rfl rfl).bool_inv
      subst h1; subst h2
      refine ⟨_, run_equalIn_bool w d t _ _ hkind, ?_⟩
      simp [cellsEq]
    · rename_i sz b z cz hi'
      cases hi'
      cases h
      obtain ⟨v, u, c, e, rfl, rfl, rfl, rfl⟩ := scalar rfl
      cases c <;> simp [hasSh] at hc
      cases e <;> simp [hasSh] at hc'
      have h1 := (hv.2 0 v _ rfl rfl).str_inv
      have h2 := (hu.2 0 u _ rfl rfl).str_inv
      subst h1; subst h2
      refine ⟨_, run_equalIn_string w d t _ _ hkind, ?_⟩
      simp [cellsEq]
    · rename_i fl sz b z cz hi'
      cases hi'
      split at h
      · rename_i sh' hsh
        split at h
        · rename_i hlen
          cases h
          obtain ⟨fs, hun, hfl, heq⟩ := hkind
          obtain ⟨he1, he2, he3⟩ := heq rfl
          have hF : P.fieldsOf t = fs := by simp [Program.fieldsOf, hun]
          have hrun := run_equalIn_struct (P := P) w d t vs.toArray us.toArray (by rw [hF]; exact hun) he1
          rw [hF] at hrun
          show ∃ b, (Op.equalIn (d + 1) t (.agg vs.toArray) (.agg us.toArray)).run P w = .ok b w ∧ _
          rw [hrun]
          have key : ∀ (l : List Field) (o : Nat) (sh2 : List Sh), shapes (shapeOf τ n) o (l.map fun f => (f.type, f.offset)) = some sh2 → l.all (fun f => decide (f.name ≠ "_")) = true →
              o ≤ cs.length → hasSh sh2 (cs.drop o) = true → hasSh sh2 (ds.drop o) = true →
              ∃ b, (Op.eqFields d vs.toArray us.toArray l).run P w = .ok b w ∧ (b = true ↔ cellsEq (cs.drop o) (ds.drop o)) := by
            intro l
            induction l with
            | nil =>
              intro o sh2 h2 _ hol h3 h4
              simp only [List.map_nil, shapes] at h2
              cases h2
              have e1 : cs.drop o = [] := List.eq_nil_of_length_eq_zero (hasSh_len h3).symm
              have e2 : ds.drop o = [] := List.eq_nil_of_length_eq_zero (hasSh_len h4).symm
              refine ⟨true, rfl, ?_⟩
              rw [e1, e2]; simp [cellsEq]
            | cons f l ih =>
              intro o sh2 h2 hn hol h3 h4
              simp only [List.map_cons] at h2
              obtain ⟨ho, a, sh3, ha, h5, rfl⟩ := shapes_cons h2
              simp only [List.all_cons, Bool.and_eq_true, decide_eq_true_eq] at hn
              obtain ⟨fi, hfi, hfsz⟩ := shape_sz hτ ha
              obtain ⟨g1, g2⟩ := hasSh_app h3
              obtain ⟨g3, g4⟩ := hasSh_app h4
              have hlcd : cs.length = ds.length := by rw [← hasSh_len hc, ← hasSh_len hc']
              have hlen1 : o + a.length ≤ cs.length := by have := hasSh_len h3; simp at this; omega
              have hlen2 : o + a.length ≤ ds.length := by have := hasSh_len h4; simp at this; omega
              have p1 := (hτ _ _ hfi).part w vs f.offset (by rw [hfsz, hv.1, ho]; exact hlen1)
              have p2 := (hτ _ _ hfi).part w us f.offset (by rw [hfsz, hu.1, ho]; exact hlen2)
              rw [hfsz, ho] at p1 p2
              obtain ⟨b1, r1, e1⟩ := equal_run hτ w n f.type a fi ha hfi d (by omega) _ _ _ _ ((hv.drop o).take a.length) ((hu.drop o).take a.length) g1 g3
              rw [List.drop_drop] at g2 g4
              obtain ⟨b2, r2, e2⟩ := ih (o + a.length) sh3 h5 hn.2 hlen1 g2 g4
              have hsp := cellsEq_split a.length h3 h4
              rw [List.drop_drop, List.drop_drop] at hsp
              simp only [Op.eqFields, if_pos hn.1, Sem.run_bind, ho, p1, p2, r1, Result.andThen_ok]
              cases b1 with
              | false =>
                refine ⟨false, rfl, ?_⟩
                rw [hsp, ← e1]; simp
              | true =>
                refine ⟨b2, ?_, ?_⟩
                · simpa using r2
                · rw [hsp, ← e1, ← e2]; simp
          obtain ⟨b, hb1, hb2⟩ := key fs.toList 0 sh (by rw [hfl]; exact hsh) he3 (Nat.zero_le _) (by simpa using hc) (by simpa using hc')
          exact ⟨b, hb1, by simpa using hb2⟩
        · cases h
      · cases h
    · cases h

theorem Sound.agg (hτ : TyOk C.P τ) {o : Oper} {an : List An} {op : BinOp} {t t' : TypeId} {x y : Operand} (ho : o.op = .binOp op t x y t') (hd : ∀ d, o.dst = some d → d < C.N)
    {cs ds : List AV} (hx : ∀ (a : Act) w M E, St C.g C.N M E s a.tmps w → Rel M E (a.eval x) (.agg cs)) (hy : ∀ (a : Act) w M E, St C.g C.N M E s a.tmps w → Rel M E (a.eval y) (.agg ds)) : Sound C o s (evalAgg τ an t cs ds op) := by
  unfold evalAgg
  split
  · rename_i fl eq sz b z cz hi
    split
    · rename_i sh hsh
      split
      · rename_i hh1
        split
        · rename_i hh2
          split
          · rename_i e he
            have hk : (⟨.struct fl eq, sz, b, z, cz⟩ : TI).k.agg = true := rfl
            have hsd : C.P.eqGuardType C.P.depth t = false := by
              simp only [shapeOf] at hsh
              rw [hi] at hsh
              split at hsh <;> first | (cases hsh; done) | skip
              · rename_i hi'; cases hi'
              · rename_i hi'; cases hi'
              · rename_i hi'; cases hi'
              · rename_i fl sz b z cz hi'
                cases hi'
                obtain ⟨fs, hun, hfl, heq⟩ := (hτ _ _ hi).kind
                exact (heq rfl).2.1
            have main : ∀ (a : Act) (w : World) (M : Mem) (E : Env), St C.g C.N M E s a.tmps w → ∀ (neg : Bool), op = (if neg then .neq else .eql) →
                (execOp a.eval o).run C.P w = .ok (.value (.bool (if neg then !e else e))) w := by
              intro a w M E hs neg hop
              obtain ⟨vs, hev, hv⟩ := (hx a w M E hs).agg_inv
              obtain ⟨us, hev', hu⟩ := (hy a w M E hs).agg_inv
              obtain ⟨b', hb, hbe⟩ := equal_run hτ (M := M) (E := E) w 5 t sh _ hsh hi 10000 (by omega) vs us cs ds hv hu hh1 hh2
              have hbe' : b' = e := by rw [Bool.eq_iff_iff, hbe, eqB_iff he]
              subst hbe'
              simp only [ofCells, hk, if_true] at hb
              have hg : ∀ op', (eqGuard op' t x y (.agg vs.toArray) (.agg us.toArray)).run C.P w = .ok () w := by
                intro op'
                unfold eqGuard
                cases op' <;> simp [hsd]
              cases neg with
              | false =>
                subst hop
                refine run_bin ho a.eval w (fun v v' e e' => ?_) ?_
                · rw [← e, ← e', hev, hev']; exact hg _
                · rw [hev, hev']
                  simp only [binOp, Sem.run_bind, Op.equal, Op.maxDepth, hb, Result.andThen_ok, Sem.run_pure, Bool.false_eq_true, if_false]
              | true =>
                subst hop
                refine run_bin ho a.eval w (fun v v' e e' => ?_) ?_
                · rw [← e, ← e', hev, hev']; exact hg _
                · rw [hev, hev']
                  simp only [binOp, Sem.run_bind, Op.equal, Op.maxDepth, hb, Result.andThen_ok, Sem.run_pure, if_true]
            split
            · exact .retV hd fun a w M E hs => ⟨_, main a w M E hs false rfl, .cell (.pure (.bool _))⟩
            · exact .retV hd fun a w M E hs => ⟨_, main a w M E hs true rfl, .cell (.pure (.bool _))⟩
            · exact .nil
          · exact .nil
        · exact .nil
      · exact .nil
    · exact .nil
  · exact .nil

end Go.Dm
