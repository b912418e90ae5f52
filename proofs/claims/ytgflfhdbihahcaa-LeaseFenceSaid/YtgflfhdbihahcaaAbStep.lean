/- The evaluator is sound. -/
import Derived.Test.YtgflfhdbihahcaaAbMem
namespace Go.Ab
open Go Go.RowKit
set_option linter.unusedSimpArgs false
set_option linter.unusedVariables false

variable {C : Cx} {k : List It} {s : S} {τ : TyTab}

theorem Sound.fieldAddr (hτ : TyOk C.P τ) {o : Oper} {t : TypeId} {x : Operand} {f : Nat} (ho : o.op = .fieldAddr t x f) (hd : ∀ d, o.dst = some d → d < C.N) {u : AV} (hx : val s x = some u) :
    Sound C o s (evalFieldAddr τ o.dst s t f u) := by
  have run : ∀ (a : Act) (w : World) (v : Value), (Instr.fieldAt t (a.eval x) f).run C.P w = .ok v w → (execOp a.eval o).run C.P w = .ok (.value v) w := by
    intro a w v hr
    simp [execOp, ho, hr]
  unfold evalFieldAddr
  split
  · split
    · rename_i i off hf
      refine .ret1 hd fun v hv a w M E hs => ?_
      cases hv
      obtain ⟨b, hb, he⟩ := (val_rel hs hx).ptr_inv
      refine ⟨_, run a w _ (by rw [he]; exact run_fieldAt hτ hf _ w), ?_⟩
      rw [addr_add]
      exact .cell (.ptr _ _ _ hb)
    · exact .stop
  · split
    · rename_i i off hf
      refine .ret1 hd fun v hv a w M E hs => ?_
      cases hv
      obtain ⟨hr, ad, he⟩ := (val_rel hs hx).ep_inv
      refine ⟨_, run a w _ (by rw [he]; exact run_fieldAt hτ hf _ w), ?_⟩
      rw [he] at hr
      cases hr with
      | pure h => cases h
      | ep i st k off' ad q h hs' hv' =>
        refine .cell (.ep _ _ _ _ _ q h hs' fun e => ?_)
        obtain ⟨blk, h1, h2⟩ := hv' e
        refine ⟨blk, h1, ?_⟩
        rw [h2, addr_add, Nat.add_assoc]
    · exact .stop
  · rename_i cs
    split
    · rename_i i off hf
      refine .ret1 hd fun v hv a w M E hs => ?_
      rw [Option.map_eq_some_iff] at hv
      obtain ⟨y, hp, rfl⟩ := hv
      obtain ⟨blk, bo, he, g, hM, hP⟩ := (val_rel hs hx).rp_inv
      refine ⟨_, run a w _ (by rw [he]; exact run_fieldAt hτ hf _ w), ?_⟩
      obtain ⟨fs, fd, hu, hfd, hoff, hti, hz⟩ := fld_sound hτ hf
      have hall : AllR (RelP M) ((List.range cs.length).map g) cs := by
        refine ⟨by simp, fun j v c hv hc => ?_⟩
        have hj := (List.getElem?_eq_some_iff.1 hc).1
        simp [hj] at hv
        subst hv
        exact hP j c (by simpa [AV.cells] using hc)
      have hallS : AllR (RelS M E) ((List.range cs.length).map g) cs := ⟨hall.1, fun j v c hv hc => .pure (hall.2 j v c hv hc)⟩
      obtain ⟨h1, h2, h3⟩ := part_rel (hτ _ _ hti) hallS hp (.inl hz)
      have h4 := h3 _ hall
      rw [addr_add]
      have hlen : y.cells.length = i.sz := by
        have := h4.1
        simp at this h1
        omega
      refine .cell (.pure (.rp blk (bo + off) y (fun j => g (off + j)) (fun j hj => ?_) (fun j u hu => ?_)))
      · have := hM (off + j) (by simp [AV.cells] at h1 ⊢; omega)
        rw [← this]
        congr 1
        omega
      · have hj := (List.getElem?_eq_some_iff.1 hu).1
        refine h4.2 j _ u ?_ hu
        simp at h1
        rw [List.getElem?_take, if_pos (by omega), List.getElem?_drop, List.getElem?_map, List.getElem?_range (by omega)]
        rfl
    · exact .stop
  · exact .stop

theorem Sound.field (hτ : TyOk C.P τ) {o : Oper} {t : TypeId} {x : Operand} {f : Nat} (ho : o.op = .field t x f) (hd : ∀ d, o.dst = some d → d < C.N) {u : AV} (hx : val s x = some u) :
    Sound C o s (evalField τ o.dst s t f u) := by
  unfold evalField
  split
  · rename_i cs
    split
    · rename_i i off hf
      refine .ret1 hd fun v hv a w M E hs => ?_
      obtain ⟨vs, he, hall⟩ := (val_rel hs hx).agg_inv
      obtain ⟨fs, fd, hu, hfd, hoff, hti, hz⟩ := fld_sound hτ hf
      obtain ⟨h1, h2, _⟩ := part_rel (hτ _ _ hti) (⟨hall.1, hall.2⟩ : AllR (RelS M E) vs cs) hv (.inl hz)
      refine ⟨_, ?_, h2⟩
      have hp := (hτ _ _ hti).part' w vs off (by omega)
      simp [execOp, ho, he, Instr.field, run_underlying hu, hfd, asAgg, hoff, hp]
    · exact .stop
  · exact .stop

theorem Sound.extract {o : Oper} {x : Operand} {i : Nat} (ho : o.op = .extract x i) (hd : ∀ d, o.dst = some d → d < C.N) {u : AV} (hx : val s x = some u) :
    Sound C o s (evalExtract o.dst s i u) := by
  unfold evalExtract
  split
  · refine .ret1 hd fun v hv a w M E hs => ?_
    rw [nth_eq] at hv
    obtain ⟨vs, he, hl, hall⟩ := (val_rel hs hx).tup_inv
    have hj := (List.getElem?_eq_some_iff.1 hv).1
    have hj' : i < vs.length := by omega
    refine ⟨vs[i], ?_, hall i _ _ (List.getElem?_eq_getElem hj') hv⟩
    simp [execOp, ho, he, Instr.extract, hj']
  · exact .stop

theorem Sound.pick {o : Oper} {c x y : Operand} (ho : o.op = .pick c x y) (hd : ∀ d, o.dst = some d → d < C.N) {u : AV} (hc : val s c = some u) :
    Sound C o s (evalPick o.dst s (val s x) (val s y) u) := by
  unfold evalPick
  split
  · refine .ret1 hd fun v hv a w M E hs => ⟨_, ?_, val_rel hs hv⟩
    have := (val_rel hs hc).bool_inv
    simp [execOp, ho, this, asBool]
  · refine .ret1 hd fun v hv a w M E hs => ⟨_, ?_, val_rel hs hv⟩
    have := (val_rel hs hc).bool_inv
    simp [execOp, ho, this, asBool]
  · exact .stop

theorem Sound.nilCheck {o : Oper} {x : Operand} (ho : o.op = .nilCheck x) (hd : ∀ d, o.dst = some d → d < C.N) {u : AV} (hx : val s x = some u) :
    Sound C o s (evalNilCheck o.dst s u) := by
  have run : ∀ (a : Act) (w : World) (ad : Addr), a.eval x = .pointer (some ad) → (execOp a.eval o).run C.P w = .ok (.value (a.eval x)) w := by
    intro a w ad he
    simp [execOp, ho, he]
  unfold evalNilCheck
  split
  · refine .ret1 hd fun v hv a w M E hs => ?_
    cases hv
    obtain ⟨b, hb, he⟩ := (val_rel hs hx).ptr_inv
    exact ⟨_, run a w _ he, val_rel hs hx⟩
  · refine .ret1 hd fun v hv a w M E hs => ?_
    cases hv
    obtain ⟨blk, off, he, _⟩ := (val_rel hs hx).rp_inv
    exact ⟨_, run a w _ he, val_rel hs hx⟩
  · refine .ret1 hd fun v hv a w M E hs => ?_
    cases hv
    obtain ⟨_, ad, he⟩ := (val_rel hs hx).ep_inv
    exact ⟨_, run a w _ he, val_rel hs hx⟩
  · exact .stop

theorem Sound.un {o : Oper} {op : UnOp} {t : TypeId} {x : Operand} (ho : o.op = .unOp op t x) (hd : ∀ d, o.dst = some d → d < C.N) :
    Sound C o s (evalUn o.dst s (val s x) op) := by
  have run : ∀ (a : Act) (w : World) (v : Value), (Op.unary op (a.eval x)).run C.P w = .ok v w → (execOp a.eval o).run C.P w = .ok (.value v) w := by
    intro a w v hr
    simp [execOp, ho, hr]
  cases op <;> simp only [evalUn]
  all_goals first | exact .stop | skip
  all_goals split
  all_goals first | exact .stop | skip
  · rename_i k n hx
    refine .ret1 hd fun v hv a w M E hs => ?_
    cases hv
    have := (val_rel hs hx).int_inv
    exact ⟨_, run a w _ (by rw [this]; simp [Op.unary, Op.intArith]), .cell (.pure (.int _ _))⟩
  · rename_i k n hx
    refine .ret1 hd fun v hv a w M E hs => ?_
    cases hv
    have := (val_rel hs hx).int_inv
    exact ⟨_, run a w _ (by rw [this]; simp [Op.unary, Op.intBits, bitsOp]), .cell (.pure (.int _ _))⟩
  · rename_i v hx
    unfold evalNot
    split
    · refine .ret1 hd fun v hv a w M E hs => ?_
      cases hv
      have := (val_rel hs hx).bool_inv
      exact ⟨_, run a w _ (by rw [this]; simp [Op.unary]), .cell (.pure (.bool _))⟩
    · exact .stop

theorem Sound.conv (hτ : TyOk C.P τ) {o : Oper} {src dst : TypeId} {x : Operand} (ho : o.op = .convert src dst x) (hd : ∀ d, o.dst = some d → d < C.N) (hsrc : ∃ i, τ src = some i) {u : AV} (hx : val s x = some u) :
    Sound C o s (evalConv τ o.dst s dst u) := by
  obtain ⟨i0, h0⟩ := hsrc
  have hu0 : ∀ w, ∃ d, (underlying src).run C.P w = .ok d w := by
    intro w
    have hk := (hτ _ _ h0).kind
    cases hkk : i0.k <;> rw [hkk] at hk <;> simp only [TKOk] at hk
    case struct fl eq => obtain ⟨fs, hu, _⟩ := hk; exact ⟨_, run_underlying hu w⟩
    case func => obtain ⟨_, _, _, hu⟩ := hk; exact ⟨_, run_underlying hu w⟩
    case other => obtain ⟨_, hu, _⟩ := hk; exact ⟨_, run_underlying hu w⟩
    all_goals exact ⟨_, run_underlying hk w⟩
  unfold evalConv
  split
  · split
    · rename_i kk n ti k sz by' z hti
      refine .ret1 hd fun v hv a w M E hs => ?_
      cases hv
      have he := (val_rel hs hx).int_inv
      obtain ⟨d0, hd0⟩ := hu0 w
      have hk : C.P.underlying dst = some (.int k) := (hτ _ _ hti).kind
      refine ⟨_, ?_, .cell (.pure (.int _ _))⟩
      simp only [execOp, ho, he, convert, Sem.run_bind, hd0, Result.andThen_ok, run_underlying hk]
      simp [Conv.intToInt]
    · exact .stop
  · split
    · rename_i x' ti sz by' z hti
      refine .ret1 hd fun v hv a w M E hs => ?_
      cases hv
      have he := (val_rel hs hx).str_inv
      obtain ⟨d0, hd0⟩ := hu0 w
      have hk : C.P.underlying dst = some .string := (hτ _ _ hti).kind
      refine ⟨_, ?_, val_rel hs hx⟩
      simp only [execOp, ho, he, convert, Sem.run_bind, hd0, Result.andThen_ok, run_underlying hk]
      simp
    · exact .stop
  · exact .stop

theorem vals_rel {M : Mem} {E : Env} {a : Act} {w : World} (hs : St C.g C.N M E s a.tmps w) : ∀ {l : List Operand} {vs : List AV}, vals s l = some vs →
    (l.map a.eval).length = vs.length ∧ ∀ (j : Nat) (v : Value) (c : AV), (l.map a.eval)[j]? = some v → vs[j]? = some c → Rel M E v c
  | [], vs, h => by simp only [vals] at h; cases h; simp
  | x :: l, vs, h => by
    simp only [vals] at h
    split at h
    · rename_i v us hv hus
      cases h
      obtain ⟨h1, h2⟩ := vals_rel hs hus
      refine ⟨by simpa using h1, fun j v' c hv' hc => ?_⟩
      cases j with
      | zero => simp at hv' hc; subst hv'; subst hc; exact val_rel hs hv
      | succ j => simp only [List.map_cons, List.getElem?_cons_succ] at hv' hc; exact h2 j v' c hv' hc
    · cases h

theorem Sound.mkfn {o : Oper} {f : FuncId} {first caps : Array Operand} (ho : o.op = .makeFunc (.func f) first caps) (hf : first.toList.isEmpty = true) (hd : ∀ d, o.dst = some d → d < C.N) :
    Sound C o s (evalFn o.dst s f (vals s caps.toList)) := by
  unfold evalFn
  split
  · rename_i vs hvs
    split
    · rename_i hc
      refine .ret1 hd fun v hv a w M E hs => ?_
      cases hv
      obtain ⟨h1, h2⟩ := vals_rel hs hvs
      refine ⟨.func (.func f) #[] (caps.toList.map a.eval).toArray, ?_, .cell (.fn _ _ _ h1 fun j v c hv hc' => (h2 j v c hv hc').of_cell ?_)⟩
      · have hf' : first = #[] := by
          cases first with
          | mk l => cases l with
            | nil => rfl
            | cons x l => simp at hf
        subst hf'
        have : Array.map a.eval caps = (caps.toList.map a.eval).toArray := by rw [← Array.toList_map]
        simp [execOp, ho, Instr.makeFunc]
        exact this
      · exact (List.all_eq_true.1 hc) c (List.mem_of_getElem? hc')
    · exact .stop
  · exact .stop

theorem fill_sound (hτ : TyOk C.P τ) {st : TypeId} {fs : Array Field} (hst : C.P.underlying st = some (.struct fs)) {M : Mem} {E : Env} {a : Act} {w : World} (hs : St C.g C.N M E s a.tmps w) :
    ∀ (parts : List (Nat × Operand)) (cs out : List AV) (vs : List Value), fill τ s st cs parts = some out → AllR (RelS M E) vs cs → ∀ (places : Array (Nat × Nat)),
      (∀ (f : Nat) (fd : Field) (i : TI), fs[f]? = some fd → τ fd.type = some i → places[f]? = some (fd.offset, i.sz)) →
      ∃ us : List Value, Instr.fill (places[·]?) vs.toArray (parts.map fun p => (p.1, a.eval p.2)) = some us.toArray ∧ AllR (RelS M E) us out
  | [], cs, out, vs, h, hall, places, hp => by
    simp only [fill] at h; cases h
    exact ⟨vs, rfl, hall⟩
  | (f, x) :: r, cs, out, vs, h, hall, places, hp => by
    simp only [fill] at h
    split at h
    · rename_i i off v hf hv
      split at h
      · rename_i hc
        split at h
        · rename_i cs' hset
          obtain ⟨fs', fd, hu, hfd, hoff, hti, hz⟩ := fld_sound hτ hf
          rw [hst] at hu
          cases hu
          have hpl := hp f fd i hfd hti
          have hrel := (val_rel hs hv).allR hc.2
          have hlen : (a.eval x).cells.toList.length = v.cells.length := hrel.1
          obtain ⟨e, hl⟩ := setAt_eq _ _ _ _ hset
          have hne : v.cells ≠ [] := by intro h0; rw [h0] at hc; simp at hc; exact hz hc.symm
          have hb := hl hne
          have hall' := hall.set hrel off (fun _ => by rw [hlen, hall.1]; exact hb)
          rw [hlen, ← e] at hall'
          obtain ⟨us, h1, h2⟩ := fill_sound hτ hst hs r cs' out _ h hall' places hp
          refine ⟨us, ?_, h2⟩
          rw [← h1]
          simp only [List.map_cons, Instr.fill, hpl]
          have hcnd : ¬ ((decide ((a.eval x).cells.size ≠ i.sz) || decide (fd.offset + (a.eval x).cells.size > vs.toArray.size)) = true) := by
            have e1 : (a.eval x).cells.size = v.cells.length := by rw [← hlen]; simp
            have e2 := hall.1
            simp only [Bool.or_eq_true, decide_eq_true_eq, List.size_toArray]
            omega
          have key : ∀ (l : List Value) (c : List Value) (o k : Nat), o + k + l.length ≤ c.length →
              ((l.zipIdx k).foldl (fun (cs : Array Value) (p : Value × Nat) => cs.setIfInBounds (o + p.2) p.1) c.toArray) = (c.take (o + k) ++ l ++ c.drop (o + k + l.length)).toArray := by
            intro l
            induction l with
            | nil => intro c o k _; simp
            | cons y l ih =>
              intro c o k hb
              simp only [List.zipIdx_cons, List.foldl_cons]
              have : (c.toArray.setIfInBounds (o + k) y) = (c.set (o + k) y).toArray := by simp
              rw [this, ih (c.set (o + k) y) o (k + 1) (by simp at hb ⊢; omega)]
              congr 1
              simp only [List.length_cons] at hb ⊢
              apply List.ext_getElem?
              intro j
              simp only [List.append_assoc, List.getElem?_append, List.getElem?_take, List.getElem?_drop, List.getElem?_set, List.length_take, List.length_set, List.getElem?_cons]
              grind
          have hfold : (Array.foldl (fun cs (x : Value × Nat) => cs.setIfInBounds (fd.offset + x.2) x.1) vs.toArray (a.eval x).cells.zipIdx) = (vs.take off ++ (a.eval x).cells.toList ++ vs.drop (off + v.cells.length)).toArray := by
            rw [← Array.foldl_toList]
            have := key (a.eval x).cells.toList vs off 0 (by rw [hlen, hall.1]; simpa using hb)
            rw [hlen] at this
            subst hoff
            simpa using this
          rw [if_neg hcnd]
          rw [← hfold]
        · cases h
      · cases h
    · cases h

theorem run_mapM_list {P : Program} {α β : Type} (f : α → Sem β) (g : α → β) (w : World) : ∀ (l : List α), (∀ x ∈ l, (f x).run P w = .ok (g x) w) → (l.mapM f).run P w = .ok (l.map g) w
  | [], _ => by simp
  | x :: l, h => by
    rw [List.mapM_cons]
    simp only [Sem.run_bind, h x (by simp), Result.andThen_ok, run_mapM_list f g w l (fun y hy => h y (by simp [hy])), Sem.run_pure, List.map_cons]
theorem run_mapM {P : Program} {α β : Type} (f : α → Sem β) (g : α → β) (w : World) (l : Array α) (h : ∀ x ∈ l.toList, (f x).run P w = .ok (g x) w) : (l.mapM f).run P w = .ok (l.map g) w := by
  rw [Array.mapM_eq_mapM_toList]
  simp only [Sem.run_map, run_mapM_list f g w l.toList h, Result.andThen_ok]
  congr 1
  rw [← Array.toList_map]

theorem Sound.build (hτ : TyOk C.P τ) {o : Oper} {t : TypeId} {parts : Array (Nat × Operand)} (ho : o.op = .build t parts) (hd : ∀ d, o.dst = some d → d < C.N) :
    Sound C o s (evalBuild τ o.dst s t parts.toList) := by
  unfold evalBuild
  split
  · rename_i fl eq sz by' z hti
    split
    · rename_i hall
      split
      · rename_i cs hcs
        refine .ret1 hd fun v hv a w M E hs => ?_
        cases hv
        obtain ⟨inf, zv, hi, _, _, hz, hzz⟩ := (hτ _ _ hti).info
        obtain ⟨fs, hu, hfl, _⟩ := (hτ _ _ hti).kind
        let g : Field → Nat × Nat := fun f => (f.offset, ((τ f.type).map (·.sz)).getD 0)
        have hm : (fs.mapM fun f => (do pure (f.offset, ← sizeOf f.type) : Sem (Nat × Nat))).run C.P w = .ok (fs.map g) w := by
          refine run_mapM _ g w fs fun f hf => ?_
          have : (τ f.type).isSome = true := by
            have := (List.all_eq_true.1 hall) (f.type, f.offset) (by rw [← hfl]; exact List.mem_map.2 ⟨f, hf, rfl⟩)
            exact this
          obtain ⟨i, hi⟩ := Option.isSome_iff_exists.1 this
          simp [(hτ _ _ hi).sizeOf, g, hi]
        obtain ⟨us, h1, h2⟩ := fill_sound hτ hu hs parts.toList z cs (z.map AV.zv) hcs (zero_rel (hτ _ _ hti).lit) (fs.map g) (fun f fd i hf hti' => by
          simp [hf, g, hti'])
        refine ⟨.agg us.toArray, ?_, .agg us cs h2.1 h2.2⟩
        have hzv : zv.cells = (z.map AV.zv).toArray := by rw [← hzz]
        have hp : (parts.map fun (i, x) => (i, a.eval x)).toList = parts.toList.map fun p => (p.1, a.eval p.2) := by simp
        simp only [execOp, ho, Instr.build, Sem.run_bind, zeroValue, typeInfo, run_program, hi, hz, Sem.run_pure, Result.andThen_ok, run_underlying hu, hm, hzv, hp, h1]
      · exact .stop
    · exact .stop
  · exact .stop

theorem run_builtin {P : Program} {o : Oper} {c : Call} {b : Builtin} (ho : o.op = .call c) (hc : c.callee = .builtin b) (ρ : Operand → Value) (w w' : World) {n : Next}
    (h : (builtin b c.argTypes o.type (c.args.map fun | .const _ => true | _ => false) (c.args.map ρ)).run P w = .ok n w') : (execOp ρ o).run P w = .ok n w' := by
  simp only [execOp, ho, resolve, hc, invoke, Sem.run_bind, Sem.run_pure, Result.andThen_ok]
  exact h

theorem toList_one {α : Type} {a : Array α} {x : α} (h : a.toList = [x]) : a = #[x] := by
  cases a; simp at h; simp [h]

theorem Sound.len (hτ : TyOk C.P τ) {o : Oper} {x : Operand} {t : TypeId} {c : Call} (ho : o.op = .call c) (hc : c.callee = .builtin .len) (hx : c.args.toList = [x]) (hty : c.argTypes.toList = [t]) {i : TI} (hti : τ t = some i)
    (hd : ∀ d, o.dst = some d → d < C.N) {u : AV} (hv : val s x = some u) : Sound C o s (evalLen o.dst s i.k u) := by
  have ha := toList_one hx
  have hb := toList_one hty
  have hk := (hτ _ _ hti).kind
  have run : ∀ (a : Act) (w : World) (n : Nat), (Builtin.len_ #[t] o.type #[a.eval x]).run C.P w = .ok (goInt n) w → (execOp a.eval o).run C.P w = .ok (.value (.int .i64 n)) w := by
    intro a w n hr
    refine run_builtin ho hc a.eval w w ?_
    rw [ha, hb]
    simp only [builtin, List.map_toArray, List.map_cons, List.map_nil, Sem.run_bind, hr, Result.andThen_ok, Sem.run_pure]
    rfl
  unfold evalLen
  split
  · rename_i e sz xs he
    refine .ret1 hd fun v hv' a w M E hs => ?_
    cases hv'
    obtain ⟨_, ad, cp, hval, _⟩ := (val_rel hs hv).sl_inv
    rw [he] at hk
    exact ⟨_, run a w _ (by rw [hval]; simp [Builtin.len_, run_underlying hk]), .cell (.pure (.int _ _))⟩
  · rename_i e he
    refine .ret1 hd fun v hv' a w M E hs => ?_
    cases hv'
    have hval := (val_rel hs hv).nils_inv
    rw [he] at hk
    exact ⟨_, run a w 0 (by rw [hval]; simp [Builtin.len_, run_underlying hk]), .cell (.pure (.int _ _))⟩
  · rename_i y he
    refine .ret1 hd fun v hv' a w M E hs => ?_
    cases hv'
    have hval := (val_rel hs hv).str_inv
    rw [he] at hk
    exact ⟨_, run a w _ (by rw [hval]; simp [Builtin.len_, run_underlying hk]; rfl), .cell (.pure (.int _ _))⟩
  · rename_i e j st he
    split
    · rename_i r hr
      split
      · rename_i hst
        refine .ret1 hd fun v hv' a w M E hs => ?_
        cases hv'
        obtain ⟨n, cp, ad, q, hval, hq, hle, himp⟩ := (val_rel hs hv).row_inv
        obtain ⟨q', hq', h1, h2, h3, _⟩ := hs.rw j r hr
        rw [hq] at hq'; cases hq'
        obtain ⟨e1, e2, e3⟩ := himp (by rw [hst, h1])
        rw [he] at hk
        refine ⟨_, run a w _ (by rw [hval]; simp [Builtin.len_, run_underlying hk]; rfl), ?_⟩
        rw [e2, h3]
        exact .cell (.pure (.int _ _))
      · exact .stop
    · exact .stop
  · rename_i e j st off n he
    refine .ret1 hd fun v hv' a w M E hs => ?_
    cases hv'
    obtain ⟨cp, ad, q, hval, _⟩ := (val_rel hs hv).rowv_inv
    rw [he] at hk
    exact ⟨_, run a w _ (by rw [hval]; simp [Builtin.len_, run_underlying hk]), .cell (.pure (.int _ _))⟩
  · exact .stop

theorem Sound.minmax {o : Oper} {c : Call} (ho : o.op = .call c) (mx : Bool) (hc : c.callee = .builtin (if mx then .max else .min)) (hd : ∀ d, o.dst = some d → d < C.N)
    {vs : List AV} (hv : vals s c.args.toList = some vs) : Sound C o s (evalMinMax mx o.dst s vs) := by
  unfold evalMinMax
  split
  · rename_i k a k' b
    split
    · rename_i hk
      subst hk
      refine .ret1 hd fun v hv' x w M E hs => ?_
      cases hv'
      obtain ⟨h1, h2⟩ := vals_rel hs hv
      simp only [List.length_map, List.length_cons, List.length_nil] at h1
      have hl : c.args.toList.length = 2 := h1
      match hcl : c.args.toList, hl with
      | [p, q], _ =>
        rw [hcl] at h2
        have e1 := (h2 0 _ _ rfl rfl).int_inv
        have e2 := (h2 1 _ _ rfl rfl).int_inv
        have ea : c.args = #[p, q] := by
          cases hca : c.args; rw [hca] at hcl; simp at hcl; simp [hcl]
        cases mx with
        | true =>
          refine ⟨_, run_builtin (b := .max) ho (by simpa using hc) x.eval w w (n := .value (.int k (max a b))) ?_, .cell (.pure (.int _ _))⟩
          rw [ea]
          simp only [builtin, List.map_toArray, List.map_cons, List.map_nil, e1, e2, Builtin.max_]
          simp [Builtin.max2]
          omega
        | false =>
          refine ⟨_, run_builtin (b := .min) ho (by simpa using hc) x.eval w w (n := .value (.int k (min a b))) ?_, .cell (.pure (.int _ _))⟩
          rw [ea]
          simp only [builtin, List.map_toArray, List.map_cons, List.map_nil, e1, e2, Builtin.min_]
          simp [Builtin.min2]
          omega
    · exact .stop
  · exact .stop

theorem evalOp_sound (hτ : TyOk C.P τ) (o : Oper) (hd : ∀ d, o.dst = some d → d < C.N) : Sound C o s (evalOp τ o.dst s o.op) := by
  cases ho : o.op with
  | move x => exact .ret1 hd fun v hv a w M E hs => ⟨_, run_move (.inl ho) _ _, val_rel hs hv⟩
  | assign x => exact .ret1 hd fun v hv a w M E hs => ⟨_, run_move (.inr ho) _ _, val_rel hs hv⟩
  | pick c a b => exact .op1 fun v hv => .pick ho hd hv
  | alloc t =>
    simp only [evalOp]
    split
    · rename_i ti hti; exact .alloc hτ ho hd hti
    · exact .stop
  | box t x => exact .op1 fun v hv => .box hτ ho hd hv
  | build t parts => exact .build hτ ho hd
  | load t a => exact .op1 fun v hv => .load hτ ho hd hv
  | store t a x =>
    simp only [evalOp]
    split
    · rename_i hdd; exact .op2 fun v u hv hu => .store hτ ho hdd hv hu
    · exact .stop
  | nilCheck x => exact .op1 fun v hv => .nilCheck ho hd hv
  | binOp op t x y t' => exact .op2 fun v u hv hu => .bin hτ ho hd hv hu fun cs ds e e' => .agg hτ ho hd (by rw [hv, e]) (by rw [hu, e'])
  | unOp op t x => exact .un ho hd
  | convert src dst x =>
    simp only [evalOp]
    split
    · rename_i h; exact .op1 fun v hv => .conv hτ ho hd (Option.isSome_iff_exists.1 h) hv
    · exact .stop
  | fieldAddr t x f => exact .op1 fun v hv => .fieldAddr hτ ho hd hv
  | field t x f => exact .op1 fun v hv => .field hτ ho hd hv
  | extract x i => exact .op1 fun v hv => .extract ho hd hv
  | makeFunc fn first caps =>
    cases fn with
    | func f =>
      simp only [evalOp]
      split
      · rename_i h; exact .mkfn ho h hd
      · exact .stop
    | _ => exact .stop
  | call c =>
    simp only [evalOp]
    cases hc : c.callee with
    | builtin b =>
      cases b <;> simp only [evalCallee, evalBuiltin]
      case len =>
        split
        · rename_i x t hx ht
          split
          · rename_i ti hti; exact .op1 fun v hv => .len hτ ho hc hx ht hti hd hv
          · exact .stop
        · exact .stop
      case min =>
        split
        · rename_i vs hvs; exact .minmax ho false hc hd hvs
        · exact .stop
      case max =>
        split
        · rename_i vs hvs; exact .minmax ho true hc hd hvs
        · exact .stop
      all_goals exact .stop
    | _ => exact .stop
  | _ => exact .stop

theorem T.all_bindOr (K : List Oper → S → Prop) (alt : T) (f : S → T) : ∀ t : T, (t.bindOr alt f).all K → alt.all K ∨ t.all (fun _ s' => (f s').all K)
  | .leaf _ s', h => .inr h
  | .guard p t, h => by
    rcases T.all_bindOr K alt f t h.2 with h' | h'
    · exact .inl h'
    · exact .inr ⟨h.1, h'⟩
  | .split p t u, h => by
    by_cases hp : p
    · rcases T.all_bindOr K alt f t (h.1 hp) with h' | h'
      · exact .inl h'
      · exact .inr ⟨fun _ => h', fun hn => absurd hp hn⟩
    · rcases T.all_bindOr K alt f u (h.2 hp) with h' | h'
      · exact .inl h'
      · exact .inr ⟨fun hn => absurd hn hp, fun _ => h'⟩
  | .stop, h => .inl h

theorem wanted_none {o : Oper} {y : Nat → Option Bool} (h : o.guard = none) : Region.wanted o y = true := by simp [Region.wanted, h]

theorem yielded_slot {all : List Oper} {a : Act} {w : World} (hx : H C.g C.N s a w) {j : Nat} {b : Bool} (h : (guardSlot all j).bind (aget s.fr) = some (.bool b)) :
    yielded all.toArray a.tmps j = some b := by
  obtain ⟨d, hd, hg⟩ := Option.bind_eq_some_iff.1 h
  obtain ⟨M, E, hs, hN, hr⟩ := eval_slot hx hg
  have hv := hr.bool_inv
  unfold guardSlot at hd
  rw [nth_eq] at hd
  obtain ⟨o, ho, hdst⟩ := Option.bind_eq_some_iff.1 hd
  have : (a.tmps[d]? : Option Value) = some (.bool b) := by
    simp only [Act.eval, Array.getD_eq_getD_getElem?] at hv
    cases ht : (a.tmps[d]? : Option Value) with
    | none => rw [Array.getElem?_eq_none_iff, hs.size] at ht; omega
    | some v => rw [ht] at hv; simp at hv; rw [hv]
  simp [yielded, ho, hdst, this]
theorem Rel.undef_inv {M : Mem} {E : Env} {v : Value} (h : Rel M E v (.tup [])) : v = undef := by
  cases h with
  | cell h => cases h with | pure h => cases h
  | tup vs cs hl h =>
    cases vs with
    | nil => rfl
    | cons v vs => simp at hl
theorem yielded_undef {all : List Oper} {a : Act} {w : World} (hx : H C.g C.N s a w) {j : Nat} (h : (guardSlot all j).bind (aget s.fr) = some (.tup [])) :
    yielded all.toArray a.tmps j = none := by
  obtain ⟨d, hd, hg⟩ := Option.bind_eq_some_iff.1 h
  obtain ⟨M, E, hs, hN, hr⟩ := eval_slot hx hg
  have hv := hr.undef_inv
  unfold guardSlot at hd
  rw [nth_eq] at hd
  obtain ⟨o, ho, hdst⟩ := Option.bind_eq_some_iff.1 hd
  have : (a.tmps[d]? : Option Value) = some undef := by
    simp only [Act.eval, Array.getD_eq_getD_getElem?] at hv
    cases ht : (a.tmps[d]? : Option Value) with
    | none => rw [Array.getElem?_eq_none_iff, hs.size] at ht; omega
    | some v => rw [ht] at hv; simp at hv; rw [hv]
  simp [yielded, ho, hdst, this, undef]


theorem wantedOk_sound {all : List Oper} {o : Oper} {b : Bool} (h : wantedOk all s o.guard = some b) (a : Act) (w : World) (hx : H C.g C.N s a w) : Region.wanted o (yielded all.toArray a.tmps) = b := by
  unfold wantedOk at h
  split at h
  · rename_i hg; cases h; exact wanted_none hg
  · rename_i j want hg
    split at h
    · rename_i b' hb
      cases h
      rw [Region.wanted, hg]
      simp only [yielded_slot hx hb]
      cases b' <;> cases want <;> rfl
    · rename_i hb
      cases h
      rw [Region.wanted, hg]
      simp only [yielded_undef hx hb]
      rfl
    · cases h

theorem eval_sound (hτ : TyOk C.P τ) (all : List Oper) : ∀ (os : List Oper) (s : S), (eval τ all os s).all (Ev C all k) → Ev C all k os s
  | [], s, h => h
  | o :: os, s, h => by
    have step : (∀ a w, H C.g C.N s a w → Region.wanted o (yielded all.toArray a.tmps) = true) → ((evalOp τ o.dst s o.op).bindOr (.leaf (o :: os) s) (eval τ all os)).all (Ev C all k) → Ev C all k (o :: os) s := by
      intro hw h
      rcases T.all_bindOr _ _ _ _ h with h' | h'
      · exact h'
      · intro hdst
        obtain ⟨hd, _⟩ := dstOk_cons hdst
        obtain ⟨s', hX, hD⟩ := evalOp_sound hτ o hd (fun s' => (eval τ all os s').all (Ev C all k)) h'
        exact Ev_does hw (fun _ => hD) (eval_sound hτ all os s' hX) hdst
    have skip : (∀ a w, H C.g C.N s a w → Region.wanted o (yielded all.toArray a.tmps) = false) → (eval τ all os (setD o.dst (.tup []) s)).all (Ev C all k) → Ev C all k (o :: os) s := by
      intro hw h
      cases hd : o.dst with
      | some d =>
        rw [hd] at h
        exact Ev_skip hw hd (eval_sound hτ all os _ h)
      | none =>
        rw [hd] at h
        have hE := eval_sound hτ all os _ h
        intro hdst a w hx
        obtain ⟨_, hdst'⟩ := dstOk_cons hdst
        refine wpList_step fun K hK => ?_
        rw [if_neg (by rw [hw a w hx]; simp), hd]
        exact hK _ _ (hE hdst' a w hx)
    simp only [eval] at h
    cases hw : wantedOk all s o.guard with
    | none => rw [hw] at h; exact h
    | some b =>
      rw [hw] at h
      cases b with
      | true => exact step (fun a w hx => wantedOk_sound hw a w hx) h
      | false => exact skip (fun a w hx => wantedOk_sound hw a w hx) h

end Go.Ab
