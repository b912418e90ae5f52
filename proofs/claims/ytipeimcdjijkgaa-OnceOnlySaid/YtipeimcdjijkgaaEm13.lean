/- The evaluator is sound: the other operations; all of them. -/
import Derived.Test.YtipeimcdjijkgaaEm12
import Derived.Laws.IdiomStrings
namespace Go.Dm
open Go Go.RowKit
set_option linter.unnecessarySimpa false
set_option linter.constructorNameAsVariable false
set_option linter.unusedSectionVars false
set_option linter.unusedSimpArgs false
set_option linter.unusedVariables false

variable {C : Cx} {k : List It} {s : S} {τ : TyTab}

theorem Sound.fieldAddr (hτ : TyOk C.P τ) {o : Oper} {t : TypeId} {x : Operand} {f : Nat} (ho : o.op = .fieldAddr t x f) (hd : ∀ d, o.dst = some d → d < C.N) {an : List An} {u : AV} (hx : Has C s x u) :
    Sound C o s (evalFieldAddr τ an t f u) := by
  have run : ∀ (a : Act) (w : World) (v : Value), (Instr.fieldAt t (a.eval x) f).run C.P w = .ok v w → (execOp a.eval o).run C.P w = .ok (.value v) w := by
    intro a w v hr
    simp [execOp, ho, hr]
  unfold evalFieldAddr
  split
  · split
    · rename_i i off hf
      refine .retV hd fun a w M E hs => ?_
      obtain ⟨b, hb, he⟩ := (hx a w M E hs).ptr_inv
      refine ⟨_, run a w _ (by rw [he]; exact run_fieldAt hτ hf _ w), ?_⟩
      rw [addr_add]
      exact .cell (.ptr _ _ _ hb)
    · exact .nil
  · split
    · rename_i i off hf
      refine .retV hd fun a w M E hs => ?_
      obtain ⟨ad, q, he, hq, hle, hv⟩ := (hx a w M E hs).ep_inv
      refine ⟨_, run a w _ (by rw [he]; exact run_fieldAt hτ hf _ w), .cell (.ep _ _ _ _ _ q hq hle fun e => ?_)⟩
      obtain ⟨blk, h1, h2⟩ := hv e
      refine ⟨blk, h1, ?_⟩
      rw [h2, addr_add, Nat.add_assoc]
    · exact .nil
  · split
    · rename_i i off hf
      refine .retV hd fun a w M E hs => ?_
      obtain ⟨bs, b, hb, hk, he⟩ := (hx a w M E hs).aptr_inv
      refine ⟨_, run a w _ (by rw [he]; exact run_fieldAt hτ hf _ w), ?_⟩
      rw [addr_add]
      exact .cell (.aptr _ _ _ bs b hb hk)
    · exact .nil
  · rename_i cs
    split
    · rename_i i off hf
      split
      · rename_i y hp
        refine .retV hd fun a w M E hs => ?_
        obtain ⟨blk, bo, he, g, hM, hP⟩ := (hx a w M E hs).rp_inv
        refine ⟨_, run a w _ (by rw [he]; exact run_fieldAt hτ hf _ w), ?_⟩
        obtain ⟨fs, fd, hu, hfd, hoff, hti, hz⟩ := fld_sound hτ hf
        have hall : AllR (RelP M) ((List.range cs.length).map g) cs := by
          refine ⟨by simp, fun j v c hv hc => ?_⟩
          have hj := (List.getElem?_eq_some_iff.1 hc).1
          simp [hj] at hv
          subst hv
          exact hP j c (by simpa [AV.cells] using hc)
        have hallS : AllR (RelS M E) ((List.range cs.length).map g) cs := ⟨hall.1, fun j v c hv hc => .pure (hall.2 j v c hv hc)⟩
        obtain ⟨h1, h2, h3⟩ := part_rel (hτ _ _ hti) hallS hp (.inl hz)
        have h4 := h3 _ hall
        rw [addr_add]
        have hlen : y.cells.length = i.sz := by
          have := h4.1
          simp at this h1
          omega
        refine .cell (.pure (.rp blk (bo + off) y (fun j => g (off + j)) (fun j hj => ?_) (fun j u hu => ?_)))
        · have := hM (off + j) (by simp [AV.cells] at h1 ⊢; omega)
          rw [← this]
          congr 1
          omega
        · have hj := (List.getElem?_eq_some_iff.1 hu).1
          refine h4.2 j _ u ?_ hu
          simp at h1
          rw [List.getElem?_take, if_pos (by omega), List.getElem?_drop, List.getElem?_map, List.getElem?_range (by omega)]
          rfl
      · exact .nil
    · exact .nil
  · exact .nil

theorem Sound.field (hτ : TyOk C.P τ) {o : Oper} {t : TypeId} {x : Operand} {f : Nat} (ho : o.op = .field t x f) (hd : ∀ d, o.dst = some d → d < C.N) {an : List An} {u : AV} (hx : Has C s x u) :
    Sound C o s (evalField τ an t f u) := by
  unfold evalField
  split
  · rename_i cs
    split
    · rename_i i off hf
      refine .retO hd fun v hv a w M E hs => ?_
      obtain ⟨vs, he, hall⟩ := (hx a w M E hs).agg_inv
      obtain ⟨fs, fd, hu, hfd, hoff, hti, hz⟩ := fld_sound hτ hf
      obtain ⟨h1, h2, _⟩ := part_rel (hτ _ _ hti) (⟨hall.1, hall.2⟩ : AllR (RelS M E) vs cs) hv (.inl hz)
      refine ⟨_, ?_, h2⟩
      have hp := (hτ _ _ hti).part' w vs off (by omega)
      simp [execOp, ho, he, Instr.field, run_underlying hu, hfd, asAgg, hoff, hp]
    · exact .nil
  · exact .nil

theorem Sound.extract {o : Oper} {x : Operand} {i : Nat} (ho : o.op = .extract x i) (hd : ∀ d, o.dst = some d → d < C.N) {an : List An} {u : AV} (hx : Has C s x u) :
    Sound C o s (evalExtract an i u) := by
  unfold evalExtract
  split
  · refine .retO hd fun v hv a w M E hs => ?_
    rw [nth_eq] at hv
    obtain ⟨vs, he, hl, hall⟩ := (hx a w M E hs).tup_inv
    have hj := (List.getElem?_eq_some_iff.1 hv).1
    have hj' : i < vs.length := by omega
    refine ⟨vs[i], ?_, hall i _ _ (List.getElem?_eq_getElem hj') hv⟩
    simp [execOp, ho, he, Instr.extract, hj']
  · exact .nil

theorem pickB_sound {M : Mem} {E : Env} {A : List (Nat × Bool)} (hA : allB A = true) {d : Nat} {p u : Bool} {x : AV} {v : Value} {g : List (Bool × Bool)} (h : pickB A d p x = some (g, u)) (hg : AllE g) (hp : p = true) (hr : Rel M E v x) : v = .bool u := by
  unfold pickB at h
  split at h
  · cases h; exact hr.bool_inv
  · rename_i cs x
    split at h
    · rename_i e he
      cases h
      exact (hr.when_inv (matchA_true (by simp only [allB, hp, hA, Bool.and_self]) he hg)).bool_inv
    · cases h
  · cases h

theorem isT_eval {a : Operand} (h : isT a = true) (act : Act) : act.eval a = .bool true := by
  unfold isT at h
  split at h
  · rfl
  · cases h
theorem isF_eval {a : Operand} (h : isF a = true) (act : Act) : act.eval a = .bool false := by
  unfold isF at h
  split at h
  · rfl
  · cases h

theorem Sound.pick {o : Oper} {A : List (Nat × Bool)} (hA : allB A = true) {an : List An} {d : Nat} {x y : Operand} (ho : o.op = .pick (.tmp d) x y) (hd : ∀ d, o.dst = some d → d < C.N) {p : Bool} {u v : AV} (hc : Has C s (.tmp d) (.bool p)) (hx : val s x = some u) (hy : val s y = some v) :
    Sound C o s (evalPick A an x y d p u v) := by
  unfold evalPick
  split
  · rename_i g a hg
    split
    · rename_i h b hh
      intro res hres _ hes
      cases hres
      obtain ⟨hgs1, hgs2⟩ := AllE_append.1 hes
      refine pureDoes hd fun act w M E hs => ?_
      have h0 := (hc act w M E hs).bool_inv
      refine ⟨act.eval (if p then x else y), ?_, ?_⟩
      · cases p <;> simp [execOp, ho, h0, asBool]
      · have key : act.eval (if p then x else y) = .bool (if p then a else b) := by
          cases p with
          | true => simpa using pickB_sound hA hg hgs1 rfl (val_rel hs hx)
          | false => simpa using pickB_sound hA hh hgs2 rfl (val_rel hs hy)
        rw [key]
        have : (if p then a else b) = pickV x y p a b := by
          unfold pickV
          cases p with
          | true =>
            cases ht : isT x with
            | true => have := pickB_sound hA hg hgs1 rfl (val_rel hs hx); rw [isT_eval ht] at this; cases this; rfl
            | false => cases isF y <;> simp
          | false =>
            cases ht : isT x with
            | true => simp
            | false => cases hf : isF y with
              | true => have := pickB_sound hA hh hgs2 rfl (val_rel hs hy); rw [isF_eval hf] at this; cases this; rfl
              | false => rfl
        rw [this]
        exact .cell (.pure (.bool _))
    · exact .nil
  · exact .nil

theorem Sound.nilCheck {o : Oper} {x : Operand} (ho : o.op = .nilCheck x) (hd : ∀ d, o.dst = some d → d < C.N) {an : List An} {u : AV} (hx : Has C s x u) :
    Sound C o s (evalNilCheck an u) := by
  have run : ∀ (a : Act) (w : World) (ad : Addr), a.eval x = .pointer (some ad) → (execOp a.eval o).run C.P w = .ok (.value (a.eval x)) w := by
    intro a w ad he
    simp [execOp, ho, he]
  unfold evalNilCheck
  split
  · refine .retV hd fun a w M E hs => ?_
    obtain ⟨b, hb, he⟩ := (hx a w M E hs).ptr_inv
    exact ⟨_, run a w _ he, hx a w M E hs⟩
  · refine .retV hd fun a w M E hs => ?_
    obtain ⟨blk, off, he, _⟩ := (hx a w M E hs).rp_inv
    exact ⟨_, run a w _ he, hx a w M E hs⟩
  · refine .retV hd fun a w M E hs => ?_
    obtain ⟨ad, q, he, _⟩ := (hx a w M E hs).ep_inv
    exact ⟨_, run a w _ he, hx a w M E hs⟩
  · refine .retV hd fun a w M E hs => ?_
    obtain ⟨bs, b, _, _, he⟩ := (hx a w M E hs).aptr_inv
    exact ⟨_, run a w _ he, hx a w M E hs⟩
  · exact .nil

theorem Sound.un {o : Oper} {an : List An} {op : UnOp} {t : TypeId} {x : Operand} (ho : o.op = .unOp op t x) (hd : ∀ d, o.dst = some d → d < C.N) {u : AV} (hx : Has C s x u) :
    Sound C o s (evalUn an u op) := by
  have run : ∀ (a : Act) (w : World) (v : Value), (Op.unary op (a.eval x)).run C.P w = .ok v w → (execOp a.eval o).run C.P w = .ok (.value v) w := by
    intro a w v hr
    simp [execOp, ho, hr]
  cases op <;> simp only [evalUn]
  all_goals first | exact .nil | skip
  all_goals split
  all_goals first | exact .nil | skip
  · rename_i k n
    refine .retV hd fun a w M E hs => ?_
    have := (hx a w M E hs).int_inv
    exact ⟨_, run a w _ (by rw [this]; simp [Op.unary, Op.intArith, nrm_eq]), .cell (.pure (.int _ _))⟩
  · rename_i k n
    refine .retV hd fun a w M E hs => ?_
    have := (hx a w M E hs).int_inv
    exact ⟨_, run a w _ (by rw [this]; simp [Op.unary, Op.intBits, bitsOp, nrm_eq]), .cell (.pure (.int _ _))⟩
  · refine .retV hd fun a w M E hs => ?_
    have := (hx a w M E hs).bool_inv
    exact ⟨_, run a w _ (by rw [this]; simp [Op.unary]), .cell (.pure (.bool _))⟩

theorem flat_at {sz : Nat} {xs : List AV} {m j : Nat} {u c : AV} (h : ∀ x ∈ xs, x.cells.length = sz) (hu : xs[m]? = some u) (hc : u.cells[j]? = some c) : (flat xs)[m * sz + j]? = some c := by
  have hlt := (List.getElem?_eq_some_iff.1 hu).1
  have hd := flat_drop m h
  rw [List.drop_eq_getElem_cons hlt, (List.getElem?_eq_some_iff.1 hu).2, flat_cons] at hd
  have hj := (List.getElem?_eq_some_iff.1 hc).1
  rw [← List.getElem?_drop, ← hd, List.getElem?_append_left hj]
  exact hc

theorem RelP.sl_at {M : Mem} {v : Value} {sz : Nat} {xs : List AV} (h : RelP M v (.sl sz xs)) {m : Nat} {u : AV} (hu : xs[m]? = some u) :
    ∃ blk off c, v = .slice (some ⟨blk, off, none⟩) xs.length c ∧ m < xs.length ∧ (u.cells.length = sz) ∧ RelP M (.pointer (some ⟨blk, off + m * sz, none⟩)) (.rp u) := by
  cases h with
  | sl a n c sz xs f hn hc hb hz ha hf =>
    have hlt := (List.getElem?_eq_some_iff.1 hu).1
    have hne : xs ≠ [] := by rintro rfl; simp at hlt
    have huz := hz u (List.mem_of_getElem? hu)
    obtain ⟨blk, off, rfl, hM⟩ := ha hne
    refine ⟨blk, off, c, by rw [hn], hlt, huz, .rp blk (off + m * sz) u (fun j => f (m * sz + j)) (fun j hj => ?_) (fun j c' hc' => ?_)⟩
    · have hcj : u.cells[j]? = some u.cells[j] := List.getElem?_eq_getElem hj
      have hfl := flat_at hz hu hcj
      have := hM (m * sz + j) (List.getElem?_eq_some_iff.1 hfl).1
      rw [← this]
      congr 1
      omega
    · exact hf (m * sz + j) c' (flat_at hz hu hc')

theorem ih_flat : ∀ l : List UInt8, List.flatMap AV.cells (l.map fun b => AV.int .u8 (b.toNat : Int)) = l.map fun b => AV.int .u8 (b.toNat : Int)
  | [] => rfl
  | b :: l => by simp only [List.map_cons, List.flatMap_cons, AV.cells, List.cons_append, List.nil_append]; rw [ih_flat l]

theorem Sound.conv (hτ : TyOk C.P τ) {o : Oper} {an : List An} {src dst : TypeId} {x : Operand} (ho : o.op = .convert src dst x) (hd : ∀ d, o.dst = some d → d < C.N) (hsrc : ∃ i, τ src = some i) {u : AV} (hx : Has C s x u) :
    Sound C o s (evalConv τ an src dst u) := by
  obtain ⟨i0, h0⟩ := hsrc
  have hu0 : ∀ w, ∃ d, (underlying src).run C.P w = .ok d w := by
    intro w
    have hk := (hτ _ _ h0).kind
    cases hkk : i0.k <;> rw [hkk] at hk <;> simp only [TKOk] at hk
    case struct fl eq => obtain ⟨fs, hu, _⟩ := hk; exact ⟨_, run_underlying hu w⟩
    case func => obtain ⟨_, _, _, hu⟩ := hk; exact ⟨_, run_underlying hu w⟩
    case other => obtain ⟨_, hu, _⟩ := hk; exact ⟨_, run_underlying hu w⟩
    all_goals exact ⟨_, run_underlying hk w⟩
  have run : ∀ (a : Act) (w : World) (v : Value), (convert src dst (a.eval x)).run C.P w = .ok v w → (execOp a.eval o).run C.P w = .ok (.value v) w := by
    intro a w v hr
    simp [execOp, ho, hr]
  have hb : isBytes τ src = true → ∃ e, C.P.underlying src = some (.slice e) ∧ C.P.underlying e = some (.int .u8) := by
    intro h
    unfold isBytes at h
    split at h
    · rename_i e _ _ _ _ hs1
      split at h
      · rename_i hs2
        exact ⟨e, (hτ _ _ hs1).kind, (hτ _ _ hs2).kind⟩
      · cases h
    · cases h
  unfold evalConv
  split
  · split
    · rename_i kk n ti k sz by' z cz hti
      refine .retV hd fun a w M E hs => ?_
      have he := (hx a w M E hs).int_inv
      obtain ⟨d0, hd0⟩ := hu0 w
      have hk : C.P.underlying dst = some (.int k) := (hτ _ _ hti).kind
      refine ⟨_, ?_, .cell (.pure (.int _ _))⟩
      simp only [execOp, ho, he, convert, Sem.run_bind, hd0, Result.andThen_ok, run_underlying hk, nrm_eq]
      simp [Conv.intToInt]
    · exact .nil
  · split
    · rename_i x' ti sz by' z cz hti
      refine .retV hd fun a w M E hs => ?_
      have he := (hx a w M E hs).str_inv
      obtain ⟨d0, hd0⟩ := hu0 w
      have hk : C.P.underlying dst = some .string := (hτ _ _ hti).kind
      refine ⟨_, ?_, hx a w M E hs⟩
      simp only [execOp, ho, he, convert, Sem.run_bind, hd0, Result.andThen_ok, run_underlying hk]
      simp
    · exact .nil
  · rename_i sz xs
    split
    · rename_i ti sz' by' z cz hti
      split
      · rename_i hby
        obtain ⟨e, he1, he2⟩ := hb hby
        split
        · rename_i hz
          have hz := beq_true hz
          split
          · rename_i l an'
            refine .retG hd fun hg a w M E hs => ?_
            have hxs := hg.1
            have hk : C.P.underlying dst = some .string := (hτ _ _ hti).kind
            obtain ⟨hP, _⟩ := (hx a w M E hs).sl_inv
            subst hxs
            refine ⟨.string ⟨l.toArray⟩, run a w _ ?_, .cell (.pure (.str _))⟩
            generalize a.eval x = v at hP
            cases hP with
            | sl ad n c sz xs f hn hc hbb hzz ha hf =>
              have hn' : n = l.length := by rw [← hn]; simp [u8s]
              subst hn'
              by_cases hl : l = []
              · subst hl
                rw [run_convert_bytes_string w src dst e ad _ c he1 he2 hk]
                cases ad with
                | none => rfl
                | some ad =>
                  have h0 : (loadCells ad 0).run C.P w = .ok (([] : List Int).map (Value.int .u8)).toArray w := by
                    have := run_loadCells (P := C.P) w ad 0 (fun _ => undef) (fun j hj => absurd hj (Nat.not_lt_zero j))
                    simpa using this
                  have := run_bytesToString (P := C.P) w ad 0 c [] h0
                  exact this.trans rfl
              · obtain ⟨blk, off, rfl, hM⟩ := ha (by simpa [u8s] using hl)
                refine run_convert_bytes_back w src dst e ⟨blk, off, none⟩ c l he1 he2 hk (fun j hj => ?_)
                have hfl : (flat (u8s l))[j]? = some (.int .u8 (l[j].toNat : Int)) := by
                  have : flat (u8s l) = u8s l := ih_flat l
                  rw [this]
                  simp [u8s, hj]
                have h1 := (List.getElem?_eq_some_iff.1 hfl).1
                have h2 := hM j h1
                have h3 := hf j _ hfl
                rw [addr_add, (hs.mem _ _ _ h2).1]
                generalize f j = v at h3
                cases h3
                rfl
          · exact .nil
        · exact .nil
      · exact .nil
    · exact .nil
  · split
    · rename_i ti sz' by' z cz hti
      split
      · rename_i hby
        obtain ⟨e, he1, he2⟩ := hb hby
        refine .retV hd fun a w M E hs => ?_
        have he := (hx a w M E hs).nils_inv
        have hk : C.P.underlying dst = some .string := (hτ _ _ hti).kind
        refine ⟨_, run a w (.string ⟨#[]⟩) ?_, .cell (.pure (.str []))⟩
        rw [he, run_convert_bytes_string w src dst e none 0 0 he1 he2 hk]
        rfl
      · exact .nil
    · exact .nil
  · exact .nil

theorem vals_rel {xs : List Operand} : ∀ {vs : List AV}, vals s xs = some vs → (∀ x ∈ xs, Done s x) → ∀ {M : Mem} {E : Env} {a : Act} {w : World}, St C.g C.N M E s a.tmps w →
    (xs.map a.eval).length = vs.length ∧ ∀ (j : Nat) (v : Value) (c : AV), (xs.map a.eval)[j]? = some v → vs[j]? = some c → Rel M E v c := by
  induction xs with
  | nil => intro vs h _ M E a w hs; simp only [vals] at h; cases h; simp
  | cons x l ih =>
    intro vs h hw M E a w hs
    simp only [vals] at h
    split at h
    · rename_i v us hv hus
      cases h
      obtain ⟨h1, h2⟩ := ih hus (fun y hy => hw y (by simp [hy])) hs
      refine ⟨by simpa using h1, fun j v' c hv' hc => ?_⟩
      cases j with
      | zero => simp at hv' hc; subst hv'; subst hc; exact valW_rel hs hv (hw x (by simp))
      | succ j => simp only [List.map_cons, List.getElem?_cons_succ] at hv' hc; exact h2 j v' c hv' hc
    · cases h

theorem Sound.mkfn {o : Oper} {an : List An} {f : FuncId} {first caps : Array Operand} (ho : o.op = .makeFunc (.func f) first caps) (hf : first.toList = []) (hd : ∀ d, o.dst = some d → d < C.N) (hw : ∀ x ∈ caps.toList, Done s x) :
    Sound C o s (evalFn an f (vals s caps.toList)) := by
  unfold evalFn
  split
  · rename_i vs hvs
    split
    · rename_i hc
      refine .retV hd fun a w M E hs => ?_
      obtain ⟨h1, h2⟩ := vals_rel hvs hw hs
      refine ⟨.func (.func f) #[] (caps.toList.map a.eval).toArray, ?_, .cell (.fn _ _ _ h1 fun j v c hv hc' => (h2 j v c hv hc').of_cell ?_)⟩
      · have hf' : first = #[] := by
          cases first with
          | mk l => cases l with
            | nil => rfl
            | cons x l => simp at hf
        subst hf'
        have : Array.map a.eval caps = (caps.toList.map a.eval).toArray := by rw [← Array.toList_map]
        simp [execOp, ho, Instr.makeFunc]
        exact this
      · exact (List.all_eq_true.1 (allCell_all hc)) c (List.mem_of_getElem? hc')
    · exact .nil
  · exact .nil

theorem fill_sound (hτ : TyOk C.P τ) {st : TypeId} {fs : Array Field} (hst : C.P.underlying st = some (.struct fs)) {M : Mem} {E : Env} {a : Act} {w : World} (hs : St C.g C.N M E s a.tmps w) :
    ∀ (parts : List (Nat × Operand)) (cs out : List AV) (vs : List Value), fill τ s st cs parts = some out → (∀ p ∈ parts, Done s p.2) → AllR (RelS M E) vs cs → ∀ (places : Array (Nat × Nat)),
      (∀ (f : Nat) (fd : Field) (i : TI), fs[f]? = some fd → τ fd.type = some i → places[f]? = some (fd.offset, i.sz)) →
      ∃ us : List Value, Instr.fill (places[·]?) vs.toArray (parts.map fun p => (p.1, a.eval p.2)) = some us.toArray ∧ AllR (RelS M E) us out
  | [], cs, out, vs, h, _, hall, places, hp => by
    simp only [fill] at h; cases h
    exact ⟨vs, rfl, hall⟩
  | (f, x) :: r, cs, out, vs, h, hwn, hall, places, hp => by
    simp only [fill] at h
    split at h
    · rename_i i off hf
      split at h
      · rename_i v hv
        split at h
        · rename_i hc1
          split at h
          · rename_i hc2
            split at h
            · rename_i cs' hset
              have hc : v.cells.length = i.sz ∧ v.cells.all AV.isCell = true := ⟨beq_true hc1, allCell_all hc2⟩
              obtain ⟨fs', fd, hu, hfd, hoff, hti, hz⟩ := fld_sound hτ hf
              rw [hst] at hu
              cases hu
              have hpl := hp f fd i hfd hti
              have hrel := (valW_rel hs hv (hwn (f, x) (by simp))).allR hc.2
              have hlen : (a.eval x).cells.toList.length = v.cells.length := hrel.1
              obtain ⟨e, hl⟩ := setAt_eq _ _ _ _ hset
              have hne : v.cells ≠ [] := by intro h0; rw [h0] at hc; simp at hc; exact hz hc.symm
              have hb := hl hne
              have hall' := hall.set hrel off (fun _ => by rw [hlen, hall.1]; exact hb)
              rw [hlen, ← e] at hall'
              obtain ⟨us, h1, h2⟩ := fill_sound hτ hst hs r cs' out _ h (fun p hp => hwn p (by simp [hp])) hall' places hp
              refine ⟨us, ?_, h2⟩
              rw [← h1]
              simp only [List.map_cons, Instr.fill, hpl]
              have hcnd : ¬ ((decide ((a.eval x).cells.size ≠ i.sz) || decide (fd.offset + (a.eval x).cells.size > vs.toArray.size)) = true) := by
                have e1 : (a.eval x).cells.size = v.cells.length := by rw [← hlen]; simp
                have e2 := hall.1
                simp only [Bool.or_eq_true, decide_eq_true_eq, List.size_toArray]
                omega
              have key : ∀ (l : List Value) (c : List Value) (o k : Nat), o + k + l.length ≤ c.length →
                  ((l.zipIdx k).foldl (fun (cs : Array Value) (p : Value × Nat) => cs.setIfInBounds (o + p.2) p.1) c.toArray) = (c.take (o + k) ++ l ++ c.drop (o + k + l.length)).toArray := by
                intro l
                induction l with
                | nil => intro c o k _; simp
                | cons y l ih =>
                  intro c o k hb
                  simp only [List.zipIdx_cons, List.foldl_cons]
                  have : (c.toArray.setIfInBounds (o + k) y) = (c.set (o + k) y).toArray := by simp
                  rw [this, ih (c.set (o + k) y) o (k + 1) (by simp at hb ⊢; omega)]
                  congr 1
                  simp only [List.length_cons] at hb ⊢
                  apply List.ext_getElem?
                  intro j
                  simp only [List.append_assoc, List.getElem?_append, List.getElem?_take, List.getElem?_drop, List.getElem?_set, List.length_take, List.length_set, List.getElem?_cons]
                  grind
              have hfold : (Array.foldl (fun cs (x : Value × Nat) => cs.setIfInBounds (fd.offset + x.2) x.1) vs.toArray (a.eval x).cells.zipIdx) = (vs.take off ++ (a.eval x).cells.toList ++ vs.drop (off + v.cells.length)).toArray := by
                rw [← Array.foldl_toList]
                have := key (a.eval x).cells.toList vs off 0 (by rw [hlen, hall.1]; simpa using hb)
                rw [hlen] at this
                subst hoff
                simpa using this
              rw [if_neg hcnd]
              rw [← hfold]
            · cases h
          · cases h
        · cases h
      · cases h
    · cases h

theorem run_mapM_list {P : Program} {α β : Type} (f : α → Sem β) (g : α → β) (w : World) : ∀ (l : List α), (∀ x ∈ l, (f x).run P w = .ok (g x) w) → (l.mapM f).run P w = .ok (l.map g) w
  | [], _ => by simp
  | x :: l, h => by
    rw [List.mapM_cons]
    simp only [Sem.run_bind, h x (by simp), Result.andThen_ok, run_mapM_list f g w l (fun y hy => h y (by simp [hy])), Sem.run_pure, List.map_cons]
theorem run_mapM {P : Program} {α β : Type} (f : α → Sem β) (g : α → β) (w : World) (l : Array α) (h : ∀ x ∈ l.toList, (f x).run P w = .ok (g x) w) : (l.mapM f).run P w = .ok (l.map g) w := by
  rw [Array.mapM_eq_mapM_toList]
  simp only [Sem.run_map, run_mapM_list f g w l.toList h, Result.andThen_ok]
  congr 1
  rw [← Array.toList_map]

end Go.Dm
