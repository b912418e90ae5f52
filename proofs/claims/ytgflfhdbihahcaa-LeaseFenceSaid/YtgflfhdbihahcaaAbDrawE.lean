/- The evaluator in regions whose order is open. -/
import Derived.Test.YtgflfhdbihahcaaAbDraw
namespace Go.Ab
open Go Go.RowKit
set_option linter.unusedSimpArgs false
set_option linter.unusedVariables false

variable {C : Cx} {k : List It} {s s' t : S} {τ : TyTab}

inductive TRel (d bk : Option Nat) (s s' : S) : T → T → Prop
  | leaf (os os' : List Oper) (e : Eff) (h1 : e.slot.map (·.1) = d) (h2 : e.box.map (·.1) = bk) : TRel d bk s s' (.leaf os (e.app s)) (.leaf os' (e.app s'))
  | guard (p : Prop) {t t' : T} (h : TRel d bk s s' t t') : TRel d bk s s' (.guard p t) (.guard p t')
  | split (p : Prop) {t t' u u' : T} (h : TRel d bk s s' t t') (h' : TRel d bk s s' u u') : TRel d bk s s' (.split p t u) (.split p t' u')
  | stop : TRel d bk s s' .stop .stop

def ptrKey : Option AV → Option Nat
  | some (.ptr i _) => some i
  | _ => none

section
variable {d bk : Option Nat}
theorem set_rel (v : AV) (os os' : List Oper) : TRel d none s s' (.leaf os (setD d v s)) (.leaf os' (setD d v s')) := by
  cases d with
  | none => exact .leaf os os' ⟨none, none⟩ rfl rfl
  | some i => exact .leaf os os' ⟨some (i, v), none⟩ rfl rfl
theorem ret1_rel (v : Option AV) : TRel d none s s' (ret1 d s v) (ret1 d s' v) := by
  cases v with
  | none => exact .stop
  | some v => exact set_rel v _ _
theorem TRel.dec {d bk : Option Nat} {s s' : S} (p : Prop) {t t' u u' : T} (h : TRel d bk s s' t t') (h' : TRel d bk s s' u u') : TRel d bk s s' (T.dec p t u) (T.dec p t' u') := by
  by_cases hp : p
  · rw [T.dec_pos hp, T.dec_pos hp]; exact h
  · rw [T.dec_neg hp, T.dec_neg hp]; exact h'
theorem ret2_rel (p : Prop) : TRel d none s s' (ret2 d s p) (ret2 d s' p) := .dec p (set_rel _ _ _) (set_rel _ _ _)
theorem ret2n_rel (p : Prop) : TRel d none s s' (T.dec p (.leaf [] (setD d (.bool false) s)) (.leaf [] (setD d (.bool true) s))) (T.dec p (.leaf [] (setD d (.bool false) s')) (.leaf [] (setD d (.bool true) s'))) := .dec p (set_rel _ _ _) (set_rel _ _ _)

theorem int_rel (k : IntKind) (a b : Int) (op : BinOp) : TRel d none s s' (evalInt d s k a b op) (evalInt d s' k a b op) := by
  cases op <;> simp only [evalInt] <;> first | exact ret1_rel _ | exact .guard _ (ret1_rel _) | exact ret2_rel _ | exact ret2n_rel _ | exact .stop
theorem shift_rel (k : IntKind) (a b : Int) (op : BinOp) : TRel d none s s' (evalShift d s k a b op) (evalShift d s' k a b op) := by
  cases op <;> simp only [evalShift] <;> first | exact .guard _ (ret1_rel _) | exact .stop
theorem str_rel (x y : List UInt8) (op : BinOp) : TRel d none s s' (evalStr d s x y op) (evalStr d s' x y op) := by
  cases op <;> simp only [evalStr] <;> first | exact ret1_rel _ | exact .guard _ (ret1_rel _) | exact ret2_rel _ | exact ret2n_rel _ | exact .stop
theorem ite_rel {p : Prop} [Decidable p] {t t' u u' : T} (h : TRel d bk s s' t t') (h' : TRel d bk s s' u u') : TRel d bk s s' (if p then t else u) (if p then t' else u') := by
  split
  · exact h
  · exact h'
theorem boolop_rel (t : TypeId) (x y : Bool) (op : BinOp) : TRel d none s s' (evalBool τ d s t x y op) (evalBool τ d s' t x y op) := by
  cases op <;> simp only [evalBool] <;> first | exact ite_rel (ret1_rel _) .stop | exact .stop
theorem agg_rel (t : TypeId) (x y : List AV) (op : BinOp) : TRel d none s s' (evalAgg τ d s t x y op) (evalAgg τ d s' t x y op) := by
  unfold evalAgg
  cases shapeOf τ 5 t with
  | none => exact .stop
  | some sh =>
    refine ite_rel ?_ .stop
    cases op <;> first | exact ret2_rel _ | exact ret2n_rel _ | exact .stop
theorem bin_rel (t : TypeId) (op : BinOp) (x y : AV) : TRel d none s s' (evalBin τ d s t op x y) (evalBin τ d s' t op x y) := by
  unfold evalBin
  split
  · exact ite_rel (shift_rel _ _ _ _) (ite_rel (int_rel _ _ _ _) .stop)
  · exact str_rel _ _ _
  · exact boolop_rel _ _ _ _
  · exact agg_rel _ _ _ _
  · exact .stop
theorem op1_rel {x : Option AV} {f f' : AV → T} (h : ∀ v, x = some v → TRel d bk s s' (f v) (f' v)) : TRel d bk s s' (evalOp1 x f) (evalOp1 x f') := by
  cases x with
  | none => exact .stop
  | some v => exact h v rfl
theorem op2_rel {x y : Option AV} {f f' : AV → AV → T} (h : ∀ v u, x = some v → y = some u → TRel d bk s s' (f v u) (f' v u)) : TRel d bk s s' (evalOp2 x y f) (evalOp2 x y f') := by
  cases x with
  | none => exact .stop
  | some v => cases y with
    | none => exact .stop
    | some u => exact h v u rfl rfl
theorem pick_rel (a b : Option AV) (c : AV) : TRel d none s s' (evalPick d s a b c) (evalPick d s' a b c) := by
  unfold evalPick
  split
  · exact ret1_rel _
  · exact ret1_rel _
  · exact .stop
theorem box_rel (cs : List AV) (h : ∀ i, d = some i → aget s.bx i = aget s'.bx i) : TRel d d s s' (evalBox d s cs) (evalBox d s' cs) := by
  cases d with
  | none => exact .stop
  | some i =>
    simp only [evalBox]
    rw [← h i rfl]
    cases aget s.bx i with
    | some _ => exact .stop
    | none => exact ite_rel (.leaf _ _ ⟨some (i, .ptr i 0), some (i, cs)⟩ rfl rfl) .stop
theorem fieldAddr_rel (t f : Nat) (x : AV) : TRel d none s s' (evalFieldAddr τ d s t f x) (evalFieldAddr τ d s' t f x) := by
  unfold evalFieldAddr
  cases fldOf τ t f with
  | none => split <;> first | exact .stop | exact .stop
  | some p =>
    obtain ⟨i, off⟩ := p
    split <;> first | exact ret1_rel _ | exact .stop
theorem field_rel (t f : Nat) (x : AV) : TRel d none s s' (evalField τ d s t f x) (evalField τ d s' t f x) := by
  unfold evalField
  cases fldOf τ t f with
  | none => split <;> first | exact .stop | exact .stop
  | some p =>
    obtain ⟨i, off⟩ := p
    split <;> first | exact ret1_rel _ | exact .stop
theorem load_rel (t : TypeId) (x : AV) (h : ∀ i o, x = .ptr i o → aget s.bx i = aget s'.bx i) : TRel d none s s' (evalLoad τ d s t x) (evalLoad τ d s' t x) := by
  unfold evalLoad
  split
  · rename_i i o
    rw [← h i o rfl]
    cases τ t with
    | none => exact .stop
    | some ti => cases aget s.bx i with
      | none => exact .stop
      | some cs => exact ret1_rel _
  · cases τ t with
    | none => exact .stop
    | some ti => exact ite_rel (ret1_rel _) .stop
  · exact .stop
theorem store_rel (t : TypeId) (v x : AV) (h : ∀ i o, x = .ptr i o → aget s.bx i = aget s'.bx i) : TRel none (ptrKey (some x)) s s' (evalStore τ s t v x) (evalStore τ s' t v x) := by
  unfold evalStore
  split
  · rename_i i o
    rw [← h i o rfl]
    cases τ t with
    | none => exact .stop
    | some ti => cases aget s.bx i with
      | none => exact .stop
      | some cs =>
        refine ite_rel ?_ .stop
        cases setAt cs o v.cells with
        | none => exact .stop
        | some cs' => exact .leaf _ _ ⟨none, some (i, cs')⟩ rfl rfl
  · exact .stop
theorem extract_rel (i : Nat) (x : AV) : TRel d none s s' (evalExtract d s i x) (evalExtract d s' i x) := by
  unfold evalExtract
  split
  · exact ret1_rel _
  · exact .stop
theorem nil_rel (x : AV) : TRel d none s s' (evalNilCheck d s x) (evalNilCheck d s' x) := by
  unfold evalNilCheck
  split <;> first | exact ret1_rel _ | exact .stop
theorem un_rel (x : Option AV) (op : UnOp) : TRel d none s s' (evalUn d s x op) (evalUn d s' x op) := by
  cases op <;> simp only [evalUn] <;> first
    | exact .stop
    | (split <;> first | exact ret1_rel _ | exact .stop)
    | (cases x with
       | none => exact .stop
       | some v =>
         simp only [evalNot]
         split <;> first | exact ret1_rel _ | exact .stop)
theorem conv_rel (t : TypeId) (x : AV) : TRel d none s s' (evalConv τ d s t x) (evalConv τ d s' t x) := by
  unfold evalConv
  cases τ t with
  | none => split <;> first | exact .stop | exact .stop
  | some ti =>
    obtain ⟨kk, sz, b, z⟩ := ti
    cases kk <;> (split <;> first | exact ret1_rel _ | exact .stop | exact .stop)
theorem len_rel (kk : TK) (x : AV) (h : ∀ i st, x = .row i st → aget s.rw i = aget s'.rw i) : TRel d none s s' (evalLen d s kk x) (evalLen d s' kk x) := by
  unfold evalLen
  split
  · exact ret1_rel _
  · exact ret1_rel _
  · exact ret1_rel _
  · rename_i i st
    rw [← h i st rfl]
    cases aget s.rw i with
    | none => exact .stop
    | some r => exact ite_rel (ret1_rel _) .stop
  · exact ret1_rel _
  · exact .stop
theorem minmax_rel (mx : Bool) (l : List AV) : TRel d none s s' (evalMinMax mx d s l) (evalMinMax mx d s' l) := by
  unfold evalMinMax
  split
  · exact ite_rel (ret1_rel _) .stop
  · exact .stop
theorem fn_rel (f : FuncId) (l : Option (List AV)) : TRel d none s s' (evalFn d s f l) (evalFn d s' f l) := by
  cases l with
  | none => exact .stop
  | some l => exact ite_rel (ret1_rel _) .stop
end

def tmpKeys : List Operand → List Key
  | [] => []
  | .tmp i :: l => (0, i) :: tmpKeys l
  | _ :: l => tmpKeys l

/-- what an operation looks at -/
def memReads (d : Option Nat) (s : S) : Op → List Key
  | .load _ a => match val s a with | some (.ptr i _) => [(1, i)] | _ => []
  | .store _ a _ => match val s a with | some (.ptr i _) => [(1, i)] | _ => []
  | .alloc _ => match d with | some i => [(1, i)] | none => []
  | .box _ _ => match d with | some i => [(1, i)] | none => []
  | .call c => match c.args.toList with
    | [x] => match val s x with | some (.row i _) => [(2, i)] | _ => []
    | _ => []
  | _ => []
def opReads (d : Option Nat) (s : S) (op : Op) : List Key := tmpKeys op.operands.toList ++ memReads d s op

theorem val_agree {R : List Key} (h : Agree R s s') : ∀ {l : List Operand}, (∀ κ ∈ tmpKeys l, κ ∈ R) → ∀ x ∈ l, val s x = val s' x
  | [], _, x, hx => by cases hx
  | y :: l, hR, x, hx => by
    have hl : ∀ κ ∈ tmpKeys l, κ ∈ R := fun κ hκ => hR κ (by cases y <;> simp [tmpKeys, hκ])
    rcases List.mem_cons.1 hx with rfl | hx
    · cases x with
      | tmp i => exact (h (0, i) (hR _ (by simp [tmpKeys]))).1 rfl
      | _ => rfl
    · exact val_agree h hl x hx
theorem vals_agree {R : List Key} (h : Agree R s s') : ∀ {l : List Operand}, (∀ x ∈ l, val s x = val s' x) → vals s l = vals s' l
  | [], _ => rfl
  | y :: l, hl => by
    simp only [vals, hl y (by simp), vals_agree h (l := l) fun x hx => hl x (by simp [hx])]
theorem fill_agree : ∀ {l : List (Nat × Operand)} {st : TypeId} {cs : List AV}, (∀ p ∈ l, val s p.2 = val s' p.2) → fill τ s st cs l = fill τ s' st cs l
  | [], _, _, _ => rfl
  | (f, x) :: l, st, cs, hl => by
    have h1 := hl (f, x) (by simp)
    simp only at h1
    simp only [fill, h1]
    split
    · split
      · split
        · exact fill_agree fun p hp => hl p (by simp [hp])
        · rfl
      · rfl
    · rfl

def boxKey (d : Option Nat) (s : S) : Op → Option Nat
  | .alloc _ => d
  | .box _ _ => d
  | .store _ a _ => ptrKey (val s a)
  | _ => none

theorem evalOp_agree {d : Option Nat} {op : Op} {R : List Key} (hR : ∀ κ ∈ opReads d s op, κ ∈ R) (h : Agree R s s') : TRel d (boxKey d s op) s s' (evalOp τ d s op) (evalOp τ d s' op) := by
  have hv : ∀ x ∈ op.operands.toList, val s x = val s' x := val_agree h fun κ hκ => hR κ (by simp [opReads, hκ])
  have hm : ∀ κ ∈ memReads d s op, same κ s s' := fun κ hκ => h κ (hR κ (by simp [opReads, hκ]))
  cases op with
  | move x => simp only [evalOp]; rw [hv x (by simp [Op.operands])]; exact ret1_rel _
  | assign x => simp only [evalOp]; rw [hv x (by simp [Op.operands])]; exact ret1_rel _
  | pick c a b =>
    simp only [evalOp]; rw [hv c (by simp [Op.operands]), hv a (by simp [Op.operands]), hv b (by simp [Op.operands])]
    exact op1_rel fun v _ => pick_rel _ _ _
  | alloc t =>
    simp only [evalOp]
    cases τ t with
    | none => exact .stop
    | some ti => exact box_rel _ fun i hi => (hm (1, i) (by simp [memReads, hi])).2.1 rfl
  | box t x =>
    simp only [evalOp]; rw [← hv x (by simp [Op.operands])]
    exact op1_rel fun v _ => box_rel _ fun i hi => (hm (1, i) (by simp [memReads, hi])).2.1 rfl
  | build t parts =>
    simp only [evalOp, evalBuild]
    split
    · refine ite_rel ?_ .stop
      rw [← fill_agree (s := s) (s' := s') fun p hp => hv p.2 (by
        simp only [Op.operands, List.mem_map]
        exact ⟨p, hp, rfl⟩)]
      split
      · exact ret1_rel _
      · exact .stop
    · exact .stop
  | load t a =>
    simp only [evalOp]; rw [← hv a (by simp [Op.operands])]
    exact op1_rel fun v hv' => load_rel _ _ fun i o e => (hm (1, i) (by subst e; simp [memReads, hv'])).2.1 rfl
  | store t a x =>
    simp only [evalOp]
    cases d with
    | some _ => exact .stop
    | none =>
      simp only
      rw [← hv x (by simp [Op.operands]), ← hv a (by simp [Op.operands])]
      refine op2_rel fun v u _ hu => ?_
      have hk : boxKey none s (.store t a x) = ptrKey (some u) := by simp only [boxKey, hu]
      rw [hk]
      exact store_rel _ _ _ fun i o e => (hm (1, i) (by subst e; simp [memReads, hu])).2.1 rfl
  | nilCheck x => simp only [evalOp]; rw [hv x (by simp [Op.operands])]; exact op1_rel fun v _ => nil_rel _
  | binOp op t x y t' =>
    simp only [evalOp]; rw [hv x (by simp [Op.operands]), hv y (by simp [Op.operands])]
    exact op2_rel fun v u _ _ => bin_rel _ _ _ _
  | unOp op t x => simp only [evalOp]; rw [hv x (by simp [Op.operands])]; exact un_rel _ _
  | convert src dst x => simp only [evalOp]; rw [hv x (by simp [Op.operands])]; exact ite_rel (op1_rel fun v _ => conv_rel _ _) .stop
  | fieldAddr t x f => simp only [evalOp]; rw [hv x (by simp [Op.operands])]; exact op1_rel fun v _ => fieldAddr_rel _ _ _
  | field t x f => simp only [evalOp]; rw [hv x (by simp [Op.operands])]; exact op1_rel fun v _ => field_rel _ _ _
  | extract x i => simp only [evalOp]; rw [hv x (by simp [Op.operands])]; exact op1_rel fun v _ => extract_rel _ _
  | makeFunc fn first caps =>
    cases fn with
    | func f =>
      simp only [evalOp]
      rw [vals_agree h (l := caps.toList) fun x hx => hv x (by simp [Op.operands]; exact .inr (by simpa using hx))]
      exact ite_rel (fn_rel _ _) .stop
    | _ => exact .stop
  | call c =>
    simp only [evalOp]
    cases hc : c.callee with
    | builtin b =>
      have hva : ∀ x ∈ c.args.toList, val s x = val s' x := fun x hx => hv x (by simp [Op.operands, Call.operands, hc]; simpa using hx)
      cases b <;> simp only [evalCallee, evalBuiltin] <;> first | exact .stop | skip
      case len =>
        split
        · rename_i x t hx ht
          cases τ t with
          | none => exact .stop
          | some ti =>
            simp only
            rw [← hva x (by rw [hx]; simp)]
            exact op1_rel fun v hv' => len_rel _ _ fun i st e => (hm (2, i) (by subst e; simp [memReads, hx, hv'])).2.2.1 rfl
        · exact .stop
      case min =>
        rw [vals_agree h hva]
        cases vals s' c.args.toList with
        | none => exact .stop
        | some vs => exact minmax_rel _ _
      case max =>
        rw [vals_agree h hva]
        cases vals s' c.args.toList with
        | none => exact .stop
        | some vs => exact minmax_rel _ _
    | _ => exact .stop
  | _ => exact .stop

/-- the way that a tree takes -/
inductive T.sel : T → S → Prop
  | leaf (os : List Oper) (s : S) : T.sel (.leaf os s) s
  | guard {p : Prop} {t : T} {s : S} (hp : p) (h : T.sel t s) : T.sel (.guard p t) s
  | left {p : Prop} {t u : T} {s : S} (hp : p) (h : T.sel t s) : T.sel (.split p t u) s
  | right {p : Prop} {t u : T} {s : S} (hp : ¬ p) (h : T.sel u s) : T.sel (.split p t u) s

open Classical in
theorem T.sel_of_all {X : S → Prop} : ∀ {t : T}, t.all (fun _ s => X s) → ∃ s, X s ∧ t.sel s
  | .leaf os s, h => ⟨s, h, .leaf os s⟩
  | .guard p t, h => let ⟨s, h1, h2⟩ := T.sel_of_all h.2; ⟨s, h1, .guard h.1 h2⟩
  | .split p t u, h => if hp : p then let ⟨s, h1, h2⟩ := T.sel_of_all (h.1 hp); ⟨s, h1, .left hp h2⟩ else let ⟨s, h1, h2⟩ := T.sel_of_all (h.2 hp); ⟨s, h1, .right hp h2⟩
theorem T.all_of_sel {X : S → Prop} {t : T} {s : S} (h : t.sel s) (hX : X s) : t.all (fun _ s => X s) := by
  induction h with
  | leaf os s => exact hX
  | guard hp _ ih => exact ⟨hp, ih hX⟩
  | left hp _ ih => exact ⟨fun _ => ih hX, fun hn => absurd hp hn⟩
  | right hp _ ih => exact ⟨fun h => absurd h hp, fun _ => ih hX⟩
theorem TRel.sel_ {d bk : Option Nat} {t t' : T} (h : TRel d bk s s' t t') {s1 : S} (hs : t.sel s1) : ∃ e : Eff, e.slot.map (·.1) = d ∧ e.box.map (·.1) = bk ∧ s1 = e.app s ∧ t'.sel (e.app s') := by
  induction h with
  | leaf os os' e h1 h2 => cases hs; exact ⟨e, h1, h2, rfl, .leaf _ _⟩
  | guard p h ih => cases hs with
    | guard hp h => obtain ⟨e, h1, h2, h3, h4⟩ := ih h; exact ⟨e, h1, h2, h3, .guard hp h4⟩
  | split p h h' ih ih' => cases hs with
    | left hp h => obtain ⟨e, h1, h2, h3, h4⟩ := ih h; exact ⟨e, h1, h2, h3, .left hp h4⟩
    | right hp h => obtain ⟨e, h1, h2, h3, h4⟩ := ih' h; exact ⟨e, h1, h2, h3, .right hp h4⟩
  | stop => cases hs
theorem Eff.uniq {d bk : Option Nat} {e e' : Eff} (h1 : e.slot.map (·.1) = d) (h2 : e.box.map (·.1) = bk) (h1' : e'.slot.map (·.1) = d) (h2' : e'.box.map (·.1) = bk) (h : e.app s = e'.app s) : e = e' := by
  obtain ⟨sl, bx⟩ := e
  obtain ⟨sl', bx'⟩ := e'
  simp only [Eff.app, S.mk.injEq] at h
  obtain ⟨g1, g2, _⟩ := h
  have key : ∀ {α : Type} (l : List (Nat × α)) (a b : Option (Nat × α)) (k : Option Nat), a.map (·.1) = k → b.map (·.1) = k → putO a l = putO b l → a = b := by
    intro α l a b k ha hb hab
    cases k with
    | none => simp at ha hb; rw [ha, hb]
    | some i =>
      rw [Option.map_eq_some_iff] at ha hb
      obtain ⟨⟨i1, x⟩, rfl, h1⟩ := ha
      obtain ⟨⟨i2, y⟩, rfl, h2⟩ := hb
      simp only at h1 h2
      subst h1; subst h2
      have h1 := congrArg (fun l => aget l i2) hab
      simp only [aget_putO, if_true] at h1
      cases h1
      rfl
  have e1 : sl = sl' := key _ _ _ d h1 h1' g1
  have e2 : bx = bx' := key _ _ _ bk h2 h2' g2
  rw [e1, e2]

/- the evaluator -/

theorem Agree.sub {R R' : List Key} (h : Agree R s s') (hR : ∀ κ ∈ R', κ ∈ R) : Agree R' s s' := fun κ hκ => h κ (hR κ hκ)

theorem guard_agree {all : List Oper} {j : Nat} {i : Nat} (hg : guardSlot all j = some i) (h : same (0, i) s s') : (guardSlot all j).bind (aget s.fr) = (guardSlot all j).bind (aget s'.fr) := by
  rw [hg]
  exact h.1 rfl

def gdReads (all : List Oper) (o : Oper) : List Key :=
  match o.guard with
  | some (j, _) => match guardSlot all j with
    | some i => [(0, i)]
    | none => []
  | none => []

theorem wantedOk_agree {all : List Oper} {o : Oper} (h : Agree (gdReads all o) s s') : wantedOk all s o.guard = wantedOk all s' o.guard := by
  unfold wantedOk
  split
  · rfl
  · rename_i j want hg
    cases hgs : guardSlot all j with
    | none => rfl
    | some i =>
      have := (h (0, i) (by simp [gdReads, hg, hgs])).1 rfl
      simp only [Option.bind_some, this]

/-- what is still to be gone through of a region whose order is open: the operations, and what those ahead of them have looked at and written -/
def EvD (C : Cx) (all : List Oper) (k : List It) (os : List Oper) (s : S) (pre : List (List Key × List Key)) : Prop :=
  dstOk C.N os = true → ∃ res s2, DRun C all pre.length s res s2 ∧ (os = all.drop pre.length → res.length = os.length) ∧ indepB all 0 (pre ++ keysOf res) = true ∧ Wk C k s2

theorem Wk_regD (hm : C.P.follows .mixedOrders = true) {id : Nat} {l : List Oper} (hN : dstOk C.N l = true) (hb : backB 0 l = true) (h : EvD C l k l s []) : Wk C (.code (.region id l.toArray true) :: k) s := by
  obtain ⟨res, s2, h1, h2, h3, h4⟩ := h hN
  exact draw_region hm h1 (h2 rfl) h3 hb h4

theorem EvD_nil {all : List Oper} {pre : List (List Key × List Key)} (hi : indepB all 0 pre = true) (h : Wk C k s) : EvD C all k [] s pre :=
  fun _ => ⟨[], s, .nil _ _, fun _ => rfl, by simpa [keysOf] using hi, h⟩

theorem drop_cons {all : List Oper} {o : Oper} {os : List Oper} {n : Nat} (h : o :: os = all.drop n) : all[n]? = some o ∧ os = all.drop (n + 1) := by
  have hlt : n < all.length := by
    rcases Nat.lt_or_ge n all.length with h' | h'
    · exact h'
    · rw [List.drop_eq_nil_of_le h'] at h; cases h
  rw [List.drop_eq_getElem_cons hlt] at h
  cases h
  exact ⟨List.getElem?_eq_getElem hlt, rfl⟩

/-- one operation more -/
theorem EvD_step {all : List Oper} {o : Oper} {os : List Oper} {pre : List (List Key × List Key)} {R : List Key} {e : Eff} (ho : all[pre.length]? = some o)
    (h : dstOk C.N (o :: os) = true → ValidE C all pre.length R e s) (hE : EvD C all k os (e.app s) (pre ++ [(R, e.writes)])) : EvD C all k (o :: os) s pre := by
  intro hdst
  obtain ⟨_, hdst'⟩ := dstOk_cons hdst
  obtain ⟨res, s2, h1, h2, h3, h4⟩ := hE hdst'
  rw [List.length_append] at h1 h2
  refine ⟨(R, e) :: res, s2, .cons (h hdst) h1, fun hd => ?_, ?_, h4⟩
  · have := h2 (drop_cons hd).2
    simp [this]
  · simpa [keysOf] using h3

theorem OpOk_of_does {all : List Oper} {i : Nat} {o : Oper} {s s1 : S} (ho : all[i]? = some o) (hw : wantedOk all s o.guard = some true) (h : Does C o s s1) : OpOk C all i s s1 := by
  intro a w hx K Q hK
  have hoo : all.toArray[i]? = some o := by simpa using ho
  obtain ⟨v, w', hrun, hH⟩ := h a w hx
  simp only [wpOp, hoo, wantedOk_sound hw a w hx, if_true]
  left
  unfold Oper.wp
  rcases hrun with hrun | ⟨hrun, rfl⟩
  · rw [hrun, Oper.upon_value]; exact hK _ _ hH
  · rw [hrun, Oper.upon_skip]; exact hK _ _ hH

theorem EvD_op (hτ : TyOk C.P τ) {all : List Oper} {o : Oper} {os : List Oper} {pre : List (List Key × List Key)} (ho : all[pre.length]? = some o) (hw : wantedOk all s o.guard = some true)
    (h : (evalOp τ o.dst s o.op).all (fun _ s' => ∀ e : Eff, e.slot.map (·.1) = o.dst → e.box.map (·.1) = boxKey o.dst s o.op → e.app s = s' → EvD C all k os s' (pre ++ [(opReads o.dst s o.op ++ gdReads all o, e.writes)]))) :
    EvD C all k (o :: os) s pre := by
  obtain ⟨s1, hX, hsel⟩ := T.sel_of_all h
  have hself := evalOp_agree (τ := τ) (d := o.dst) (op := o.op) (R := opReads o.dst s o.op) (fun κ hκ => hκ) (s := s) (s' := s) (fun κ _ => same.refl κ s)
  obtain ⟨e, h1, h2, h3, _⟩ := hself.sel_ hsel
  subst h3
  refine EvD_step (R := opReads o.dst s o.op ++ gdReads all o) (e := e) ho (fun hdst s' hag => ?_) (hX e h1 h2 rfl)
  obtain ⟨hd, _⟩ := dstOk_cons hdst
  have hag1 : Agree (opReads o.dst s o.op) s s' := hag.sub fun κ hκ => by simp [hκ]
  have hag2 : Agree (gdReads all o) s s' := hag.sub fun κ hκ => by simp [hκ]
  obtain ⟨e', g1, g2, g3, g4⟩ := (evalOp_agree (τ := τ) (fun κ hκ => hκ) hag1).sel_ hsel
  have := Eff.uniq h1 h2 g1 g2 g3
  subst this
  obtain ⟨_, rfl, hD⟩ := evalOp_sound hτ o hd (fun s2 => s2 = e.app s') (T.all_of_sel g4 rfl)
  exact OpOk_of_does ho (by rw [← wantedOk_agree hag2]; exact hw) hD

theorem EvD_skip {all : List Oper} {o : Oper} {os : List Oper} {pre : List (List Key × List Key)} {d : Nat} (ho : all[pre.length]? = some o) (hw : wantedOk all s o.guard = some false) (hd : o.dst = some d)
    (hE : EvD C all k os (setD o.dst (.tup []) s) (pre ++ [(gdReads all o, [(0, d)])])) : EvD C all k (o :: os) s pre := by
  rw [hd] at hE
  refine EvD_step (R := gdReads all o) (e := ⟨some (d, .tup []), none⟩) ho (fun hdst s' hag => ?_) hE
  obtain ⟨hd', _⟩ := dstOk_cons hdst
  intro a w hx K Q hK
  have hoo : all.toArray[pre.length]? = some o := by simpa using ho
  have hw' := wantedOk_sound (by rw [← wantedOk_agree hag]; exact hw) a w hx
  simp only [wpOp, hoo, hw', Bool.false_eq_true, if_false]
  refine hK _ _ ?_
  obtain ⟨hdf, M, E, hs⟩ := hx
  refine ⟨by rw [defers_put]; exact hdf, M, E, ?_⟩
  rw [hd]
  exact hs.setD (d := some d) (x := .tup []) (fun j hj => hd' j (by rw [hd]; exact hj)) (.tup [] [] rfl (fun j v c hv _ => by simp at hv))

theorem EvD_pure {all : List Oper} {o : Oper} {c : Call} {os : List Oper} {pre : List (List Key × List Key)} {f : FuncId} {args : List AV} {r : AV} {d : Nat}
    (ho : all[pre.length]? = some o) (hoc : o.op = .call c) (hcc : c.callee = .value (.func f)) (hdst : o.dst = some d) (hw : wantedOk all s o.guard = some true) (hb : Bodied C.P f) (hv : vals s c.args.toList = some args)
    (hp : AV.okInL (fun _ => false) (fun _ => false) (fun _ => false) args = true) (h : APure C.P f args r)
    (hE : EvD C all k os (setD o.dst r s) (pre ++ [(tmpKeys c.args.toList ++ gdReads all o, [(0, d)])])) : EvD C all k (o :: os) s pre := by
  rw [hdst] at hE
  refine EvD_step (R := tmpKeys c.args.toList ++ gdReads all o) (e := ⟨some (d, r), none⟩) ho (fun hdst' s' hag => ?_) hE
  obtain ⟨hd', _⟩ := dstOk_cons hdst'
  have hv' : vals s' c.args.toList = some args := by
    rw [← vals_agree hag (val_agree hag fun κ hκ => by simp [hκ])]; exact hv
  intro a w hx K Q hK
  have hoo : all.toArray[pre.length]? = some o := by simpa using ho
  have hag2 : Agree (gdReads all o) s s' := hag.sub fun κ hκ => by simp [hκ]
  have hw' := wantedOk_sound (by rw [← wantedOk_agree hag2]; exact hw) a w hx
  simp only [wpOp, hoo, hw', if_true]
  left
  unfold Oper.wp
  rw [run_call hoc hcc, run_callFunc hb, Oper.upon_enter]
  obtain ⟨hdf, M, E, hs⟩ := hx
  have hrel := vals_pure (vals_rel hs hv') hp
  refine (h w M Env.none (fun b => b < w.heap.size) _ (St.outer fun b j v hv => (hs.mem b j v hv).1) hrel).mono ?_
  rintro e w' ⟨M', E', v, x, s1, rfl, ⟨rfl, rfl⟩, hst, hr⟩
  refine hK _ _ ⟨by rw [defers_put]; exact hdf, M', E, ?_⟩
  rw [hdst]
  refine St.setD (hs.after hst) (d := some d) (fun j hj => hd' j (by rw [hdst]; exact hj)) ?_
  have h1 : ∀ i, E'.bx i = Option.none := fun i => hst.bxn i rfl
  have h2 : ∀ i, E'.rw i = Option.none := fun i => hst.rwn i rfl
  have h3 : ∀ i, E'.mp i = Option.none := fun i => hst.mpn i rfl
  exact hr.mono (fun _ _ _ h => h) ⟨fun i b h => (by rw [h1] at h; cases h), fun i q h => (by rw [h2] at h; cases h), fun i r h => (by rw [h3] at h; cases h)⟩

/- the evaluator, operation by operation -/

def keyO (c : Nat) (o : Option Nat) : List Key := match o with | some i => [(c, i)] | none => []

inductive TD where
  | leaf (os : List Oper) (s : S) (pre : List (List Key × List Key))
  | guard (p : Prop) (t : TD)
  | split (p : Prop) (t u : TD)

def TD.all (K : List Oper → S → List (List Key × List Key) → Prop) : TD → Prop
  | .leaf os s pre => K os s pre
  | .guard p t => p ∧ t.all K
  | .split p t u => (p → t.all K) ∧ (¬ p → u.all K)

def T.bindD : T → TD → (S → TD) → TD
  | .leaf _ s, _, f => f s
  | .guard p t, alt, f => .guard p (t.bindD alt f)
  | .split p t u, alt, f => .split p (t.bindD alt f) (u.bindD alt f)
  | .stop, alt, _ => alt

open Classical in
noncomputable def TD.dec (p : Prop) (t u : TD) : TD := if p then t else u
theorem TD.dec_true (t u : TD) : TD.dec True t u = t := if_pos trivial
theorem TD.dec_false (t u : TD) : TD.dec False t u = u := if_neg not_false
theorem TD.dec_pos {p : Prop} (h : p) (t u : TD) : TD.dec p t u = t := if_pos h
theorem TD.dec_neg {p : Prop} (h : ¬ p) (t u : TD) : TD.dec p t u = u := if_neg h
theorem TD.dec_all (p : Prop) (t u : TD) (K : List Oper → S → List (List Key × List Key) → Prop) : (TD.dec p t u).all K = ((p → t.all K) ∧ (¬ p → u.all K)) := by
  by_cases h : p
  · rw [TD.dec_pos h]; simp [h]
  · rw [TD.dec_neg h]; simp [h]
noncomputable def goD (τ : TyTab) (all : List Oper) (o : Oper) (os : List Oper) (F : List (List Key × List Key) → S → TD) (pre : List (List Key × List Key)) (s : S) : Option Bool → TD
  | some true => (evalOp τ o.dst s o.op).bindD (.leaf (o :: os) s pre)
        (F (pre ++ [(opReads o.dst s o.op ++ gdReads all o, keyO 0 o.dst ++ keyO 1 (boxKey o.dst s o.op))]))
  | some false => match o.dst with
      | some d => F (pre ++ [(gdReads all o, [(0, d)])]) (setD (some d) (.tup []) s)
      | none => .leaf (o :: os) s pre
  | none => .leaf (o :: os) s pre
theorem goD_t (τ : TyTab) (all : List Oper) (o : Oper) (os : List Oper) (F : List (List Key × List Key) → S → TD) (pre : List (List Key × List Key)) (s : S) : goD τ all o os F pre s (some true) = (evalOp τ o.dst s o.op).bindD (.leaf (o :: os) s pre)
        (F (pre ++ [(opReads o.dst s o.op ++ gdReads all o, keyO 0 o.dst ++ keyO 1 (boxKey o.dst s o.op))])) := rfl
theorem goD_f (τ : TyTab) (all : List Oper) (d : Nat) (op : Op) (ty : TypeId) (po : String) (af : Array Edge) (gd : Option (Nat × Bool)) (os : List Oper) (F : List (List Key × List Key) → S → TD) (pre : List (List Key × List Key)) (s : S) :
    goD τ all ⟨some d, op, ty, po, af, gd⟩ os F pre s (some false) = F (pre ++ [(gdReads all ⟨some d, op, ty, po, af, gd⟩, [(0, d)])]) (setD (some d) (.tup []) s) := rfl
theorem goD_n (τ : TyTab) (all : List Oper) (o : Oper) (os : List Oper) (F : List (List Key × List Key) → S → TD) (pre : List (List Key × List Key)) (s : S) : goD τ all o os F pre s none = .leaf (o :: os) s pre := rfl

noncomputable def evalP (τ : TyTab) (all : List Oper) : List Oper → List (List Key × List Key) → S → TD
  | [], pre, s => .leaf [] s pre
  | o :: os, pre, s => goD τ all o os (evalP τ all os) pre s (wantedOk all s o.guard)
theorem evalP_nil (τ : TyTab) (all : List Oper) (pre : List (List Key × List Key)) (s : S) : evalP τ all [] pre s = .leaf [] s pre := rfl
theorem evalP_cons (τ : TyTab) (all : List Oper) (o : Oper) (os : List Oper) (pre : List (List Key × List Key)) (s : S) : evalP τ all (o :: os) pre s = goD τ all o os (evalP τ all os) pre s (wantedOk all s o.guard) := rfl
noncomputable abbrev evalD (τ : TyTab) (all os : List Oper) (s : S) (pre : List (List Key × List Key)) : TD := evalP τ all os pre s

theorem T.dec_bindD (p : Prop) (t u : T) (alt : TD) (f : S → TD) : (T.dec p t u).bindD alt f = TD.dec p (t.bindD alt f) (u.bindD alt f) := by
  by_cases h : p
  · rw [T.dec_pos h, TD.dec_pos h]
  · rw [T.dec_neg h, TD.dec_neg h]
theorem T.all_bindD (K : List Oper → S → List (List Key × List Key) → Prop) (alt : TD) (f : S → TD) : ∀ t : T, (t.bindD alt f).all K → alt.all K ∨ t.all (fun _ s' => (f s').all K)
  | .leaf _ s', h => .inr h
  | .guard p t, h => by
    rcases T.all_bindD K alt f t h.2 with h' | h'
    · exact .inl h'
    · exact .inr ⟨h.1, h'⟩
  | .split p t u, h => by
    by_cases hp : p
    · rcases T.all_bindD K alt f t (h.1 hp) with h' | h'
      · exact .inl h'
      · exact .inr ⟨fun _ => h', fun hn => absurd hp hn⟩
    · rcases T.all_bindD K alt f u (h.2 hp) with h' | h'
      · exact .inl h'
      · exact .inr ⟨fun hn => absurd hn hp, fun _ => h'⟩
  | .stop, h => .inl h

theorem T.all_mono {X Y : S → Prop} (h : ∀ s, X s → Y s) : ∀ {t : T}, t.all (fun _ s => X s) → t.all (fun _ s => Y s)
  | .leaf _ s, hX => h s hX
  | .guard p t, hX => ⟨hX.1, T.all_mono h hX.2⟩
  | .split p t u, hX => ⟨fun hp => T.all_mono h (hX.1 hp), fun hp => T.all_mono h (hX.2 hp)⟩
  | .stop, hX => hX

theorem writes_keys {e : Eff} {d bk : Option Nat} (h1 : e.slot.map (·.1) = d) (h2 : e.box.map (·.1) = bk) : e.writes = keyO 0 d ++ keyO 1 bk := by
  obtain ⟨sl, bx⟩ := e
  subst h1; subst h2
  cases sl <;> cases bx <;> rfl

theorem evalD_sound (hτ : TyOk C.P τ) (all : List Oper) : ∀ (os : List Oper) (s : S) (pre : List (List Key × List Key)), os = all.drop pre.length → (evalD τ all os s pre).all (EvD C all k) → EvD C all k os s pre
  | [], s, pre, _, h => h
  | o :: os, s, pre, hdrop, h => by
    obtain ⟨ho, hdrop'⟩ := drop_cons hdrop
    simp only [evalD, evalP, goD] at h
    split at h
    · rename_i hw
      rcases T.all_bindD _ _ _ _ h with h' | h'
      · exact h'
      · refine EvD_op hτ ho hw (T.all_mono (fun s' hX e h1 h2 _ => ?_) h')
        rw [writes_keys h1 h2]
        exact evalD_sound hτ all os s' _ (by rw [List.length_append]; exact hdrop') hX
    · rename_i hw
      split at h
      · rename_i d hd
        refine EvD_skip ho hw hd ?_
        rw [hd]
        exact evalD_sound hτ all os _ _ (by rw [List.length_append]; exact hdrop') h
      · exact h
    · exact h

theorem Wk_draw (hτ : TyOk C.P τ) (hm : C.P.follows .mixedOrders = true) {id : Nat} {l : List Oper} (hN : dstOk C.N l = true) (hb : backB 0 l = true) (h : (evalD τ l l s []).all (EvD C l k)) : Wk C (.code (.region id l.toArray true) :: k) s :=
  Wk_regD hm hN hb (evalD_sound hτ l l s [] rfl h)

theorem EvD_call (hτ : TyOk C.P τ) {all : List Oper} {type : TypeId} {pos : String} {after : Array Edge} {gd : Option (Nat × Bool)} {os : List Oper} {pre : List (List Key × List Key)} {f : FuncId} {ops : Array Operand} {tys : Array TypeId} {args : List AV} {r : AV} {d : Nat}
    (ho : all.drop pre.length = ⟨some d, .call ⟨.value (.func f), ops, tys⟩, type, pos, after, gd⟩ :: os) (hw : wantedOk all s gd = some true) (hb : Bodied C.P f) (hv : vals s ops.toList = some args)
    (hp : AV.okInL (fun _ => false) (fun _ => false) (fun _ => false) args = true) (h : APure C.P f args r)
    (hE : (evalD τ all os (setD (some d) r s) (pre ++ [(tmpKeys ops.toList ++ gdReads all ⟨some d, .call ⟨.value (.func f), ops, tys⟩, type, pos, after, gd⟩, [(0, d)])])).all (EvD C all k)) :
    EvD C all k (⟨some d, .call ⟨.value (.func f), ops, tys⟩, type, pos, after, gd⟩ :: os) s pre := by
  obtain ⟨h1, h2⟩ := drop_cons ho.symm
  exact EvD_pure h1 rfl rfl rfl hw hb hv hp h (evalD_sound hτ all os _ _ (by rw [List.length_append]; exact h2) hE)

end Go.Ab
