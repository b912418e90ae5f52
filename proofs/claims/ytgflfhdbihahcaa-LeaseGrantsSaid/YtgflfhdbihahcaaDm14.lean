/- Regions, whole: those with an order and those without; what is kept behind them. -/
import Derived.Test.YtgflfhdbihahcaaDm13
namespace Go.Dm
open Go Go.RowKit
set_option linter.unusedSimpArgs false
set_option linter.unusedVariables false

variable {C : Cx} {k : List It} {s s' t : S} {τ : TyTab}

def tmpKeys : List Operand → List Key
  | [] => []
  | .tmp i :: l => (0, i) :: tmpKeys l
  | _ :: l => tmpKeys l
def opOpers : Op → List Operand
  | .call c => c.args.toList
  | .pick c a b => [c, a, b]
  | op => op.operands.toList
def gdKeys (all : List Oper) (gd : Option (Nat × Bool)) : List Key := match gd with
  | none => []
  | some (j, _) => match guardSlot all j with
    | some d => [(0, d)]
    | none => []

theorem val_agree {l : List Operand} (h : Agree (tmpKeys l) s s') : ∀ x ∈ l, val s x = val s' x := by
  induction l with
  | nil => intro x hx; cases hx
  | cons y l ih =>
    intro x hx
    have h2 : Agree (tmpKeys l) s s' := h.sub fun κ hκ => by cases y <;> simp [tmpKeys, hκ]
    rcases List.mem_cons.1 hx with rfl | hx
    · cases x with
      | tmp i => exact (h (0, i) (by simp [tmpKeys])).1 rfl
      | _ => rfl
    · exact ih h2 x hx

theorem valW_ag {x : Operand} (h : val s x = val s' x) : valW s x = valW s' x := by unfold valW; rw [h]
theorem whenOf_ag {A : List (Nat × Bool)} {x : Operand} (h : val s x = val s' x) : whenOf A s x = whenOf A s' x := by unfold whenOf; rw [h]
theorem vals_ag : ∀ {l : List Operand}, (∀ x ∈ l, val s x = val s' x) → vals s l = vals s' l
  | [], _ => rfl
  | x :: l, h => by
    simp only [vals]
    rw [valW_ag (h x (by simp)), vals_ag fun y hy => h y (by simp [hy])]
theorem obs_ag {A : List (Nat × Bool)} : ∀ {l : List Operand}, (∀ x ∈ l, val s x = val s' x) → obs A s l = obs A s' l
  | [], _ => rfl
  | x :: l, h => by
    simp only [obs]
    rw [whenOf_ag (h x (by simp)), obs_ag fun y hy => h y (by simp [hy])]
theorem bound_ag {o : Option Operand} (h : ∀ x, o = some x → val s x = val s' x) : bound s o = bound s' o := by
  cases o with
  | none => rfl
  | some x => simp only [bound]; rw [valW_ag (h x rfl)]
theorem fill_ag {st : TypeId} : ∀ {l : List (Nat × Operand)} {cs : List AV}, (∀ p ∈ l, val s p.2 = val s' p.2) → fill τ s st cs l = fill τ s' st cs l
  | [], cs, _ => rfl
  | (f, x) :: l, cs, h => by
    have e : valW s x = valW s' x := valW_ag (h (f, x) (by simp))
    have ih : ∀ cs', fill τ s st cs' l = fill τ s' st cs' l := fun cs' => fill_ag fun p hp => h p (by simp [hp])
    simp only [fill, e, ih]
theorem load_ag {an : List An} {t : TypeId} {v : AV} {r : Res} (h : evalLoad τ s an t v = some r) (ha : Agree r.rd s s') : evalLoad τ s' an t v = some r := by
  unfold evalLoad at h ⊢
  split at h
  · rename_i i o
    split at h
    · rename_i ti hti
      split at h
      · rename_i cs hcs
        split at h
        · rename_i x hx
          cases h
          have : aget s'.bx i = some cs := by rw [← (ha (1, i) (by simp)).2.1 rfl]; exact hcs
          simp only [hti, this, hx]
        · cases h
      · cases h
    · cases h
  · exact h
  · cases h
theorem store_ag {an : List An} {t : TypeId} {v u : AV} {r : Res} (h : evalStore τ s an t v u = some r) (ha : Agree r.rd s s') : evalStore τ s' an t v u = some r := by
  unfold evalStore at h ⊢
  split at h
  · rename_i i o
    split at h
    · rename_i ti hti
      split at h
      · rename_i cs hcs
        split at h
        · rename_i h1
          split at h
          · rename_i h2
            split at h
            · rename_i cs' h3
              cases h
              have : aget s'.bx i = some cs := by rw [← (ha (1, i) (by simp)).2.1 rfl]; exact hcs
              simp only [hti, this, h1, h2, h3]
            · cases h
          · cases h
        · cases h
      · cases h
    · cases h
  · cases h
theorem box_ag {d : Option Nat} {an : List An} {cs : List AV} {r : Res} (h : evalBox d s an cs = some r) (ha : Agree r.rd s s') : evalBox d s' an cs = some r := by
  unfold evalBox at h ⊢
  split at h
  · rename_i i
    split at h
    · rename_i hn
      split at h
      · rename_i hc
        cases h
        have : aget s'.bx i = none := by rw [← (ha (1, i) (by simp)).2.1 rfl]; exact hn
        simp only [this, hc]
      · cases h
    · cases h
  · cases h
theorem rget_ag {i : Nat} (h : same (2, i) s s') : rget s.rw i = rget s'.rw i := by unfold rget; rw [h.2.2.1 rfl]
theorem len_ag {an : List An} {tk : TK} {v : AV} {r : Res} (h : evalLen s an tk v = some r) (ha : Agree r.rd s s') : evalLen s' an tk v = some r := by
  unfold evalLen at h ⊢
  split at h
  · exact h
  · exact h
  · exact h
  · rename_i e i
    split at h
    · rename_i q hq
      split at h
      · rename_i n an'
        cases h
        have : rget s'.rw i = some q := by rw [← rget_ag (ha (2, i) (by simp))]; exact hq
        simp only [this]
      · cases h
    · cases h
  · exact h
  · cases h
theorem indexAddr_ag {an : List An} {t : TypeId} {v u : AV} {r : Res} (h : evalIndexAddr τ s an t v u = some r) (ha : Agree r.rd s s') : evalIndexAddr τ s' an t v u = some r := by
  unfold evalIndexAddr at h ⊢
  split at h
  · exact h
  · rename_i i kk n
    split at h
    · rename_i z hz
      split at h
      · rename_i q hq
        split at h
        · rename_i h1
          cases h
          have : rget s'.rw i = some q := by rw [← rget_ag (ha (2, i) (by simp))]; exact hq
          simp only [hz, this, h1]
        · cases h
      · cases h
    · cases h
  · cases h

theorem evalOp_agree {A : List (Nat × Bool)} {d : Option Nat} {an : List An} {op : Op} {r : Res} (h : evalOp τ A d s an op = some r) (hv : ∀ x ∈ opOpers op, val s x = val s' x) (ha : Agree r.rd s s') : evalOp τ A d s' an op = some r := by
  have w : ∀ x, x ∈ opOpers op → valW s' x = valW s x := fun x hx => (valW_ag (hv x hx)).symm
  cases op <;> simp only [evalOp] at h ⊢ <;> try (cases h; done)
  case move x => rw [w x (by simp [opOpers, Op.operands])]; exact h
  case assign x => rw [w x (by simp [opOpers, Op.operands])]; exact h
  case pick c a b =>
    cases c with
    | tmp d =>
      simp only [evalOp] at h ⊢
      rw [w (.tmp d) (by simp [opOpers]), ← hv a (by simp [opOpers]), ← hv b (by simp [opOpers])]; exact h
    | _ => cases h
  case alloc t =>
    split at h
    · rename_i ti hti; first | exact box_ag h ha | (simp only [hti]; exact box_ag h ha)
    · cases h
  case box t x =>
    rw [w x (by simp [opOpers, Op.operands])]
    split at h
    · rename_i v hv'; first | exact box_ag h ha | (simp only [hv']; exact box_ag h ha)
    · cases h
  case build t parts =>
    unfold evalBuild at h ⊢
    have e : ∀ z, fill τ s' t z parts.toList = fill τ s t z parts.toList := fun z => (fill_ag fun p hp => hv p.2 (by simp [opOpers, Op.operands]; exact ⟨p.1, by simpa using hp⟩)).symm
    first | (simp only [e]; exact h) | exact h
  case load t a =>
    rw [w a (by simp [opOpers, Op.operands])]
    split at h
    · rename_i v hv'; first | exact load_ag h ha | (simp only [hv']; exact load_ag h ha)
    · cases h
  case store t a x =>
    rw [w x (by simp [opOpers, Op.operands]), w a (by simp [opOpers, Op.operands])]
    split at h
    · split at h
      · rename_i v hv'
        split at h
        · rename_i u hu; first | exact store_ag h ha | (simp only [hv', hu]; exact store_ag h ha)
        · cases h
      · cases h
    · cases h
  case nilCheck x => rw [w x (by simp [opOpers, Op.operands])]; exact h
  case binOp op t x y t' => rw [w x (by simp [opOpers, Op.operands]), w y (by simp [opOpers, Op.operands])]; exact h
  case unOp op t x => rw [w x (by simp [opOpers, Op.operands])]; exact h
  case convert src dst x => rw [w x (by simp [opOpers, Op.operands])]; exact h
  case fieldAddr t x f => rw [w x (by simp [opOpers, Op.operands])]; exact h
  case field t x f => rw [w x (by simp [opOpers, Op.operands])]; exact h
  case extract x i => rw [w x (by simp [opOpers, Op.operands])]; exact h
  case makeFunc fn first caps =>
    cases fn with
    | func f =>
      simp only [evalOp] at h ⊢
      have e : vals s' caps.toList = vals s caps.toList := (vals_ag fun x hx => hv x (by simp [opOpers, Op.operands]; right; simpa using hx)).symm
      rw [e]; exact h
    | _ => cases h
  case indexAddr t x i =>
    rw [w x (by simp [opOpers, Op.operands]), w i (by simp [opOpers, Op.operands])]
    split at h
    · rename_i v hv'
      split at h
      · rename_i u hu; first | exact indexAddr_ag h ha | (simp only [hv', hu]; exact indexAddr_ag h ha)
      · cases h
    · cases h
  case index t x i => rw [w x (by simp [opOpers, Op.operands]), w i (by simp [opOpers, Op.operands])]; exact h
  case slice t x lo hi mx =>
    cases mx with
    | some m => cases h
    | none =>
      simp only [evalOp] at h ⊢
      have e1 : bound s' lo = bound s lo := (bound_ag fun y hy => hv y (by subst hy; simp [opOpers, Op.operands])).symm
      have e2 : bound s' hi = bound s hi := (bound_ag fun y hy => hv y (by subst hy; simp [opOpers, Op.operands])).symm
      rw [w x (by simp [opOpers, Op.operands]), e1, e2]
      exact h
  case call c =>
    have hvals : vals s' c.args.toList = vals s c.args.toList := (vals_ag fun x hx => hv x hx).symm
    cases hb : c.callee with
    | builtin b =>
      simp only [hb] at h ⊢
      cases b <;> simp only [evalBuiltin] at h ⊢ <;> try (cases h; done)
      case len =>
        split at h
        · rename_i x t hx ht
          split at h
          · rename_i ti hti
            have hxx : valW s' x = valW s x := w x (by simp [opOpers, hx])
            split at h
            · rename_i v hv'
              simp only [hxx, hv']
              exact len_ag h ha
            · cases h
          · cases h
        · cases h
      case min => rw [hvals]; exact h
      case max => rw [hvals]; exact h
    | _ => simp only [hb] at h; cases h

theorem evalAny_agree {P : Program} {A : List (Nat × Bool)} {d : Option Nat} {an : List An} {op : Op} {r : Res} (h : evalAny τ P A s an d op = some r) (hv : ∀ x ∈ opOpers op, val s x = val s' x) (ha : Agree r.rd s s') : evalAny τ P A s' an d op = some r := by
  unfold evalAny at h ⊢
  split at h
  · rename_i f ops tys
    unfold evalCall at h ⊢
    have e : vals s ops.toList = vals s' ops.toList := vals_ag fun x hx => hv x hx
    rw [← e]
    exact h
  · exact evalOp_agree h hv ha

theorem needs_sub {op : Op} {x : Operand} (h : x ∈ needs op) : x ∈ opOpers op := by
  cases op <;> first | exact h | (simp [needs] at h; simp [opOpers, h])

theorem evalG_agree {P : Program} {A : List (Nat × Bool)} {o : Oper} {an : List An} {r : Res} (h : evalG τ P A s an o = some r) (hv : ∀ x ∈ opOpers o.op, val s x = val s' x) (ha : Agree r.rd s s') : evalG τ P A s' an o = some r := by
  unfold evalG at h ⊢
  have e : obs A s' (needs o.op) = obs A s (needs o.op) := (obs_ag fun x hx => hv x (needs_sub hx)).symm
  rw [e]
  split at h
  · rename_i es hes
    split at h
    · rename_i r0 hr0
      have hrd : r.rd = r0.rd := by
        split at h
        · cases h; rfl
        · split at h
          · cases h; rfl
          · cases h
      rw [hrd] at ha
      rw [evalAny_agree hr0 hv ha]
      exact h
    · cases h
  · cases h

theorem gcond_agree {all : List Oper} {gd : Option (Nat × Bool)} (h : Agree (gdKeys all gd) s s') : gcond all s gd = gcond all s' gd := by
  unfold gcond
  cases gd with
  | none => rfl
  | some p =>
    obtain ⟨j, want⟩ := p
    simp only
    cases hg : guardSlot all j with
    | none => rfl
    | some d =>
      have := (h (0, d) (by simp [gdKeys, hg])).1 rfl
      simp only [this]

/-- all operations of a region, one behind the other; what must be shown; what each one reads and writes -/
def runK (τ : TyTab) (P : Program) (all : List Oper) : List Oper → S → List An → Option (List Prop × List (Bool × Bool) × S × List (List Key × List Key))
  | [], s, an => match an with
    | [] => some ([], [], s, [])
    | _ :: _ => none
  | o :: os, s, an => match gcond all s o.guard with
    | some c => match evalG τ P c s an o with
      | some r => match runK τ P all os (r.e.app o.dst s) r.an with
        | some (gs, es, s', ks) => some (r.gs ++ gs, r.eq ++ es, s', (tmpKeys (opOpers o.op) ++ (gdKeys all o.guard ++ r.rd), DE.writes ⟨o.dst, r.e⟩) :: ks)
        | none => none
      | none => none
    | none => none

def dstB (N : Nat) : List Oper → Bool
  | [] => true
  | o :: l => match o.dst with
    | none => dstB N l
    | some d => match Nat.blt d N with
      | true => dstB N l
      | false => false
theorem dstB_get {N : Nat} : ∀ {l : List Oper} {o : Oper}, dstB N l = true → o ∈ l → ∀ d, o.dst = some d → d < N
  | [], _, _, h => by cases h
  | p :: l, o, h, ho => by
    simp only [dstB] at h
    split at h
    · rename_i hp
      rcases List.mem_cons.1 ho with e | ho
      · subst e; intro d hd; rw [hp] at hd; cases hd
      · exact dstB_get h ho
    · rename_i e hp
      split at h
      · rename_i hlt
        rcases List.mem_cons.1 ho with e' | ho
        · subst e'; intro d hd; rw [hp] at hd; cases hd; exact Nat.le_of_ble_eq_true hlt
        · exact dstB_get h ho
      · cases h

theorem runK_text (hτ : TyOk C.P τ) {all : List Oper} : ∀ {os : List Oper} {s s2 : S} {an : List An} {gs : List Prop} {es : List (Bool × Bool)} {ks : List (List Key × List Key)}, dstB C.N os = true → runK τ C.P all os s an = some (gs, es, s2, ks) → AllP gs → AllE es →
    Wk C k s2 → ∀ a w, H C.g C.N s a w → wpList C.P all.toArray (mean C k) os a w
  | [], s, s2, an, gs, es, ks, _, h, _, _, hk, a, w, hx => by
    simp only [runK] at h
    split at h
    · cases h; exact wpList_nil (hk a w hx)
    · cases h
  | o :: os, s, s2, an, gs, es, ks, hd, h, hg, he, hk, a, w, hx => by
    simp only [runK] at h
    split at h
    · rename_i c hc
      split at h
      · rename_i r hr
        split at h
        · rename_i gs' es' s' ks' hrest
          cases h
          obtain ⟨g1, g2⟩ := AllP_append.1 hg
          obtain ⟨e1, e2⟩ := AllE_append.1 he
          refine wpList_step fun K hK => ?_
          have hd' : dstB C.N os = true := by
            simp only [dstB] at hd
            split at hd
            · exact hd
            · split at hd
              · exact hd
              · cases hd
          exact evalG_sound hτ (dstB_get hd (by simp)) hc hr g1 e1 a w hx K _ fun a' w' hH => hK _ _ (runK_text hτ hd' hrest g2 e2 hk a' w' hH)
        · cases h
      · cases h
    · cases h

theorem runK_draw (hτ : TyOk C.P τ) {all : List Oper} : ∀ {os : List Oper} {s s2 : S} {an : List An} {gs : List Prop} {es : List (Bool × Bool)} {ks : List (List Key × List Key)} {n : Nat}, os = all.drop n → dstB C.N os = true → runK τ C.P all os s an = some (gs, es, s2, ks) → AllP gs → AllE es →
    ∃ res, DRun C all n s res s2 ∧ res.length = os.length ∧ keysOf res = ks
  | [], s, s2, an, gs, es, ks, n, _, _, h, _, _ => by
    simp only [runK] at h
    split at h
    · cases h; exact ⟨[], .nil _ _, rfl, rfl⟩
    · cases h
  | o :: os, s, s2, an, gs, es, ks, n, hdrop, hd, h, hg, he => by
    have hlt : n < all.length := by
      rcases Nat.lt_or_ge n all.length with h' | h'
      · exact h'
      · rw [List.drop_eq_nil_of_le h'] at hdrop; cases hdrop
    rw [List.drop_eq_getElem_cons hlt] at hdrop
    simp only [List.cons.injEq] at hdrop
    obtain ⟨ho, hos⟩ := hdrop
    have hno : all[n]? = some o := by rw [ho]; exact List.getElem?_eq_getElem hlt
    simp only [runK] at h
    split at h
    · rename_i c hc
      split at h
      · rename_i r hr
        split at h
        · rename_i gs' es' s' ks' hrest
          cases h
          obtain ⟨g1, g2⟩ := AllP_append.1 hg
          obtain ⟨e1, e2⟩ := AllE_append.1 he
          have hd' : dstB C.N os = true := by
            simp only [dstB] at hd
            split at hd
            · exact hd
            · split at hd
              · exact hd
              · cases hd
          obtain ⟨res, h1, h2, h3⟩ := runK_draw hτ hos hd' hrest g2 e2
          refine ⟨(tmpKeys (opOpers o.op) ++ (gdKeys all o.guard ++ r.rd), ⟨o.dst, r.e⟩) :: res, .cons ?_ h1, by simp [h2], by simp only [keysOf, List.map_cons] at h3 ⊢; rw [h3]⟩
          intro s' hag a w hx K Q hK
          have hag1 : Agree (tmpKeys (opOpers o.op)) s s' := hag.sub fun κ hκ => by simp [hκ]
          have hag2 : Agree (gdKeys all o.guard) s s' := hag.sub fun κ hκ => by simp [hκ]
          have hag3 : Agree r.rd s s' := hag.sub fun κ hκ => by simp [hκ]
          have hr' := evalG_agree hr (val_agree hag1) hag3
          have hc' : gcond all s' o.guard = some c := by rw [← gcond_agree hag2]; exact hc
          have hst := evalG_sound hτ (dstB_get hd (by simp)) hc' hr' g1 e1 a w hx K Q hK
          have hoo : all.toArray[n]? = some o := by simpa using hno
          simp only [wpOp, hoo]
          split
          · rename_i hw; rw [if_pos hw] at hst; exact .inl hst
          · rename_i hw; rw [if_neg hw] at hst; exact hst
        · cases h
      · cases h
    · cases h

/- what is kept -/

def selF {α : Type} : List Nat → List (Nat × α) → Option (List (Nat × α))
  | [], _ => some []
  | i :: l, m => match aget m i with
    | some v => match selF l m with
      | some r => some ((i, v) :: r)
      | none => none
    | none => none
def selR : List Nat → List (Nat × Option Rw) → Option (List (Nat × Option Rw))
  | [], _ => some []
  | i :: l, m => match rget m i with
    | some v => match selR l m with
      | some r => some ((i, some v) :: r)
      | none => none
    | none => none

def hasKey {α : Type} : List (Nat × α) → Nat → Bool
  | [], _ => false
  | (j, _) :: l, i => match Nat.beq i j with
    | true => true
    | false => hasKey l i
theorem hasKey_aget {α : Type} : ∀ (l : List (Nat × α)) (i : Nat), hasKey l i = (aget l i).isSome
  | [], i => rfl
  | (j, v) :: l, i => by
    rw [aget_cons]
    simp only [hasKey]
    split
    · rename_i h; rw [if_pos (beq_true h)]; rfl
    · rename_i h; rw [if_neg (beq_false h)]; exact hasKey_aget l i
def okF (f : AV → Bool) : List (Nat × AV) → Bool
  | [] => true
  | (_, x) :: l => match f x with | true => okF f l | false => false
def okB (f : List AV → Bool) : List (Nat × List AV) → Bool
  | [] => true
  | (_, x) :: l => match f x with | true => okB f l | false => false
def okM (f : List AV → Bool) : List (Nat × List (AV × AV)) → Bool
  | [] => true
  | (_, x) :: l => match f (x.map (·.2)) with | true => okM f l | false => false
theorem okF_get {f : AV → Bool} : ∀ {l : List (Nat × AV)} {i : Nat} {x : AV}, okF f l = true → aget l i = some x → f x = true
  | [], _, _, _, h => by cases h
  | (j, y) :: l, i, x, hl, h => by
    simp only [okF] at hl
    split at hl
    · rw [aget_cons] at h
      split at h
      · cases h; assumption
      · exact okF_get hl h
    · cases hl
theorem okB_get {f : List AV → Bool} : ∀ {l : List (Nat × List AV)} {i : Nat} {x : List AV}, okB f l = true → aget l i = some x → f x = true
  | [], _, _, _, h => by cases h
  | (j, y) :: l, i, x, hl, h => by
    simp only [okB] at hl
    split at hl
    · rw [aget_cons] at h
      split at h
      · cases h; assumption
      · exact okB_get hl h
    · cases hl
theorem okM_get {f : List AV → Bool} : ∀ {l : List (Nat × List (AV × AV))} {i : Nat} {x : List (AV × AV)}, okM f l = true → aget l i = some x → f (x.map (·.2)) = true
  | [], _, _, _, h => by cases h
  | (j, y) :: l, i, x, hl, h => by
    simp only [okM] at hl
    split at hl
    · rw [aget_cons] at h
      split at h
      · cases h; assumption
      · exact okM_get hl h
    · cases hl
/-- what is named is there -/
def closedB (t : S) : Bool := match okF (AV.okIn (hasKey t.bx) yes (hasKey t.mp)) t.fr with
  | true => match okB (AV.okInL (hasKey t.bx) yes (hasKey t.mp)) t.bx with
    | true => okM (AV.okInL (hasKey t.bx) yes (hasKey t.mp)) t.mp
    | false => false
  | false => false

def trimS (fs bs rs ms : List Nat) (s : S) : Option S :=
  match selF fs s.fr with
  | some f => match selF bs s.bx with
    | some b => match selR rs s.rw with
      | some r => match selF ms s.mp with
        | some m => match closedB ⟨f, b, r, m⟩ with
          | true => some ⟨f, b, r, m⟩
          | false => none
        | none => none
      | none => none
    | none => none
  | none => none

theorem selF_get {α : Type} : ∀ {l : List Nat} {m r : List (Nat × α)}, selF l m = some r → ∀ {i : Nat} {v : α}, aget r i = some v → aget m i = some v
  | [], m, r, h, i, v, hi => by simp only [selF] at h; cases h; cases hi
  | j :: l, m, r, h, i, v, hi => by
    simp only [selF] at h
    split at h
    · rename_i u hu
      split at h
      · rename_i r' hr'
        cases h
        rw [aget_cons] at hi
        split at hi
        · rename_i e; cases hi; rw [e]; exact hu
        · exact selF_get hr' hi
      · cases h
    · cases h
theorem selR_get : ∀ {l : List Nat} {m r : List (Nat × Option Rw)}, selR l m = some r → ∀ {i : Nat} {v : Rw}, rget r i = some v → rget m i = some v
  | [], m, r, h, i, v, hi => by simp only [selR] at h; cases h; cases hi
  | j :: l, m, r, h, i, v, hi => by
    simp only [selR] at h
    split at h
    · rename_i u hu
      split at h
      · rename_i r' hr'
        cases h
        rw [rget_cons] at hi
        split at hi
        · rename_i e; cases hi; rw [e]; exact hu
        · exact selR_get hr' hi
      · cases h
    · cases h

theorem St.trim {g : Gh} {N : Nat} {M : Mem} {E : Env} {tmps : Array Value} {w : World} (hs : St g N M E s tmps w)
    (hf : ∀ i v, aget t.fr i = some v → aget s.fr i = some v) (hb : ∀ i v, aget t.bx i = some v → aget s.bx i = some v) (hr : ∀ i v, rget t.rw i = some v → rget s.rw i = some v) (hm : ∀ i v, aget t.mp i = some v → aget s.mp i = some v) (hc : closedB t = true) :
    St g N M (E.keep (hasKey t.bx) (fun i => (rget t.rw i).isSome) (hasKey t.mp)) t tmps w := by
  unfold closedB at hc
  split at hc
  · rename_i hc1
    split at hc
    · rename_i hc2
      have hle : Env.le yes (E.keep (hasKey t.bx) yes (hasKey t.mp)) (E.keep (hasKey t.bx) (fun i => (rget t.rw i).isSome) (hasKey t.mp)) := by
        refine ⟨fun i b h => h, fun i q _ h => ?_, fun i r h => h⟩
        simp only [Env.keep] at h ⊢
        split at h
        · exact h
        · cases h
      have kr : ∀ {x : AV}, x.okIn (hasKey t.bx) yes (hasKey t.mp) = true → ∀ {v : Value}, Rel M E v x → Rel M (E.keep (hasKey t.bx) (fun i => (rget t.rw i).isSome) (hasKey t.mp)) v x := by
        intro x hx v hr
        have h1 := hr.keep (kb := hasKey t.bx) (kr := yes) (km := hasKey t.mp) hx
        exact h1.mono (fun _ _ _ h => h) hle (okIn_yes x)
      have krS : ∀ {x : AV}, x.okIn (hasKey t.bx) yes (hasKey t.mp) = true → ∀ {v : Value}, RelS M E v x → RelS M (E.keep (hasKey t.bx) (fun i => (rget t.rw i).isSome) (hasKey t.mp)) v x := by
        intro x hx v hr
        have h1 := hr.keep (kb := hasKey t.bx) (kr := yes) (km := hasKey t.mp) hx
        exact h1.mono (fun _ _ _ h => h) hle (okIn_yes x)
      have key : ∀ {α : Type} {l : List (Nat × α)} {i : Nat} {x : α}, aget l i = some x → hasKey l i = true := fun h => by rw [hasKey_aget, h]; rfl
      have nokey : ∀ {α : Type} {l : List (Nat × α)} {i : Nat}, aget l i = none → hasKey l i = false := fun h => by rw [hasKey_aget, h]; rfl
      have hown : ∀ b, E.own b = none → (E.keep (hasKey t.bx) (fun i => (rget t.rw i).isSome) (hasKey t.mp)).own b = none := fun b h => by simp [Env.keep, h]
      refine ⟨hs.size, fun i av hi => ?_, fun b j v hv => ⟨(hs.mem b j v hv).1, ?_⟩, fun i cs hi => ?_, fun i hi => ?_, fun i r hi => ?_, fun i hi => ?_, fun i es hi => ?_, fun i hi => ?_, fun b o h => ?_,
        fun b h => ⟨(hs.foreign b h).1, (hs.foreign b h).2.1, hown b (hs.foreign b h).2.2⟩, hs.m0, hs.mf, hs.os, hs.tape, hs.output, hs.grow⟩
      · obtain ⟨h1, h2⟩ := hs.fr i av (hf i av hi)
        exact ⟨h1, kr (okF_get hc1 hi) h2⟩
      · rcases (hs.mem b j v hv).2 with h | ⟨i, r, h1, h2, h3⟩
        · exact .inl (hown b h)
        · cases hk : rget t.rw i with
          | none => exact .inl (by simp [Env.keep, h1, hk])
          | some r' =>
            have := hr i r' hk
            rw [h2] at this; cases this
            exact .inr ⟨i, r, by simp [Env.keep, h1, hk], hk, h3⟩
      · obtain ⟨b, h1, h2, t', vs, h3, h4, h5⟩ := hs.bx i cs (hb i cs hi)
        exact ⟨b, by simp [Env.keep, key hi, h1], by simp [Env.keep, h2, key hi], t', vs, h3, h4, fun j v c hv hcc => krS (okInL_get (okB_get hc2 hi) hcc) (h5 j v c hv hcc)⟩
      · simp [Env.keep, nokey hi]
      · obtain ⟨q, h1, h2, h3, h4, h5, h6, h7⟩ := hs.rw i r (hr i r hi)
        refine ⟨q, by simp [Env.keep, hi, h1], h2, h3, h4, h5, h6, ?_⟩
        rcases h7 with h7 | ⟨blk, t', vs, g1, g2, g3, g4, g5⟩
        · exact .inl h7
        · exact .inr ⟨blk, t', vs, g1, by simp [Env.keep, g2, hi], g3, g4, g5⟩
      · simp [Env.keep, hi]
      · obtain ⟨r, h1, h2, ents, clock, h3, h4, h5⟩ := hs.mp i es (hm i es hi)
        exact ⟨r, by simp [Env.keep, key hi, h1], by simp [Env.keep, h2, key hi], ents, clock, h3, h4, fun j e p he hp => ⟨(h5 j e p he hp).1, kr (okInL_get (okM_get hc hi) (j := j) (by simp [hp])) (h5 j e p he hp).2⟩⟩
      · simp [Env.keep, nokey hi]
      · have : E.own b ≠ none := by
          intro hn
          rw [hown b hn] at h; cases h
        obtain ⟨o', ho'⟩ := Option.ne_none_iff_exists'.1 this
        exact hs.live b o' ho'
    · cases hc
  · cases hc

theorem trimS_H {fs bs rs ms : List Nat} (h : trimS fs bs rs ms s = some t) {g : Gh} {N : Nat} {a : Act} {w : World} (hx : H g N s a w) : H g N t a w := by
  unfold trimS at h
  split at h
  · rename_i f hf
    split at h
    · rename_i b hb
      split at h
      · rename_i r hr
        split at h
        · rename_i m hm
          split at h
          · rename_i hc
            cases h
            obtain ⟨hd, M, E, hs⟩ := hx
            exact ⟨hd, M, _, hs.trim (fun i v => selF_get hf) (fun i v => selF_get hb) (fun i v => selR_get hr) (fun i v => selF_get hm) hc⟩
          · cases h
        · cases h
      · cases h
    · cases h
  · cases h

theorem Wk_trim {fs bs rs ms : List Nat} (h : trimS fs bs rs ms s = some t) (hw : Wk C k t) : Wk C k s := fun a w hx => hw a w (trimS_H h hx)
theorem Wk_met {fs bs rs ms : List Nat} (h : trimS fs bs rs ms s = some t) : Wk C (.cut (fun s' => s' = t) :: k) s := Wk_cut (fun a w hx => trimS_H h hx) rfl

def fsts : List (Bool × Bool) → List Bool
  | [] => []
  | (a, _) :: l => a :: fsts l
def snds : List (Bool × Bool) → List Bool
  | [] => []
  | (_, a) :: l => a :: snds l
theorem AllE_of : ∀ {l : List (Bool × Bool)}, fsts l = snds l → AllE l
  | [], _ => trivial
  | (a, b) :: l, h => by
    simp only [fsts, snds, List.cons.injEq] at h
    exact ⟨h.1, AllE_of h.2⟩

def runT (τ : TyTab) (P : Program) (N : Nat) (drw : Bool) (ops : List Oper) (an : List An) (fs bs rs ms : List Nat) (s : S) : Option (List Prop × List (Bool × Bool) × S) :=
  match dstB N ops with
  | true => match runK τ P ops ops s an with
    | some (gs, es, s1, ks) => match (match drw with | true => indepB ops 0 ks && backB 0 ops | false => true) with
      | true => match trimS fs bs rs ms s1 with
        | some t => some (gs, es, t)
        | none => none
      | false => none
    | none => none
  | false => none
/-- what is said of a run, and its pairs' first and second parts -/
def outL : Option (List Prop × List (Bool × Bool) × S) → Option (List Prop × S × List Bool)
  | some (gs, es, t) => some (gs, t, fsts es)
  | none => none
def outR : Option (List Prop × List (Bool × Bool) × S) → List Bool
  | some (_, es, _) => snds es
  | none => []

theorem Wk_run (hτ : TyOk C.P τ) {id : Nat} {ops : List Oper} {an : List An} {fs bs rs ms : List Nat} {gs : List Prop} (h : outL (runT τ C.P C.N false ops an fs bs rs ms s) = some (gs, t, outR (runT τ C.P C.N false ops an fs bs rs ms s))) (hg : AllP gs) (hk : Wk C k t) : Wk C (.code (.region id ops.toArray false) :: k) s := by
  cases hr : runT τ C.P C.N false ops an fs bs rs ms s with
  | none => rw [hr] at h; cases h
  | some p =>
    obtain ⟨gs', es, t'⟩ := p
    rw [hr] at h
    simp only [outL, outR, Option.some.injEq, Prod.mk.injEq] at h
    obtain ⟨rfl, rfl, he⟩ := h
    unfold runT at hr
    split at hr
    · rename_i hd
      split at hr
      · rename_i gs1 es1 s1 ks hrk
        split at hr
        · split at hr
          · rename_i t1 ht
            cases hr
            exact fun a w hx => wp_region_lit (runK_text hτ hd hrk hg (AllE_of he) (Wk_trim ht hk) a w hx)
          · cases hr
        · cases hr
      · cases hr
    · cases hr
theorem Wk_runD (hτ : TyOk C.P τ) (hm : C.P.follows .mixedOrders = true) {id : Nat} {ops : List Oper} {an : List An} {fs bs rs ms : List Nat} {gs : List Prop} (h : outL (runT τ C.P C.N true ops an fs bs rs ms s) = some (gs, t, outR (runT τ C.P C.N true ops an fs bs rs ms s))) (hg : AllP gs) (hk : Wk C k t) : Wk C (.code (.region id ops.toArray true) :: k) s := by
  cases hr : runT τ C.P C.N true ops an fs bs rs ms s with
  | none => rw [hr] at h; cases h
  | some p =>
    obtain ⟨gs', es, t'⟩ := p
    rw [hr] at h
    simp only [outL, outR, Option.some.injEq, Prod.mk.injEq] at h
    obtain ⟨rfl, rfl, he⟩ := h
    unfold runT at hr
    split at hr
    · rename_i hd
      split at hr
      · rename_i gs1 es1 s1 ks hrk
        split at hr
        · rename_i hib
          split at hr
          · rename_i t1 ht
            cases hr
            simp only [Bool.and_eq_true] at hib
            obtain ⟨res, h1, h2, h3⟩ := runK_draw hτ (n := 0) rfl hd hrk hg (AllE_of he)
            exact draw_region hm h1 h2 (by rw [h3]; exact hib.1) hib.2 (Wk_trim ht hk)
          · cases hr
        · cases hr
      · cases hr
    · cases hr

end Go.Dm
