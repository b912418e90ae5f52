/- What an operation reads, whole; regions with and without an order. -/
import Derived.Test.YtipeimcdjijkgaaEm26
namespace Go.Dm
open Go Go.RowKit
set_option linter.unnecessarySimpa false
set_option linter.constructorNameAsVariable false
set_option linter.unusedSectionVars false
set_option linter.unusedSimpArgs false
set_option linter.unusedVariables false

variable {C : Cx} {k : List It} {s s' t : S} {τ : TyTab}

theorem evalOp_agree {A : List (Nat × Bool)} {d : Option Nat} {an : List An} {op : Op} {r : Res} (h : evalOp τ A d s an op = some r) (hv : ∀ x ∈ opOpers op, val s x = val s' x) (ha : Agree r.rd s s') : evalOp τ A d s' an op = some r := by
  have w : ∀ x, x ∈ opOpers op → valW s' x = valW s x := fun x hx => (valW_ag (hv x hx)).symm
  cases op <;> simp only [evalOp] at h ⊢ <;> try (cases h; done)
  case move x => rw [w x (by simp [opOpers, needs, Op.operands])]; exact h
  case assign x => rw [w x (by simp [opOpers, needs, Op.operands])]; exact h
  case pick c a b =>
    cases c with
    | tmp d =>
      simp only [evalOp] at h ⊢
      rw [w (.tmp d) (by simp [opOpers]), ← hv a (by simp [opOpers]), ← hv b (by simp [opOpers])]; exact h
    | _ => cases h
  case alloc t =>
    split at h
    · rename_i ti hti; first | exact box_ag h ha | (simp only [hti]; exact box_ag h ha)
    · cases h
  case box t x =>
    rw [w x (by simp [opOpers, needs, Op.operands])]
    split at h
    · rename_i v hv'; first | exact box_ag h ha | (simp only [hv']; exact box_ag h ha)
    · cases h
  case build t parts =>
    unfold evalBuild at h ⊢
    have e : ∀ z, fill τ s' t z parts.toList = fill τ s t z parts.toList := fun z => (fill_ag fun p hp => hv p.2 (by simp [opOpers, needs, Op.operands]; exact ⟨p.1, by simpa using hp⟩)).symm
    first | (simp only [e]; exact h) | exact h
  case load t a =>
    rw [w a (by simp [opOpers, needs, Op.operands])]
    split at h
    · rename_i v hv'
      try simp only [hv']
      split at h
      · rename_i hu; try simp only [hu]
        exact loadEp_ag h ha
      · first | exact load_ag h ha | (split; · exact absurd ‹_› (by assumption)
                                      · exact load_ag h ha)
    · cases h
  case store t a x =>
    rw [w x (by simp [opOpers, needs, Op.operands]), w a (by simp [opOpers, needs, Op.operands])]
    split at h
    · split at h
      · rename_i v hv'
        try simp only [hv']
        split at h
        · rename_i u hu
          try simp only [hu]
          split at h
          · rename_i hu; try simp only [hu]
            exact storeEp_ag h ha
          · exact store_ag h ha
        · cases h
      · cases h
    · cases h
  case nilCheck x => rw [w x (by simp [opOpers, needs, Op.operands])]; exact h
  case binOp op t x y t' =>
    rw [w x (by simp [opOpers, needs, Op.operands]), w y (by simp [opOpers, needs, Op.operands])]
    split at h
    · split at h
      · split at h
        · exact nilRow_ag h ha
        · exact h
        · exact h
        · exact h
      · cases h
    · cases h
  case unOp op t x => rw [w x (by simp [opOpers, needs, Op.operands])]; exact h
  case convert src dst x =>
    rw [w x (by simp [opOpers, needs, Op.operands])]
    split at h
    · split at h
      · exact strRow_ag h ha
      · exact h
      · exact h
      · cases h
    · cases h
  case fieldAddr t x f => rw [w x (by simp [opOpers, needs, Op.operands])]; exact h
  case field t x f => rw [w x (by simp [opOpers, needs, Op.operands])]; exact h
  case extract x i => rw [w x (by simp [opOpers, needs, Op.operands])]; exact h
  case makeFunc fn first caps =>
    cases fn with
    | func f =>
      simp only [evalOp] at h ⊢
      have e : vals s' caps.toList = vals s caps.toList := (vals_ag fun x hx => hv x (by simp [opOpers, needs, Op.operands]; right; simpa using hx)).symm
      rw [e]; exact h
    | _ => cases h
  case indexAddr t x i =>
    rw [w x (by simp [opOpers, needs, Op.operands]), w i (by simp [opOpers, needs, Op.operands])]
    split at h
    · rename_i v hv'
      split at h
      · rename_i u hu; first | exact indexAddr_ag h ha | (simp only [hv', hu]; exact indexAddr_ag h ha)
      · cases h
    · cases h
  case index t x i => rw [w x (by simp [opOpers, needs, Op.operands]), w i (by simp [opOpers, needs, Op.operands])]; exact h
  case slice t x lo hi mx =>
    cases mx with
    | none =>
      simp only [evalOp] at h ⊢
      have e1 : bound s' lo = bound s lo := (bound_ag fun y hy => hv y (by subst hy; simp [opOpers, needs, Op.operands])).symm
      have e2 : bound s' hi = bound s hi := (bound_ag fun y hy => hv y (by subst hy; simp [opOpers, needs, Op.operands])).symm
      rw [w x (by simp [opOpers, needs, Op.operands]), e1, e2]
      split at h
      · split at h
        · split at h
          · split at h
            · exact sliceRow_ag h ha
            · exact sliceV_ag h ha
            · exact h
          · cases h
        · cases h
      · cases h
    | some m =>
      cases lo with
      | none => cases h
      | some lo =>
        cases hi with
        | none => cases h
        | some hi =>
          simp only [evalOp] at h ⊢
          have e1 : bound s' (some lo) = bound s (some lo) := (bound_ag fun y hy => hv y (by cases hy; simp [opOpers, needs, Op.operands])).symm
          have e2 : bound s' (some hi) = bound s (some hi) := (bound_ag fun y hy => hv y (by cases hy; simp [opOpers, needs, Op.operands])).symm
          have e3 : bound s' (some m) = bound s (some m) := (bound_ag fun y hy => hv y (by cases hy; simp [opOpers, needs, Op.operands])).symm
          rw [w x (by simp [opOpers, needs, Op.operands]), e1, e2, e3]
          split at h
          · split at h
            · split at h
              · split at h
                · split at h
                  · exact slice3_ag h ha
                  · cases h
                · cases h
              · cases h
            · cases h
          · cases h
  case buildSlice t len parts =>
    refine buildSlice_ag h (fun l hl => (vals_ag fun x hx => hv x ?_).symm) ha
    have : ∀ (l : List (Nat × Operand)) (k : Nat) (m : List Operand), litParts k l = some m → ∀ x ∈ m, ∃ p ∈ l, p.2 = x := by
      intro l
      induction l with
      | nil => intro k m hm; simp only [litParts] at hm; cases hm; intro x hx; cases hx
      | cons p l ih =>
        obtain ⟨i, y⟩ := p
        intro k m hm
        simp only [litParts] at hm
        split at hm
        · split at hm
          · rename_i r hr
            cases hm
            intro x hx
            rcases List.mem_cons.1 hx with rfl | hx
            · exact ⟨(i, _), List.mem_cons_self .., rfl⟩
            · obtain ⟨p, hp, e⟩ := ih _ _ hr x hx
              exact ⟨p, by simp [hp], e⟩
          · cases hm
        · cases hm
    obtain ⟨p, hp, rfl⟩ := this _ _ _ hl x hx
    simp [opOpers, needs, Op.operands]; exact ⟨p.1, by simpa using hp⟩
  case makeSlice t n c =>
    rw [w n (by simp [opOpers, needs, Op.operands]), w c (by simp [opOpers, needs, Op.operands])]
    split at h
    · split at h
      · exact makeSlice_ag h ha
      · cases h
    · cases h
  case makeMap t r =>
    cases r with
    | some h' => cases h
    | none => exact makeMap_ag h ha
  case lookup t x y ok =>
    rw [w x (by simp [opOpers, needs, Op.operands]), w y (by simp [opOpers, needs, Op.operands])]
    split at h
    · split at h
      · exact lookup_ag h ha
      · cases h
    · cases h
  case mapUpdate t m y x =>
    rw [w x (by simp [opOpers, needs, Op.operands]), w y (by simp [opOpers, needs, Op.operands]), w m (by simp [opOpers, needs, Op.operands])]
    split at h
    · split at h
      · split at h
        · exact mapUpdate_ag h ha
        · cases h
      · cases h
    · cases h
  case call c =>
    have hvals : vals s' c.args.toList = vals s c.args.toList := (vals_ag fun x hx => hv x (by simp [opOpers, needs]; right; simpa using hx)).symm
    cases hb : c.callee with
    | builtin b =>
      simp only [hb] at h ⊢
      cases b <;> simp only [evalBuiltin] at h ⊢ <;> try (cases h; done)
      case append =>
        split at h
        · rename_i x y t u hx ht
          have hxx : valW s' x = valW s x := w x (by simp [opOpers, needs, hx])
          have hyy : valW s' y = valW s y := w y (by simp [opOpers, needs, hx])
          split at h
          · rename_i v hv'
            split at h
            · rename_i u hu
              simp only [hxx, hv', hyy, hu]
              exact app2_ag h ha
            · cases h
          · cases h
        · cases h
      case clear =>
        split at h
        · rename_i x t hx ht
          have hxx : valW s' x = valW s x := w x (by simp [opOpers, needs, hx])
          split at h
          · rename_i i v off n hv'
            simp only [hxx, hv']
            exact clear_ag h ha
          · cases h
        · cases h
      case len =>
        split at h
        · rename_i x t hx ht
          split at h
          · rename_i ti hti
            have hxx : valW s' x = valW s x := w x (by simp [opOpers, needs, hx])
            split at h
            · rename_i v hv'
              simp only [hxx, hv']
              exact len_ag h ha
            · cases h
          · cases h
        · cases h
      case cap =>
        split at h
        · rename_i x t hx ht
          split at h
          · rename_i ti hti
            have hxx : valW s' x = valW s x := w x (by simp [opOpers, needs, hx])
            split at h
            · rename_i v hv'
              simp only [hxx, hv']
              exact h
            · cases h
          · cases h
        · cases h
      case min => rw [hvals]; exact h
      case max => rw [hvals]; exact h
    | _ => simp only [hb] at h; cases h

theorem selF_ag {α : Type} : ∀ {l : List Nat} {m m' r : List (Nat × α)}, selF l m = some r → (∀ i v, aget r i = some v → aget m i = aget m' i) → selF l m' = some r
  | [], m, m', r, h, _ => h
  | i :: l, m, m', r, h, ha => by
    simp only [selF] at h ⊢
    split at h
    · rename_i v hv
      split at h
      · rename_i r' hr'
        cases h
        have e : aget m' i = some v := by rw [← ha i v (by rw [aget_cons, if_pos rfl])]; exact hv
        simp only [e]
        rw [selF_ag hr' fun j u hu => ?_]
        by_cases hj : j = i
        · subst hj; exact ha j v (by rw [aget_cons, if_pos rfl])
        · exact ha j u (by rw [aget_cons, if_neg hj]; exact hu)
      · cases h
    · cases h
theorem mem_okeys {α : Type} {c : Nat} : ∀ {l : List (Nat × α)} {i : Nat} {v : α}, aget l i = some v → (c, i) ∈ okeys c l
  | (j, x) :: l, i, v, h => by
    rw [aget_cons] at h
    simp only [okeys, List.mem_cons]
    split at h
    · rename_i e; exact .inl (by rw [e])
    · exact .inr (mem_okeys h)
theorem mem_okeys' {α : Type} {c : Nat} : ∀ {l : List (Nat × α)} {p : Nat × α}, p ∈ l → (c, p.1) ∈ okeys c l
  | (j, x) :: l, p, h => by
    simp only [okeys, List.mem_cons]
    rcases List.mem_cons.1 h with e | h
    · subst e; exact .inl rfl
    · exact .inr (mem_okeys' h)
theorem subS_ag {bs rs ms as : List Nat} {s0 : S} (h : subS s bs rs ms as = some s0) (ha : Agree s0.keys s s') : subS s' bs rs ms as = some s0 := by
  unfold subS at h ⊢
  split at h
  · rename_i b hb
    split at h
    · rename_i r hr
      split at h
      · rename_i m hm
        split at h
        · rename_i a haa
          cases h
          rw [selF_ag hb fun i v hv => (ha (1, i) (by simp only [S.keys, List.mem_append]; exact .inl (mem_okeys hv))).2.1 rfl,
            selF_ag hr fun i v hv => (ha (2, i) (by simp only [S.keys, List.mem_append]; exact .inr (.inl (mem_okeys hv)))).2.2.1 rfl,
            selF_ag hm fun i v hv => (ha (3, i) (by simp only [S.keys, List.mem_append]; exact .inr (.inr (.inl (mem_okeys hv))))).2.2.2.1 rfl,
            selF_ag haa fun i v hv => (ha (4, i) (by simp only [S.keys, List.mem_append]; exact .inr (.inr (.inr (mem_okeys hv))))).2.2.2.2 rfl]
        · cases h
      · cases h
    · cases h
  · cases h
theorem keysNew_ag {α β γ : Type} {m : List (Nat × β)} {o o' : List (Nat × γ)} : ∀ {l : List (Nat × α)}, (∀ p ∈ l, hasKey o p.1 = hasKey o' p.1) → keysNew l m o' = keysNew l m o
  | [], _ => rfl
  | (i, x) :: l, h => by
    simp only [keysNew]
    rw [keysNew_ag (l := l) fun p hp => h p (by simp [hp]), ← h (i, x) (by simp)]
theorem callE_agree {P : Program} {f : FuncId} {xs : List AV} {ro : Bool} {bs rs ms as : List Nat} {r : AV} {s1' : S} {an : List An} {res : Res} (h : callE P s f xs ro bs rs ms as r s1' an = some res) (ha : Agree res.rd s s') : callE P s' f xs ro bs rs ms as r s1' an = some res := by
  unfold callE at h ⊢
  split at h
  · rename_i s0 hs0
    split at h
    · rename_i hcl
      split at h
      · rename_i ys ef hse
        split at h
        · rename_i hap
          split at h
          · rename_i hok
            split at h
            · split at h
              · rename_i hro
                cases h
                rw [subS_ag hs0 (ha.sub fun κ hκ => by simp [hκ])]
                simp only [hcl]
                rw [sealALx_ag hse (ha.sub fun κ hκ => by simp [hκ])]
                simp only [hap, hok, hro]
              · cases h
            · split at h
              · rename_i hk1
                split at h
                · rename_i hk2
                  cases h
                  rw [subS_ag hs0 (ha.sub fun κ hκ => by simp [hκ])]
                  simp only [hcl]
                  rw [sealALx_ag hse (ha.sub fun κ hκ => by simp [hκ])]
                  have hk : ∀ {α : Type} {l l' : List (Nat × α)} {i : Nat}, aget l i = aget l' i → hasKey l i = hasKey l' i := fun e => by rw [hasKey_aget, hasKey_aget, e]
                  rw [keysNew_ag (o := s.bx) (o' := s'.bx) fun p hp => hk ((ha (1, p.1) (by simp only [S.keys, List.mem_append]; exact .inr (.inl (.inl (mem_okeys' hp))))).2.1 rfl),
                    keysNew_ag (o := s.rw) (o' := s'.rw) fun p hp => hk ((ha (2, p.1) (by simp only [S.keys, List.mem_append]; exact .inr (.inl (.inr (.inl (mem_okeys' hp)))))).2.2.1 rfl),
                    keysNew_ag (o := s.mp) (o' := s'.mp) fun p hp => hk ((ha (3, p.1) (by simp only [S.keys, List.mem_append]; exact .inr (.inl (.inr (.inr (.inl (mem_okeys' hp))))))).2.2.2.1 rfl),
                    keysNew_ag (o := s.ar) (o' := s'.ar) fun p hp => hk ((ha (4, p.1) (by simp only [S.keys, List.mem_append]; exact .inr (.inl (.inr (.inr (.inr (mem_okeys' hp))))))).2.2.2.2 rfl)]
                  simp only [hap, hok, hk1, hk2]
                · cases h
              · cases h
          · cases h
        · cases h
      · cases h
    · cases h
  · cases h
theorem evalCall_agree {P : Program} {f : FuncId} {xs : List AV} {an : List An} {r : Res} (h : evalCall P s an f xs = some r) (ha : Agree r.rd s s') : evalCall P s' an f xs = some r := by
  unfold evalCall at h ⊢
  split at h
  · split at h
    · rename_i ys ef hse
      split at h
      · rename_i hp
        split at h
        · rename_i hpr
          cases h
          rw [sealAL_ag hse ha]
          simp only [hp, hpr]
        · cases h
      · cases h
    · cases h
  · split at h
    · rename_i ys ef hse
      split at h
      · rename_i hp
        split at h
        · rename_i hpr
          cases h
          rw [sealAL_ag hse ha]
          simp only [hp, hpr]
        · cases h
      · cases h
    · cases h
  · exact callE_agree h ha
  · exact callE_agree h ha
  · cases h

theorem evalAny_agree {P : Program} {A : List (Nat × Bool)} {d : Option Nat} {an : List An} {op : Op} {r : Res} (h : evalAny τ P A s an d op = some r) (hv : ∀ x ∈ opOpers op, val s x = val s' x) (ha : Agree r.rd s s') : evalAny τ P A s' an d op = some r := by
  unfold evalAny at h ⊢
  split at h
  · rename_i f ops tys
    have e : vals s ops.toList = vals s' ops.toList := vals_ag fun x hx => hv x (by simp [opOpers, needs]; right; simpa using hx)
    rw [← e]
    split at h
    · exact evalCall_agree h ha
    · cases h
  · rename_i t ops tys
    have e : vals s ops.toList = vals s' ops.toList := vals_ag fun x hx => hv x (by simp [opOpers, needs]; right; simpa using hx)
    have e2 : valW s (.tmp t) = valW s' (.tmp t) := valW_ag (hv _ (by simp [opOpers, needs]))
    rw [← e, ← e2]
    split at h
    · split at h
      · exact evalCall_agree h ha
      · cases h
    · cases h
  · exact evalOp_agree h hv ha

theorem needs_sub {op : Op} {x : Operand} (h : x ∈ needs op) : x ∈ opOpers op := by
  cases op <;> first | exact h | (simp [needs] at h; simp [opOpers, h])

theorem evalG_agree {P : Program} {A : List (Nat × Bool)} {o : Oper} {an : List An} {r : Res} (h : evalG τ P A s an o = some r) (hv : ∀ x ∈ opOpers o.op, val s x = val s' x) (ha : Agree r.rd s s') : evalG τ P A s' an o = some r := by
  unfold evalG at h ⊢
  have e : obs A s' (needs o.op) = obs A s (needs o.op) := (obs_ag fun x hx => hv x (needs_sub hx)).symm
  rw [e]
  split at h
  · rename_i es hes
    split at h
    · rename_i r0 hr0
      have hrd : r.rd = r0.rd := by
        split at h
        · cases h; rfl
        · split at h
          · cases h; rfl
          · cases h
      rw [hrd] at ha
      rw [evalAny_agree hr0 hv ha]
      exact h
    · cases h
  · cases h

theorem gcond_agree {all : List Oper} {gd : Option (Nat × Bool)} (h : Agree (gdKeys all gd) s s') : gcond all s gd = gcond all s' gd := by
  unfold gcond
  cases gd with
  | none => rfl
  | some p =>
    obtain ⟨j, want⟩ := p
    simp only
    cases hg : guardSlot all j with
    | none => rfl
    | some d =>
      have := (h (0, d) (by simp [gdKeys, hg])).1 rfl
      simp only [this]

/-- all operations of a region, one behind the other; what must be shown; what each one reads and writes -/
def runK (τ : TyTab) (P : Program) (all : List Oper) : List Oper → S → List An → Option (List Prop × List (Bool × Bool) × S × List (List Key × List Key))
  | [], s, an => match an with
    | [] => some ([], [], s, [])
    | _ :: _ => none
  | o :: os, s, an => match gcond all s o.guard with
    | some c => match evalG τ P c s an o with
      | some r => match runK τ P all os (r.e.app o.dst s) r.an with
        | some (gs, es, s', ks) => some (r.gs ++ gs, r.eq ++ es, s', (tmpKeys (opOpers o.op) ++ (gdKeys all o.guard ++ r.rd), DE.writes ⟨o.dst, r.e⟩) :: ks)
        | none => none
      | none => none
    | none => none

def dstB (N : Nat) : List Oper → Bool
  | [] => true
  | o :: l => match o.dst with
    | none => dstB N l
    | some d => match Nat.blt d N with
      | true => dstB N l
      | false => false
theorem dstB_get {N : Nat} : ∀ {l : List Oper} {o : Oper}, dstB N l = true → o ∈ l → ∀ d, o.dst = some d → d < N
  | [], _, _, h => by cases h
  | p :: l, o, h, ho => by
    simp only [dstB] at h
    split at h
    · rename_i hp
      rcases List.mem_cons.1 ho with e | ho
      · subst e; intro d hd; rw [hp] at hd; cases hd
      · exact dstB_get h ho
    · rename_i e hp
      split at h
      · rename_i hlt
        rcases List.mem_cons.1 ho with e' | ho
        · subst e'; intro d hd; rw [hp] at hd; cases hd; exact Nat.le_of_ble_eq_true hlt
        · exact dstB_get h ho
      · cases h

theorem runK_text (hτ : TyOk C.P τ) {all : List Oper} : ∀ {os : List Oper} {s s2 : S} {an : List An} {gs : List Prop} {es : List (Bool × Bool)} {ks : List (List Key × List Key)}, dstB C.N os = true → runK τ C.P all os s an = some (gs, es, s2, ks) → AllP gs → AllE es →
    Wk C k s2 → ∀ a w, H C.g C.N s a w → wpList C.P all.toArray (mean C k) os a w
  | [], s, s2, an, gs, es, ks, _, h, _, _, hk, a, w, hx => by
    simp only [runK] at h
    split at h
    · cases h; exact wpList_nil (hk a w hx)
    · cases h
  | o :: os, s, s2, an, gs, es, ks, hd, h, hg, he, hk, a, w, hx => by
    simp only [runK] at h
    split at h
    · rename_i c hc
      split at h
      · rename_i r hr
        split at h
        · rename_i gs' es' s' ks' hrest
          cases h
          obtain ⟨g1, g2⟩ := AllP_append.1 hg
          obtain ⟨e1, e2⟩ := AllE_append.1 he
          refine wpList_step fun K hK => ?_
          have hd' : dstB C.N os = true := by
            simp only [dstB] at hd
            split at hd
            · exact hd
            · split at hd
              · exact hd
              · cases hd
          exact evalG_sound hτ (dstB_get hd (by simp)) hc hr g1 e1 a w hx K _ fun a' w' hH => hK _ _ (runK_text hτ hd' hrest g2 e2 hk a' w' hH)
        · cases h
      · cases h
    · cases h

theorem runK_draw (hτ : TyOk C.P τ) {all : List Oper} : ∀ {os : List Oper} {s s2 : S} {an : List An} {gs : List Prop} {es : List (Bool × Bool)} {ks : List (List Key × List Key)} {n : Nat}, os = all.drop n → dstB C.N os = true → runK τ C.P all os s an = some (gs, es, s2, ks) → AllP gs → AllE es →
    ∃ res, DRun C all n s res s2 ∧ res.length = os.length ∧ keysOf res = ks
  | [], s, s2, an, gs, es, ks, n, _, _, h, _, _ => by
    simp only [runK] at h
    split at h
    · cases h; exact ⟨[], .nil _ _, rfl, rfl⟩
    · cases h
  | o :: os, s, s2, an, gs, es, ks, n, hdrop, hd, h, hg, he => by
    have hlt : n < all.length := by
      rcases Nat.lt_or_ge n all.length with h' | h'
      · exact h'
      · rw [List.drop_eq_nil_of_le h'] at hdrop; cases hdrop
    rw [List.drop_eq_getElem_cons hlt] at hdrop
    simp only [List.cons.injEq] at hdrop
    obtain ⟨ho, hos⟩ := hdrop
    have hno : all[n]? = some o := by rw [ho]; exact List.getElem?_eq_getElem hlt
    simp only [runK] at h
    split at h
    · rename_i c hc
      split at h
      · rename_i r hr
        split at h
        · rename_i gs' es' s' ks' hrest
          cases h
          obtain ⟨g1, g2⟩ := AllP_append.1 hg
          obtain ⟨e1, e2⟩ := AllE_append.1 he
          have hd' : dstB C.N os = true := by
            simp only [dstB] at hd
            split at hd
            · exact hd
            · split at hd
              · exact hd
              · cases hd
          obtain ⟨res, h1, h2, h3⟩ := runK_draw hτ hos hd' hrest g2 e2
          refine ⟨(tmpKeys (opOpers o.op) ++ (gdKeys all o.guard ++ r.rd), ⟨o.dst, r.e⟩) :: res, .cons ?_ h1, by simp [h2], by simp only [keysOf, List.map_cons] at h3 ⊢; rw [h3]⟩
          intro s' hag a w hx K Q hK
          have hag1 : Agree (tmpKeys (opOpers o.op)) s s' := hag.sub fun κ hκ => by simp [hκ]
          have hag2 : Agree (gdKeys all o.guard) s s' := hag.sub fun κ hκ => by simp [hκ]
          have hag3 : Agree r.rd s s' := hag.sub fun κ hκ => by simp [hκ]
          have hr' := evalG_agree hr (val_agree hag1) hag3
          have hc' : gcond all s' o.guard = some c := by rw [← gcond_agree hag2]; exact hc
          have hst := evalG_sound hτ (dstB_get hd (by simp)) hc' hr' g1 e1 a w hx K Q hK
          have hoo : all.toArray[n]? = some o := by simpa using hno
          simp only [wpOp, hoo]
          split
          · rename_i hw; rw [if_pos hw] at hst; exact .inl hst
          · rename_i hw; rw [if_neg hw] at hst; exact hst
        · cases h
      · cases h
    · cases h

end Go.Dm
