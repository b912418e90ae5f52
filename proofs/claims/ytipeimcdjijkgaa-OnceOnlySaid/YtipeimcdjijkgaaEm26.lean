/- What an operation reads: on states that say the same of that, it does the same. -/
import Derived.Test.YtipeimcdjijkgaaEm25
namespace Go.Dm
open Go Go.RowKit
set_option linter.unnecessarySimpa false
set_option linter.constructorNameAsVariable false
set_option linter.unusedSectionVars false
set_option linter.unusedSimpArgs false
set_option linter.unusedVariables false

variable {C : Cx} {k : List It} {s s' t : S} {τ : TyTab}

def tmpKeys : List Operand → List Key
  | [] => []
  | .tmp i :: l => (0, i) :: tmpKeys l
  | _ :: l => tmpKeys l
def opOpers : Op → List Operand
  | .pick c a b => [c, a, b]
  | op => needs op
def gdKeys (all : List Oper) (gd : Option (Nat × Bool)) : List Key := match gd with
  | none => []
  | some (j, _) => match guardSlot all j with
    | some d => [(0, d)]
    | none => []

theorem val_agree {l : List Operand} (h : Agree (tmpKeys l) s s') : ∀ x ∈ l, val s x = val s' x := by
  induction l with
  | nil => intro x hx; cases hx
  | cons y l ih =>
    intro x hx
    have h2 : Agree (tmpKeys l) s s' := h.sub fun κ hκ => by cases y <;> simp [tmpKeys, hκ]
    rcases List.mem_cons.1 hx with rfl | hx
    · cases x with
      | tmp i => exact (h (0, i) (by simp [tmpKeys])).1 rfl
      | _ => rfl
    · exact ih h2 x hx

theorem valW_ag {x : Operand} (h : val s x = val s' x) : valW s x = valW s' x := by unfold valW; rw [h]
theorem whenOf_ag {A : List (Nat × Bool)} {x : Operand} (h : val s x = val s' x) : whenOf A s x = whenOf A s' x := by unfold whenOf; rw [h]
theorem vals_ag : ∀ {l : List Operand}, (∀ x ∈ l, val s x = val s' x) → vals s l = vals s' l
  | [], _ => rfl
  | x :: l, h => by
    simp only [vals]
    rw [valW_ag (h x (by simp)), vals_ag fun y hy => h y (by simp [hy])]
theorem obs_ag {A : List (Nat × Bool)} : ∀ {l : List Operand}, (∀ x ∈ l, val s x = val s' x) → obs A s l = obs A s' l
  | [], _ => rfl
  | x :: l, h => by
    simp only [obs]
    rw [whenOf_ag (h x (by simp)), obs_ag fun y hy => h y (by simp [hy])]
theorem bound_ag {o : Option Operand} (h : ∀ x, o = some x → val s x = val s' x) : bound s o = bound s' o := by
  cases o with
  | none => rfl
  | some x => simp only [bound]; rw [valW_ag (h x rfl)]
theorem fill_ag {st : TypeId} : ∀ {l : List (Nat × Operand)} {cs : List AV}, (∀ p ∈ l, val s p.2 = val s' p.2) → fill τ s st cs l = fill τ s' st cs l
  | [], cs, _ => rfl
  | (f, x) :: l, cs, h => by
    have e : valW s x = valW s' x := valW_ag (h (f, x) (by simp))
    have ih : ∀ cs', fill τ s st cs' l = fill τ s' st cs' l := fun cs' => fill_ag fun p hp => h p (by simp [hp])
    simp only [fill, e, ih]
theorem load_ag {an : List An} {t : TypeId} {v : AV} {r : Res} (h : evalLoad τ s an t v = some r) (ha : Agree r.rd s s') : evalLoad τ s' an t v = some r := by
  unfold evalLoad at h ⊢
  split at h
  · rename_i i o
    split at h
    · rename_i ti hti
      split at h
      · rename_i cs hcs
        split at h
        · rename_i x hx
          cases h
          have : aget s'.bx i = some cs := by rw [← (ha (1, i) (by simp)).2.1 rfl]; exact hcs
          simp only [hti, this, hx]
        · cases h
      · cases h
    · cases h
  · exact h
  · cases h
theorem store_ag {an : List An} {t : TypeId} {v u : AV} {r : Res} (h : evalStore τ s an t v u = some r) (ha : Agree r.rd s s') : evalStore τ s' an t v u = some r := by
  unfold evalStore at h ⊢
  split at h
  · rename_i i o
    split at h
    · rename_i ti hti
      split at h
      · rename_i cs hcs
        split at h
        · rename_i h1
          split at h
          · rename_i h2
            split at h
            · rename_i cs' h3
              cases h
              have : aget s'.bx i = some cs := by rw [← (ha (1, i) (by simp)).2.1 rfl]; exact hcs
              simp only [hti, this, h1, h2, h3]
            · cases h
          · cases h
        · cases h
      · cases h
    · cases h
  · cases h
theorem box_ag {d : Option Nat} {an : List An} {cs : List AV} {r : Res} (h : evalBox d s an cs = some r) (ha : Agree r.rd s s') : evalBox d s' an cs = some r := by
  unfold evalBox at h ⊢
  split at h
  · rename_i i
    split at h
    · rename_i hn
      split at h
      · rename_i hc
        cases h
        have : aget s'.bx i = none := by rw [← (ha (1, i) (by simp)).2.1 rfl]; exact hn
        simp only [this, hc]
      · cases h
    · cases h
  · cases h

theorem curRow_ag {i v : Nat} (h : same (2, i) s s') : curRow s' i v = curRow s i v := by unfold curRow; rw [h.2.2.1 rfl]
theorem row_ag {i : Nat} (h : same (2, i) s s') : aget s'.rw i = aget s.rw i := (h.2.2.1 rfl).symm

theorem mem_rkeys {l : List (Nat × Rw)} {i : Nat} {r : Rw} (h : (i, r) ∈ l) : (2, i) ∈ rkeys l := by
  induction l with
  | nil => cases h
  | cons p l ih =>
    obtain ⟨j, x⟩ := p
    simp only [rkeys, List.mem_cons]
    rcases List.mem_cons.1 h with e | h
    · cases e; exact .inl rfl
    · exact .inr (ih h)
theorem rkeys_append (a b : List (Nat × Rw)) : rkeys (a ++ b) = rkeys a ++ rkeys b := by
  induction a with
  | nil => rfl
  | cons p a ih => obtain ⟨j, x⟩ := p; simp only [List.cons_append, rkeys, ih]

theorem sealC_ag {x y : AV} {e : List (Nat × Rw)} (h : sealC s x = some (y, e)) (ha : Agree (rkeys e) s s') : sealC s' x = some (y, e) := by
  cases x with
  | row i v =>
    simp only [sealC] at h ⊢
    split at h
    · rename_i r hr
      split at h
      · rename_i hp
        cases h
        rw [curRow_ag (ha (2, i) (by simp [rkeys])), hr]
        simp only [hp]
      · cases h
    · cases h
  | _ => exact h
theorem sealL_ag : ∀ {x y : List AV} {e : List (Nat × Rw)}, sealL s x = some (y, e) → Agree (rkeys e) s s' → sealL s' x = some (y, e)
  | [], y, e, h, _ => h
  | x :: l, y, e, h, ha => by
    simp only [sealL] at h ⊢
    split at h
    · rename_i y1 e1 h1
      split at h
      · rename_i m f h2
        cases h
        rw [rkeys_append] at ha
        rw [sealC_ag h1 (ha.sub fun κ hκ => by simp [hκ])]
        simp only [sealL_ag h2 (ha.sub fun κ hκ => by simp [hκ])]
      · cases h
    · cases h
theorem sealA_ag {x y : AV} {e : List (Nat × Rw)} (h : sealA s x = some (y, e)) (ha : Agree (rkeys e) s s') : sealA s' x = some (y, e) := by
  cases x with
  | agg cs =>
    simp only [sealA] at h ⊢
    split at h
    · rename_i ds e1 h1
      cases h
      simp only [sealL_ag h1 ha]
    · cases h
  | row i v => exact sealC_ag (x := .row i v) h ha
  | _ => exact h
theorem sealAL_ag : ∀ {x y : List AV} {e : List (Nat × Rw)}, sealAL s x = some (y, e) → Agree (rkeys e) s s' → sealAL s' x = some (y, e)
  | [], y, e, h, _ => h
  | x :: l, y, e, h, ha => by
    simp only [sealAL] at h ⊢
    split at h
    · rename_i y1 e1 h1
      split at h
      · rename_i m f h2
        cases h
        rw [rkeys_append] at ha
        rw [sealA_ag h1 (ha.sub fun κ hκ => by simp [hκ])]
        simp only [sealAL_ag h2 (ha.sub fun κ hκ => by simp [hκ])]
      · cases h
    · cases h
theorem sealCx_ag {R : List Nat} {x y : AV} {e : List (Nat × Rw)} (h : sealCx R s x = some (y, e)) (ha : Agree (rkeys e) s s') : sealCx R s' x = some (y, e) := by
  cases x with
  | row i v =>
    simp only [sealCx] at h ⊢
    split at h
    · exact h
    · exact sealC_ag h ha
  | _ => exact h
theorem sealLx_ag {R : List Nat} : ∀ {x y : List AV} {e : List (Nat × Rw)}, sealLx R s x = some (y, e) → Agree (rkeys e) s s' → sealLx R s' x = some (y, e)
  | [], y, e, h, _ => h
  | x :: l, y, e, h, ha => by
    simp only [sealLx] at h ⊢
    split at h
    · rename_i y1 e1 h1
      split at h
      · rename_i m f h2
        cases h
        rw [rkeys_append] at ha
        rw [sealCx_ag h1 (ha.sub fun κ hκ => by simp [hκ])]
        simp only [sealLx_ag h2 (ha.sub fun κ hκ => by simp [hκ])]
      · cases h
    · cases h
theorem sealAx_ag {R : List Nat} {x y : AV} {e : List (Nat × Rw)} (h : sealAx R s x = some (y, e)) (ha : Agree (rkeys e) s s') : sealAx R s' x = some (y, e) := by
  cases x with
  | agg cs =>
    simp only [sealAx] at h ⊢
    split at h
    · rename_i ds e1 h1
      cases h
      simp only [sealLx_ag h1 ha]
    · cases h
  | row i v => exact sealCx_ag (x := .row i v) h ha
  | _ => exact h
theorem sealALx_ag {R : List Nat} : ∀ {x y : List AV} {e : List (Nat × Rw)}, sealALx R s x = some (y, e) → Agree (rkeys e) s s' → sealALx R s' x = some (y, e)
  | [], y, e, h, _ => h
  | x :: l, y, e, h, ha => by
    simp only [sealALx] at h ⊢
    split at h
    · rename_i y1 e1 h1
      split at h
      · rename_i m f h2
        cases h
        rw [rkeys_append] at ha
        rw [sealAx_ag h1 (ha.sub fun κ hκ => by simp [hκ])]
        simp only [sealALx_ag h2 (ha.sub fun κ hκ => by simp [hκ])]
      · cases h
    · cases h

theorem len_ag {an : List An} {tk : TK} {v : AV} {r : Res} (h : evalLen s an tk v = some r) (ha : Agree r.rd s s') : evalLen s' an tk v = some r := by
  unfold evalLen at h ⊢
  split at h
  · exact h
  · exact h
  · exact h
  · rename_i e i v
    split at h
    · rename_i q hq
      split at h
      · cases h
        simp only [curRow_ag (ha (2, i) (by simp)), hq]
      · cases h
    · cases h
  · rename_i e i v o n
    split at h
    · rename_i q hq
      cases h
      simp only [curRow_ag (ha (2, i) (by simp)), hq]
    · cases h
  · rename_i k e i
    split at h
    · rename_i es hes
      split at h
      · cases h
        simp only [← (ha (3, i) (by simp)).2.2.2.1 rfl, hes]
      · cases h
    · cases h
  · cases h
theorem indexAddr_ag {an : List An} {t : TypeId} {v u : AV} {r : Res} (h : evalIndexAddr τ s an t v u = some r) (ha : Agree r.rd s s') : evalIndexAddr τ s' an t v u = some r := by
  unfold evalIndexAddr at h ⊢
  split at h
  · exact h
  · rename_i i v kk n
    split at h
    · rename_i z hz
      split at h
      · rename_i q hq
        split at h
        · rename_i h1
          cases h
          simp only [hz, curRow_ag (ha (2, i) (by simp)), hq, h1]
        · cases h
      · cases h
    · cases h
  · rename_i i v off m kk n
    split at h
    · rename_i z hz
      split at h
      · rename_i q hq
        split at h
        · rename_i h1
          cases h
          simp only [hz, curRow_ag (ha (2, i) (by simp)), hq, h1]
        · cases h
      · cases h
    · cases h
  · cases h
theorem loadEp_ag {an : List An} {t : TypeId} {i v k o : Nat} {r : Res} (h : evalLoadEp τ s an t i v k o = some r) (ha : Agree r.rd s s') : evalLoadEp τ s' an t i v k o = some r := by
  have hk : (2, i) ∈ r.rd := by
    unfold evalLoadEp at h
    repeat' split at h
    all_goals first | (cases h; done) | (cases h; simp)
  unfold evalLoadEp at h ⊢
  rw [curRow_ag (ha _ hk)]
  exact h
theorem storeEp_ag {an : List An} {t : TypeId} {x : AV} {i v k o : Nat} {r : Res} (h : evalStoreEp τ s an t x i v k o = some r) (ha : Agree r.rd s s') : evalStoreEp τ s' an t x i v k o = some r := by
  have hk : (2, i) ∈ r.rd ∧ ∃ y e, sealA s (norm τ t x) = some (y, e) ∧ ∀ κ ∈ rkeys e, κ ∈ r.rd := by
    unfold evalStoreEp at h
    split at h
    · split at h
      · split at h
        · rename_i y e hse
          repeat' split at h
          all_goals first | (cases h; done) | (cases h; exact ⟨by simp, y, e, hse, fun κ hκ => by simp [hκ]⟩)
        · cases h
      · cases h
    · cases h
  obtain ⟨h1, y, e, h2, h3⟩ := hk
  unfold evalStoreEp at h ⊢
  rw [curRow_ag (ha _ h1), sealA_ag h2 (ha.sub h3)]
  rw [h2] at h
  exact h
theorem sliceRow_ag {an : List An} {t : TypeId} {lo hi : Option Int} {i v : Nat} {r : Res} (h : evalSliceRow τ s an t lo hi i v = some r) (ha : Agree r.rd s s') : evalSliceRow τ s' an t lo hi i v = some r := by
  have hk : (2, i) ∈ r.rd := by
    unfold evalSliceRow at h
    repeat' split at h
    all_goals first | (cases h; done) | (cases h; simp)
  unfold evalSliceRow at h ⊢
  rw [curRow_ag (ha _ hk)]
  exact h
theorem sliceV_ag {an : List An} {t : TypeId} {lo hi : Option Int} {i v off m : Nat} {r : Res} (h : evalSliceV τ s an t lo hi i v off m = some r) (ha : Agree r.rd s s') : evalSliceV τ s' an t lo hi i v off m = some r := by
  have hk : (2, i) ∈ r.rd := by
    unfold evalSliceV at h
    repeat' split at h
    all_goals first | (cases h; done) | (cases h; simp)
  unfold evalSliceV at h ⊢
  rw [curRow_ag (ha _ hk)]
  exact h
theorem slice3_ag {an : List An} {a b m : Int} {x : AV} {r : Res} (h : evalSlice3 s an a b m x = some r) (ha : Agree r.rd s s') : evalSlice3 s' an a b m x = some r := by
  unfold evalSlice3 at h ⊢
  split at h
  · exact h
  · exact h
  · rename_i i v
    split at h
    · rename_i q hq
      cases h
      simp only [curRow_ag (ha (2, i) (by simp)), hq]
    · cases h
  · cases h
theorem strRow_ag {an : List An} {src dst : TypeId} {i v : Nat} {r : Res} (h : evalStrRow τ s an src dst i v = some r) (ha : Agree r.rd s s') : evalStrRow τ s' an src dst i v = some r := by
  have hk : (2, i) ∈ r.rd := by
    unfold evalStrRow at h
    repeat' split at h
    all_goals first | (cases h; done) | (cases h; simp)
  unfold evalStrRow at h ⊢
  rw [curRow_ag (ha _ hk)]
  exact h
theorem clear_ag {an : List An} {t : TypeId} {i v off n : Nat} {r : Res} (h : evalClear τ s an t i v off n = some r) (ha : Agree r.rd s s') : evalClear τ s' an t i v off n = some r := by
  have hk : (2, i) ∈ r.rd := by
    unfold evalClear at h
    repeat' split at h
    all_goals first | (cases h; done) | (cases h; simp)
  unfold evalClear at h ⊢
  rw [curRow_ag (ha _ hk)]
  exact h
theorem nilRow_ag {an : List An} {t : TypeId} {i v : Nat} {u : AV} {op : BinOp} {r : Res} (h : evalNilRow τ s an t i v u op = some r) (ha : Agree r.rd s s') : evalNilRow τ s' an t i v u op = some r := by
  have hk : (2, i) ∈ r.rd := by
    unfold evalNilRow at h
    repeat' split at h
    all_goals first | (cases h; done) | (cases h; simp)
  unfold evalNilRow at h ⊢
  rw [curRow_ag (ha _ hk)]
  exact h
theorem srcOf_ag {sz : Nat} {u8 : Bool} {x : AV} {q : List AV × List Prop × List Key} (h : srcOf s sz u8 x = some q) (ha : Agree q.2.2 s s') : srcOf s' sz u8 x = some q := by
  unfold srcOf at h ⊢
  split at h
  · exact h
  · exact h
  · exact h
  · rename_i j v
    have hk : (2, j) ∈ q.2.2 := by
      repeat' split at h
      all_goals first | (cases h; done) | (cases h; simp)
    simp only [curRow_ag (ha _ hk)]
    exact h
  · rename_i j v off n
    have hk : (2, j) ∈ q.2.2 := by
      repeat' split at h
      all_goals first | (cases h; done) | (cases h; simp)
    simp only [curRow_ag (ha _ hk)]
    exact h
  · cases h
theorem srcA_ag {sz : Nat} {ns : List Nat} {x : AV} {q : List AV × List Prop × List Key} (h : srcA s sz ns x = some q) (ha : Agree q.2.2 s s') : srcA s' sz ns x = some q := by
  unfold srcA at h ⊢
  split at h
  · rename_i j v
    have hk : (2, j) ∈ q.2.2 := by
      repeat' split at h
      all_goals first | (cases h; done) | (cases h; simp)
    simp only [curRow_ag (ha _ hk)]
    exact h
  · cases h
theorem srcOf_none {sz : Nat} {u8 : Bool} {pu : Nat} {ns : List Nat} {x : AV} {q : List AV × List Prop × List Key} (h : srcOf s sz u8 x = none) (hq : srcA s sz ns x = some q) (ha : Agree q.2.2 s s') : srcOf s' sz u8 x = none := by
  unfold srcA at hq
  split at hq
  · rename_i j v
    have hk : (2, j) ∈ q.2.2 := by
      repeat' split at hq
      all_goals first | (cases hq; done) | (cases hq; simp)
    unfold srcOf at h ⊢
    simp only [curRow_ag (ha _ hk)]
    exact h
  · cases hq
theorem srcAny_ag {sz : Nat} {u8 : Bool} {pu : Nat} {ns : List Nat} {x : AV} {q : List AV × List Prop × List Key} (h : srcAny s sz u8 pu ns x = some q) (ha : Agree q.2.2 s s') : srcAny s' sz u8 pu ns x = some q := by
  unfold srcAny at h ⊢
  split at h
  · rename_i q' hq
    cases h
    rw [srcOf_ag hq ha]
  · rename_i hn
    split at h
    · cases h
    · rw [srcOf_none (pu := 1) (u8 := u8) hn h ha]
      exact srcA_ag h ha
theorem appendTo_ag {an : List An} {bytes i : Nat} {row : Rw} {full : Bool} {n0 : Nat} {u8 : Bool} {x2 : AV} {rd : List Key} {r : Res} (h : appendTo s an bytes i row full n0 u8 x2 rd = some r) (ha : Agree r.rd s s') :
    appendTo s' an bytes i row full n0 u8 x2 rd = some r ∧ (2, i) ∈ r.rd := by
  unfold appendTo at h ⊢
  split at h
  · rename_i ys gs ks hsrc
    split at h
    · rename_i zs an'
      split at h
      · rename_i h1
        split at h
        · rename_i h2
          cases h
          rw [srcAny_ag hsrc (ha.sub fun κ hκ => by simp at hκ ⊢; exact .inr (.inl hκ))]
          exact ⟨by simp only [h1, h2], by simp⟩
        · cases h
      · cases h
    · cases h
  · cases h
theorem append_ag {an : List An} {d : Option Nat} {t t2 : TypeId} {x1 x2 : AV} {r : Res} (h : evalAppend τ s an d t t2 x1 x2 = some r) (ha : Agree r.rd s s') : evalAppend τ s' an d t t2 x1 x2 = some r := by
  unfold evalAppend at h ⊢
  split at h
  · rename_i e x y z u hτ
    try simp only [hτ]
    split at h
    · rename_i ie hie
      try simp only [hie]
      split at h
      · rename_i hb
        try simp only [hb]
        split at h
        · rename_i i v
          split at h
          · rename_i row hrow
            split at h
            · rename_i h1
              split at h
              · rename_i h2
                obtain ⟨g1, g2⟩ := appendTo_ag h ha
                simp only [curRow_ag (ha _ g2), hrow, h1, h2, g1]
              · cases h
            · cases h
          · cases h
        · rename_i i v n
          split at h
          · rename_i row hrow
            split at h
            · rename_i h1
              split at h
              · rename_i h2
                split at h
                · rename_i h3
                  obtain ⟨g1, g2⟩ := appendTo_ag h ha
                  simp only [curRow_ag (ha _ g2), hrow, h1, h2, h3, g1]
                · cases h
              · cases h
            · cases h
          · cases h
        · split at h
          · rename_i i
            split at h
            · rename_i hn
              split at h
              · rename_i hlt
                obtain ⟨g1, g2⟩ := appendTo_ag h ha
                simp only [row_ag (ha _ g2), hn, hlt, g1]
              · cases h
            · cases h
          · cases h
        · cases h
      · cases h
    · cases h
  · cases h
theorem buildSlice_ag {an : List An} {d : Option Nat} {t : TypeId} {len : Nat} {parts : List (Nat × Operand)} {r : Res} (h : evalBuildSlice τ s an d t len parts = some r) (hv : ∀ l, litParts 0 parts = some l → vals s' l = vals s l) (ha : Agree r.rd s s') : evalBuildSlice τ s' an d t len parts = some r := by
  unfold evalBuildSlice at h ⊢
  split at h
  · rename_i e x y z u hτ
    try simp only [hτ]
    split at h
    · rename_i ie hie
      try simp only [hie]
      split at h
      · rename_i ops hops
        have hvv := hv ops hops
        try simp only [hops]
        split at h
        · rename_i h1
          try simp only [h1]
          split at h
          · rename_i h2
            try simp only [h2]
            split at h
            · rename_i vs hvs
              simp only [hvv, hvs]
              split at h
              · rename_i ws ef hse
                have hk : (∀ κ ∈ rkeys ef, κ ∈ r.rd) ∧ ((∀ l, an = .sealed :: l → False) → ∀ i, d = some i → (2, i) ∈ r.rd) := by
                  clear ha hvv hv
                  repeat' split at h
                  all_goals first | (cases h; done) | (cases h; exact ⟨fun κ hκ => by simp [hκ], fun hne i hi => by first | (exact (hne _ rfl).elim) | (cases hi; simp; done) | simp_all⟩)
                simp only [sealAL_ag hse (ha.sub hk.1)]
                split at h
                · rename_i h3
                  try simp only [h3]
                  split at h
                  · rename_i h4
                    try simp only [h4]
                    split at h
                    · exact h
                    · rename_i an' hna
                      cases d with
                      | none => exact h
                      | some i =>
                        have : (2, i) ∈ r.rd := hk.2 (fun l e => hna l e) i rfl
                        simp only [row_ag (ha _ this)]
                        exact h
                  · cases h
                · cases h
              · cases h
            · cases h
          · cases h
        · cases h
      · cases h
    · cases h
  · cases h
theorem makeSlice_ag {an : List An} {d : Option Nat} {t : TypeId} {n c : Int} {r : Res} (h : evalMakeSlice τ s an d t n c = some r) (ha : Agree r.rd s s') : evalMakeSlice τ s' an d t n c = some r := by
  unfold evalMakeSlice at h ⊢
  split at h
  · rename_i e x y z u hτ
    try simp only [hτ]
    split at h
    · rename_i ie hie
      try simp only [hie]
      split at h
      · rename_i z' hz
        try simp only [hz]
        cases d with
        | none => exact h
        | some i =>
          have : (2, i) ∈ r.rd := by
            repeat' split at h
            all_goals first | (cases h; done) | (cases h; simp_all)
          simp only [row_ag (ha _ this)]
          exact h
      · cases h
    · cases h
  · cases h
theorem appZ_ag {an : List An} {d : Option Nat} {t : TypeId} {x1 x2 : AV} {r : Res} (h : evalAppZ τ s an d t x1 x2 = some r) (ha : Agree r.rd s s') : evalAppZ τ s' an d t x1 x2 = some r := by
  unfold evalAppZ at h ⊢
  split at h
  · split at h
    · split at h
      · rename_i e x y z u hτ
        try simp only [hτ]
        split at h
        · rename_i ie hie
          try simp only [hie]
          split at h
          · rename_i z' hz
            try simp only [hz]
            cases d with
            | none => exact h
            | some i =>
              have : (2, i) ∈ r.rd := by
                repeat' split at h
                all_goals first | (cases h; done) | (cases h; simp_all)
              simp only [row_ag (ha _ this)]
              exact h
          · cases h
        · cases h
      · cases h
    · cases h
  · cases h
theorem app2_ag {an : List An} {d : Option Nat} {t t2 : TypeId} {x1 x2 : AV} {r : Res} (h : evalApp2 τ s an d t t2 x1 x2 = some r) (ha : Agree r.rd s s') : evalApp2 τ s' an d t t2 x1 x2 = some r := by
  unfold evalApp2 at h ⊢
  cases hb : isI64T τ t2 with
  | true =>
    rw [hb] at h
    exact appZ_ag h ha
  | false =>
    rw [hb] at h
    exact append_ag h ha
theorem map_ag {i : Nat} (h : same (3, i) s s') : aget s'.mp i = aget s.mp i := (h.2.2.2.1 rfl).symm
theorem makeMap_ag {an : List An} {d : Option Nat} {t : TypeId} {r : Res} (h : evalMakeMap τ s an d t = some r) (ha : Agree r.rd s s') : evalMakeMap τ s' an d t = some r := by
  unfold evalMakeMap at h ⊢
  split at h
  · split at h
    · rename_i i
      have : (3, i) ∈ r.rd := by
        repeat' split at h
        all_goals first | (cases h; done) | (cases h; simp)
      simp only [map_ag (ha _ this)]
      exact h
    · cases h
  · cases h
theorem lookup_ag {an : List An} {t : TypeId} {ok : Bool} {x key : AV} {r : Res} (h : evalLookup τ s an t ok x key = some r) (ha : Agree r.rd s s') : evalLookup τ s' an t ok x key = some r := by
  have hk : ∀ i, x = .mp i → (3, i) ∈ r.rd := by
    intro i hx
    subst hx
    unfold evalLookup at h
    repeat' split at h
    all_goals first | (cases h; done) | (cases h; simp_all)
  unfold evalLookup at h ⊢
  cases x with
  | mp i => simp only [map_ag (ha _ (hk i rfl))]; exact h
  | _ => exact h
theorem mapUpdate_ag {an : List An} {d : Option Nat} {t : TypeId} {x key v : AV} {r : Res} (h : evalMapUpdate τ s an d t x key v = some r) (ha : Agree r.rd s s') : evalMapUpdate τ s' an d t x key v = some r := by
  cases d with
  | some d => cases h
  | none =>
    unfold evalMapUpdate at h ⊢
    split at h
    · rename_i hd; cases hd
    · split at h
      · rename_i kt et szt bt zt czt ht
        try simp only [ht]
        split at h
        · rename_i ik hik
          try simp only [hik]
          split at h
          · rename_i hkey
            try simp only [hkey]
            split at h
            · rename_i i
              split at h
              · rename_i es hes
                split at h
                · rename_i y e hse
                  split at h
                  · cases h
                  · rename_i hpure
                    split at h
                    · cases h
                      simp only [map_ag (ha (3, i) (by simp)), hes, sealA_ag hse (ha.sub fun κ hκ => by simp [hκ]), hpure]
                    · cases h
                · cases h
              · cases h
            · cases h
          · cases h
        · cases h
      · cases h

end Go.Dm
