/- The evaluator is sound: all operations. -/
import Derived.Test.YtipeimcdjijkgaaEm33
namespace Go.Dm
open Go Go.RowKit
set_option linter.unnecessarySimpa false
set_option linter.constructorNameAsVariable false
set_option linter.unusedSectionVars false
set_option linter.unusedSimpArgs false
set_option linter.unusedVariables false

variable {C : Cx} {k : List It} {s : S} {τ : TyTab}

theorem Has.unp {x : Operand} {v : AV} (h : Has C s x v) : Has C s x (unp v) := by
  intro a w M E hs
  have := h a w M E hs
  unfold Dm.unp
  split
  · exact .cell (this.popt_inv.1 rfl)
  · exact this

/-- the operands that must have been worked out -/
def needs : Op → List Operand
  | .pick c _ _ => [c]
  | .call c => (match c.callee with | .value f => [f] | _ => []) ++ c.args.toList
  | op => op.operands.toList

theorem evalOp_sound (hτ : TyOk C.P τ) {A : List (Nat × Bool)} (hA : allB A = true) (o : Oper) (an : List An) (hd : ∀ d, o.dst = some d → d < C.N) (hw : ∀ x ∈ needs o.op, Done s x) : Sound C o s (evalOp τ A o.dst s an o.op) := by
  have has : ∀ {x : Operand} {v : AV}, valW s x = some v → x ∈ needs o.op → Has C s x v := fun hv hx a w M E hs => valW_rel hs hv (hw _ hx)
  cases ho : o.op <;> rw [ho] at has hw <;> simp only [evalOp] <;> try exact .nil
  case move x => exact .retO hd fun v hv a w M E hs => ⟨_, run_move (.inl ho) _ _, has hv (by simp [needs, Op.operands]) a w M E hs⟩
  case assign x => exact .retO hd fun v hv a w M E hs => ⟨_, run_move (.inr ho) _ _, has hv (by simp [needs, Op.operands]) a w M E hs⟩
  case pick c a b =>
    cases c with
    | tmp d =>
      simp only [evalOp]
      split
      · rename_i p hp
        split
        · rename_i x hx
          split
          · rename_i y hy
            exact .pick hA ho hd (has hp (by simp [needs])) hx hy
          · exact .nil
        · exact .nil
      · exact .nil
    | _ => exact .nil
  case alloc t =>
    split
    · rename_i ti hti; exact .alloc hτ ho hd hti
    · exact .nil
  case box t x =>
    split
    · rename_i v hv; exact .box ho hd (has hv (by simp [needs, Op.operands]))
    · exact .nil
  case build t parts => exact .build hτ ho hd fun p hp => hw _ (by simp [needs, Op.operands]; exact ⟨p.1, by simpa using hp⟩)
  case load t a =>
    split
    · rename_i v hv
      have h1 := (has hv (by simp [needs, Op.operands])).unp
      split
      · rename_i i vr kk oo e; rw [e] at h1; exact .loadEp hτ ho hd h1
      · exact .load hτ ho hd h1
    · exact .nil
  case store t a x =>
    split
    · rename_i hdd
      split
      · rename_i v hv
        split
        · rename_i u hu
          have h1 := has hv (by simp [needs, Op.operands])
          have h2 := (has hu (by simp [needs, Op.operands])).unp
          split
          · rename_i i vr kk oo e; rw [e] at h2; exact .storeEp hτ ho hdd h1 h2
          · exact .store hτ ho hdd h1 h2
        · exact .nil
      · exact .nil
    · exact .nil
  case nilCheck x =>
    split
    · rename_i v hv; exact .nilCheck ho hd (has hv (by simp [needs, Op.operands])).unp
    · exact .nil
  case binOp op t x y t' =>
    split
    · rename_i v hv
      split
      · rename_i u hu
        have h1 := has hv (by simp [needs, Op.operands])
        have h2 := has hu (by simp [needs, Op.operands])
        split
        · exact .nilRow hτ ho hd h1 h2
        · exact .nilSl hτ ho hd h1 h2
        · exact .nilN hτ ho hd h1 h2
        · split
          · rename_i r hr
            have := Sound.nilp hτ (an := an) ho hd h1 h2
            rw [hr] at this
            exact this
          · exact .bin hτ ho hd h1 h2 fun cs ds e e' => .agg hτ ho hd (by rw [← e]; exact h1) (by rw [← e']; exact h2)
      · exact .nil
    · exact .nil
  case unOp op t x =>
    split
    · rename_i v hv; exact .un ho hd (has hv (by simp [needs, Op.operands]))
    · exact .nil
  case convert src dst x =>
    split
    · rename_i i hi
      split
      · rename_i ii vr hv; exact .strRow hτ ho hd (has hv (by simp [needs, Op.operands]))
      · rename_i l hv
        have h1 := has hv (by simp [needs, Op.operands])
        split
        · exact .conv hτ ho hd ⟨i, hi⟩ h1
        · split
          · rename_i hst; exact .bytesOf hτ ho hd h1 (isStrT_sound hτ hst)
          · exact .nil
      · rename_i v _ _ hv; exact .conv hτ ho hd ⟨i, hi⟩ (has hv (by simp [needs, Op.operands]))
      · exact .nil
    · exact .nil
  case fieldAddr t x f =>
    split
    · rename_i v hv; exact .fieldAddr hτ ho hd (has hv (by simp [needs, Op.operands])).unp
    · exact .nil
  case field t x f =>
    split
    · rename_i v hv; exact .field hτ ho hd (has hv (by simp [needs, Op.operands]))
    · exact .nil
  case extract x i =>
    split
    · rename_i v hv; exact .extract ho hd (has hv (by simp [needs, Op.operands]))
    · exact .nil
  case makeFunc fn first caps =>
    cases fn with
    | func f =>
      simp only [evalOp]
      split
      · rename_i h; exact .mkfn ho h hd fun x hx => hw _ (by simp [needs, Op.operands]; right; simpa using hx)
      · exact .nil
    | _ => exact .nil
  case indexAddr t x i =>
    split
    · rename_i v hv
      split
      · rename_i u hu; exact .indexAddr hτ ho hd (has hv (by simp [needs, Op.operands])) (has hu (by simp [needs, Op.operands]))
      · exact .nil
    · exact .nil
  case index t x i =>
    split
    · rename_i v hv
      split
      · rename_i u hu; exact .index hτ ho hd (has hv (by simp [needs, Op.operands])) (has hu (by simp [needs, Op.operands]))
      · exact .nil
    · exact .nil
  case slice t x lo hi mx =>
    cases mx with
    | some m =>
      cases lo with
      | none => exact .nil
      | some lo =>
        cases hi with
        | none => exact .nil
        | some hi =>
          simp only [evalOp]
          split
          · rename_i v hv
            split
            · rename_i a ha
              split
              · rename_i b hb
                split
                · rename_i m' hm
                  split
                  · rename_i z hz
                    obtain ⟨e, hun, hse⟩ := elemSz_sound hτ hz
                    exact .slice3 hτ ho hd (has hv (by simp [needs, Op.operands])) ha hb hm (hw _ (by simp [needs, Op.operands])) (hw _ (by simp [needs, Op.operands])) (hw _ (by simp [needs, Op.operands])) hun hse
                  · exact .nil
                · exact .nil
              · exact .nil
            · exact .nil
          · exact .nil
    | none =>
      simp only [evalOp]
      split
      · rename_i v hv
        split
        · rename_i l hl
          split
          · rename_i h hh
            have h1 := has hv (by simp [needs, Op.operands])
            have w1 : ∀ y, lo = some y → Done s y := fun y hy => hw _ (by subst hy; simp [needs, Op.operands])
            have w2 : ∀ y, hi = some y → Done s y := fun y hy => hw _ (by subst hy; simp [needs, Op.operands])
            split
            · exact .sliceRow hτ ho hd h1 hl hh w1 w2
            · exact .sliceV hτ ho hd h1 hl hh w1 w2
            · exact .slice hτ ho hd h1 hl hh w1 w2
          · exact .nil
        · exact .nil
      · exact .nil
  case buildSlice t len parts =>
    refine .buildSlice hτ ho hd fun p hp => hw _ ?_
    simp only [needs, Op.operands]
    simp
    exact ⟨p.1, by simpa using hp⟩
  case makeSlice t x y =>
    split
    · rename_i a ha
      split
      · rename_i b hb; exact .makeSlice hτ ho hd (has ha (by simp [needs, Op.operands])) (has hb (by simp [needs, Op.operands]))
      · exact .nil
    · exact .nil
  case makeMap t r =>
    cases r with
    | some h => exact .nil
    | none => exact .makeMap hτ ho hd
  case lookup t x y ok =>
    split
    · rename_i v hv
      split
      · rename_i u hu; exact .lookup hτ ho hd (has hv (by simp [needs, Op.operands])) (has hu (by simp [needs, Op.operands]))
      · exact .nil
    · exact .nil
  case mapUpdate t m y x =>
    split
    · rename_i v hv
      split
      · rename_i u hu
        split
        · rename_i z hz; exact .mapUpdate hτ ho (has hv (by simp [needs, Op.operands])) (has hu (by simp [needs, Op.operands])) (has hz (by simp [needs, Op.operands]))
        · exact .nil
      · exact .nil
    · exact .nil
  case call c =>
    cases hc : c.callee with
    | builtin b =>
      cases b <;> simp only [evalBuiltin] <;> try exact .nil
      case append =>
        split
        · rename_i x y t u hx ht
          split
          · rename_i v hv
            split
            · rename_i w' hw'; exact .app2 hτ ho hc hx ht hd (has hv (by simp [needs, hx])) (has hw' (by simp [needs, hx]))
            · exact .nil
          · exact .nil
        · exact .nil
      case clear =>
        split
        · rename_i x t hx ht
          split
          · rename_i i vr off n hv; exact .clear hτ ho hc hx ht hd (has hv (by simp [needs, hx]))
          · exact .nil
        · exact .nil
      case len =>
        split
        · rename_i x t hx ht
          split
          · rename_i ti hti
            split
            · rename_i v hv; exact .len hτ ho hc hx ht hti hd (has hv (by simp [needs, hx]))
            · exact .nil
          · exact .nil
        · exact .nil
      case cap =>
        split
        · rename_i x t hx ht
          split
          · rename_i ti hti
            split
            · rename_i v hv; exact .cap hτ ho hc hx ht hti hd (has hv (by simp [needs, hx]))
            · exact .nil
          · exact .nil
        · exact .nil
      case min =>
        split
        · rename_i vs hvs; exact .minmax ho false hc hd hvs fun x hx => hw _ (by simp [needs]; exact Or.inr (by simpa using hx))
        · exact .nil
      case max =>
        split
        · rename_i vs hvs; exact .minmax ho true hc hd hvs fun x hx => hw _ (by simp [needs]; exact Or.inr (by simpa using hx))
        · exact .nil
    | _ => exact .nil

end Go.Dm
