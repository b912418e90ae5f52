/- The rules of control: a stack of items stands for what is still to be run. Over any program. -/
import Derived.Test.YtipeimcdjijkgaaEm1
import Derived.LoopN
namespace Go.Dm
open Go
set_option linter.unnecessarySimpa false
set_option linter.constructorNameAsVariable false
set_option linter.unusedSectionVars false

inductive It where
  | code (c : Code)
  | blk (id : Nat)
  | cut (J : S → Prop)
  | rnd (n : Nat) (c : Code)

structure Cx where
  P : Program
  Qf : Exit → Act → World → Prop
  g : Gh
  N : Nat

def mean (C : Cx) : List It → Exit → Act → World → Prop
  | [] => C.Qf
  | .code c :: k => Exit.then (c.wp C.P (mean C k)) (mean C k)
  | .blk id :: k => Exit.inBlock id (mean C k)
  | .cut J :: k => Exit.then (fun a w => ∃ s, J s ∧ H C.g C.N s a w) (mean C k)
  | .rnd n c :: k => Exit.then (Code.rounds C.P c (mean C k) n) (mean C k)

def Wk (C : Cx) (k : List It) (s : S) : Prop := ∀ a w, H C.g C.N s a w → mean C k .normal a w

def Fin (C : Cx) (s : S) : Prop := ∀ a w, H C.g C.N s a w → C.Qf .ret a w ∧ C.Qf .normal a w

def dstOk (N : Nat) (os : List Oper) : Bool := os.all fun o => match o.dst with | some d => decide (d < N) | none => true

def Ev (C : Cx) (all : List Oper) (k : List It) (os : List Oper) (s : S) : Prop :=
  dstOk C.N os = true → ∀ a w, H C.g C.N s a w → wpList C.P all.toArray (mean C k) os a w

variable {C : Cx} {k : List It} {s : S}

theorem Wk_seq {a b : Code} (h : Wk C (.code a :: .code b :: k) s) : Wk C (.code (.seq a b) :: k) s :=
  fun x w hx => wp_seq (h x w hx)
theorem Wk_skip (h : Wk C k s) : Wk C (.code .skip :: k) s := fun x w hx => wp_skip (h x w hx)
theorem Wk_block {id : Nat} {c : Code} (h : Wk C (.code c :: .blk id :: k) s) : Wk C (.code (.block id c) :: k) s :=
  fun x w hx => wp_block (h x w hx)
theorem Wk_blk {id : Nat} (h : Wk C k s) : Wk C (.blk id :: k) s := fun x w hx => h x w hx

theorem mean_ret (C : Cx) (a : Act) (w : World) (h : C.Qf .ret a w) : ∀ k, mean C k .ret a w
  | [] => h
  | .code _ :: k => mean_ret C a w h k
  | .blk _ :: k => mean_ret C a w h k
  | .cut _ :: k => mean_ret C a w h k
  | .rnd _ _ :: k => mean_ret C a w h k
theorem mean_outgrown (C : Cx) (a : Act) (w : World) (h : C.Qf .outgrown a w) : ∀ k, mean C k .outgrown a w
  | [] => h
  | .code _ :: k => mean_outgrown C a w h k
  | .blk _ :: k => mean_outgrown C a w h k
  | .cut _ :: k => mean_outgrown C a w h k
  | .rnd _ _ :: k => mean_outgrown C a w h k
theorem Wk_ret (h : Fin C s) : Wk C (.code .ret :: k) s := fun x w hx => wp_ret (mean_ret C x w (h x w hx).1 k)
theorem Wk_end (h : Fin C s) : Wk C [] s := fun x w hx => (h x w hx).2

def popTo (id : Nat) : List It → Option (List It)
  | [] => none
  | .blk i :: k => if i = id then some k else popTo id k
  | .code _ :: k => popTo id k
  | .cut _ :: k => popTo id k
  | .rnd _ _ :: k => popTo id k

theorem mean_exit {id : Nat} {a : Act} {w : World} : ∀ {k k' : List It}, popTo id k = some k' → mean C k' .normal a w → mean C k (.exit id) a w
  | [], _, h, _ => by simp [popTo] at h
  | .code _ :: k, _, h, hm => mean_exit (k := k) h hm
  | .cut _ :: k, _, h, hm => mean_exit (k := k) h hm
  | .rnd _ _ :: k, _, h, hm => mean_exit (k := k) h hm
  | .blk i :: k, _, h, hm => by
    simp only [popTo] at h
    simp only [mean, Exit.inBlock]
    by_cases hi : i = id
    · rw [if_pos hi] at h; cases h; rw [if_pos hi.symm]; exact hm
    · rw [if_neg hi] at h; rw [if_neg (fun e => hi e.symm)]; exact mean_exit h hm
theorem Wk_exit {id : Nat} {k' : List It} (hp : popTo id k = some k') (h : Wk C k' s) : Wk C (.code (.exit id) :: k) s :=
  fun x w hx => wp_exit (mean_exit hp (h x w hx))

theorem eval_slot {g : Gh} {N : Nat} {a : Act} {w : World} (h : H g N s a w) {i : Nat} {x : AV} (hi : aget s.fr i = some x) :
    ∃ M E, St g N M E s a.tmps w ∧ i < N ∧ Rel M E (a.eval (.tmp i)) x := by
  obtain ⟨_, M, E, hs, _⟩ := h
  exact ⟨M, E, hs, hs.fr i x hi⟩

theorem Wk_true {c : Nat} {x y : Code} (hc : aget s.fr c = some (.bool true)) (h : Wk C (.code x :: k) s) : Wk C (.code (.cond (.tmp c) x y) :: k) s := by
  intro a w hx
  obtain ⟨M, E, hs, _, hr⟩ := eval_slot hx hc
  exact wp_cond_true hr.bool_inv (h a w hx)
theorem Wk_false {c : Nat} {x y : Code} (hc : aget s.fr c = some (.bool false)) (h : Wk C (.code y :: k) s) : Wk C (.code (.cond (.tmp c) x y) :: k) s := by
  intro a w hx
  obtain ⟨M, E, hs, _, hr⟩ := eval_slot hx hc
  exact wp_cond_false hr.bool_inv (h a w hx)

/-- a bool that is not known: both ways -/
theorem Wk_split {c : Nat} {x y : Code} {b : Bool} (hc : aget s.fr c = some (.bool b)) (ht : b = true → Wk C (.code x :: k) s) (hf : b = false → Wk C (.code y :: k) s) : Wk C (.code (.cond (.tmp c) x y) :: k) s := by
  intro a w hx
  obtain ⟨M, E, hs, _, hr⟩ := eval_slot hx hc
  cases b with
  | true => exact wp_cond_true hr.bool_inv (ht rfl a w hx)
  | false => exact wp_cond_false hr.bool_inv (hf rfl a w hx)

theorem Wk_cut {J : S → Prop} {s' : S} (hw : ∀ a w, H C.g C.N s a w → H C.g C.N s' a w) (hJ : J s') : Wk C (.cut J :: k) s :=
  fun a w hx => ⟨s', hJ, hw a w hx⟩

theorem wp_mono_rounds {P : Program} {c : Code} {Q Q' : Exit → Act → World → Prop} (hq : ∀ e a w, Q e a w → Q' e a w) : ∀ n a w, Code.rounds P c Q n a w → Code.rounds P c Q' n a w
  | 0, _, _, h => h
  | n + 1, a, w, h => by
    rw [rounds_succ] at h ⊢
    refine wp_mono h fun e a w he => ?_
    cases e with
    | normal => exact wp_mono_rounds hq n a w he
    | _ => exact hq _ _ _ he

/-- what stands behind a join: prove it once -/
theorem Wk_join {x : It} (J : S → Prop) (h1 : Wk C (x :: .cut J :: k) s) (h2 : ∀ s', J s' → Wk C k s') : Wk C (x :: k) s := by
  intro a w hx
  have hm := h1 a w hx
  have key : ∀ e a w, mean C (.cut J :: k) e a w → mean C k e a w := by
    intro e a w he
    cases e with
    | normal => obtain ⟨s', hJ, hs'⟩ := he; exact h2 s' hJ a w hs'
    | _ => exact he
  cases x with
  | code c => exact wp_mono hm key
  | blk id => exact key _ _ _ hm
  | cut J' => exact hm
  | rnd n c => cases n with
    | zero => exact hm.elim
    | succ n => exact wp_mono_rounds key (n + 1) a w hm


/-- what a loop's rounds come to -/
inductive Iter {σ ρ : Type} (step : σ → Option (σ ⊕ ρ)) : σ → ρ → Prop
  | done {x : σ} {r : ρ} (h : step x = some (.inr r)) : Iter step x r
  | next {x y : σ} {r : ρ} (h : step x = some (.inl y)) (ht : Iter step y r) : Iter step x r

theorem Iter.uniq {σ ρ : Type} {step : σ → Option (σ ⊕ ρ)} {x : σ} {r r' : ρ} (h : Iter step x r) (h' : Iter step x r') : r = r' := by
  induction h with
  | done h => cases h' with
    | done h' => rw [h] at h'; cases h'; rfl
    | next h' _ => rw [h] at h'; cases h'
  | next h _ ih => cases h' with
    | done h' => rw [h] at h'; cases h'
    | next h' ht => rw [h] at h'; cases h'; exact ih ht

open Classical in
noncomputable def loopO {σ ρ : Type} (step : σ → Option (σ ⊕ ρ)) (x : σ) : Option ρ := if h : ∃ r, Iter step x r then some h.choose else none

theorem loopO_iff {σ ρ : Type} {step : σ → Option (σ ⊕ ρ)} {x : σ} {r : ρ} : loopO step x = some r ↔ Iter step x r := by
  unfold loopO
  constructor
  · intro h
    split at h
    · rename_i hx; cases h; exact hx.choose_spec
    · cases h
  · intro h
    rw [dif_pos ⟨r, h⟩]
    exact congrArg some ((Exists.choose_spec (⟨r, h⟩ : ∃ r, Iter step x r)).uniq h)

theorem loopO_eq {σ ρ : Type} (step : σ → Option (σ ⊕ ρ)) (x : σ) : loopO step x = match step x with
    | none => none
    | some (.inl y) => loopO step y
    | some (.inr r) => some r := by
  apply Option.ext
  intro r
  rw [loopO_iff]
  constructor
  · intro h
    cases h with
    | done h => rw [h]
    | next h ht => rw [h]; exact loopO_iff.2 ht
  · intro h
    split at h
    · cases h
    · rename_i y hy; exact .next hy (loopO_iff.1 h)
    · rename_i r' hr; cases h; exact .done hr

/-- a loop: its rounds are those of a step function -/
theorem Wk_iter {body : Code} {σ ρ : Type} {step : σ → Option (σ ⊕ ρ)} {r : ρ} (st : σ → S) (x0 : σ) (h : loopO step x0 = some r)
    (hr : ∀ n x y, step x = some y → (∀ x', y = .inl x' → Wk C (.rnd n body :: k) (st x')) → (∀ r', y = .inr r' → r' = r) → Wk C (.code body :: .rnd n body :: k) (st x)) :
    Wk C (.code (.loop body) :: k) (st x0) := by
  have main : ∃ n, Wk C (.rnd n body :: k) (st x0) := by
    have h' := loopO_iff.1 h
    clear h
    induction h' with
    | done hd => exact ⟨1, hr 0 _ _ hd (fun x' e => by cases e) (fun r' e => by cases e; rfl)⟩
    | next hd ht ih =>
      obtain ⟨n, hn⟩ := ih hr
      exact ⟨n + 1, hr n _ _ hd (fun x' e => by cases e; exact hn) (fun r' e => by cases e)⟩
  obtain ⟨n, hn⟩ := main
  exact fun a w hx => wp_loop_rounds n (hn a w hx)

/-- what stands behind a piece is proved once -/
theorem Wk_meet {x : It} (t : S) (h1 : Wk C (x :: .cut (fun s' => s' = t) :: k) s) (h2 : Wk C k t) : Wk C (x :: k) s :=
  Wk_join _ h1 fun s' e => by subst e; exact h2

end Go.Dm
