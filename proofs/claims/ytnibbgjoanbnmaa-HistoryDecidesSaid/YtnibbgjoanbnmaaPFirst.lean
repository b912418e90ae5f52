/- The first one of which there is something; loops that look for it. -/
import Derived.Test.YtnibbgjoanbnmaaEmD
import Derived.Test.YtnibbgjoanbnmaaGf1
namespace Go.Proofs.Ytnibbgjoanbnmaa
open Go Go.Dm
set_option linter.unusedVariables false
set_option linter.unusedSimpArgs false
namespace G
def firstFrom {ρ : Type} (f : Nat → Option ρ) (r : ρ) : Nat → Nat → ρ
  | _, 0 => r
  | k, m + 1 => (f k).getD (firstFrom f r (k + 1) m)
abbrev nx {σ ρ : Type} (o : Option ρ) (s : σ) : σ ⊕ ρ := match o with | none => .inl s | some x => .inr x
theorem loop_firstG {σ ρ : Type} {step : σ → Option (σ ⊕ ρ)} (st : Nat → σ) (f : Nat → Option ρ) (r : ρ) (n : Nat) (h : ∀ k : Nat, k < n → step (st k) = some (nx (f k) (st (k + 1)))) (he : step (st n) = some (.inr r)) :
    loopO step (st 0) = some (firstFrom f r 0 n) := by
  have : ∀ m k : Nat, k + m = n → loopO step (st k) = some (firstFrom f r k m) := by
    intro m
    induction m with
    | zero =>
      intro k e
      have : k = n := by omega
      subst this
      exact loopO_inr he
    | succ m ih =>
      intro k e
      have hk := h k (by omega)
      rw [firstFrom]
      cases hf : f k with
      | none =>
        rw [hf] at hk
        rw [loopO_inl hk, ih (k + 1) (by omega)]; rfl
      | some x =>
        rw [hf] at hk
        exact loopO_inr hk
  exact this n 0 (by omega)
theorem loop_firstF {ρ : Type} {step : Int → Option (Int ⊕ ρ)} (f : Nat → Option ρ) (r : ρ) (n : Nat) (h : ∀ k : Nat, k < n → step (k : Int) = some (nx (f k) ((k + 1 : Nat) : Int))) (he : step (n : Int) = some (.inr r)) :
    loopO step 0 = some (firstFrom f r 0 n) := loop_firstG (fun k => (k : Int)) f r n h he
theorem firstFrom_congr {ρ : Type} {f g : Nat → Option ρ} {r : ρ} : ∀ {m k : Nat}, (∀ j, k ≤ j → j < k + m → f j = g j) → firstFrom f r k m = firstFrom g r k m
  | 0, _, _ => rfl
  | m + 1, k, h => by
    rw [firstFrom, firstFrom, h k (by omega) (by omega), firstFrom_congr (fun j h1 h2 => h j (by omega) (by omega))]
/-- either there is none, or the first one is it -/
theorem firstFrom_cases {ρ : Type} (f : Nat → Option ρ) (r : ρ) : ∀ (m k : Nat), ((∀ j, k ≤ j → j < k + m → f j = none) ∧ firstFrom f r k m = r) ∨ ∃ j x, k ≤ j ∧ j < k + m ∧ f j = some x ∧ (∀ i, k ≤ i → i < j → f i = none) ∧ firstFrom f r k m = x
  | 0, k => .inl ⟨fun j h1 h2 => by omega, rfl⟩
  | m + 1, k => by
    rw [firstFrom]
    cases hf : f k with
    | some x => exact .inr ⟨k, x, Nat.le_refl _, by omega, hf, fun i h1 h2 => by omega, rfl⟩
    | none =>
      rw [Option.getD_none]
      rcases firstFrom_cases f r m (k + 1) with ⟨h1, h2⟩ | ⟨j, x, h1, h2, h3, h4, h5⟩
      · refine .inl ⟨fun j a b => ?_, h2⟩
        by_cases e : j = k
        · rw [e]; exact hf
        · exact h1 j (by omega) (by omega)
      · refine .inr ⟨j, x, by omega, by omega, h3, fun i a b => ?_, h5⟩
        by_cases e : i = k
        · rw [e]; exact hf
        · exact h4 i (by omega) b
theorem b_iff {b : Bool} {p : Prop} [Decidable p] (h : b = true ↔ p) : b = decide p := by
  rw [Bool.eq_iff_iff, h, decide_eq_true_iff]
theorem range_any (p : Nat → Prop) [DecidablePred p] (n : Nat) : (∃ j, j < n ∧ p j) ∨ ∀ j, j < n → ¬ p j := by
  by_cases h : ∃ j, j < n ∧ p j
  · exact .inl h
  · exact .inr fun j hj hp => h ⟨j, hj, hp⟩
end G
end Go.Proofs.Ytnibbgjoanbnmaa
