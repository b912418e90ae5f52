/- Loops that count up, by what holds behind so many turns. Words about lists. -/
import Derived.Test.YtipeimcdjijkgaaEm34
namespace Go.Dm
open Go
set_option linter.unusedVariables false
set_option linter.unusedSimpArgs false
set_option linter.unusedSectionVars false

theorem loop_from {σ ρ : Type} {step : σ → Option (σ ⊕ ρ)} (n : Nat) (st : Nat → σ) (h : ∀ k, k < n → step (st k) = some (.inl (st (k + 1)))) {r : ρ} (he : step (st n) = some (.inr r)) (k : Nat) (hk : k ≤ n) : loopO step (st k) = some r := by
  have : ∀ m k, n - k = m → k ≤ n → loopO step (st k) = some r := by
    intro m
    induction m with
    | zero =>
      intro k e hk
      have : k = n := by omega
      subst this
      exact loopO_inr he
    | succ m ih =>
      intro k e hk
      exact (loopO_inl (h k (by omega))).trans (ih (k + 1) (by omega) (by omega))
  exact this (n - k) k rfl hk
/-- a loop that runs to its end: the state behind so many turns is known -/
theorem loop_run {σ ρ : Type} {step : σ → Option (σ ⊕ ρ)} (n : Nat) (st : Nat → σ) (h : ∀ k, k < n → step (st k) = some (.inl (st (k + 1)))) {r : ρ} (he : step (st n) = some (.inr r)) : loopO step (st 0) = some r :=
  loop_from n st h he 0 (Nat.zero_le _)
/-- a loop that ends at the first turn of which something is so -/
theorem loop_first' {σ ρ : Type} {step : σ → Option (σ ⊕ ρ)} (n : Nat) (st : Nat → σ) (bad : Nat → Prop) (rb : Nat → ρ) {r : ρ}
    (h : ∀ k, k < n → ¬ bad k → step (st k) = some (.inl (st (k + 1)))) (hb : ∀ k, k < n → bad k → step (st k) = some (.inr (rb k))) (he : step (st n) = some (.inr r)) (k : Nat) (hk : k ≤ n) :
    (∃ j, k ≤ j ∧ j < n ∧ bad j ∧ (∀ i, k ≤ i → i < j → ¬ bad i) ∧ loopO step (st k) = some (rb j)) ∨ ((∀ j, k ≤ j → j < n → ¬ bad j) ∧ loopO step (st k) = some r) := by
  have : ∀ m k, n - k = m → k ≤ n → (∃ j, k ≤ j ∧ j < n ∧ bad j ∧ (∀ i, k ≤ i → i < j → ¬ bad i) ∧ loopO step (st k) = some (rb j)) ∨ ((∀ j, k ≤ j → j < n → ¬ bad j) ∧ loopO step (st k) = some r) := by
    intro m
    induction m with
    | zero =>
      intro k e hk
      have : k = n := by omega
      subst this
      exact .inr ⟨fun j h1 h2 => by omega, loopO_inr he⟩
    | succ m ih =>
      intro k e hk
      by_cases c : bad k
      · exact .inl ⟨k, Nat.le_refl _, by omega, c, fun i h1 h2 => by omega, loopO_inr (hb k (by omega) c)⟩
      · have e1 := loopO_inl (h k (by omega) c)
        rcases ih (k + 1) (by omega) (by omega) with ⟨j, h1, h2, h3, h4, h5⟩ | ⟨h1, h2⟩
        · refine .inl ⟨j, by omega, h2, h3, fun i g1 g2 => ?_, e1.trans h5⟩
          by_cases hi : i = k
          · rw [hi]; exact c
          · exact h4 i (by omega) g2
        · refine .inr ⟨fun j g1 g2 => ?_, e1.trans h2⟩
          by_cases hj : j = k
          · rw [hj]; exact c
          · exact h1 j (by omega) g2
  exact this (n - k) k rfl hk
theorem loop_first {σ ρ : Type} {step : σ → Option (σ ⊕ ρ)} (n : Nat) (st : Nat → σ) (bad : Nat → Prop) (rb : Nat → ρ) {r : ρ}
    (h : ∀ k, k < n → ¬ bad k → step (st k) = some (.inl (st (k + 1)))) (hb : ∀ k, k < n → bad k → step (st k) = some (.inr (rb k))) (he : step (st n) = some (.inr r)) :
    (∃ j, j < n ∧ bad j ∧ (∀ i, i < j → ¬ bad i) ∧ loopO step (st 0) = some (rb j)) ∨ ((∀ j, j < n → ¬ bad j) ∧ loopO step (st 0) = some r) := by
  rcases loop_first' n st bad rb h hb he 0 (Nat.zero_le _) with ⟨j, _, h2, h3, h4, h5⟩ | ⟨h1, h2⟩
  · exact .inl ⟨j, h2, h3, fun i hi => h4 i (Nat.zero_le _) hi, h5⟩
  · exact .inr ⟨fun j hj => h1 j (Nat.zero_le _) hj, h2⟩
/-- one of two answers -/
theorem loop_any {σ ρ : Type} {step : σ → Option (σ ⊕ ρ)} (n : Nat) (st : Nat → σ) (bad : Nat → Prop) {rb r : ρ}
    (h : ∀ k, k < n → ¬ bad k → step (st k) = some (.inl (st (k + 1)))) (hb : ∀ k, k < n → bad k → step (st k) = some (.inr rb)) (he : step (st n) = some (.inr r)) :
    ((∃ j, j < n ∧ bad j) ∧ loopO step (st 0) = some rb) ∨ ((∀ j, j < n → ¬ bad j) ∧ loopO step (st 0) = some r) := by
  rcases loop_first n st bad (fun _ => rb) h hb he with ⟨j, h1, h2, _, h4⟩ | h1
  · exact .inl ⟨⟨j, h1, h2⟩, h4⟩
  · exact .inr h1

section
variable {α : Type} [Inhabited α]
theorem take_all (p : α → Bool) (l : List α) (k : Nat) (h : k < l.length) : (l.take (k + 1)).all p = ((l.take k).all p && p (lget l (k : Int))) := by
  rw [lget_take l k h, List.all_append]; simp
theorem mem_lget {l : List α} {x : α} : x ∈ l ↔ ∃ k : Nat, k < l.length ∧ lget l (k : Int) = x := by
  rw [List.mem_iff_getElem]
  constructor
  · rintro ⟨k, h, e⟩; exact ⟨k, h, by rw [lget_nat l k h, e]⟩
  · rintro ⟨k, h, e⟩; exact ⟨k, h, by rw [← lget_nat l k h, e]⟩
theorem all_lget {l : List α} {p : α → Prop} : (∀ x ∈ l, p x) ↔ ∀ k : Nat, k < l.length → p (lget l (k : Int)) :=
  ⟨fun h k hk => h _ (lget_mem l (k : Int) (by omega)), fun h x hx => by obtain ⟨k, hk, e⟩ := mem_lget.1 hx; rw [← e]; exact h k hk⟩
theorem mem_take_lget {l : List α} {x : α} {n : Nat} (hn : n ≤ l.length) : x ∈ l.take n ↔ ∃ k : Nat, k < n ∧ lget l (k : Int) = x := by
  rw [mem_lget]
  have hl : (l.take n).length = n := by simp; omega
  constructor
  · rintro ⟨k, hk, e⟩
    rw [hl] at hk
    refine ⟨k, hk, ?_⟩
    have := lget_ltake l (n : Int) (k : Int) (by omega)
    rw [ltake_nat] at this
    rw [← this]; exact e
  · rintro ⟨k, hk, e⟩
    refine ⟨k, by omega, ?_⟩
    have := lget_ltake l (n : Int) (k : Int) (by omega)
    rw [ltake_nat] at this
    rw [this]; exact e
theorem nodup_lget {l : List α} : l.Nodup ↔ ∀ k : Nat, k < l.length → lget l (k : Int) ∉ l.take k := by
  unfold List.Nodup
  rw [List.pairwise_iff_getElem]
  constructor
  · intro h k hk hm
    obtain ⟨j, hj, e⟩ := (mem_take_lget (by omega)).1 hm
    have := h j k (by omega) hk hj
    rw [← lget_nat l j (by omega), ← lget_nat l k hk] at this
    exact this e
  · intro h i j hi hj hij e
    refine h j hj ((mem_take_lget (by omega)).2 ⟨i, hij, ?_⟩)
    rw [lget_nat l i hi, lget_nat l j hj, e]
theorem nodup_snoc {l : List α} {x : α} : (l ++ [x]).Nodup ↔ l.Nodup ∧ x ∉ l := by
  rw [List.nodup_append]
  constructor
  · rintro ⟨h1, _, h3⟩
    exact ⟨h1, fun h => h3 x h x (by simp) rfl⟩
  · rintro ⟨h1, h2⟩
    refine ⟨h1, by simp, fun a ha b hb => ?_⟩
    simp only [List.mem_singleton] at hb
    subst hb
    rintro rfl; exact h2 ha
end
theorem mget_mput {κ ν : Type} [DecidableEq κ] (l : List (κ × ν)) (k j : κ) (v : ν) : mget (mput l k v) j = if k = j then some v else mget l j := by
  induction l with
  | nil => simp [mput, mget]
  | cons p l ih =>
    rw [mput]
    by_cases h : p.1 = k
    · rw [if_pos h]
      by_cases hj : k = j
      · simp [mget, hj]
      · have : ¬ p.1 = j := fun e => hj (h.symm.trans e)
        simp [mget, hj, this]
    · rw [if_neg h]
      by_cases hj : p.1 = j
      · have : ¬ k = j := fun e => h (hj.trans e.symm)
        simp [mget, hj, this]
      · simp [mget, hj, ih]
/-- numbers that were put into a map, one by one -/
def seenM (l : List Int) : List (Int × Int) := l.foldl (fun m v => mput m v 1) []
theorem seenM_snoc (l : List Int) (v : Int) : seenM (l ++ [v]) = mput (seenM l) v 1 := by simp [seenM]
theorem seenM_get (l : List Int) (v : Int) : (mget (seenM l) v).getD 0 = if v ∈ l then 1 else 0 := by
  suffices h : ∀ (r : List Int), (mget (seenM r.reverse) v).getD 0 = if v ∈ r.reverse then 1 else 0 by
    have := h l.reverse
    rwa [List.reverse_reverse] at this
  intro r
  induction r with
  | nil => simp [seenM, mget]
  | cons x r ih =>
    rw [List.reverse_cons, seenM_snoc, mget_mput]
    by_cases h : x = v
    · subst h; simp
    · have : ¬ v = x := fun e => h e.symm
      rw [if_neg h, ih]
      simp [this]
end Go.Dm
