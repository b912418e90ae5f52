/- Plain functions are read: what holds of an answer. Words about lists and numbers. -/
import Derived.Test.YtipeimcdjijkgaaEm31
namespace Go.Dm
open Go
set_option linter.unusedVariables false
set_option linter.unusedSimpArgs false

theorem w64_id {x : Int} (h1 : -9223372036854775808 ≤ x) (h2 : x ≤ 9223372036854775807) : w64 x = x := by
  unfold w64 IntKind.wrap
  simp only [IntKind.signed, IntKind.bits]
  simp
  split <;> omega
theorem w64_in (x : Int) : -9223372036854775808 ≤ w64 x ∧ w64 x ≤ 9223372036854775807 := by
  unfold w64 IntKind.wrap
  simp only [IntKind.signed, IntKind.bits]
  simp
  split <;> omega

/-- there is an answer, and this holds of it -/
def wp {α : Type} (e : Option α) (Q : α → Prop) : Prop := ∃ v, e = some v ∧ Q v
theorem wp_some {α : Type} {v : α} {Q : α → Prop} : wp (some v) Q ↔ Q v := ⟨fun ⟨_, h, q⟩ => by cases h; exact q, fun h => ⟨_, rfl, h⟩⟩
theorem wp_none {α : Type} {Q : α → Prop} : wp (none : Option α) Q ↔ False := ⟨fun ⟨_, h, _⟩ => (by cases h), fun h => h.elim⟩
theorem wp_ob {α β : Type} {e : Option α} {f : α → Option β} {Q : β → Prop} : wp (ob e f) Q ↔ wp e (fun x => wp (f x) Q) := by
  cases e with
  | none => exact ⟨fun ⟨_, h, _⟩ => (by cases h), fun ⟨_, h, _⟩ => (by cases h)⟩
  | some x => rw [wp_some]; exact Iff.rfl
theorem wp_asrt {β : Type} {p : Prop} {k : Option β} {Q : β → Prop} : wp (asrt p k) Q ↔ p ∧ wp k Q := by
  constructor
  · intro ⟨v, h, q⟩
    obtain ⟨hp, hk⟩ := asrt_elim h
    exact ⟨hp, v, hk, q⟩
  · intro ⟨hp, hk⟩
    rw [asrt_pos hp]; exact hk
theorem wp_lt {α β : Type} {e : α} {f : α → Option β} {Q : β → Prop} : wp (lt e f) Q ↔ wp (f e) Q := Iff.rfl
theorem wp_ite {β : Type} {b : Bool} {x y : Option β} {Q : β → Prop} : wp (if b = true then x else y) Q ↔ (b = true → wp x Q) ∧ (b = false → wp y Q) := by
  cases b <;> simp
theorem wp_inrO {σ ρ : Type} {e : Option ρ} {Q : σ ⊕ ρ → Prop} : wp (inrO e) Q ↔ wp e (fun r => Q (.inr r)) := by
  cases e with
  | none => exact ⟨fun ⟨_, h, _⟩ => (by cases h), fun ⟨_, h, _⟩ => (by cases h)⟩
  | some x => rw [wp_some]; exact wp_some
theorem wp_ubO {β : Type} {p : Bool} {e1 e2 : Option β} {Q : β → Prop} : wp (ubO p e1 e2) Q ↔ (p = true → e1 = e2) ∧ wp e2 Q := by
  unfold ubO
  rw [wp_asrt]
  constructor
  · intro ⟨h, hk⟩
    refine ⟨h, ?_⟩
    cases p with
    | true => rw [← h rfl]; exact hk
    | false => exact hk
  · intro ⟨h, hk⟩
    refine ⟨h, ?_⟩
    cases p with
    | true => rw [if_pos rfl, h rfl]; exact hk
    | false => exact hk
theorem wp_is {α : Type} {e : Option α} {v : α} : wp e (fun r => r = v) ↔ e = some v := ⟨fun ⟨_, h, q⟩ => by rw [h, q], fun h => ⟨v, h, rfl⟩⟩
theorem wp_mono {α : Type} {e : Option α} {Q R : α → Prop} (h : wp e Q) (m : ∀ v, Q v → R v) : wp e R := by
  obtain ⟨v, e, q⟩ := h
  exact ⟨v, e, m v q⟩
theorem wp_eq {α : Type} {e : Option α} {v : α} (h : e = some v) {Q : α → Prop} : wp e Q ↔ Q v := by rw [h]; exact wp_some
/-- one turn of a loop -/
def Turn {σ ρ : Type} (I : σ → Prop) (Q : ρ → Prop) : σ ⊕ ρ → Prop
  | .inl y => I y
  | .inr r => Q r
theorem turn_l {σ ρ : Type} {I : σ → Prop} {Q : ρ → Prop} {y : σ} : Turn I Q (.inl y) ↔ I y := Iff.rfl
theorem turn_r {σ ρ : Type} {I : σ → Prop} {Q : ρ → Prop} {r : ρ} : Turn I Q (.inr r) ↔ Q r := Iff.rfl
theorem loopO_inr {σ ρ : Type} {step : σ → Option (σ ⊕ ρ)} {x : σ} {r : ρ} (h : step x = some (.inr r)) : loopO step x = some r := by rw [loopO_eq, h]
theorem loopO_inl {σ ρ : Type} {step : σ → Option (σ ⊕ ρ)} {x y : σ} (h : step x = some (.inl y)) : loopO step x = loopO step y := by rw [loopO_eq, h]
/-- a loop: what holds at each turn, what falls -/
theorem wp_loop {σ ρ : Type} {step : σ → Option (σ ⊕ ρ)} (I : σ → Prop) (m : σ → Nat) {Q : ρ → Prop}
    (h : ∀ x, I x → wp (step x) (Turn (fun y => I y ∧ m y < m x) Q)) {x : σ} (hx : I x) : wp (loopO step x) Q := by
  generalize hn : m x = n
  induction n using Nat.strongRecOn generalizing x with
  | _ n ih =>
    obtain ⟨v, e, q⟩ := h x hx
    match v, e, q with
    | .inr r, e, q => exact ⟨r, loopO_inr e, q⟩
    | .inl y, e, q =>
      rw [loopO_inl e]
      exact ih (m y) (by rw [← hn]; exact q.2) q.1 rfl
/-- a loop that counts up: what holds behind so many turns -/
theorem wp_for {σ ρ : Type} {step : σ → Option (σ ⊕ ρ)} (I : Nat → σ → Prop) (n : Nat) {Q : ρ → Prop}
    (h : ∀ k x, k ≤ n → I k x → wp (step x) (Turn (fun y => k < n ∧ I (k + 1) y) Q)) {x : σ} (hx : I 0 x) : wp (loopO step x) Q := by
  have main : ∀ m k x, n - k = m → k ≤ n → I k x → wp (loopO step x) Q := by
    intro m
    induction m with
    | zero =>
      intro k x hm hk hx
      obtain ⟨v, e, q⟩ := h k x hk hx
      match v, e, q with
      | .inr r, e, q => exact ⟨r, loopO_inr e, q⟩
      | .inl y, e, q => have : k < n := q.1; omega
    | succ m ih =>
      intro k x hm hk hx
      obtain ⟨v, e, q⟩ := h k x hk hx
      match v, e, q with
      | .inr r, e, q => exact ⟨r, loopO_inr e, q⟩
      | .inl y, e, q =>
        rw [loopO_inl e]
        have : k < n := q.1
        exact ih (k + 1) y (by omega) (by omega) q.2
  exact main _ 0 x rfl (Nat.zero_le _) hx
/-- a function that calls itself -/
theorem fuelO_up {α β : Type} {S : (α → Option β) → α → Option β} (hS : ∀ f g : α → Option β, (∀ x r, f x = some r → g x = some r) → ∀ x r, S f x = some r → S g x = some r) :
    ∀ k x r, fuelO S k x = some r → fuelO S (k + 1) x = some r := by
  intro k
  induction k with
  | zero => intro x r h; cases h
  | succ k ih => intro x r h; exact hS _ _ ih x r h
theorem recO_is {α β : Type} {S : (α → Option β) → α → Option β} {x : α} {r : β} (h : ∀ k s, fuelO S k x = some s → s = r) {k : Nat} (hk : fuelO S k x = some r) : recO S x = some r := by
  obtain ⟨s, hs⟩ := recO_intro hk
  obtain ⟨k', hk'⟩ := recO_elim hs
  rw [hs, h k' s hk']
/-- a function that calls itself, that has one answer of each that may be asked -/
theorem recO_spec {α β : Type} {S : (α → Option β) → α → Option β} (I : α → Prop) (m : α → Nat) (g : α → β)
    (h : ∀ x f, I x → (∀ y r, I y → m y < m x → f y = some r → r = g y) → ∀ r, S f x = some r → r = g x)
    (h' : ∀ x f, I x → (∀ y, I y → m y < m x → f y = some (g y)) → S f x = some (g x)) {x : α} (hx : I x) : recO S x = some (g x) := by
  have a : ∀ k x, I x → ∀ r, fuelO S k x = some r → r = g x := by
    intro k
    induction k with
    | zero => intro x hx r h; cases h
    | succ k ih => intro x hx r hr; exact h x _ hx (fun y r hy _ e => ih y hy r e) r hr
  have b : ∀ k x, I x → m x < k → fuelO S k x = some (g x) := by
    intro k
    induction k with
    | zero => intro x hx hk; omega
    | succ k ih => intro x hx hk; exact h' x _ hx (fun y hy hl => ih y hy (by omega))
  exact recO_is (fun k s => a k x hx s) (b (m x + 1) x hx (Nat.lt_succ_self _))

/- conditions -/
theorem or_t {p q : Prop} {_ : Decidable p} {_ : Decidable q} (h : p ∨ q) : (decide p || decide q) = true := by simpa using h
theorem or_f {p q : Prop} {_ : Decidable p} {_ : Decidable q} (h : ¬(p ∨ q)) : ¬ (decide p || decide q) = true := by simpa using h
theorem or_b {p q : Prop} {_ : Decidable p} {_ : Decidable q} (h : ¬(p ∨ q)) : (decide p || decide q) = false := by simpa using h
theorem an_t {p q : Prop} {_ : Decidable p} {_ : Decidable q} (h : p ∧ q) : (decide p && decide q) = true := by simpa using h
theorem an_f {p q : Prop} {_ : Decidable p} {_ : Decidable q} (h : ¬(p ∧ q)) : ¬ (decide p && decide q) = true := by simpa using h
theorem d_t {p : Prop} {_ : Decidable p} (h : p) : decide p = true := decide_eq_true h
theorem d_f {p : Prop} {_ : Decidable p} (h : ¬p) : ¬ decide p = true := by simpa using h
theorem n_t {p : Prop} {_ : Decidable p} (h : ¬ p) : (!decide p) = true := by simpa using h
theorem n_f {p : Prop} {_ : Decidable p} (h : p) : ¬ (!decide p) = true := by simpa using h

/- lists -/
section
variable {α : Type}
theorem lget_nat [Inhabited α] (l : List α) (n : Nat) (h : n < l.length) : lget l (n : Int) = l[n] := by simp [lget, List.getD, h]
theorem lget_some [Inhabited α] (l : List α) (n : Nat) (h : n < l.length) : l[n]? = some (lget l (n : Int)) := by simp [lget, List.getD, h]
theorem lget_int [Inhabited α] (l : List α) (n : Int) (h : 0 ≤ n ∧ n < (l.length : Int)) : l[n.toNat]? = some (lget l n) := by
  have : n.toNat < l.length := by omega
  simp [lget, List.getD, this]
theorem lget_mem [Inhabited α] (l : List α) (n : Int) (h : 0 ≤ n ∧ n < (l.length : Int)) : lget l n ∈ l := List.mem_of_getElem? (lget_int l n h)
theorem lget_drop [Inhabited α] (l : List α) (n : Nat) (h : n < l.length) : l.drop n = lget l (n : Int) :: l.drop (n + 1) := by
  rw [List.drop_eq_getElem_cons h]
  simp [lget, List.getD, h]
theorem lget_take [Inhabited α] (l : List α) (n : Nat) (h : n < l.length) : l.take (n + 1) = l.take n ++ [lget l (n : Int)] := by
  rw [List.take_add_one, lget_some l n h]; rfl
theorem lget_app_l [Inhabited α] (a b : List α) (n : Int) (h : 0 ≤ n ∧ n < (a.length : Int)) : lget (a ++ b) n = lget a n := by
  have : n.toNat < a.length := by omega
  simp [lget, List.getD, List.getElem?_append_left this]
theorem lget_app_r [Inhabited α] (a b : List α) (n : Int) (h : (a.length : Int) ≤ n) : lget (a ++ b) n = lget b (n - a.length) := by
  have h1 : a.length ≤ n.toNat := by omega
  have h2 : n.toNat - a.length = (n - a.length).toNat := by omega
  unfold lget List.getD
  rw [List.getElem?_append_right h1, h2]
theorem lget_lset [Inhabited α] (l : List α) (n m : Int) (x : α) (h : 0 ≤ n ∧ n < (l.length : Int)) (hm : 0 ≤ m) : lget (lset l n x) m = if m = n then x else lget l m := by
  unfold lget lset
  by_cases e : m = n
  · subst e
    have : m.toNat < l.length := by omega
    simp [List.getD, this]
  · have : n.toNat ≠ m.toNat := by omega
    rw [if_neg e]
    simp only [List.getD, List.getElem?_set_ne this]
theorem lset_len (l : List α) (n : Int) (x : α) : (lset l n x).length = l.length := by simp [lset]
theorem ltake_len (l : List α) (n : Int) (h : 0 ≤ n ∧ n ≤ (l.length : Int)) : ((ltake l n).length : Int) = n := by simp [ltake]; omega
theorem ldrop_len (l : List α) (n : Int) (h : 0 ≤ n ∧ n ≤ (l.length : Int)) : ((ldrop l n).length : Int) = l.length - n := by simp [ldrop]; omega
theorem ltake_nat (l : List α) (n : Nat) : ltake l (n : Int) = l.take n := by simp [ltake]
theorem ldrop_nat (l : List α) (n : Nat) : ldrop l (n : Int) = l.drop n := by simp [ldrop]
theorem lget_ltake [Inhabited α] (l : List α) (n m : Int) (h : 0 ≤ m ∧ m < n) : lget (ltake l n) m = lget l m := by
  have : m.toNat < n.toNat := by omega
  simp [lget, ltake, List.getD, List.getElem?_take, this]
theorem lget_ldrop [Inhabited α] (l : List α) (n m : Int) (h : 0 ≤ n ∧ 0 ≤ m) : lget (ldrop l n) m = lget l (n + m) := by
  have : n.toNat + m.toNat = (n + m).toNat := by omega
  simp [lget, ldrop, List.getD, this]
/-- two lists are the same, if they are place by place -/
theorem ext_lget [Inhabited α] {a b : List α} (hl : a.length = b.length) (h : ∀ n : Nat, n < a.length → lget a (n : Int) = lget b (n : Int)) : a = b := by
  apply List.ext_getElem hl
  intro n h1 h2
  have := h n h1
  rwa [lget_nat a n h1, lget_nat b n h2] at this
end
end Go.Dm
