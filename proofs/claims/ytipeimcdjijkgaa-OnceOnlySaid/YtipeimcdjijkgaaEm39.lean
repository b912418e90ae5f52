/- Texts in order. -/
import Derived.Test.YtipeimcdjijkgaaEm34
namespace Go.Dm
open Go
set_option linter.unusedVariables false
set_option linter.unusedSimpArgs false

theorem bless_eq : ∀ (x y : List UInt8), Op.bytesLess x y = decide (x < y)
  | [], [] => by simp [Op.bytesLess]
  | _ :: _, [] => by simp [Op.bytesLess]
  | [], _ :: _ => by simp [Op.bytesLess]
  | a :: x, b :: y => by
    rw [Op.bytesLess, bless_eq x y]
    simp only [List.cons_lt_cons_iff]
    by_cases h1 : a < b <;> by_cases h2 : a = b <;> by_cases h3 : x < y <;> simp [h1, h2, h3]
theorem bl_irr (x : List UInt8) : Op.bytesLess x x = false := by
  rw [bless_eq]; exact decide_eq_false (List.lt_irrefl x)
theorem bl_trans {x y z : List UInt8} (h1 : Op.bytesLess x y = true) (h2 : Op.bytesLess y z = true) : Op.bytesLess x z = true := by
  rw [bless_eq] at *
  exact decide_eq_true (List.lt_trans (of_decide_eq_true h1) (of_decide_eq_true h2))
theorem bl_asymm {x y : List UInt8} (h1 : Op.bytesLess x y = true) : Op.bytesLess y x = false := by
  cases h : Op.bytesLess y x with
  | false => rfl
  | true => have := bl_trans h1 h; rw [bl_irr] at this; cases this
theorem bl_tri (x y : List UInt8) : Op.bytesLess x y = true ∨ x = y ∨ Op.bytesLess y x = true := by
  have := bytesLess_total x y
  cases h1 : Op.bytesLess x y with
  | true => exact .inl rfl
  | false =>
    cases h2 : Op.bytesLess y x with
    | true => exact .inr (.inr rfl)
    | false =>
      rw [h1, h2] at this
      exact .inr (.inl (by simpa using this))
theorem bl_ne {x y : List UInt8} (h : Op.bytesLess x y = true) : x ≠ y := fun e => by rw [e, bl_irr] at h; cases h
theorem fdiv_nat' (n k : Nat) : Int.fdiv (n : Int) (k : Int) = ((n / k : Nat) : Int) := by
  rw [Int.fdiv_eq_ediv_of_nonneg _ (by omega)]; rfl
/-- what is not less, and less than the other one -/
theorem bl_le_trans {x y z : List UInt8} (h1 : Op.bytesLess y x = false) (h2 : Op.bytesLess y z = true) : Op.bytesLess x z = true := by
  rcases bl_tri x y with h | h | h
  · exact bl_trans h h2
  · rw [h]; exact h2
  · rw [h] at h1; cases h1
end Go.Dm
