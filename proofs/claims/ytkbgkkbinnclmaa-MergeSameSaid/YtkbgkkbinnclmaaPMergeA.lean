/- A heap of sources. -/
import Derived.Test.YtkbgkkbinnclmaaPMergeP
namespace Go.Proofs.Ytkbgkkbinnclmaa
open Go Go.Dm
set_option linter.unusedVariables false
set_option linter.unusedSectionVars false
set_option linter.unusedSimpArgs false
namespace G
theorem ordz (a b : Cell) : ord a b = 0 ↔ key a b := by
  unfold ord
  constructor
  · intro h
    split at h
    · cases h
    · rename_i h1
      split at h
      · cases h
      · rename_i h2
        rcases ah_tri a b with q | q | q
        · exact absurd ((ahead_iff _ _).2 q) h1
        · exact q
        · exact absurd ((ahead_iff _ _).2 q) h2
  · intro h
    rw [if_neg (fun q => ah_key ((ahead_iff _ _).1 q) h), if_neg (fun q => ah_key ((ahead_iff _ _).1 q) (key_symm h))]
/-- the cell that comes next -/
def hd (s : source) : Cell := lget s.cells 0
/-- one source's cell comes ahead of another one's -/
def slt (a b : source) : Prop := R_Ahead (hd a) (hd b) = true ∨ (key (hd a) (hd b) ∧ a.rank < b.rank)
noncomputable instance (a b : source) : Decidable (slt a b) := inferInstanceAs (Decidable (_ ∨ _))
theorem slt_asymm {a b : source} (h : slt a b) : ¬ slt b a := by
  rintro (g | ⟨g1, g2⟩)
  · have g := (ahead_iff _ _).1 g
    rcases h with h | ⟨h1, h2⟩
    · exact ah_asymm g ((ahead_iff _ _).1 h)
    · exact ah_key g (key_symm h1)
  · rcases h with h | ⟨h1, h2⟩
    · exact ah_key ((ahead_iff _ _).1 h) (key_symm g1)
    · omega
theorem nslt_trans {a b c : source} (h : ¬ slt b a) (g : ¬ slt c b) : ¬ slt c a := by
  have h1 : le (hd a) (hd b) := fun q => h (.inl ((ahead_iff _ _).2 q))
  have g1 : le (hd b) (hd c) := fun q => g (.inl ((ahead_iff _ _).2 q))
  rintro (q | ⟨q1, q2⟩)
  · exact g1 (ah_of ((ahead_iff _ _).1 q) h1)
  · rcases le_or h1 with k | k
    · exact g1 (ah_left (key_symm q1) k)
    · have e1 : ¬ b.rank < a.rank := fun z => h (.inr ⟨key_symm k, z⟩)
      have e2 : ¬ c.rank < b.rank := fun z => g (.inr ⟨key_trans q1 k, z⟩)
      omega
theorem slt_trans {a b c : source} (h : slt a b) (g : slt b c) : slt a c := Decidable.not_not.1 fun q => nslt_trans q (slt_asymm h) g
/-- what stands at a place of the heap -/
def At (ar : List source) (row : List Nat) (p : Nat) : source := lget ar ((lget row (p : Int) : Nat) : Int)
def Okr (ar : List source) (row : List Nat) : Prop := ∀ x ∈ row, x < ar.length ∧ (lget ar (x : Int)).cells ≠ []
theorem Okr.at {ar : List source} {row : List Nat} (h : Okr ar row) {p : Nat} (hp : p < row.length) : lget row (p : Int) < ar.length ∧ 0 < (At ar row p).cells.length := by
  have hm : lget row (p : Int) ∈ row := lget_mem row _ (by omega)
  obtain ⟨h1, h2⟩ := h _ hm
  exact ⟨h1, List.length_pos_iff.2 h2⟩
theorem less_eq {ar : List source} {row : List Nat} (h : Okr ar row) {i k : Nat} (hi : i < row.length) (hk : k < row.length) : merge_heap_less (i : Int) (k : Int) row ar = some (decide (slt (At ar row i) (At ar row k))) := by
  obtain ⟨a1, a2⟩ := h.at hi
  obtain ⟨b1, b2⟩ := h.at hk
  unfold At at a2 b2 ⊢
  unfold merge_heap_less
  rw [asrt_pos (by omega), asrt_pos (by omega), asrt_pos (by omega), asrt_pos (by omega), asrt_pos (by omega), asrt_pos (by omega), asrt_pos (by omega), asrt_pos (by omega)]
  simp only [cell_eta]
  rw [order_eq, ob_some, asrt_pos (fun _ _ => by omega), asrt_pos (fun _ _ => by omega), asrt_pos (fun _ _ => by omega), asrt_pos (fun _ _ => by omega), asrt_pos (fun _ _ => by omega), asrt_pos (fun _ _ => by omega)]
  dsimp only [lt]
  congr 1
  rw [Bool.eq_iff_iff]
  simp only [Bool.or_eq_true, Bool.and_eq_true, decide_eq_true_eq, ord_neg, ordz]
  rfl
/-- a heap from a place on -/
def HF (ar : List source) (row : List Nat) (a : Nat) : Prop := ∀ p c : Nat, a ≤ p → (c = 2 * p + 1 ∨ c = 2 * p + 2) → c < row.length → ¬ slt (At ar row c) (At ar row p)
/-- a heap, but for one place -/
def HA (ar : List source) (row : List Nat) (a i : Nat) : Prop :=
  (∀ p c : Nat, a ≤ p → p ≠ i → (c = 2 * p + 1 ∨ c = 2 * p + 2) → c < row.length → ¬ slt (At ar row c) (At ar row p)) ∧
  (∀ p c : Nat, a ≤ p → (i = 2 * p + 1 ∨ i = 2 * p + 2) → (c = 2 * i + 1 ∨ c = 2 * i + 2) → c < row.length → ¬ slt (At ar row c) (At ar row p))
theorem HF.min {ar : List source} {row : List Nat} (h : HF ar row 0) : ∀ j : Nat, j < row.length → ¬ slt (At ar row j) (At ar row 0) := by
  intro j
  induction j using Nat.strongRecOn with
  | _ j ih =>
    intro hj
    by_cases c : j = 0
    · subst c; exact fun q => slt_asymm q q
    · obtain ⟨p, hp⟩ : ∃ p, j = 2 * p + 1 ∨ j = 2 * p + 2 := ⟨(j - 1) / 2, by omega⟩
      exact nslt_trans (ih p (by omega) (by omega)) (h p j (Nat.zero_le _) hp hj)
theorem HF.step {ar : List source} {row : List Nat} {i : Nat} (h : HF ar row (i + 1)) : HA ar row i i :=
  ⟨fun p c h1 h2 h3 h4 => h p c (by omega) h3 h4, fun p c h1 h2 h3 h4 => by omega⟩
theorem best_eq {ar : List source} {row : List Nat} (h : Okr ar row) (hl : row.length ≤ 1000000) {i : Nat} (hi : i < row.length) :
    ∃ b : Nat, merge_heap_down_B1 ar (row, (i : Int)) = merge_heap_down_J1 (row, (i : Int)) (b : Int) ∧ (b = i ∨ ((b = 2 * i + 1 ∨ b = 2 * i + 2) ∧ b < row.length ∧ slt (At ar row b) (At ar row i))) ∧
      ∀ c : Nat, (c = 2 * i + 1 ∨ c = 2 * i + 2) → c < row.length → ¬ slt (At ar row c) (At ar row b) := by
  have w0 : w64 (2 * (i : Int)) = ((2 * i : Nat) : Int) := by rw [w64_id (by omega) (by omega)]; omega
  have w1 : w64 (((2 * i : Nat) : Int) + 1) = ((2 * i + 1 : Nat) : Int) := by rw [w64_id (by omega) (by omega)]; omega
  have w2 : w64 (((2 * i : Nat) : Int) + 2) = ((2 * i + 2 : Nat) : Int) := by rw [w64_id (by omega) (by omega)]; omega
  unfold merge_heap_down_B1
  dsimp only
  rw [w0, w1, w2]
  have self : ∀ x : source, ¬ slt x x := fun x q => slt_asymm q q
  by_cases c1 : 2 * i + 1 < row.length
  · rw [if_pos (d_t (by omega)), less_eq h c1 hi, ob_some]
    by_cases s1 : slt (At ar row (2 * i + 1)) (At ar row i)
    · rw [if_pos (by rw [d_t (show ((2 * i + 1 : Nat) : Int) < (row.length : Int) by omega), d_t s1]; rfl), ob_some]
      dsimp only
      by_cases c2 : 2 * i + 2 < row.length
      · rw [if_pos (d_t (by omega)), less_eq h c2 c1, ob_some]
        by_cases s2 : slt (At ar row (2 * i + 2)) (At ar row (2 * i + 1))
        · rw [if_pos (by rw [d_t (show ((2 * i + 2 : Nat) : Int) < (row.length : Int) by omega), d_t s2]; rfl), ob_some]
          refine ⟨2 * i + 2, rfl, .inr ⟨.inr rfl, c2, ?_⟩, fun c hc _ => ?_⟩
          · exact slt_trans s2 s1
          · rcases hc with rfl | rfl
            · exact slt_asymm s2
            · exact self _
        · rw [if_neg (by rw [decide_eq_false s2]; simp), ob_some]
          refine ⟨2 * i + 1, rfl, .inr ⟨.inl rfl, c1, s1⟩, fun c hc _ => ?_⟩
          rcases hc with rfl | rfl
          · exact self _
          · exact s2
      · rw [if_neg (d_f (by omega)), ob_some, if_neg (by rw [decide_eq_false (show ¬ ((2 * i + 2 : Nat) : Int) < (row.length : Int) by omega)]; simp), ob_some]
        refine ⟨2 * i + 1, rfl, .inr ⟨.inl rfl, c1, s1⟩, fun c hc hc2 => ?_⟩
        rcases hc with rfl | rfl
        · exact self _
        · omega
    · rw [if_neg (by rw [decide_eq_false s1]; simp), ob_some]
      dsimp only
      by_cases c2 : 2 * i + 2 < row.length
      · rw [if_pos (d_t (by omega)), less_eq h c2 hi, ob_some]
        by_cases s2 : slt (At ar row (2 * i + 2)) (At ar row i)
        · rw [if_pos (by rw [d_t (show ((2 * i + 2 : Nat) : Int) < (row.length : Int) by omega), d_t s2]; rfl), ob_some]
          refine ⟨2 * i + 2, rfl, .inr ⟨.inr rfl, c2, s2⟩, fun c hc _ => ?_⟩
          rcases hc with rfl | rfl
          · exact nslt_trans (slt_asymm s2) s1
          · exact self _
        · rw [if_neg (by rw [decide_eq_false s2]; simp), ob_some]
          refine ⟨i, rfl, .inl rfl, fun c hc _ => ?_⟩
          rcases hc with rfl | rfl
          · exact s1
          · exact s2
      · rw [if_neg (d_f (by omega)), ob_some, if_neg (by rw [decide_eq_false (show ¬ ((2 * i + 2 : Nat) : Int) < (row.length : Int) by omega)]; simp), ob_some]
        refine ⟨i, rfl, .inl rfl, fun c hc hc2 => ?_⟩
        rcases hc with rfl | rfl
        · exact s1
        · omega
  · rw [if_neg (d_f (by omega)), ob_some, if_neg (by rw [decide_eq_false (show ¬ ((2 * i + 1 : Nat) : Int) < (row.length : Int) by omega)]; simp), ob_some]
    dsimp only
    rw [if_neg (d_f (by omega)), ob_some, if_neg (by rw [decide_eq_false (show ¬ ((2 * i + 2 : Nat) : Int) < (row.length : Int) by omega)]; simp), ob_some]
    exact ⟨i, rfl, .inl rfl, fun c hc hc2 => by omega⟩
theorem swap_at (row : List Nat) {i b : Nat} (hi : i < row.length) (hb : b < row.length) (p : Nat) : lget (lset (lset row (i : Int) (lget row (b : Int))) (b : Int) (lget row (i : Int))) (p : Int) = if p = b then lget row (i : Int) else if p = i then lget row (b : Int) else lget row (p : Int) := by
  rw [lget_lset _ _ _ _ (by rw [lset_len]; omega) (by omega), lget_lset _ _ _ _ (by omega) (by omega)]
  by_cases h1 : p = b
  · rw [if_pos h1, if_pos (by omega)]
  · rw [if_neg h1, if_neg (by omega)]
    by_cases h2 : p = i
    · rw [if_pos h2, if_pos (by omega)]
    · rw [if_neg h2, if_neg (by omega)]
theorem swap_perm (row : List Nat) {i b : Nat} (hi : i < row.length) (hb : b < row.length) : (lset (lset row (i : Int) (lget row (b : Int))) (b : Int) (lget row (i : Int))).Perm row := by
  rw [lget_nat row i hi, lget_nat row b hb]
  unfold lset
  rw [Int.toNat_natCast, Int.toNat_natCast]
  exact List.set_set_perm hi hb
theorem HA.swap {ar : List source} {row : List Nat} {a i b : Nat} (h : HA ar row a i) (hai : a ≤ i) (hi : i < row.length) (hb : b < row.length) (hbi : b = 2 * i + 1 ∨ b = 2 * i + 2) (hs : slt (At ar row b) (At ar row i))
    (hm : ∀ c : Nat, (c = 2 * i + 1 ∨ c = 2 * i + 2) → c < row.length → ¬ slt (At ar row c) (At ar row b)) : HA ar (lset (lset row (i : Int) (lget row (b : Int))) (b : Int) (lget row (i : Int))) a b := by
  have hA : ∀ p, At ar (lset (lset row (i : Int) (lget row (b : Int))) (b : Int) (lget row (i : Int))) p = if p = b then At ar row i else if p = i then At ar row b else At ar row p := by
    intro p
    unfold At
    rw [swap_at row hi hb]
    split
    · rfl
    · split <;> rfl
  have hlen : (lset (lset row (i : Int) (lget row (b : Int))) (b : Int) (lget row (i : Int))).length = row.length := by rw [lset_len, lset_len]
  constructor
  · intro p c h1 h2 h3 h4
    rw [hlen] at h4
    rw [hA, hA, if_neg h2]
    by_cases e : p = i
    · rw [if_pos e]
      subst e
      by_cases e2 : c = b
      · rw [if_pos e2]; exact slt_asymm hs
      · rw [if_neg e2, if_neg (by omega)]; exact hm c h3 h4
    · rw [if_neg e]
      by_cases e2 : c = b
      · omega
      · rw [if_neg e2]
        by_cases e3 : c = i
        · rw [if_pos e3]
          exact h.2 p b h1 (by omega) hbi hb
        · rw [if_neg e3]; exact h.1 p c h1 e h3 h4
  · intro p c h1 h2 h3 h4
    rw [hlen] at h4
    have e : p = i := by omega
    rw [hA, hA, if_neg (by omega), if_neg (by omega), if_neg (by omega), if_pos e]
    exact h.1 b c (by omega) (by omega) h3 h4
theorem Okr.perm {ar : List source} {row row' : List Nat} (h : Okr ar row) (hp : row'.Perm row) : Okr ar row' := fun x hx => h x (hp.mem_iff.1 hx)
/-- what is not in its place goes down -/
theorem down_loop (ar : List source) : ∀ (n : Nat) (row : List Nat) (a i : Nat), row.length - i = n → Okr ar row → row.length ≤ 1000000 → i < row.length → a ≤ i → HA ar row a i →
    ∃ row', merge_heap_down_L1 ar (row, (i : Int)) = some row' ∧ row'.Perm row ∧ HF ar row' a := by
  intro n
  induction n using Nat.strongRecOn with
  | _ n ih =>
    intro row a i e h hl hi hai hH
    obtain ⟨b, b1, b2, b3⟩ := best_eq h hl hi
    rcases b2 with rfl | ⟨b2, b4, b5⟩
    · refine ⟨row, loopO_inr ?_, .refl _, fun p c h1 h2 h3 => ?_⟩
      · rw [b1]
        unfold merge_heap_down_J1
        rw [if_pos (d_t rfl)]
      · by_cases q : p = b
        · subst q; exact b3 c h2 h3
        · exact hH.1 p c h1 q h2 h3
    · have hlen : (lset (lset row (i : Int) (lget row (b : Int))) (b : Int) (lget row (i : Int))).length = row.length := by rw [lset_len, lset_len]
      obtain ⟨row', r1, r2, r3⟩ := ih (row.length - b) (by omega) (lset (lset row (i : Int) (lget row (b : Int))) (b : Int) (lget row (i : Int))) a b (by rw [hlen]) (h.perm (swap_perm row hi b4)) (by rw [hlen]; exact hl) (by rw [hlen]; exact b4) (by omega) (hH.swap hai hi b4 b2 b5 b3)
      refine ⟨row', (loopO_inl ?_).trans r1, r2.trans (swap_perm row hi b4), r3⟩
      rw [b1]
      unfold merge_heap_down_J1
      dsimp only
      rw [if_neg (d_f (by omega)), asrt_pos (by omega), asrt_pos (by omega), asrt_pos (by omega), asrt_pos (by omega), asrt_pos (by omega), asrt_pos (by omega), asrt_pos (by rw [lset_len]; omega), asrt_pos (by rw [lset_len]; omega)]
theorem down_eq {ar : List source} {row : List Nat} {a i : Nat} (h : Okr ar row) (hl : row.length ≤ 1000000) (hi : i < row.length) (hai : a ≤ i) (hH : HA ar row a i) : ∃ row', merge_heap_down (i : Int) row ar = some row' ∧ row'.Perm row ∧ HF ar row' a :=
  down_loop ar _ row a i rfl h hl hi hai hH
end G
end Go.Proofs.Ytkbgkkbinnclmaa
