/- A deed in a vault, as it is worked out. -/
import Derived.Test.YteckapomkemglaaPSealE
namespace Go.Proofs.Yteckapomkemglaa
open Go Go.Dm
set_option linter.unusedVariables false
set_option linter.unusedSimpArgs false
namespace G
theorem mem_lget {α : Type} [Inhabited α] {l : List α} {x : α} : x ∈ l ↔ ∃ k : Nat, k < l.length ∧ lget l (k : Int) = x := by
  constructor
  · intro h
    obtain ⟨k, hk⟩ := List.getElem?_of_mem h
    exact ⟨k, (List.getElem?_eq_some_iff.1 hk).1, by simp [lget, List.getD, hk]⟩
  · rintro ⟨k, hk, rfl⟩
    have h2 : lget l (k : Int) ∈ l.drop k := by rw [lget_drop l k hk]; simp
    exact List.mem_of_mem_drop h2
/-- is there one of a kind? -/
theorem first_any (p : Nat → Bool) (n : Nat) : decide (0 ≤ firstFrom (fun k => if p k = true then some (k : Int) else none) (-1) 0 n) = (List.range n).any p := by
  rcases firstFrom_cases (fun k => if p k = true then some (k : Int) else none) (-1) n 0 with ⟨h1, h2⟩ | ⟨j, x, h1, h2, h3, h4, h5⟩
  · rw [h2]
    have : (List.range n).any p = false := by
      rw [List.any_eq_false]
      intro k hk
      have := h1 k (Nat.zero_le _) (by simpa using hk)
      split at this
      · cases this
      · assumption
    rw [this]; rfl
  · rw [h5]
    split at h3
    · rename_i hp
      cases h3
      have : (List.range n).any p = true := List.any_eq_true.2 ⟨j, by simpa using h2, hp⟩
      rw [this]; simp
    · cases h3
theorem contains_eq (l : List Int) (v : Int) (hl : l.length ≤ 1000000) : slices_Contains_int_int l v = some (decide (v ∈ l)) := by
  unfold slices_Contains_int_int slices_Index_int_int slices_Index_int_int_L1
  have := loop_firstF (step := fun y => slices_Index_int_int_B1 l v y) (fun k => if decide (v = lget l (k : Int)) = true then some (k : Int) else none) (-1) l.length (fun k hk => by
    have hw : w64 ((k : Int) + 1) = ((k + 1 : Nat) : Int) := by rw [w64_id (by omega) (by omega)]; omega
    show slices_Index_int_int_B1 l v (k : Int) = _
    unfold slices_Index_int_int_B1
    rw [if_pos (d_t (by omega)), asrt_pos (by omega), hw]
    by_cases c : v = lget l (k : Int)
    · simp [c, nx]
    · simp [c, nx]) (by
    show slices_Index_int_int_B1 l v (l.length : Int) = _
    unfold slices_Index_int_int_B1
    rw [if_neg (d_f (by omega))]; rfl)
  rw [this, ob_some, first_any (fun k => decide (v = lget l (k : Int)))]
  congr 1
  rw [Bool.eq_iff_iff, List.any_eq_true, decide_eq_true_iff, mem_lget]
  constructor
  · rintro ⟨k, h1, h2⟩; exact ⟨k, by simpa using h1, by simpa [eq_comm] using h2⟩
  · rintro ⟨k, h1, h2⟩; exact ⟨k, by simpa using h1, by simpa [eq_comm] using h2⟩
theorem has_eq (l : List Int) (v : Int) (hl : l.length ≤ 1000000) : R_Has l v = some (decide (v ∈ l)) := by
  unfold R_Has R_Has_L1
  have := loop_firstF (step := fun y => R_Has_B1 l v y) (fun k => if decide (v = lget l (k : Int)) = true then some true else none) false l.length (fun k hk => by
    have hw : w64 ((k : Int) + 1) = ((k + 1 : Nat) : Int) := by rw [w64_id (by omega) (by omega)]; omega
    show R_Has_B1 l v (k : Int) = _
    unfold R_Has_B1
    rw [if_pos (d_t (by omega)), asrt_pos (by omega), hw]
    by_cases c : lget l (k : Int) = v
    · simp [c, nx]
    · simp [c, nx, show ¬ v = lget l (k : Int) from fun h => c h.symm]) (by
    show R_Has_B1 l v (l.length : Int) = _
    unfold R_Has_B1
    rw [if_neg (d_f (by omega))]; rfl)
  rw [this]
  congr 1
  rcases firstFrom_cases (fun k => if decide (v = lget l ((k : Nat) : Int)) = true then some true else none) false l.length 0 with ⟨h1, h2⟩ | ⟨j, x, h1, h2, h3, h4, h5⟩
  · rw [h2]
    symm; rw [decide_eq_false_iff_not, mem_lget]
    rintro ⟨k, hk, e⟩
    have := h1 k (Nat.zero_le _) (by omega)
    simp [e] at this
  · rw [h5]
    split at h3
    · rename_i hp
      cases h3
      symm; rw [decide_eq_true_iff, mem_lget]
      exact ⟨j, by omega, by simpa [eq_comm] using hp⟩
    · cases h3
def onceS (l : List Int) (n : Int) : List Int := if n ∈ l then l else l ++ [n]
theorem once_eq (l : List Int) (n : Int) (hl : l.length ≤ 1000000) : seal_once_v1 n l = some (onceS l n) := by
  unfold seal_once_v1 onceS
  rw [contains_eq _ _ hl, ob_some]
  by_cases h : n ∈ l
  · rw [if_pos (d_t h), if_pos h]
  · rw [if_neg (d_f h), if_neg h, asrt_pos (by simp; omega)]
def anyE (l : List Heal) (n : Int) : Bool := l.any fun h => decide (h.Epoch = n)
theorem lget_any (l : List Heal) (p : Heal → Bool) : (List.range l.length).any (fun k => p (lget l (k : Int))) = l.any p := by
  rw [Bool.eq_iff_iff, List.any_eq_true, List.any_eq_true]
  constructor
  · rintro ⟨k, h1, h2⟩
    exact ⟨_, mem_lget.2 ⟨k, by simpa using h1, rfl⟩, h2⟩
  · rintro ⟨x, h1, h2⟩
    obtain ⟨k, hk, rfl⟩ := mem_lget.1 h1
    exact ⟨k, by simpa using hk, h2⟩
theorem containsF_eq (l : List Heal) (d : Deed) (hl : l.length ≤ 1000000) : slices_ContainsFunc_api_Heal_api_Heal l d = some (anyE l d.N) := by
  unfold slices_ContainsFunc_api_Heal_api_Heal slices_IndexFunc_api_Heal_api_Heal slices_IndexFunc_api_Heal_api_Heal_L1
  have := loop_firstF (step := fun y => slices_IndexFunc_api_Heal_api_Heal_B1 l d y) (fun k => if decide ((lget l (k : Int)).Epoch = d.N) = true then some (k : Int) else none) (-1) l.length (fun k hk => by
    have hw : w64 ((k : Int) + 1) = ((k + 1 : Nat) : Int) := by rw [w64_id (by omega) (by omega)]; omega
    show slices_IndexFunc_api_Heal_api_Heal_B1 l d (k : Int) = _
    unfold slices_IndexFunc_api_Heal_api_Heal_B1
    rw [if_pos (d_t (by omega)), asrt_pos (by omega), hw]
    dsimp only [lt, seal_vault_does_1]
    by_cases c : (lget l (k : Int)).Epoch = d.N
    · simp [c, nx]
    · simp [c, nx]) (by
    show slices_IndexFunc_api_Heal_api_Heal_B1 l d (l.length : Int) = _
    unfold slices_IndexFunc_api_Heal_api_Heal_B1
    rw [if_neg (d_f (by omega))]; rfl)
  rw [this, ob_some, first_any (fun k => decide ((lget l (k : Int)).Epoch = d.N)), lget_any l (fun h => decide (h.Epoch = d.N))]; rfl
end G
end Go.Proofs.Yteckapomkemglaa
