/- What is known: Learn, Find's parts. -/
import Derived.Test.YtdjlninhfndjfaaPKnownA
namespace Go.Proofs.Ytdjlninhfndjfaa
open Go Go.Dm
set_option linter.unusedVariables false
set_option linter.unusedSimpArgs false
namespace G
def hasP (p : Part) (row : List UInt8) : Prop := Op.bytesLess row p.From = false ∧ (p.To = [] ∨ Op.bytesLess row p.To = true)
instance (p : Part) (row : List UInt8) : Decidable (hasP p row) := by unfold hasP; infer_instance
theorem has_eq (p : Part) (row : List UInt8) : locate_has p row = decide (hasP p row) := by
  refine b_iff ?_
  unfold locate_has hasP
  dsimp only [lt]
  simp only [Bool.and_eq_true, Bool.not_eq_true', Bool.or_eq_true, decide_eq_true_eq]
theorem inPart_eq (p : Part) (row : List UInt8) : R_InPart p row = decide (hasP p row) := has_eq p row
theorem hasP_one {a b : Known} (h : ahd a b) {row : List UInt8} (h1 : hasP a.Part row) (h2 : hasP b.Part row) : False := by
  have h3 := h1.2.resolve_left h.1
  rcases bl_tri row b.Part.From with g | g | g
  · rw [h2.1] at g; cases g
  · have h4 := h.2
    rw [← g, h3] at h4; cases h4
  · have := bl_trans g h3
    rw [h.2] at this; cases this
def findF (l : List Known) (row : List UInt8) (k : Nat) : Option Int := if hasP (lget l (k : Int)).Part row then some (k : Int) else none
def findI (l : List Known) (row : List UInt8) : Int := firstFrom (findF l row) (-1) 0 l.length
theorem find_eq (l : List Known) (hl : l.length ≤ 100000) (row : List UInt8) : locate_find l row = some (findI l row) := by
  unfold locate_find slices_IndexFunc_api_Known_api_Known
  have : slices_IndexFunc_api_Known_api_Known_L1 l row 0 = some (findI l row) := by
    refine loop_firstF (step := fun y => slices_IndexFunc_api_Known_api_Known_B1 l row y) (findF l row) (-1) l.length (fun k hk => ?_) ?_
    · have hw : w64 ((k : Int) + 1) = ((k + 1 : Nat) : Int) := by rw [w64_id (by omega) (by omega)]; omega
      show slices_IndexFunc_api_Known_api_Known_B1 l row (k : Int) = _
      unfold slices_IndexFunc_api_Known_api_Known_B1 findF
      rw [if_pos (d_t (by omega)), asrt_pos (by omega), kn_eta]
      dsimp only [lt, locate_find_1]
      rw [has_eq, hw]
      by_cases c : hasP (lget l (k : Int)).Part row
      · rw [if_pos (d_t c), if_pos c]
      · rw [if_neg (d_f c), if_neg c]
    · show slices_IndexFunc_api_Known_api_Known_B1 l row (l.length : Int) = _
      unfold slices_IndexFunc_api_Known_api_Known_B1
      rw [if_neg (d_f (by omega))]; rfl
  rw [this]; rfl
/-- where a row stands in what is known -/
theorem find_cases (l : List Known) (row : List UInt8) : (findI l row = -1 ∧ ∀ k ∈ l, ¬ hasP k.Part row) ∨ ∃ j : Nat, j < l.length ∧ findI l row = (j : Int) ∧ hasP (lget l (j : Int)).Part row ∧ ∀ i : Nat, i < j → ¬ hasP (lget l (i : Int)).Part row := by
  unfold findI
  rcases firstFrom_cases (findF l row) (-1) l.length 0 with ⟨h1, h2⟩ | ⟨j, x, h1, h2, h3, h4, h5⟩
  · refine .inl ⟨h2, all_lget.2 fun k hk h => ?_⟩
    have := h1 k (Nat.zero_le _) (by omega)
    unfold findF at this
    rw [if_pos h] at this; cases this
  · right
    unfold findF at h3
    split at h3
    · rename_i h
      cases h3
      refine ⟨j, by omega, h5, h, fun i hi h' => ?_⟩
      have := h4 i (Nat.zero_le _) hi
      unfold findF at this
      rw [if_pos h'] at this; cases this
    · cases h3
theorem find_last {l : List Known} (hg : KGood l) {row : List UInt8} {j : Nat} (hj : j < l.length) (h : hasP (lget l (j : Int)).Part row) : ∀ i : Nat, i < l.length → i ≠ j → ¬ hasP (lget l (i : Int)).Part row := by
  intro i hi hne h2
  have hp := hg.up
  rw [List.pairwise_iff_getElem] at hp
  rcases Nat.lt_or_gt_of_ne hne with c | c
  · have := hp i j hi hj c
    rw [← lget_nat l i hi, ← lget_nat l j hj] at this
    exact hasP_one this h2 h
  · have := hp j i hj hi c
    rw [← lget_nat l i hi, ← lget_nat l j hj] at this
    exact hasP_one this h h2
/- Learn -/
theorem kclone_eq (l : List Known) (h : l.length ≤ 100000) : slices_Clone_api_Known_api_Known l = some l := by
  have e : asrt (((([] : List Known) ++ l).length : Int) * 56 ≤ 140737488351232) (some (([] : List Known) ++ l)) = some l := by
    rw [asrt_pos (by simp; omega)]; rfl
  unfold slices_Clone_api_Known_api_Known ubO
  rw [e, asrt_pos]
  · split
    · rename_i c; simp at c; rw [c]
    · rfl
  · intro c; simp at c; rw [c]
theorem lset_mid {α : Type} (a : List α) (x y : α) (b : List α) : lset (a ++ x :: b) (a.length : Int) y = a ++ y :: b := by
  unfold lset
  rw [Int.toNat_natCast, List.set_append_right _ _ (Nat.le_refl _), Nat.sub_self, List.set_cons_zero]
theorem del_loop (k : Known) (l : List Known) (hl : l.length ≤ 100000) : ∀ (m j : Nat) (X mid : List Known), j + m = l.length → X = (l.take j).filter (fun x => !locate_learn_1 x k) ++ mid ++ l.drop j → mid.length = j - ((l.take j).filter (fun x => !locate_learn_1 x k)).length → mid ≠ [] →
    slices_DeleteFunc_api_Known_api_Known_v1_L1 k (X, (((l.take j).filter (fun x => !locate_learn_1 x k)).length : Int), (j : Int)) = some (l.filter (fun x => !locate_learn_1 x k)) := by
  intro m
  induction m with
  | zero =>
    intro j X mid hj hX hm hne
    have hjl : j = l.length := by omega
    subst hjl
    rw [List.take_length] at hX hm ⊢
    rw [List.drop_length, List.append_nil] at hX
    have hXl : X.length = l.length := by
      rw [hX, List.length_append, hm]
      have := List.length_filter_le (fun x => !locate_learn_1 x k) l
      omega
    obtain ⟨K, hK⟩ : ∃ K, K = l.filter (fun x => !locate_learn_1 x k) := ⟨_, rfl⟩
    rw [← hK] at hX hm ⊢
    have hKl : K.length ≤ l.length := by rw [hK]; exact List.length_filter_le _ _
    refine loopO_inr ?_
    unfold slices_DeleteFunc_api_Known_api_Known_v1_B1
    dsimp only
    rw [if_neg (d_f (by omega))]
    unfold slices_DeleteFunc_api_Known_api_Known_v1_J1
    dsimp only [lt]
    have hcl : (lclear X (K.length : Int).toNat (X.length - (K.length : Int).toNat) ((⟨(⟨([] : List UInt8), ([] : List UInt8), 0⟩ : Part), 0, 0⟩ : Known) : Known)).length = X.length := by
      unfold lclear; simp; omega
    have htk : (lclear X (K.length : Int).toNat (X.length - (K.length : Int).toNat) ((⟨(⟨([] : List UInt8), ([] : List UInt8), 0⟩ : Part), 0, 0⟩ : Known) : Known)).take (K.length : Int).toNat = K := by
      unfold lclear
      rw [Int.toNat_natCast, List.append_assoc, List.take_left' (by rw [List.length_take]; omega), hX, List.take_left' rfl]
    rw [asrt_pos (by omega), asrt_pos (by rw [hcl]; omega), asrt_pos (by rw [hcl]; omega), htk]
    rfl
  | succ m ih =>
    intro j X mid hj hX hm hne
    have hjl : j < l.length := by omega
    have hw : w64 ((j : Int) + 1) = ((j + 1 : Nat) : Int) := by rw [w64_id (by omega) (by omega)]; omega
    have hfl : ((l.take j).filter (fun x => !locate_learn_1 x k)).length ≤ j := Nat.le_trans (List.length_filter_le _ _) (by simp; omega)
    have htk := lget_take l j hjl
    obtain ⟨K, hK⟩ : ∃ K, K = (l.take j).filter (fun x => !locate_learn_1 x k) := ⟨_, rfl⟩
    rw [← hK] at hX hm hfl ⊢
    have hXl : X.length = l.length := by rw [hX, List.length_append, List.length_append, hm, List.length_drop]; omega
    have hXj : lget X (j : Int) = lget l (j : Int) := by
      rw [hX, lget_app_r _ _ _ (by rw [List.length_append, hm]; omega)]
      have := lget_ldrop l (j : Int) ((j : Int) - ((K ++ mid).length : Int)) (by rw [List.length_append, hm]; omega)
      rw [ldrop_nat] at this
      rw [this]
      congr 1
      rw [List.length_append, hm]; omega
    have hw2 : w64 ((K.length : Int) + 1) = ((K.length + 1 : Nat) : Int) := by rw [w64_id (by omega) (by omega)]; omega
    have hb : ∀ Y i, slices_DeleteFunc_api_Known_api_Known_v1_B1 k (X, (K.length : Int), (j : Int)) = some (.inl (Y, i, ((j + 1 : Nat) : Int))) → slices_DeleteFunc_api_Known_api_Known_v1_L1 k (Y, i, ((j + 1 : Nat) : Int)) = some (l.filter (fun x => !locate_learn_1 x k)) → slices_DeleteFunc_api_Known_api_Known_v1_L1 k (X, (K.length : Int), (j : Int)) = some (l.filter (fun x => !locate_learn_1 x k)) :=
      fun Y i h1 h2 => (loopO_inl h1).trans h2
    have hB : slices_DeleteFunc_api_Known_api_Known_v1_B1 k (X, (K.length : Int), (j : Int)) = some (.inl (if locate_learn_1 (lget l (j : Int)) k = true then (X, (K.length : Int), ((j + 1 : Nat) : Int)) else (lset X (K.length : Int) (lget l (j : Int)), ((K.length + 1 : Nat) : Int), ((j + 1 : Nat) : Int)))) := by
      unfold slices_DeleteFunc_api_Known_api_Known_v1_B1
      dsimp only
      rw [if_pos (d_t (by omega)), asrt_pos (by omega), asrt_pos (by omega), kn_eta, hXj]
      dsimp only [lt]
      rw [hw, hw2, asrt_pos (by omega), asrt_pos (by omega)]
      cases hq : locate_learn_1 (lget l (j : Int)) k with
      | true => rw [if_neg (by decide), ob_some, if_pos rfl]
      | false => rw [if_pos (by decide), ob_some, if_neg (by decide)]
    have hd : l.drop j = lget l (j : Int) :: l.drop (j + 1) := lget_drop l j hjl
    cases hq : locate_learn_1 (lget l (j : Int)) k with
    | true =>
      rw [hq, if_pos rfl] at hB
      have e : (l.take (j + 1)).filter (fun x => !locate_learn_1 x k) = K := by rw [htk, List.filter_append, ← hK]; simp [hq]
      refine hb _ _ hB ?_
      have := ih (j + 1) X (mid ++ [lget l (j : Int)]) (by omega) (by rw [e, hX, hd]; simp) (by rw [e, List.length_append, hm]; simp; omega) (by simp)
      rw [e] at this; exact this
    | false =>
      rw [hq, if_neg (by decide)] at hB
      have e : (l.take (j + 1)).filter (fun x => !locate_learn_1 x k) = K ++ [lget l (j : Int)] := by rw [htk, List.filter_append, ← hK]; simp [hq]
      refine hb _ _ hB ?_
      obtain ⟨m0, mid', rfl⟩ : ∃ m0 mid', mid = m0 :: mid' := by
        cases mid with
        | nil => exact absurd rfl hne
        | cons a b => exact ⟨a, b, rfl⟩
      have hset : lset X (K.length : Int) (lget l (j : Int)) = K ++ lget l (j : Int) :: (mid' ++ l.drop j) := by
        rw [hX, List.append_assoc, List.cons_append]
        exact lset_mid _ _ _ _
      have := ih (j + 1) (lset X (K.length : Int) (lget l (j : Int))) (mid' ++ [lget l (j : Int)]) (by omega) (by rw [e, hset, hd]; simp) (by
        rw [e, List.length_append, List.length_append]
        simp at hm ⊢; omega) (by simp)
      rw [e, List.length_append, List.length_singleton] at this
      exact this
theorem delf_eq (k : Known) (l : List Known) (hl : l.length ≤ 100000) : slices_DeleteFunc_api_Known_api_Known_v1 k l = some (l.filter (fun x => !locate_learn_1 x k)) := by
  unfold slices_DeleteFunc_api_Known_api_Known_v1 slices_IndexFunc_api_Known_api_Known_v2
  have := loop_first (step := fun y => slices_IndexFunc_api_Known_api_Known_v2_B1 k l y) l.length (fun j => (j : Int)) (fun j => locate_learn_1 (lget l (j : Int)) k = true) (fun j => (j : Int)) (r := -1)
    (fun j hj hb => by
      have hw : w64 ((j : Int) + 1) = ((j + 1 : Nat) : Int) := by rw [w64_id (by omega) (by omega)]; omega
      show slices_IndexFunc_api_Known_api_Known_v2_B1 k l (j : Int) = _
      unfold slices_IndexFunc_api_Known_api_Known_v2_B1
      rw [if_pos (d_t (by omega)), asrt_pos (by omega), asrt_pos (by omega), kn_eta]
      dsimp only [lt]
      rw [if_neg hb, hw])
    (fun j hj hb => by
      show slices_IndexFunc_api_Known_api_Known_v2_B1 k l (j : Int) = _
      unfold slices_IndexFunc_api_Known_api_Known_v2_B1
      rw [if_pos (d_t (by omega)), asrt_pos (by omega), asrt_pos (by omega), kn_eta]
      dsimp only [lt]
      rw [if_pos hb])
    (by
      show slices_IndexFunc_api_Known_api_Known_v2_B1 k l (l.length : Int) = _
      unfold slices_IndexFunc_api_Known_api_Known_v2_B1
      rw [if_neg (d_f (by omega))]; rfl)
  rcases this with ⟨j, h1, h2, h3, h4⟩ | ⟨h1, h4⟩
  · have h4' : slices_IndexFunc_api_Known_api_Known_v2_L1 k l 0 = some (j : Int) := h4
    have hw : w64 ((j : Int) + 1) = ((j + 1 : Nat) : Int) := by rw [w64_id (by omega) (by omega)]; omega
    rw [h4', ob_some, if_neg (d_f (by omega)), hw]
    have e0 : (l.take j).filter (fun x => !locate_learn_1 x k) = l.take j := by
      rw [List.filter_eq_self]
      intro x hx
      obtain ⟨i, hi, e⟩ := (mem_take_lget (by omega)).1 hx
      have := h3 i hi
      rw [e] at this
      simpa using this
    have e : (l.take (j + 1)).filter (fun x => !locate_learn_1 x k) = l.take j := by
      rw [lget_take l j h1, List.filter_append, e0]; simp [h2]
    have hj : (l.take j).length = j := by rw [List.length_take]; omega
    have := del_loop k l hl (l.length - (j + 1)) (j + 1) l [lget l (j : Int)] (by omega) (by
      rw [e, ← lget_take l j h1, List.take_append_drop]) (by rw [e, hj]; simp) (by simp)
    rw [e, hj] at this
    exact this
  · have h4' : slices_IndexFunc_api_Known_api_Known_v2_L1 k l 0 = some (-1) := h4
    rw [h4', ob_some, if_pos (d_t rfl)]
    congr 1
    symm
    rw [List.filter_eq_self]
    exact all_lget.2 fun j hj => by have := h1 j hj; simpa using this
end G
end Go.Proofs.Ytdjlninhfndjfaa
