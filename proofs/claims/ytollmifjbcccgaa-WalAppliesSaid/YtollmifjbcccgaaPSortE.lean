/- Two parts that are in order are merged in their place: however long they are. -/
import Derived.Test.YtollmifjbcccgaaPSortD
namespace Go.Proofs.Ytollmifjbcccgaa
open Go Go.Dm
set_option linter.unusedVariables false
set_option linter.unusedSectionVars false
set_option linter.unusedSimpArgs false
namespace G
theorem ob_id {α : Type} (x : Option α) : (ob x fun y => some y) = x := by cases x <;> rfl
theorem sym_find (f : RecT) (P A B S : List Cell) (hA : Srt A) (hB : Srt B) (hA0 : A ≠ []) (hB0 : B ≠ []) (hA1 : A.length ≠ 1) (hB1 : B.length ≠ 1) (hl : (P ++ (A ++ (B ++ S))).length ≤ 1000000000000) (h lo hi : Nat) (hh : h = (A.length + B.length) / 2) (hlo : lo = P.length + (if h < A.length then h - B.length else 0)) (hhi : hi = P.length + (if h < A.length then h else A.length)) :
    ∃ s, s ≤ A.length ∧ s ≤ h ∧ h - s ≤ B.length ∧ (∀ y ∈ B.take (h - s), ∀ x ∈ A.drop s, ah y x) ∧ (∀ x ∈ A.take s, ∀ y ∈ B.drop (h - s), le x y) ∧
      slices_symMergeCmpFunc_api_Cell_v1_L5 (P.length : Int) ((P.length + A.length : Nat) : Int) ((P.length + A.length + B.length : Nat) : Int) (P ++ (A ++ (B ++ S))) f ((P.length + h : Nat) : Int) ((lo : Int), (hi : Int)) =
        slices_symMergeCmpFunc_api_Cell_v1_J5 (P.length : Int) ((P.length + A.length : Nat) : Int) ((P.length + A.length + B.length : Nat) : Int) (P ++ (A ++ (B ++ S))) f ((P.length + h : Nat) : Int) ((P.length + s : Nat) : Int) := by
  have hl' := hl
  simp only [List.length_append] at hl'
  have hu := List.length_pos_iff.2 hA0
  have hv := List.length_pos_iff.2 hB0
  have hlen : (P ++ (A ++ (B ++ S))).length = P.length + A.length + B.length + S.length := by simp only [List.length_append]; omega
  have hn : w64 (((P.length + h : Nat) : Int) + ((P.length + A.length : Nat) : Int)) = ((P.length + h + (P.length + A.length) : Nat) : Int) := by rw [w64_id (by omega) (by omega)]; omega
  have hn1 : w64 (((P.length + h + (P.length + A.length) : Nat) : Int) - 1) = ((P.length + h + (P.length + A.length) - 1 : Nat) : Int) := by rw [w64_id (by omega) (by omega)]; omega
  have hlo1 : P.length ≤ lo := by omega
  have hlo2 : h ≤ B.length + (lo - P.length) := by
    rw [hlo]; split <;> omega
  have hhi1 : hi ≤ P.length + A.length ∧ hi ≤ P.length + h := by rw [hhi]; constructor <;> split <;> omega
  have hlh : lo ≤ hi := by rw [hlo, hhi]; split <;> omega
  have hlo3 : lo = P.length ∨ lo + B.length = P.length + h := by rw [hlo]; split <;> omega
  have hhi3 : hi = P.length + A.length ∨ hi = P.length + h := by rw [hhi]; split <;> omega
  have gA : ∀ t, lo ≤ t → t < hi → lget (P ++ (A ++ (B ++ S))) (t : Int) = lget A ((t - P.length : Nat) : Int) := fun t h1 h2 => by
    have := get_A P A (B ++ S) (t - P.length) (by omega)
    rw [← this]; congr 1; omega
  have gB : ∀ t, lo ≤ t → t < hi → lget (P ++ (A ++ (B ++ S))) ((P.length + h + (P.length + A.length) - 1 - t : Nat) : Int) = lget B ((h - 1 - (t - P.length) : Nat) : Int) := fun t h1 h2 => by
    have := get_B P A B S (h - 1 - (t - P.length)) (by omega)
    rw [← this]; congr 1; omega
  have hwp : ∀ t : Nat, lo ≤ t → t < hi → w64 (((P.length + h + (P.length + A.length) - 1 : Nat) : Int) - (t : Int)) = ((P.length + h + (P.length + A.length) - 1 - t : Nat) : Int) := fun t h1 h2 => by rw [w64_id (by omega) (by omega)]; omega
  obtain ⟨n, h1, h2, h3, h4, h5⟩ := bs_any (fun y => slices_symMergeCmpFunc_api_Cell_v1_B5 (P.length : Int) ((P.length + A.length : Nat) : Int) ((P.length + A.length + B.length : Nat) : Int) (P ++ (A ++ (B ++ S))) f ((P.length + h : Nat) : Int) y)
    (slices_symMergeCmpFunc_api_Cell_v1_J5 (P.length : Int) ((P.length + A.length : Nat) : Int) ((P.length + A.length + B.length : Nat) : Int) (P ++ (A ++ (B ++ S))) f ((P.length + h : Nat) : Int))
    (fun t => ¬ R_Ahead (lget (P ++ (A ++ (B ++ S))) ((P.length + h + (P.length + A.length) - 1 - t : Nat) : Int)) (lget (P ++ (A ++ (B ++ S))) (t : Int)) = true) lo hi
    (fun s t g1 g2 g3 g4 q => by
      rw [gA s g1 (by omega), gB s g1 (by omega), ahead_iff] at q
      rw [gA t (by omega) g3, gB t (by omega) g3, ahead_iff] at g4
      exact g4 (ah_of' (srt_at' hB (by omega) (by omega)) (ah_of q (srt_at hA (by omega) (by omega)))))
    (fun i j g1 g2 g3 => by
      have hm : lo ≤ (i + j) / 2 ∧ (i + j) / 2 < hi := by omega
      unfold slices_symMergeCmpFunc_api_Cell_v1_B5
      dsimp only
      rw [if_pos (d_t (by omega)), mid_w i j (by omega)]
      generalize (i + j) / 2 = c at hm
      dsimp only [lt]
      rw [hn, hn1, hwp c hm.1 hm.2, asrt_pos (by rw [hlen]; omega), asrt_pos (by rw [hlen]; omega), asrt_pos (by rw [hlen]; omega), asrt_pos (by rw [hlen]; omega)]
      simp only [cell_eta]
      rw [order_eq, ob_some]
      by_cases q : R_Ahead (lget (P ++ (A ++ (B ++ S))) ((P.length + h + (P.length + A.length) - 1 - c : Nat) : Int)) (lget (P ++ (A ++ (B ++ S))) (c : Int)) = true
      · rw [if_neg (n_f ((ord_neg _ _).2 q)), if_neg (not_not_intro q)]
      · rw [if_pos (n_t (fun z => q ((ord_neg _ _).1 z))), if_pos q, w64_id (by omega) (by omega)]; rfl)
    (fun i g1 g2 => by
      unfold slices_symMergeCmpFunc_api_Cell_v1_B5
      dsimp only
      rw [if_neg (d_f (by omega))])
    _ lo hi rfl (Nat.le_refl _) hlh (Nat.le_refl _) (fun t g1 g2 => by omega) (fun t g1 g2 => by omega)
  obtain ⟨s, rfl⟩ : ∃ s, n = P.length + s := ⟨n - P.length, by omega⟩
  have hs1 : s ≤ A.length ∧ s ≤ h ∧ h - s ≤ B.length := by omega
  have F1 : ∀ y ∈ B.take (h - s), ∀ x ∈ A.drop s, ah y x := by
    intro y hy x hx
    obtain ⟨i, i1, i2, rfl⟩ := mem_take_get hy
    obtain ⟨j, j1, j2, rfl⟩ := mem_drop_get hx
    have hlt : P.length + s < hi := by omega
    have := Decidable.not_not.1 (h4 (P.length + s) (Nat.le_refl _) hlt)
    rw [gA _ h1 hlt, gB _ h1 hlt, ahead_iff] at this
    have e : P.length + s - P.length = s := by omega
    rw [e] at this
    exact ah_of' (srt_at' hB (by omega) (by omega)) (ah_of this (srt_at' hA j1 j2))
  have F2 : ∀ x ∈ A.take s, ∀ y ∈ B.drop (h - s), le x y := by
    intro x hx y hy
    obtain ⟨i, i1, i2, rfl⟩ := mem_take_get hx
    obtain ⟨j, j1, j2, rfl⟩ := mem_drop_get hy
    have hge : lo ≤ P.length + (s - 1) := by omega
    have := h3 (P.length + (s - 1)) hge (by omega)
    rw [gA _ hge (by omega), gB _ hge (by omega), ahead_iff] at this
    have e : P.length + (s - 1) - P.length = s - 1 := by omega
    have e2 : h - 1 - (s - 1) = h - s := by omega
    rw [e, e2] at this
    exact le_trans (srt_at' hA (by omega) (by omega)) (le_trans this (srt_at' hB j1 j2))
  exact ⟨s, hs1.1, hs1.2.1, hs1.2.2, F1, F2, h5⟩
theorem sym_step (f : RecT) (P A B S : List Cell) (hA : Srt A) (hB : Srt B) (hA0 : A ≠ []) (hB0 : B ≠ []) (hA1 : A.length ≠ 1) (hB1 : B.length ≠ 1) (hl : (P ++ (A ++ (B ++ S))).length ≤ 1000000000000) :
    ∃ A1 A2 B1 B2, A = A1 ++ A2 ∧ B = B1 ++ B2 ∧ A1.length + B1.length = (A.length + B.length) / 2 ∧ (∀ y ∈ B1, ∀ x ∈ A2, ah y x) ∧ (∀ x ∈ A1, ∀ y ∈ B2, le x y) ∧
      slices_symMergeCmpFunc_api_Cell_v1_S f (P.length : Int) ((P.length + A.length : Nat) : Int) ((P.length + A.length + B.length : Nat) : Int) (P ++ (A ++ (B ++ S))) =
        ob (if (decide (0 < A1.length) && decide (0 < B1.length)) = true then f ((P.length : Int), ((P.length + A1.length : Nat) : Int), ((P.length + A1.length + B1.length : Nat) : Int), P ++ (A1 ++ (B1 ++ (A2 ++ (B2 ++ S))))) else some (P ++ (A1 ++ (B1 ++ (A2 ++ (B2 ++ S)))))) fun r =>
        if (decide (0 < A2.length) && decide (0 < B2.length)) = true then f (((P.length + A1.length + B1.length : Nat) : Int), ((P.length + A1.length + B1.length + A2.length : Nat) : Int), ((P.length + A1.length + B1.length + A2.length + B2.length : Nat) : Int), r) else some r := by
  have hl' := hl
  simp only [List.length_append] at hl'
  have hu := List.length_pos_iff.2 hA0
  have hv := List.length_pos_iff.2 hB0
  have hlen : (P ++ (A ++ (B ++ S))).length = P.length + A.length + B.length + S.length := by simp only [List.length_append]; omega
  obtain ⟨h, hh⟩ : ∃ h, h = (A.length + B.length) / 2 := ⟨_, rfl⟩
  have hmid : w64 (Int.fdiv (IntKind.u64.wrap (w64 ((P.length : Int) + ((P.length + A.length + B.length : Nat) : Int)))) (2 ^ (min (1 : Int).toNat 64))) = ((P.length + h : Nat) : Int) := by
    rw [mid_w P.length (P.length + A.length + B.length) (by omega)]; omega
  have hn : w64 (((P.length + h : Nat) : Int) + ((P.length + A.length : Nat) : Int)) = ((P.length + h + (P.length + A.length) : Nat) : Int) := by rw [w64_id (by omega) (by omega)]; omega
  have hnb : h < A.length → w64 (((P.length + h + (P.length + A.length) : Nat) : Int) - ((P.length + A.length + B.length : Nat) : Int)) = ((P.length + (h - B.length) : Nat) : Int) := fun q => by rw [w64_id (by omega) (by omega)]; omega
  obtain ⟨lo, hlo⟩ : ∃ lo, lo = P.length + (if h < A.length then h - B.length else 0) := ⟨_, rfl⟩
  obtain ⟨hi, hhi⟩ : ∃ hi, hi = P.length + (if h < A.length then h else A.length) := ⟨_, rfl⟩
  obtain ⟨s, s1, s2, s3, F1, F2, h5⟩ := sym_find f P A B S hA hB hA0 hB0 hA1 hB1 hl h lo hi hh hlo hhi
  have hLA1 : (A.take s).length = s := by rw [List.length_take]; omega
  have hLA2 : (A.drop s).length = A.length - s := List.length_drop
  have hLB1 : (B.take (h - s)).length = h - s := by rw [List.length_take]; omega
  have hLB2 : (B.drop (h - s)).length = B.length - (h - s) := List.length_drop
  have hsA : A = A.take s ++ A.drop s := (List.take_append_drop ..).symm
  have hsB : B = B.take (h - s) ++ B.drop (h - s) := (List.take_append_drop ..).symm
  refine ⟨A.take s, A.drop s, B.take (h - s), B.drop (h - s), hsA, hsB, by omega, F1, F2, ?_⟩
  have hrow : P ++ (A ++ (B ++ S)) = (P ++ A.take s) ++ (A.drop s ++ (B.take (h - s) ++ (B.drop (h - s) ++ S))) := by
    conv => lhs; rw [hsA, hsB]
    simp only [List.append_assoc]
  unfold slices_symMergeCmpFunc_api_Cell_v1_S
  rw [if_neg (d_f (by rw [w64_id (by omega) (by omega)]; omega)), if_neg (d_f (by rw [w64_id (by omega) (by omega)]; omega)), hmid]
  dsimp only [lt]
  rw [hn]
  have hst : (ob (if (decide (((P.length + h : Nat) : Int) < ((P.length + A.length : Nat) : Int))) = true then some (w64 (((P.length + h + (P.length + A.length) : Nat) : Int) - ((P.length + A.length + B.length : Nat) : Int)), ((P.length + h : Nat) : Int)) else some ((P.length : Int), ((P.length + A.length : Nat) : Int))) fun (v13 : Int × Int) =>
      slices_symMergeCmpFunc_api_Cell_v1_L5 (P.length : Int) ((P.length + A.length : Nat) : Int) ((P.length + A.length + B.length : Nat) : Int) (P ++ (A ++ (B ++ S))) f ((P.length + h : Nat) : Int) (v13.1, v13.2)) =
      slices_symMergeCmpFunc_api_Cell_v1_L5 (P.length : Int) ((P.length + A.length : Nat) : Int) ((P.length + A.length + B.length : Nat) : Int) (P ++ (A ++ (B ++ S))) f ((P.length + h : Nat) : Int) ((lo : Int), (hi : Int)) := by
    by_cases c : h < A.length
    · rw [if_pos (d_t (by omega)), hnb c, ob_some, hlo, hhi, if_pos c, if_pos c]
    · rw [if_neg (d_f (by omega)), ob_some, hlo, hhi, if_neg c, if_neg c]; rfl
  refine hst.trans ?_
  refine h5.trans ?_
  unfold slices_symMergeCmpFunc_api_Cell_v1_J5
  have hend : w64 (((P.length + h + (P.length + A.length) : Nat) : Int) - ((P.length + s : Nat) : Int)) = ((P.length + h + (A.length - s) : Nat) : Int) := by rw [w64_id (by omega) (by omega)]; omega
  rw [hn, hend]
  have hrot : (if ((decide (((P.length + s : Nat) : Int) < ((P.length + A.length : Nat) : Int))) && (decide (((P.length + A.length : Nat) : Int) < ((P.length + h + (A.length - s) : Nat) : Int)))) = true then
      ob (slices_rotateCmpFunc_api_Cell_v1 ((P.length + s : Nat) : Int) ((P.length + A.length : Nat) : Int) ((P.length + h + (A.length - s) : Nat) : Int) (P ++ (A ++ (B ++ S)))) fun x2 => some x2 else some (P ++ (A ++ (B ++ S)))) = some (P ++ (A.take s ++ (B.take (h - s) ++ (A.drop s ++ (B.drop (h - s) ++ S))))) := by
    by_cases c : s < A.length ∧ s < h
    · have := rotate_eq (P ++ A.take s) (A.drop s) (B.take (h - s)) (B.drop (h - s) ++ S) (List.length_pos_iff.1 (by omega)) (List.length_pos_iff.1 (by omega)) (by rw [← hrow]; exact hl) (a := ((P.length + s : Nat) : Int)) (m := ((P.length + A.length : Nat) : Int)) (b := ((P.length + h + (A.length - s) : Nat) : Int))
        (by rw [List.length_append, hLA1]) (by rw [List.length_append, hLA1, hLA2]; omega) (by rw [List.length_append, hLA1, hLA2, hLB1]; omega)
      rw [if_pos (an_t ⟨by omega, by omega⟩), ob_id, hrow, this]; simp only [List.append_assoc]
    · rw [if_neg (an_f (by omega)), hrow]
      by_cases c2 : s < A.length
      · have : B.take (h - s) = [] := List.eq_nil_of_length_eq_zero (by omega)
        rw [this]; simp only [List.append_assoc, List.nil_append]
      · have : A.drop s = [] := List.eq_nil_of_length_eq_zero (by omega)
        rw [this]; simp only [List.append_assoc, List.nil_append]
  rw [hrot, ob_some, hLA1, hLA2, hLB1, hLB2]
  simp only [ob_id]
  have c1 : ((decide ((P.length : Int) < ((P.length + s : Nat) : Int))) && (decide (((P.length + s : Nat) : Int) < ((P.length + h : Nat) : Int)))) = (decide (0 < s) && decide (0 < h - s)) := by
    rw [Bool.eq_iff_iff]; simp only [Bool.and_eq_true, decide_eq_true_eq]; omega
  have c2 : ((decide (((P.length + h : Nat) : Int) < ((P.length + h + (A.length - s) : Nat) : Int))) && (decide (((P.length + h + (A.length - s) : Nat) : Int) < ((P.length + A.length + B.length : Nat) : Int)))) = (decide (0 < A.length - s) && decide (0 < B.length - (h - s))) := by
    rw [Bool.eq_iff_iff]; simp only [Bool.and_eq_true, decide_eq_true_eq]; omega
  have k1 : ((P.length + h : Nat) : Int) = ((P.length + s + (h - s) : Nat) : Int) := by omega
  have k2 : ((P.length + h + (A.length - s) : Nat) : Int) = ((P.length + s + (h - s) + (A.length - s) : Nat) : Int) := by omega
  have k3 : ((P.length + A.length + B.length : Nat) : Int) = ((P.length + s + (h - s) + (A.length - s) + (B.length - (h - s)) : Nat) : Int) := by omega
  rw [c1, c2, ← k1, ← k2, ← k3]
/-- the merged one is in order -/
theorem srtd_four {A1 A2 B1 B2 : List Cell} (hA : Srt (A1 ++ A2)) (hB : Srt (B1 ++ B2)) (h1 : ∀ y ∈ B1, ∀ x ∈ A2, ah y x) (h2 : ∀ x ∈ A1, ∀ y ∈ B2, le x y) : srtd (A1 ++ B1) ++ srtd (A2 ++ B2) = srtd ((A1 ++ A2) ++ (B1 ++ B2)) := by
  refine srtd_is (srt_app (srtd_srt _) (srtd_srt _) fun x hx y hy => ?_) ?_
  · have hx := (srtd_stab (A1 ++ B1)).mem hx
    have hy := (srtd_stab (A2 ++ B2)).mem hy
    rcases List.mem_append.1 hx with hx | hx
    · rcases List.mem_append.1 hy with hy | hy
      · exact pw_mid hA hx hy
      · exact h2 x hx y hy
    · rcases List.mem_append.1 hy with hy | hy
      · exact le_of_ah (h1 x hx y hy)
      · exact pw_mid hB hx hy
  · have a : Stab (A2 ++ B1) (B1 ++ A2) := Stab.swap fun x hx y hy q => ah_key (h1 y hy x hx) (key_symm q)
    have b : Stab (A1 ++ ((A2 ++ B1) ++ B2)) (A1 ++ ((B1 ++ A2) ++ B2)) := Stab.app (Stab.refl _) (Stab.app a (Stab.refl _))
    have c : Stab ((A1 ++ B1) ++ (A2 ++ B2)) (srtd (A1 ++ B1) ++ srtd (A2 ++ B2)) := Stab.app (srtd_stab _) (srtd_stab _)
    simp only [List.append_assoc] at b c ⊢
    exact b.trans c
where
  pw_mid {a b : List Cell} {x y : Cell} (h : Srt (a ++ b)) (hx : x ∈ a) (hy : y ∈ b) : le x y := (List.pairwise_append.1 h).2.2 x hx y hy
noncomputable def gM (x : Int × Int × Int × List Cell) : List Cell := x.2.2.2.take x.1.toNat ++ (srtd ((x.2.2.2.take x.2.2.1.toNat).drop x.1.toNat) ++ x.2.2.2.drop x.2.2.1.toNat)
def iM (x : Int × Int × Int × List Cell) : Prop := ∃ P A B S : List Cell, x = ((P.length : Int), ((P.length + A.length : Nat) : Int), ((P.length + A.length + B.length : Nat) : Int), P ++ (A ++ (B ++ S))) ∧ A ≠ [] ∧ B ≠ [] ∧ Srt A ∧ Srt B ∧ (P ++ (A ++ (B ++ S))).length ≤ 1000000000000
theorem gM_eq (P A B S : List Cell) : gM ((P.length : Int), ((P.length + A.length : Nat) : Int), ((P.length + A.length + B.length : Nat) : Int), P ++ (A ++ (B ++ S))) = P ++ (srtd (A ++ B) ++ S) := by
  unfold gM
  dsimp only
  rw [Int.toNat_natCast, Int.toNat_natCast]
  have e1 : (P ++ (A ++ (B ++ S))).take P.length = P := List.take_left
  have e2 : P ++ (A ++ (B ++ S)) = (P ++ (A ++ B)) ++ S := by simp only [List.append_assoc]
  have e3 : P.length + A.length + B.length = (P ++ (A ++ B)).length := by simp only [List.length_append]; omega
  rw [e1, e2, e3, List.take_left, List.drop_left, List.drop_left]
theorem sym_eq {P A B S : List Cell} (hA0 : A ≠ []) (hB0 : B ≠ []) (hA : Srt A) (hB : Srt B) (hl : (P ++ (A ++ (B ++ S))).length ≤ 1000000000000) :
    slices_symMergeCmpFunc_api_Cell_v1 (P.length : Int) ((P.length + A.length : Nat) : Int) ((P.length + A.length + B.length : Nat) : Int) (P ++ (A ++ (B ++ S))) = some (P ++ (srtd (A ++ B) ++ S)) := by
  -- what is common to both ways
  have one : ∀ (f : RecT) (P A B S : List Cell), A ≠ [] → B ≠ [] → Srt A → Srt B → (P ++ (A ++ (B ++ S))).length ≤ 1000000000000 → A.length = 1 ∨ B.length = 1 →
      slices_symMergeCmpFunc_api_Cell_v1_S f (P.length : Int) ((P.length + A.length : Nat) : Int) ((P.length + A.length + B.length : Nat) : Int) (P ++ (A ++ (B ++ S))) = some (P ++ (srtd (A ++ B) ++ S)) := by
    intro f P A B S hA0 hB0 hA hB hl h
    by_cases c : A.length = 1
    · obtain ⟨x, rfl⟩ := List.length_eq_one_iff.1 c
      exact sym_one f P x B S hB hl
    · have c2 : B.length = 1 := by omega
      obtain ⟨x, rfl⟩ := List.length_eq_one_iff.1 c2
      exact sym_last f P A x S hA c hl
  have first : ∀ (P A1 A2 B1 B2 S : List Cell) (hA : Srt (A1 ++ A2)) (hB : Srt (B1 ++ B2)), ¬ (0 < A1.length ∧ 0 < B1.length) → srtd (A1 ++ B1) = A1 ++ B1 := by
    intro P A1 A2 B1 B2 S hA hB h
    have a := (List.pairwise_append.1 hA).1
    have b := (List.pairwise_append.1 hB).1
    by_cases c : A1.length = 0
    · rw [List.eq_nil_of_length_eq_zero c]; exact srtd_self b
    · rw [List.eq_nil_of_length_eq_zero (show B1.length = 0 by omega), List.append_nil]; exact srtd_self a
  have last : ∀ (P A1 A2 B1 B2 S : List Cell) (hA : Srt (A1 ++ A2)) (hB : Srt (B1 ++ B2)), ¬ (0 < A2.length ∧ 0 < B2.length) → srtd (A2 ++ B2) = A2 ++ B2 := by
    intro P A1 A2 B1 B2 S hA hB h
    have a := (List.pairwise_append.1 hA).2.1
    have b := (List.pairwise_append.1 hB).2.1
    by_cases c : A2.length = 0
    · rw [List.eq_nil_of_length_eq_zero c]; exact srtd_self b
    · rw [List.eq_nil_of_length_eq_zero (show B2.length = 0 by omega), List.append_nil]; exact srtd_self a
  have y1 : ∀ (P A1 A2 B1 B2 S : List Cell), Srt (A1 ++ A2) → Srt (B1 ++ B2) → 0 < A1.length → 0 < B1.length → (P ++ ((A1 ++ A2) ++ ((B1 ++ B2) ++ S))).length ≤ 1000000000000 → iM ((P.length : Int), ((P.length + A1.length : Nat) : Int), ((P.length + A1.length + B1.length : Nat) : Int), P ++ (A1 ++ (B1 ++ (A2 ++ (B2 ++ S))))) :=
    fun P A1 A2 B1 B2 S hA hB ha hb hl => ⟨P, A1, B1, A2 ++ (B2 ++ S), rfl, List.length_pos_iff.1 ha, List.length_pos_iff.1 hb, (List.pairwise_append.1 hA).1, (List.pairwise_append.1 hB).1, by simp only [List.length_append] at hl ⊢; omega⟩
  have y2 : ∀ (P A1 A2 B1 B2 S : List Cell), Srt (A1 ++ A2) → Srt (B1 ++ B2) → 0 < A2.length → 0 < B2.length → (P ++ ((A1 ++ A2) ++ ((B1 ++ B2) ++ S))).length ≤ 1000000000000 →
      iM (((P.length + A1.length + B1.length : Nat) : Int), ((P.length + A1.length + B1.length + A2.length : Nat) : Int), ((P.length + A1.length + B1.length + A2.length + B2.length : Nat) : Int), P ++ (srtd (A1 ++ B1) ++ (A2 ++ (B2 ++ S)))) ∧
      gM (((P.length + A1.length + B1.length : Nat) : Int), ((P.length + A1.length + B1.length + A2.length : Nat) : Int), ((P.length + A1.length + B1.length + A2.length + B2.length : Nat) : Int), P ++ (srtd (A1 ++ B1) ++ (A2 ++ (B2 ++ S)))) = P ++ (srtd (A1 ++ B1) ++ (srtd (A2 ++ B2) ++ S)) := by
    intro P A1 A2 B1 B2 S hA hB ha hb hl
    have e : P.length + A1.length + B1.length = (P ++ srtd (A1 ++ B1)).length := by rw [List.length_append, srtd_len, List.length_append]; omega
    have e2 : P ++ (srtd (A1 ++ B1) ++ (A2 ++ (B2 ++ S))) = (P ++ srtd (A1 ++ B1)) ++ (A2 ++ (B2 ++ S)) := by simp only [List.append_assoc]
    rw [e, e2]
    refine ⟨⟨P ++ srtd (A1 ++ B1), A2, B2, S, rfl, List.length_pos_iff.1 ha, List.length_pos_iff.1 hb, (List.pairwise_append.1 hA).2.1, (List.pairwise_append.1 hB).2.1, ?_⟩, ?_⟩
    · simp only [List.length_append, srtd_len] at hl ⊢; omega
    · rw [gM_eq]; simp only [List.append_assoc]
  have := recO_spec (S := fun rec (x : Int × Int × Int × List Cell) => slices_symMergeCmpFunc_api_Cell_v1_S rec x.1 x.2.1 x.2.2.1 x.2.2.2) iM (fun x => (x.2.2.1 - x.1).toNat) gM
    (by
      rintro x f ⟨P, A, B, S, rfl, hA0, hB0, hA, hB, hl⟩ ih r e
      dsimp only at ih e
      rw [gM_eq]
      have hu := List.length_pos_iff.2 hA0
      have hv := List.length_pos_iff.2 hB0
      by_cases c : A.length = 1 ∨ B.length = 1
      · rw [one f P A B S hA0 hB0 hA hB hl c] at e; exact (some_elim e).symm
      · obtain ⟨A1, A2, B1, B2, rfl, rfl, hh, F1, F2, hS⟩ := sym_step f P A B S hA hB hA0 hB0 (by omega) (by omega) hl
        rw [hS] at e
        obtain ⟨r2, e1, e2⟩ := ob_elim e
        rw [← srtd_four hA hB F1 F2]
        simp only [List.length_append] at ih hh c hu hv
        have hr2 : r2 = P ++ (srtd (A1 ++ B1) ++ (A2 ++ (B2 ++ S))) := by
          by_cases c1 : 0 < A1.length ∧ 0 < B1.length
          · rw [if_pos (an_t c1)] at e1
            have := ih _ r2 (y1 P A1 A2 B1 B2 S hA hB c1.1 c1.2 hl) (by dsimp only; omega) e1
            rw [this, gM_eq]
          · rw [if_neg (an_f c1)] at e1
            rw [first P A1 A2 B1 B2 S hA hB c1, ← some_elim e1]; simp only [List.append_assoc]
        rw [hr2] at e2
        by_cases c2 : 0 < A2.length ∧ 0 < B2.length
        · rw [if_pos (an_t c2)] at e2
          obtain ⟨k1, k2⟩ := y2 P A1 A2 B1 B2 S hA hB c2.1 c2.2 hl
          have := ih _ r k1 (by dsimp only; omega) e2
          rw [this, k2]; simp only [List.append_assoc]
        · rw [if_neg (an_f c2)] at e2
          rw [last P A1 A2 B1 B2 S hA hB c2, ← some_elim e2]; simp only [List.append_assoc])
    (by
      rintro x f ⟨P, A, B, S, rfl, hA0, hB0, hA, hB, hl⟩ ih
      dsimp only at ih ⊢
      rw [gM_eq]
      have hu := List.length_pos_iff.2 hA0
      have hv := List.length_pos_iff.2 hB0
      by_cases c : A.length = 1 ∨ B.length = 1
      · exact one f P A B S hA0 hB0 hA hB hl c
      · obtain ⟨A1, A2, B1, B2, rfl, rfl, hh, F1, F2, hS⟩ := sym_step f P A B S hA hB hA0 hB0 (by omega) (by omega) hl
        rw [hS, ← srtd_four hA hB F1 F2]
        simp only [List.length_append] at ih hh c hu hv
        have hr2 : (if (decide (0 < A1.length) && decide (0 < B1.length)) = true then f ((P.length : Int), ((P.length + A1.length : Nat) : Int), ((P.length + A1.length + B1.length : Nat) : Int), P ++ (A1 ++ (B1 ++ (A2 ++ (B2 ++ S))))) else some (P ++ (A1 ++ (B1 ++ (A2 ++ (B2 ++ S)))))) = some (P ++ (srtd (A1 ++ B1) ++ (A2 ++ (B2 ++ S)))) := by
          by_cases c1 : 0 < A1.length ∧ 0 < B1.length
          · rw [if_pos (an_t c1), ih _ (y1 P A1 A2 B1 B2 S hA hB c1.1 c1.2 hl) (by dsimp only; omega), gM_eq]
          · rw [if_neg (an_f c1), first P A1 A2 B1 B2 S hA hB c1]; simp only [List.append_assoc]
        rw [hr2, ob_some]
        by_cases c2 : 0 < A2.length ∧ 0 < B2.length
        · obtain ⟨k1, k2⟩ := y2 P A1 A2 B1 B2 S hA hB c2.1 c2.2 hl
          rw [if_pos (an_t c2), ih _ k1 (by dsimp only; omega), k2]; simp only [List.append_assoc]
        · rw [if_neg (an_f c2), last P A1 A2 B1 B2 S hA hB c2]; simp only [List.append_assoc])
    (x := ((P.length : Int), ((P.length + A.length : Nat) : Int), ((P.length + A.length + B.length : Nat) : Int), P ++ (A ++ (B ++ S)))) ⟨P, A, B, S, rfl, hA0, hB0, hA, hB, hl⟩
  unfold slices_symMergeCmpFunc_api_Cell_v1
  rw [this, gM_eq]
end G
end Go.Proofs.Ytollmifjbcccgaa
