/- The stable sort. -/
import Derived.Test.YtollmifjbcccgaaPSortE
namespace Go.Proofs.Ytollmifjbcccgaa
open Go Go.Dm
set_option linter.unusedVariables false
set_option linter.unusedSectionVars false
set_option linter.unusedSimpArgs false
namespace G
theorem srtd_nil : srtd [] = [] := srtd_self .nil
/-- parts of a length, each in order -/
inductive Chs (bs : Nat) : List Cell → List Cell → Prop
  | last (l : List Cell) (h : l.length ≤ bs) : Chs bs l (srtd l)
  | more (A l r : List Cell) (h : A.length = bs) (t : Chs bs l r) : Chs bs (A ++ l) (srtd A ++ r)
theorem Chs.len {bs : Nat} {l r : List Cell} (h : Chs bs l r) : r.length = l.length := by
  induction h with
  | last l h => exact srtd_len l
  | more A l r h t ih => rw [List.length_append, List.length_append, srtd_len, ih]
theorem Chs.short {bs : Nat} {l r : List Cell} (h : Chs bs l r) (h0 : 0 < bs) (hl : l.length ≤ bs) : r = srtd l := by
  cases h with
  | last _ h => rfl
  | more A l r h t =>
    have : l = [] := List.eq_nil_of_length_eq_zero (by rw [List.length_append] at hl; omega)
    subst this
    have := t.len
    have : r = [] := List.eq_nil_of_length_eq_zero (by simpa using this)
    rw [this, List.append_nil, List.append_nil]
theorem Chs.two {bs : Nat} {l r : List Cell} (h : Chs bs l r) (h0 : 0 < bs) (hl : bs < l.length) : ∃ A l' r', l = A ++ l' ∧ r = srtd A ++ r' ∧ A.length = bs ∧ Chs bs l' r' := by
  cases h with
  | last _ h => omega
  | more A l r h t => exact ⟨A, l, r, rfl, rfl, h, t⟩
theorem stab2 (A B : List Cell) : srtd (srtd A ++ srtd B) = srtd (A ++ B) := srtd_congr (Stab.app (srtd_stab A) (srtd_stab B))
theorem first_pass (num : Int) : ∀ (n : Nat) (P l : List Cell), l.length = n → num = ((P.length + l.length : Nat) : Int) → (P ++ l).length ≤ 500000000000 →
    ∃ r, Chs 20 l r ∧ slices_stableCmpFunc_api_Cell_v1_L3 num (P ++ l, (P.length : Int), ((P.length + 20 : Nat) : Int)) = slices_stableCmpFunc_api_Cell_v1_L1 num (P ++ r, 20) := by
  intro n
  induction n using Nat.strongRecOn with
  | _ n ih =>
    intro P l e hn hl
    have hl' := hl
    rw [List.length_append] at hl'
    by_cases c : 20 ≤ l.length
    · have hsp : l = l.take 20 ++ l.drop 20 := (List.take_append_drop ..).symm
      have h1 : (l.take 20).length = 20 := by rw [List.length_take]; omega
      have h2 : (l.drop 20).length = l.length - 20 := List.length_drop
      generalize l.take 20 = A at *
      generalize l.drop 20 = l2 at *
      subst hsp
      have hp : (P ++ srtd A).length = P.length + 20 := by rw [List.length_append, srtd_len, h1]
      obtain ⟨r, r1, r2⟩ := ih l2.length (by rw [List.length_append] at e; omega) (P ++ srtd A) l2 rfl (by rw [hn, hp, List.length_append]; omega) (by rw [List.length_append, hp]; rw [List.length_append] at hl'; omega)
      refine ⟨srtd A ++ r, .more A l2 r h1 r1, ?_⟩
      have hi := insertion_eq P A l2 (by simp only [List.length_append] at hl ⊢; omega)
      rw [h1] at hi
      rw [hp] at r2
      refine (loopO_inl ?_).trans (r2.trans (by simp only [List.append_assoc]))
      unfold slices_stableCmpFunc_api_Cell_v1_B3
      dsimp only
      rw [if_pos (d_t (by omega)), hi, ob_some, w64_id (by omega) (by omega), List.append_assoc]
      rfl
    · refine ⟨srtd l, .last l (by omega), ?_⟩
      have hi := insertion_eq P l [] (by simpa using (by omega : P.length + l.length ≤ 1000000000000))
      simp only [List.append_nil] at hi
      have hB : slices_stableCmpFunc_api_Cell_v1_B3 num (P ++ l, (P.length : Int), ((P.length + 20 : Nat) : Int)) = inrO (slices_stableCmpFunc_api_Cell_v1_L1 num (P ++ srtd l, 20)) := by
        unfold slices_stableCmpFunc_api_Cell_v1_B3
        dsimp only
        rw [if_neg (d_f (by omega))]
        unfold slices_stableCmpFunc_api_Cell_v1_J1
        dsimp only
        rw [hn, hi, ob_some]
      unfold slices_stableCmpFunc_api_Cell_v1_L3
      rw [loopO_eq, hB]
      cases slices_stableCmpFunc_api_Cell_v1_L1 num (P ++ srtd l, 20) <;> rfl
theorem second_pass (num : Int) (bs : Nat) (h0 : 0 < bs) (h1 : bs ≤ 1000000000000) (z : List Cell) : ∀ (n : Nat) (P l r : List Cell), l.length = n → Chs bs l r → num = ((P.length + l.length : Nat) : Int) → (P ++ l).length ≤ 500000000000 →
    ∃ r', Chs (2 * bs) l r' ∧ slices_stableCmpFunc_api_Cell_v1_L2 num (z, (bs : Int)) (P ++ r, (P.length : Int), ((P.length + 2 * bs : Nat) : Int)) = some (.inl (P ++ r', ((2 * bs : Nat) : Int))) := by
  intro n
  have hw2 : w64 (2 * (bs : Int)) = ((2 * bs : Nat) : Int) := by rw [w64_id (by omega) (by omega)]; omega
  have hw3 : w64 ((bs : Int) * 2) = ((2 * bs : Nat) : Int) := by rw [w64_id (by omega) (by omega)]; omega
  induction n using Nat.strongRecOn with
  | _ n ih =>
    intro P l r e hc hn hl
    have hl' := hl
    rw [List.length_append] at hl'
    have hwa : w64 ((P.length : Int) + (bs : Int)) = ((P.length + bs : Nat) : Int) := by rw [w64_id (by omega) (by omega)]; omega
    by_cases c : 2 * bs ≤ l.length
    · obtain ⟨A, l1, r1, rfl, rfl, hA, hc1⟩ := hc.two h0 (by omega)
      rw [List.length_append] at c e hl'
      obtain ⟨B, l2, r2, hl1, hr1, hB, hc2⟩ : ∃ B l2 r2, l1 = B ++ l2 ∧ r1 = srtd B ++ r2 ∧ B.length = bs ∧ Chs bs l2 r2 := by
        by_cases q : bs < l1.length
        · exact hc1.two h0 q
        · refine ⟨l1, [], [], by simp, by rw [hc1.short h0 (by omega)]; simp, by omega, ?_⟩
          have := Chs.last (bs := bs) [] (by simp)
          rwa [srtd_nil] at this
      subst hl1 hr1
      rw [List.length_append] at c e hl'
      have hr2 := hc2.len
      have hs := sym_eq (P := P) (A := srtd A) (B := srtd B) (S := r2) (List.length_pos_iff.1 (by rw [srtd_len]; omega)) (List.length_pos_iff.1 (by rw [srtd_len]; omega)) (srtd_srt A) (srtd_srt B) (by simp only [List.length_append, srtd_len]; omega)
      rw [srtd_len, srtd_len, stab2, hA, hB] at hs
      have e2 : P.length + bs + bs = P.length + 2 * bs := by omega
      rw [e2] at hs
      have hp : (P ++ srtd (A ++ B)).length = P.length + 2 * bs := by rw [List.length_append, srtd_len, List.length_append]; omega
      obtain ⟨r', k1, k2⟩ := ih l2.length (by omega) (P ++ srtd (A ++ B)) l2 r2 rfl hc2 (by rw [hn, hp]; simp only [List.length_append]; omega) (by rw [List.length_append, hp]; omega)
      refine ⟨srtd (A ++ B) ++ r', ?_, ?_⟩
      · have := Chs.more (bs := 2 * bs) (A ++ B) l2 r' (by rw [List.length_append]; omega) k1
        rwa [List.append_assoc] at this
      · rw [hp] at k2
        refine (loopO_inl ?_).trans (k2.trans (by simp only [List.append_assoc]))
        unfold slices_stableCmpFunc_api_Cell_v1_B2
        dsimp only
        rw [if_pos (d_t (by rw [hn]; simp only [List.length_append]; omega)), hwa, hs, ob_some, hw2, w64_id (by omega) (by omega), List.append_assoc]
        have : ((P.length + 2 * bs : Nat) : Int) + ((2 * bs : Nat) : Int) = ((P.length + 2 * bs + 2 * bs : Nat) : Int) := by omega
        rw [this]
    · refine ⟨srtd l, .last l (by omega), loopO_inr ?_⟩
      unfold slices_stableCmpFunc_api_Cell_v1_B2
      dsimp only
      rw [if_neg (d_f (by omega))]
      unfold slices_stableCmpFunc_api_Cell_v1_J3
      dsimp only
      rw [hwa, hw3]
      by_cases q : bs < l.length
      · obtain ⟨A, l1, r1, rfl, rfl, hA, hc1⟩ := hc.two h0 q
        rw [List.length_append] at c q hl'
        have hr1 := hc1.short h0 (by omega)
        subst hr1
        have hs := sym_eq (P := P) (A := srtd A) (B := srtd l1) (S := []) (List.length_pos_iff.1 (by rw [srtd_len]; omega)) (List.length_pos_iff.1 (by rw [srtd_len]; omega)) (srtd_srt A) (srtd_srt l1) (by simp only [List.length_append, srtd_len, List.length_nil]; omega)
        rw [srtd_len, srtd_len, stab2, hA, List.append_nil, List.append_nil] at hs
        have e3 : num = ((P.length + bs + l1.length : Nat) : Int) := by rw [hn, List.length_append]; omega
        rw [if_pos (d_t (by rw [e3]; omega)), e3, hs]; rfl
      · rw [if_neg (d_f (by omega)), hc.short h0 (by omega)]; rfl
theorem all_passes (l : List Cell) (hl : l.length ≤ 500000000000) : ∀ (n bs : Nat) (r : List Cell), l.length - bs = n → 0 < bs → bs ≤ 1000000000000 → Chs bs l r → slices_stableCmpFunc_api_Cell_v1_L1 (l.length : Int) (r, (bs : Int)) = some (srtd l) := by
  intro n
  induction n using Nat.strongRecOn with
  | _ n ih =>
    intro bs r e h0 h1 hc
    by_cases c : bs < l.length
    · obtain ⟨r', k1, k2⟩ := second_pass (l.length : Int) bs h0 h1 r _ [] l r rfl hc (by simp) (by simpa using hl)
      refine (loopO_inl ?_).trans (ih (l.length - 2 * bs) (by omega) (2 * bs) r' rfl (by omega) (by omega) k1)
      unfold slices_stableCmpFunc_api_Cell_v1_B1
      dsimp only
      have hw2 : w64 (2 * (bs : Int)) = ((2 * bs : Nat) : Int) := by rw [w64_id (by omega) (by omega)]; omega
      rw [if_pos (d_t (by omega)), hw2]
      simpa using k2
    · refine loopO_inr ?_
      unfold slices_stableCmpFunc_api_Cell_v1_B1
      dsimp only
      rw [if_neg (d_f (by omega)), hc.short h0 (by omega)]; rfl
theorem stable_eq (l : List Cell) (hl : l.length ≤ 500000000000) : slices_SortStableFunc_api_Cell_api_Cell_v1 l = some (srtd l) := by
  unfold slices_SortStableFunc_api_Cell_api_Cell_v1 slices_stableCmpFunc_api_Cell_v1
  obtain ⟨r, k1, k2⟩ := first_pass (l.length : Int) _ [] l rfl (by simp) (by simpa using hl)
  have := all_passes l hl _ 20 r rfl (by omega) (by omega) k1
  have k2' : slices_stableCmpFunc_api_Cell_v1_L3 (l.length : Int) (l, 0, 20) = slices_stableCmpFunc_api_Cell_v1_L1 (l.length : Int) (r, 20) := k2
  rw [k2']
  have h20 : ((20 : Nat) : Int) = 20 := rfl
  rw [h20] at this
  rw [this]; rfl
/- of those that are alike the first one stays -/
theorem ord_zero (a b : Cell) : ord a b = 0 ↔ key a b := by
  unfold ord
  constructor
  · intro h
    split at h
    · cases h
    · rename_i h1
      split at h
      · cases h
      · rename_i h2
        rcases ah_tri a b with q | q | q
        · exact absurd ((ahead_iff _ _).2 q) h1
        · exact q
        · exact absurd ((ahead_iff _ _).2 q) h2
  · intro h
    rw [if_neg (fun q => ah_key ((ahead_iff _ _).1 q) h), if_neg (fun q => ah_key ((ahead_iff _ _).1 q) (key_symm h))]
theorem same_eq (a b : Cell) : cell_Merge_1 a b = some (decide (key a b)) := by
  unfold cell_Merge_1
  rw [order_eq, ob_some]
  congr 1
  rw [Bool.eq_iff_iff, decide_eq_true_iff, decide_eq_true_iff, ord_zero]
noncomputable def ddpP : Cell → List Cell → List Cell
  | _, [] => []
  | y, x :: l => if key x y then ddpP x l else x :: ddpP x l
noncomputable def ddp : List Cell → List Cell
  | [] => []
  | x :: l => x :: ddpP x l
theorem lclear_take {α : Type} (l : List α) (k n : Nat) (z : α) (h : k ≤ l.length) : (lclear l k n z).take k = l.take k ∧ k ≤ (lclear l k n z).length := by
  unfold lclear
  have e : (l.take k).length = k := by rw [List.length_take]; omega
  constructor
  · rw [List.append_assoc, List.take_append_of_le_length (by omega), List.take_of_length_le (by omega)]
  · rw [List.length_append, List.length_append, e]; omega
theorem compact_in (row : List Cell) (v1 : Int) (k0 : Nat) (hv : v1 = (k0 : Int)) (hl : row.length ≤ 500000000000) : ∀ (l D G : List Cell) (y : Cell) (k2 : Nat), 1 ≤ k2 → D.length + G.length + 1 = k0 + k2 → (D ++ (G ++ y :: l)).length = row.length →
    slices_CompactFunc_api_Cell_api_Cell_v1_L2 row v1 (D ++ (G ++ y :: l), (D.length : Int), (k2 : Int)) = some (.inr (D ++ ddpP y l))
  | [], D, G, y, k2, h1, h2, h3 => by
    have h3' := h3
    simp only [List.length_append, List.length_cons, List.length_nil] at h3'
    refine loopO_inr ?_
    unfold slices_CompactFunc_api_Cell_api_Cell_v1_B2
    dsimp only
    rw [hv, Int.toNat_natCast, if_neg (d_f (by omega))]
    unfold slices_CompactFunc_api_Cell_api_Cell_v1_J2
    dsimp only
    rw [Int.toNat_natCast, asrt_pos (by rw [h3]; omega)]
    dsimp only [lt]
    obtain ⟨c1, c2⟩ := lclear_take (D ++ (G ++ [y])) D.length ((D ++ (G ++ [y])).length - D.length) (⟨([] : List UInt8), ([] : List UInt8), 0, false, ([] : List UInt8)⟩ : Cell) (by rw [h3]; omega)
    rw [asrt_pos (by omega), asrt_pos c2, c1, List.take_left, ddpP, List.append_nil]; rfl
  | z :: l, D, G, y, k2, h1, h2, h3 => by
    have h3' := h3
    simp only [List.length_append, List.length_cons] at h3'
    have e1 : D ++ (G ++ y :: z :: l) = (D ++ G) ++ y :: ([] ++ z :: l) := by simp
    have g1 : lget (D ++ (G ++ y :: z :: l)) ((k0 + k2 : Nat) : Int) = z := by
      rw [e1]; exact sw_j (D ++ G) [] l y z (by simp only [List.length_append, List.length_nil]; omega)
    have g2 : lget (D ++ (G ++ y :: z :: l)) ((k0 + (k2 - 1) : Nat) : Int) = y := by
      rw [e1]
      have := sw_i (D ++ G) [] l y z
      rw [List.length_append] at this
      exact Eq.trans (congrArg _ (by omega)) this
    have w1 : w64 ((k2 : Int) - 1) = ((k2 - 1 : Nat) : Int) := by rw [w64_id (by omega) (by omega)]; omega
    have w2 : w64 ((k2 : Int) + 1) = ((k2 + 1 : Nat) : Int) := by rw [w64_id (by omega) (by omega)]; omega
    have hB : slices_CompactFunc_api_Cell_api_Cell_v1_B2 row v1 (D ++ (G ++ y :: z :: l), (D.length : Int), (k2 : Int)) = some (.inl (if key z y then (D ++ (G ++ y :: z :: l), (D.length : Int), ((k2 + 1 : Nat) : Int)) else (lset (D ++ (G ++ y :: z :: l)) (D.length : Int) z, ((D.length + 1 : Nat) : Int), ((k2 + 1 : Nat) : Int)))) := by
      unfold slices_CompactFunc_api_Cell_api_Cell_v1_B2
      dsimp only
      rw [hv, Int.toNat_natCast, Int.toNat_natCast, w1, Int.toNat_natCast, w2, if_pos (d_t (by omega)), asrt_pos (by omega), asrt_pos (by rw [h3]; omega), asrt_pos (by omega), asrt_pos (by rw [h3]; omega), g1, g2]
      simp only [cell_eta]
      rw [same_eq, ob_some]
      by_cases c : key z y
      · rw [if_neg (n_f c), if_pos c]; rfl
      · rw [if_pos (n_t c), if_neg c, asrt_pos (by omega), asrt_pos (by rw [h3]; omega), asrt_pos (by rw [h3]; omega), asrt_pos (by rw [h3]; omega)]
        dsimp only [lt]
        rw [ob_some, w64_id (by omega) (by omega)]; rfl
    by_cases c : key z y
    · rw [if_pos c] at hB
      have ih := compact_in row v1 k0 hv hl l D (G ++ [y]) z (k2 + 1) (by omega) (by simp only [List.length_append, List.length_cons, List.length_nil]; omega) (by rw [← h3]; simp)
      have e2 : D ++ (G ++ [y] ++ z :: l) = D ++ (G ++ y :: z :: l) := by simp
      rw [e2] at ih
      rw [ddpP, if_pos c]
      exact (loopO_inl hB).trans ih
    · rw [if_neg c] at hB
      obtain ⟨G', hG'⟩ : ∃ G', lset (D ++ (G ++ y :: z :: l)) (D.length : Int) z = (D ++ [z]) ++ (G' ++ z :: l) ∧ G'.length = G.length := by
        cases G with
        | nil => exact ⟨[], by rw [List.nil_append, lset_mid]; simp, rfl⟩
        | cons g G => exact ⟨G ++ [y], by rw [List.cons_append, lset_mid]; simp, by simp⟩
      have ih := compact_in row v1 k0 hv hl l (D ++ [z]) G' z (k2 + 1) (by omega) (by simp only [List.length_append, List.length_cons, List.length_nil]; omega) (by rw [← hG'.1, lset_len]; exact h3)
      rw [hG'.1] at hB
      rw [ddpP, if_neg c]
      have e3 : (((D ++ [z]).length : Nat) : Int) = ((D.length + 1 : Nat) : Int) := by simp
      rw [e3] at ih
      refine (loopO_inl hB).trans (ih.trans ?_)
      simp
theorem compact_out (row : List Cell) (hl : row.length ≤ 500000000000) : ∀ (l D : List Cell) (y : Cell), row = D ++ y :: l → slices_CompactFunc_api_Cell_api_Cell_v1_L1 row ((D.length + 1 : Nat) : Int) = some (D ++ y :: ddpP y l)
  | [], D, y, h => by
    refine loopO_inr ?_
    unfold slices_CompactFunc_api_Cell_api_Cell_v1_B1
    rw [if_neg (d_f (by rw [h]; simp))]
    unfold slices_CompactFunc_api_Cell_api_Cell_v1_J1
    rw [h, ddpP]; rfl
  | x :: l, D, y, h => by
    have hlen : row.length = D.length + 2 + l.length := by rw [h]; simp; omega
    have e1 : row = D ++ y :: ([] ++ x :: l) := h
    have g1 : lget row ((D.length + 1 : Nat) : Int) = x := by rw [e1]; exact sw_j D [] l y x rfl
    have g2 : lget row (D.length : Int) = y := by rw [e1]; exact sw_i D [] l y x
    have w1 : w64 (((D.length + 1 : Nat) : Int) - 1) = (D.length : Int) := by rw [w64_id (by omega) (by omega)]; omega
    have w2 : w64 (((D.length + 1 : Nat) : Int) + 1) = (((D ++ [y]).length + 1 : Nat) : Int) := by rw [w64_id (by omega) (by omega)]; simp
    by_cases c : key x y
    · rw [ddpP, if_pos c]
      refine loopO_inr ?_
      unfold slices_CompactFunc_api_Cell_api_Cell_v1_B1
      rw [w1, if_pos (d_t (by omega)), asrt_pos (by omega), asrt_pos (by omega), asrt_pos (by omega), asrt_pos (by omega), g1, g2]
      simp only [cell_eta]
      rw [same_eq, ob_some, if_pos (d_t c), asrt_pos (by omega)]
      have := compact_in row ((D.length + 1 : Nat) : Int) (D.length + 1) rfl hl l (D ++ [y]) [] x 1 (by omega) (by simp) (by rw [h]; simp)
      have e4 : D ++ [y] ++ ([] ++ x :: l) = row := by rw [h]; simp
      have e5 : (((D ++ [y]).length : Nat) : Int) = ((D.length + 1 : Nat) : Int) := by simp
      rw [e4, e5] at this
      refine Eq.trans (b := slices_CompactFunc_api_Cell_api_Cell_v1_L2 row ((D.length + 1 : Nat) : Int) (row, ((D.length + 1 : Nat) : Int), ((1 : Nat) : Int))) rfl (this.trans ?_)
      simp
    · rw [ddpP, if_neg c]
      have ih := compact_out row hl l (D ++ [y]) x (by rw [h]; simp)
      refine (loopO_inl ?_).trans (ih.trans (by simp))
      unfold slices_CompactFunc_api_Cell_api_Cell_v1_B1
      rw [w1, w2, if_pos (d_t (by omega)), asrt_pos (by omega), asrt_pos (by omega), asrt_pos (by omega), asrt_pos (by omega), g1, g2]
      simp only [cell_eta]
      rw [same_eq, ob_some, if_neg (d_f c)]
theorem compact_eq (l : List Cell) (hl : l.length ≤ 500000000000) : slices_CompactFunc_api_Cell_api_Cell_v1 l = some (ddp l) := by
  unfold slices_CompactFunc_api_Cell_api_Cell_v1
  match l with
  | [] => rw [if_pos (by simp)]; rfl
  | [x] => rw [if_pos (by simp)]; rfl
  | x :: y :: l =>
    rw [if_neg (d_f (by simp only [List.length_cons]; omega))]
    exact compact_out (x :: y :: l) hl (y :: l) [] x rfl
/-- what stays are the first of each kind -/
theorem ddp_firsts : ∀ (l : List Cell) (y : Cell), Srt (y :: l) → Firsts (y :: l) (y :: ddpP y l)
  | [], y, h => by
    refine ⟨List.pairwise_singleton _ _, fun c => ?_⟩
    rw [ddpP, fk_cons, List.mem_singleton]
    by_cases q : key c y
    · rw [if_pos q]
      simp only [List.head?_cons, Option.some.injEq]
      exact eq_comm
    · rw [if_neg q]
      constructor
      · rintro rfl; exact absurd (key_refl c) q
      · intro e; simp [fk] at e
  | x :: l, y, h => by
    obtain ⟨p1, p2⟩ := List.pairwise_cons.1 h
    obtain ⟨i1, i2⟩ := ddp_firsts l x p2
    obtain ⟨j1, j2⟩ := List.pairwise_cons.1 i1
    have hyx := p1 x (List.mem_cons_self ..)
    rw [ddpP]
    by_cases c : key x y
    · rw [if_pos c]
      have hy : ∀ z ∈ ddpP x l, ah y z := fun z hz => ah_left c (j1 z hz)
      refine ⟨List.pairwise_cons.2 ⟨hy, j2⟩, fun w => ?_⟩
      rw [fk_cons]
      by_cases q : key w y
      · rw [if_pos q]
        simp only [List.head?_cons, Option.some.injEq]
        constructor
        · intro hw
          rcases List.mem_cons.1 hw with e | e
          · exact e.symm
          · exact absurd (key_symm q) (ah_key (hy w e))
        · rintro rfl; exact List.mem_cons_self ..
      · rw [if_neg q, ← i2 w]
        constructor
        · intro hw
          rcases List.mem_cons.1 hw with e | e
          · rw [e] at q; exact absurd (key_refl y) q
          · exact List.mem_cons_of_mem _ e
        · intro hw
          rcases List.mem_cons.1 hw with e | e
          · rw [e] at q; exact absurd c q
          · exact List.mem_cons_of_mem _ e
    · rw [if_neg c]
      have hxy : ah y x := by
        rcases le_or hyx with e | e
        · exact e
        · exact absurd (key_symm e) c
      have hy : ∀ z ∈ x :: ddpP x l, ah y z := fun z hz => by
        rcases List.mem_cons.1 hz with e | e
        · rw [e]; exact hxy
        · exact ah_trans hxy (j1 z e)
      refine ⟨List.pairwise_cons.2 ⟨hy, i1⟩, fun w => ?_⟩
      rw [fk_cons]
      by_cases q : key w y
      · rw [if_pos q]
        simp only [List.head?_cons, Option.some.injEq]
        constructor
        · intro hw
          rcases List.mem_cons.1 hw with e | e
          · exact e.symm
          · exact absurd (key_symm q) (ah_key (hy w e))
        · rintro rfl; exact List.mem_cons_self ..
      · rw [if_neg q, ← i2 w]
        constructor
        · intro hw
          rcases List.mem_cons.1 hw with e | e
          · rw [e] at q; exact absurd (key_refl y) q
          · exact e
        · intro hw; exact List.mem_cons_of_mem _ hw
theorem ddp_srtd (l : List Cell) : Firsts l (ddp (srtd l)) := by
  have h : Firsts (srtd l) (ddp (srtd l)) := by
    cases hs : srtd l with
    | nil => exact ⟨.nil, fun c => by simp [ddp, fk]⟩
    | cons y t =>
      have := srtd_srt l
      rw [hs] at this
      exact ddp_firsts t y this
  exact h.stab (srtd_stab l)
end G
end Go.Proofs.Ytollmifjbcccgaa
