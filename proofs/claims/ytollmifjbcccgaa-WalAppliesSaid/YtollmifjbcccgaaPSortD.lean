/- Two parts that are in order are merged in their place. -/
import Derived.Test.YtollmifjbcccgaaPSortC
namespace Go.Proofs.Ytollmifjbcccgaa
open Go Go.Dm
set_option linter.unusedVariables false
set_option linter.unusedSectionVars false
set_option linter.unusedSimpArgs false
namespace G
theorem srt_at {l : List Cell} (h : Srt l) {i j : Nat} (hij : i < j) (hj : j < l.length) : le (lget l (i : Int)) (lget l (j : Int)) := by
  rw [lget_nat l i (by omega), lget_nat l j hj]
  exact List.pairwise_iff_getElem.1 h i j (by omega) hj hij
theorem srt_at' {l : List Cell} (h : Srt l) {i j : Nat} (hij : i ≤ j) (hj : j < l.length) : le (lget l (i : Int)) (lget l (j : Int)) := by
  by_cases e : i = j
  · rw [e]; exact le_refl _
  · exact srt_at h (by omega) hj
theorem get_A (P A R : List Cell) (i : Nat) (h : i < A.length) : lget (P ++ (A ++ R)) ((P.length + i : Nat) : Int) = lget A (i : Int) := by
  rw [lget_nat _ _ (by simp only [List.length_append]; omega), lget_nat _ _ h, List.getElem_append_right (by omega), List.getElem_append_left (by omega)]
  congr 1; omega
theorem get_B (P A B S : List Cell) (i : Nat) (h : i < B.length) : lget (P ++ (A ++ (B ++ S))) ((P.length + A.length + i : Nat) : Int) = lget B (i : Int) := by
  have := get_A (P ++ A) B S i h
  rw [List.append_assoc, List.length_append] at this
  exact this
theorem mem_get {l : List Cell} {x : Cell} (h : x ∈ l) : ∃ i, i < l.length ∧ x = lget l (i : Int) := by
  obtain ⟨i, hi, rfl⟩ := List.mem_iff_getElem.1 h
  exact ⟨i, hi, (lget_nat l i hi).symm⟩
theorem mem_take_get {l : List Cell} {x : Cell} {n : Nat} (h : x ∈ l.take n) : ∃ i, i < n ∧ i < l.length ∧ x = lget l (i : Int) := by
  obtain ⟨i, hi, rfl⟩ := List.mem_iff_getElem.1 h
  rw [List.length_take] at hi
  exact ⟨i, by omega, by omega, by rw [lget_nat l i (by omega), List.getElem_take]⟩
theorem mem_drop_get {l : List Cell} {x : Cell} {n : Nat} (h : x ∈ l.drop n) : ∃ i, n ≤ i ∧ i < l.length ∧ x = lget l (i : Int) := by
  obtain ⟨i, hi, rfl⟩ := List.mem_iff_getElem.1 h
  rw [List.length_drop] at hi
  exact ⟨n + i, by omega, by omega, by rw [lget_nat l (n + i) (by omega), List.getElem_drop]⟩
/- one cell is moved to the right; to the left -/
theorem mvR (P R : List Cell) (x : Cell) (v : Int) : ∀ (Br Bd : List Cell), v - 1 = ((P.length + Bd.length + Br.length : Nat) : Int) → (P ++ (Bd ++ x :: (Br ++ R))).length ≤ 1000000000000 →
    slices_symMergeCmpFunc_api_Cell_v1_L1 v (P ++ (Bd ++ x :: (Br ++ R)), ((P.length + Bd.length : Nat) : Int)) = some (P ++ ((Bd ++ Br) ++ x :: R))
  | [], Bd, hv, hl => by
    have hl' := hl
    simp only [List.length_append, List.length_cons] at hl'
    have hw : w64 (v - 1) = v - 1 := w64_id (by omega) (by omega)
    refine loopO_inr ?_
    unfold slices_symMergeCmpFunc_api_Cell_v1_B1
    dsimp only
    rw [hw, if_neg (d_f (by rw [hv]; simp))]
    simp only [List.append_nil, List.nil_append]; rfl
  | y :: Br, Bd, hv, hl => by
    have hl' := hl
    simp only [List.length_append, List.length_cons] at hl' hv
    have hw : w64 (v - 1) = v - 1 := w64_id (by omega) (by omega)
    have ih := mvR P R x v Br (Bd ++ [y]) (by rw [hv]; simp only [List.length_append, List.length_cons, List.length_nil]; omega) (by simp only [List.length_append, List.length_cons, List.length_nil]; omega)
    have hd : P ++ (Bd ++ x :: (y :: Br ++ R)) = (P ++ Bd) ++ x :: ([] ++ y :: (Br ++ R)) := by simp
    have hd2 : P ++ ((Bd ++ [y]) ++ x :: (Br ++ R)) = (P ++ Bd) ++ y :: ([] ++ x :: (Br ++ R)) := by simp
    have hk : ((P.length + Bd.length : Nat) : Int) = ((P ++ Bd).length : Int) := by rw [List.length_append]
    have hk2 : w64 (((P ++ Bd).length : Int) + 1) = (((P ++ Bd).length + 1 + ([] : List Cell).length : Nat) : Int) := by
      simp only [List.length_append, List.length_nil]; rw [w64_id (by omega) (by omega)]; omega
    have hlen : ((P ++ Bd) ++ x :: ([] ++ y :: (Br ++ R))).length = (P ++ Bd).length + 2 + (Br ++ R).length := by simp; omega
    have hr1 : 0 ≤ (((P ++ Bd).length + 1 + ([] : List Cell).length : Nat) : Int) ∧ (((P ++ Bd).length + 1 + ([] : List Cell).length : Nat) : Int) < (((P ++ Bd) ++ x :: ([] ++ y :: (Br ++ R))).length : Int) := by rw [hlen]; simp only [List.length_nil]; omega
    have hr2 : 0 ≤ ((P ++ Bd).length : Int) ∧ ((P ++ Bd).length : Int) < (((P ++ Bd) ++ x :: ([] ++ y :: (Br ++ R))).length : Int) := by rw [hlen]; omega
    rw [hd2] at ih
    rw [hd, hk]
    refine (loopO_inl ?_).trans (ih.trans (by simp))
    unfold slices_symMergeCmpFunc_api_Cell_v1_B1
    dsimp only
    rw [hw, if_pos (d_t (by rw [hv, List.length_append]; omega)), hk2, asrt_pos hr1, asrt_pos hr1, asrt_pos hr2, asrt_pos hr2, asrt_pos hr2, asrt_pos hr2, asrt_pos (by rw [lset_len]; exact hr1), asrt_pos (by rw [lset_len]; exact hr1), sw_i, sw_j _ _ _ _ _ rfl]
    simp only [cell_eta, lt]
    rw [sw_ij _ _ _ _ _ rfl]
    have : (((P ++ Bd).length + 1 + ([] : List Cell).length : Nat) : Int) = ((P.length + (Bd ++ [y]).length : Nat) : Int) := by simp only [List.length_append, List.length_cons, List.length_nil]; omega
    rw [this]
theorem mvL (Q : List Cell) (x : Cell) : ∀ (n : Nat) (U R : List Cell), U.length = n → (Q ++ (U ++ x :: R)).length ≤ 1000000000000 →
    slices_symMergeCmpFunc_api_Cell_v1_L3 (Q.length : Int) (Q ++ (U ++ x :: R), ((Q.length + U.length : Nat) : Int)) = some (Q ++ (x :: (U ++ R))) := by
  intro n
  induction n with
  | zero =>
    intro U R e hl
    have : U = [] := List.eq_nil_of_length_eq_zero e
    subst this
    refine loopO_inr ?_
    unfold slices_symMergeCmpFunc_api_Cell_v1_B3
    dsimp only
    rw [if_neg (d_f (by simp))]; rfl
  | succ n ih =>
    intro U R e hl
    rcases List.eq_nil_or_concat U with h0 | ⟨U', y, rfl⟩
    · subst h0; cases e
    · rw [List.concat_eq_append] at *
      have hd : Q ++ ((U' ++ [y]) ++ x :: R) = (Q ++ U') ++ y :: ([] ++ x :: R) := by simp
      have hd2 : (Q ++ U') ++ x :: ([] ++ y :: R) = Q ++ (U' ++ x :: (y :: R)) := by simp
      have hj : ((Q.length + (U' ++ [y]).length : Nat) : Int) = (((Q ++ U').length + 1 + ([] : List Cell).length : Nat) : Int) := by simp; omega
      have hi : w64 ((((Q ++ U').length + 1 + ([] : List Cell).length : Nat) : Int) - 1) = ((Q ++ U').length : Int) := by
        simp only [List.length_append, List.length_cons, List.length_nil] at hl ⊢
        rw [w64_id (by omega) (by omega)]; omega
      have hlen : ((Q ++ U') ++ y :: ([] ++ x :: R)).length = (Q ++ U').length + 2 + R.length := by simp; omega
      have hr1 : 0 ≤ (((Q ++ U').length + 1 + ([] : List Cell).length : Nat) : Int) ∧ (((Q ++ U').length + 1 + ([] : List Cell).length : Nat) : Int) < (((Q ++ U') ++ y :: ([] ++ x :: R)).length : Int) := by rw [hlen]; simp only [List.length_nil]; omega
      have hr2 : 0 ≤ ((Q ++ U').length : Int) ∧ ((Q ++ U').length : Int) < (((Q ++ U') ++ y :: ([] ++ x :: R)).length : Int) := by rw [hlen]; omega
      have ih' := ih U' (y :: R) (by simpa using e) (by simpa using hl)
      rw [hd, hj]
      refine (loopO_inl ?_).trans (ih'.trans (by simp))
      unfold slices_symMergeCmpFunc_api_Cell_v1_B3
      dsimp only
      rw [if_pos (d_t (by simp only [List.length_append, List.length_nil]; omega)), hi, asrt_pos hr2, asrt_pos hr2, asrt_pos hr1, asrt_pos hr1, asrt_pos hr1, asrt_pos hr1, asrt_pos (by rw [lset_len]; exact hr2), asrt_pos (by rw [lset_len]; exact hr2), sw_i, sw_j _ _ _ _ _ rfl]
      simp only [cell_eta, lt]
      rw [sw_ji _ _ _ _ _ rfl, hd2, List.length_append]
abbrev RecT := (Int × Int × Int × List Cell) → Option (List Cell)
/-- one cell ahead of others -/
theorem sym_one (f : RecT) (P : List Cell) (x : Cell) (B S : List Cell) (hB : Srt B) (hl : (P ++ ([x] ++ (B ++ S))).length ≤ 1000000000000) :
    slices_symMergeCmpFunc_api_Cell_v1_S f (P.length : Int) ((P.length + 1 : Nat) : Int) ((P.length + 1 + B.length : Nat) : Int) (P ++ ([x] ++ (B ++ S))) = some (P ++ (srtd ([x] ++ B) ++ S)) := by
  have hl' := hl
  simp only [List.length_append, List.length_cons, List.length_nil] at hl'
  have hlen : (P ++ ([x] ++ (B ++ S))).length = P.length + 1 + B.length + S.length := by simp only [List.length_append, List.length_cons, List.length_nil]; omega
  have hx : lget (P ++ ([x] ++ (B ++ S))) (P.length : Int) = x := lget_mid P x (B ++ S)
  have hb : ∀ t, P.length + 1 ≤ t → t < P.length + 1 + B.length → lget (P ++ ([x] ++ (B ++ S))) (t : Int) = lget B ((t - (P.length + 1) : Nat) : Int) := fun t h1 h2 => by
    have := get_B P [x] B S (t - (P.length + 1)) (by omega)
    rw [← this]; congr 1; simp only [List.length_cons, List.length_nil]; omega
  unfold slices_symMergeCmpFunc_api_Cell_v1_S
  rw [if_pos (d_t (by rw [w64_id (by omega) (by omega)]; omega))]
  unfold slices_symMergeCmpFunc_api_Cell_v1_L2
  obtain ⟨n, h1, h2, h3, h4, h5⟩ := bs_any (fun y => slices_symMergeCmpFunc_api_Cell_v1_B2 (P.length : Int) (P ++ ([x] ++ (B ++ S))) y) (slices_symMergeCmpFunc_api_Cell_v1_J1 (P.length : Int) (P ++ ([x] ++ (B ++ S))))
    (fun t => R_Ahead (lget (P ++ ([x] ++ (B ++ S))) (t : Int)) x = true) (P.length + 1) (P.length + 1 + B.length)
    (fun s t g1 g2 g3 g4 => by
      rw [hb t (by omega) g3, ahead_iff] at g4
      rw [hb s g1 (by omega), ahead_iff]
      exact ah_of' (srt_at hB (by omega) (by omega)) g4)
    (fun i j g1 g2 g3 => by
      have hm : P.length + 1 ≤ (i + j) / 2 ∧ (i + j) / 2 < P.length + 1 + B.length := by omega
      unfold slices_symMergeCmpFunc_api_Cell_v1_B2
      dsimp only
      rw [if_pos (d_t (by omega)), mid_w i j (by omega)]
      generalize (i + j) / 2 = h at hm
      dsimp only [lt]
      rw [asrt_pos (by rw [hlen]; omega), asrt_pos (by rw [hlen]; omega), asrt_pos (by rw [hlen]; omega), asrt_pos (by rw [hlen]; omega), hx]
      simp only [cell_eta]
      rw [order_eq, ob_some]
      by_cases c : R_Ahead (lget (P ++ ([x] ++ (B ++ S))) (h : Int)) x = true
      · rw [if_pos (d_t ((ord_neg _ _).2 c)), if_pos c, w64_id (by omega) (by omega)]; rfl
      · rw [if_neg (d_f (fun q => c ((ord_neg _ _).1 q))), if_neg c])
    (fun i g1 g2 => by
      unfold slices_symMergeCmpFunc_api_Cell_v1_B2
      dsimp only
      rw [if_neg (d_f (by omega))])
    _ (P.length + 1) (P.length + 1 + B.length) rfl (Nat.le_refl _) (by omega) (Nat.le_refl _) (fun t g1 g2 => by omega) (fun t g1 g2 => by omega)
  have e1 : ((P.length + 1 : Nat) : Int) = ((P.length + 1 : Nat) : Int) := rfl
  refine h5.trans ?_
  unfold slices_symMergeCmpFunc_api_Cell_v1_J1
  have hsp : B = B.take (n - (P.length + 1)) ++ B.drop (n - (P.length + 1)) := (List.take_append_drop ..).symm
  have hlt : (B.take (n - (P.length + 1))).length = n - (P.length + 1) := by rw [List.length_take]; omega
  have q1 : ∀ y ∈ B.take (n - (P.length + 1)), ah y x := fun y hy => by
    obtain ⟨i, i1, i2, rfl⟩ := mem_take_get hy
    have := h3 (P.length + 1 + i) (by omega) (by omega)
    rw [hb _ (by omega) (by omega), ahead_iff] at this
    have e : P.length + 1 + i - (P.length + 1) = i := by omega
    rwa [e] at this
  have q2 : ∀ y ∈ B.drop (n - (P.length + 1)), le x y := fun y hy => by
    obtain ⟨i, i1, i2, rfl⟩ := mem_drop_get hy
    have := h4 (P.length + 1 + i) (by omega) (by omega)
    rw [hb _ (by omega) (by omega), ahead_iff] at this
    have e : P.length + 1 + i - (P.length + 1) = i := by omega
    rwa [e] at this
  generalize B.take (n - (P.length + 1)) = B1 at *
  generalize B.drop (n - (P.length + 1)) = B2 at *
  subst hsp
  have hmv := mvR P (B2 ++ S) x (n : Int) B1 [] (by rw [hlt]; simp only [List.length_nil]; omega) (by simpa using hl)
  have hd : P ++ ([x] ++ (B1 ++ B2 ++ S)) = P ++ ([] ++ x :: (B1 ++ (B2 ++ S))) := by simp
  rw [hd]
  refine hmv.trans ?_
  have hsr : B1 ++ x :: B2 = srtd ([x] ++ (B1 ++ B2)) := by
    refine srtd_is (put_srt hB (fun y hy => le_of_ah (q1 y hy)) q2) ?_
    have a2 : Stab ([x] ++ B1) (B1 ++ [x]) := Stab.swap fun y hy z hz q => by
      rw [List.mem_singleton.1 hy] at q
      exact ah_key (q1 z hz) (key_symm q)
    have a3 := Stab.app a2 (Stab.refl B2)
    simpa using a3
  rw [← hsr]; simp
/-- one cell behind others -/
theorem sym_last (f : RecT) (P A : List Cell) (x : Cell) (S : List Cell) (hA : Srt A) (hA1 : A.length ≠ 1) (hl : (P ++ (A ++ ([x] ++ S))).length ≤ 1000000000000) :
    slices_symMergeCmpFunc_api_Cell_v1_S f (P.length : Int) ((P.length + A.length : Nat) : Int) ((P.length + A.length + 1 : Nat) : Int) (P ++ (A ++ ([x] ++ S))) = some (P ++ (srtd (A ++ [x]) ++ S)) := by
  have hl' := hl
  simp only [List.length_append, List.length_cons, List.length_nil] at hl'
  have hlen : (P ++ (A ++ ([x] ++ S))).length = P.length + A.length + 1 + S.length := by simp only [List.length_append, List.length_cons, List.length_nil]; omega
  have hx : lget (P ++ (A ++ ([x] ++ S))) ((P.length + A.length : Nat) : Int) = x := by
    have := get_B P A [x] S 0 (by simp)
    exact this
  have hb : ∀ t, P.length ≤ t → t < P.length + A.length → lget (P ++ (A ++ ([x] ++ S))) (t : Int) = lget A ((t - P.length : Nat) : Int) := fun t h1 h2 => by
    have := get_A P A ([x] ++ S) (t - P.length) (by omega)
    rw [← this]; congr 1; omega
  unfold slices_symMergeCmpFunc_api_Cell_v1_S
  rw [if_neg (d_f (by rw [w64_id (by omega) (by omega)]; omega)), if_pos (d_t (by rw [w64_id (by omega) (by omega)]; omega))]
  unfold slices_symMergeCmpFunc_api_Cell_v1_L4
  obtain ⟨n, h1, h2, h3, h4, h5⟩ := bs_any (fun y => slices_symMergeCmpFunc_api_Cell_v1_B4 ((P.length + A.length : Nat) : Int) (P ++ (A ++ ([x] ++ S))) y) (slices_symMergeCmpFunc_api_Cell_v1_J3 ((P.length + A.length : Nat) : Int) (P ++ (A ++ ([x] ++ S))))
    (fun t => ¬ R_Ahead x (lget (P ++ (A ++ ([x] ++ S))) (t : Int)) = true) P.length (P.length + A.length)
    (fun s t g1 g2 g3 g4 q => by
      rw [hb s g1 (by omega), ahead_iff] at q
      rw [hb t (by omega) g3, ahead_iff] at g4
      exact g4 (ah_of q (srt_at hA (by omega) (by omega))))
    (fun i j g1 g2 g3 => by
      have hm : P.length ≤ (i + j) / 2 ∧ (i + j) / 2 < P.length + A.length := by omega
      unfold slices_symMergeCmpFunc_api_Cell_v1_B4
      dsimp only
      rw [if_pos (d_t (by omega)), mid_w i j (by omega)]
      generalize (i + j) / 2 = h at hm
      dsimp only [lt]
      rw [asrt_pos (by rw [hlen]; omega), asrt_pos (by rw [hlen]; omega), asrt_pos (by rw [hlen]; omega), asrt_pos (by rw [hlen]; omega), hx]
      simp only [cell_eta]
      rw [order_eq, ob_some]
      by_cases c : R_Ahead x (lget (P ++ (A ++ ([x] ++ S))) (h : Int)) = true
      · rw [if_neg (n_f ((ord_neg _ _).2 c)), if_neg (not_not_intro c)]
      · rw [if_pos (n_t (fun q => c ((ord_neg _ _).1 q))), if_pos c, w64_id (by omega) (by omega)]; rfl)
    (fun i g1 g2 => by
      unfold slices_symMergeCmpFunc_api_Cell_v1_B4
      dsimp only
      rw [if_neg (d_f (by omega))])
    _ P.length (P.length + A.length) rfl (Nat.le_refl _) (by omega) (Nat.le_refl _) (fun t g1 g2 => by omega) (fun t g1 g2 => by omega)
  refine h5.trans ?_
  unfold slices_symMergeCmpFunc_api_Cell_v1_J3
  have hsp : A = A.take (n - P.length) ++ A.drop (n - P.length) := (List.take_append_drop ..).symm
  have hlt : (A.take (n - P.length)).length = n - P.length := by rw [List.length_take]; omega
  have q1 : ∀ y ∈ A.take (n - P.length), le y x := fun y hy => by
    obtain ⟨i, i1, i2, rfl⟩ := mem_take_get hy
    have := h3 (P.length + i) (by omega) (by omega)
    rw [hb _ (by omega) (by omega), ahead_iff] at this
    have e : P.length + i - P.length = i := by omega
    rwa [e] at this
  have q2 : ∀ y ∈ A.drop (n - P.length), ah x y := fun y hy => by
    obtain ⟨i, i1, i2, rfl⟩ := mem_drop_get hy
    have := Decidable.not_not.1 (h4 (P.length + i) (by omega) (by omega))
    rw [hb _ (by omega) (by omega), ahead_iff] at this
    have e : P.length + i - P.length = i := by omega
    rwa [e] at this
  generalize A.take (n - P.length) = A1 at *
  generalize A.drop (n - P.length) = A2 at *
  subst hsp
  have hmv := mvL (P ++ A1) x _ A2 S rfl (by simpa using hl)
  have hd : P ++ (A1 ++ A2 ++ ([x] ++ S)) = P ++ A1 ++ (A2 ++ x :: S) := by simp
  have en : (n : Int) = ((P ++ A1).length : Int) := by rw [List.length_append]; omega
  have em : ((P.length + (A1 ++ A2).length : Nat) : Int) = (((P ++ A1).length + A2.length : Nat) : Int) := by simp only [List.length_append]; omega
  rw [hd, en, em]
  refine hmv.trans ?_
  have hsr : A1 ++ x :: A2 = srtd ((A1 ++ A2) ++ [x]) := by
    refine srtd_is (put_srt hA q1 fun y hy => le_of_ah (q2 y hy)) ?_
    have a2 : Stab (A2 ++ [x]) ([x] ++ A2) := Stab.swap fun y hy z hz q => by
      rw [List.mem_singleton.1 hz] at q
      exact ah_key (q2 y hy) (key_symm q)
    have a3 := Stab.app (Stab.refl A1) a2
    simpa using a3
  rw [← hsr]; simp
end G
end Go.Proofs.Ytollmifjbcccgaa
