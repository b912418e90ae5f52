/- Insertion sort, ranges changed with one another, rotation. -/
import Derived.Test.YtollmifjbcccgaaPSortB
namespace Go.Proofs.Ytollmifjbcccgaa
open Go Go.Dm
set_option linter.unusedVariables false
set_option linter.unusedSectionVars false
set_option linter.unusedSimpArgs false
namespace G
theorem ins_in (P : List Cell) (v1 : List Cell × Int) : ∀ (n : Nat) (U W : List Cell) (x : Cell), U.length = n → Srt U → (P ++ (U ++ x :: W)).length ≤ 1000000000000 →
    ∃ U1 U2, U = U1 ++ U2 ∧ (∀ y ∈ U1, le y x) ∧ (∀ y ∈ U2, ah x y) ∧
      slices_insertionSortCmpFunc_api_Cell_v1_L2 (P.length : Int) v1 (P ++ (U ++ x :: W), ((P.length + U.length : Nat) : Int)) = some (.inl (P ++ (U1 ++ x :: (U2 ++ W)), w64 (v1.2 + 1))) := by
  intro n
  induction n with
  | zero =>
    intro U W x e hs hl
    have : U = [] := List.eq_nil_of_length_eq_zero e
    subst this
    refine ⟨[], [], rfl, by simp, by simp, loopO_inr ?_⟩
    have hc : decide ((P.length : Int) < ((P.length + ([] : List Cell).length : Nat) : Int)) = false := decide_eq_false (by simp)
    unfold slices_insertionSortCmpFunc_api_Cell_v1_B2
    dsimp only
    rw [hc, asrt_pos (fun q => by cases q), asrt_pos (fun q => by cases q), asrt_pos (fun q => by cases q), asrt_pos (fun q => by cases q), if_neg (by decide), ob_some, if_neg (by simp)]
    rfl
  | succ n ih =>
    intro U W x e hs hl
    rcases List.eq_nil_or_concat U with h0 | ⟨U', y, rfl⟩
    · subst h0; cases e
    · rw [List.concat_eq_append] at *
      have hU' : U'.length = n := by simpa using e
      have hd : P ++ ((U' ++ [y]) ++ x :: W) = (P ++ U') ++ y :: ([] ++ x :: W) := by simp
      have hj : ((P.length + (U' ++ [y]).length : Nat) : Int) = (((P ++ U').length + 1 + ([] : List Cell).length : Nat) : Int) := by simp; omega
      have hi : w64 ((((P ++ U').length + 1 + ([] : List Cell).length : Nat) : Int) - 1) = ((P ++ U').length : Int) := by
        simp only [List.length_append, List.length_cons, List.length_nil] at hl ⊢
        rw [w64_id (by omega) (by omega)]; omega
      have hlen : ((P ++ U') ++ y :: ([] ++ x :: W)).length = (P ++ U').length + 2 + W.length := by simp; omega
      rw [hd, hj]
      have hB : slices_insertionSortCmpFunc_api_Cell_v1_B2 (P.length : Int) v1 ((P ++ U') ++ y :: ([] ++ x :: W), (((P ++ U').length + 1 + ([] : List Cell).length : Nat) : Int)) =
          if R_Ahead x y = true then some (.inl ((P ++ U') ++ x :: ([] ++ y :: W), ((P ++ U').length : Int))) else some (.inr (.inl ((P ++ U') ++ y :: ([] ++ x :: W), w64 (v1.2 + 1)))) := by
        have hc : decide ((P.length : Int) < (((P ++ U').length + 1 + ([] : List Cell).length : Nat) : Int)) = true := decide_eq_true (by simp only [List.length_append, List.length_nil]; omega)
        have hr1 : 0 ≤ (((P ++ U').length + 1 + ([] : List Cell).length : Nat) : Int) ∧ (((P ++ U').length + 1 + ([] : List Cell).length : Nat) : Int) < (((P ++ U') ++ y :: ([] ++ x :: W)).length : Int) := by rw [hlen]; simp only [List.length_nil]; omega
        have hr2 : 0 ≤ ((P ++ U').length : Int) ∧ ((P ++ U').length : Int) < (((P ++ U') ++ y :: ([] ++ x :: W)).length : Int) := by rw [hlen]; omega
        unfold slices_insertionSortCmpFunc_api_Cell_v1_B2
        dsimp only
        rw [hc, hi, asrt_pos (fun _ => hr1), asrt_pos (fun _ => hr1), asrt_pos (fun _ => hr2), asrt_pos (fun _ => hr2), if_pos rfl, sw_i, sw_j _ _ _ _ _ rfl]
        simp only [cell_eta]
        rw [order_eq, ob_some]
        by_cases c : R_Ahead x y = true
        · rw [if_pos c, if_pos (by simp [(ord_neg x y).2 c]), asrt_pos hr2, asrt_pos hr2, asrt_pos hr1, asrt_pos hr1, asrt_pos hr1, asrt_pos hr1, asrt_pos (by rw [lset_len]; exact hr2), asrt_pos (by rw [lset_len]; exact hr2), sw_ji _ _ _ _ _ rfl]
          rfl
        · have : decide (ord x y < 0) = false := decide_eq_false fun q => c ((ord_neg x y).1 q)
          rw [if_neg c, this, if_neg (by decide)]; rfl
      by_cases c : R_Ahead x y = true
      · rw [if_pos c] at hB
        have hs' : Srt U' := (List.pairwise_append.1 hs).1
        obtain ⟨U1, U2, e1, h1, h2, h3⟩ := ih U' (y :: W) x hU' hs' (by simpa using hl)
        refine ⟨U1, U2 ++ [y], by rw [e1]; simp, h1, fun z hz => ?_, (loopO_inl hB).trans ?_⟩
        · rcases List.mem_append.1 hz with q | q
          · exact h2 z q
          · rw [List.mem_singleton.1 q]; exact (ahead_iff _ _).1 c
        · have e2 : P ++ U' ++ x :: ([] ++ y :: W) = P ++ (U' ++ x :: (y :: W)) := by simp
          have e3 : P ++ (U1 ++ x :: (U2 ++ [y] ++ W)) = P ++ (U1 ++ x :: (U2 ++ y :: W)) := by simp
          rw [e2, e3, List.length_append]; exact h3
      · rw [if_neg c] at hB
        have c' : le y x := fun q => c ((ahead_iff _ _).2 q)
        refine ⟨U' ++ [y], [], by simp, fun z hz => ?_, by simp, ?_⟩
        · rcases List.mem_append.1 hz with q | q
          · exact le_trans ((List.pairwise_append.1 hs).2.2 z q y (List.mem_singleton.2 rfl)) c'
          · rw [List.mem_singleton.1 q]; exact c'
        · have e3 : P ++ (U' ++ [y] ++ x :: ([] ++ W)) = P ++ U' ++ y :: ([] ++ x :: W) := by simp
          rw [e3]; exact loopO_inr hB
theorem ins_out (P S : List Cell) : ∀ (M2 M1 : List Cell), (P ++ (M1 ++ (M2 ++ S))).length ≤ 1000000000000 →
    slices_insertionSortCmpFunc_api_Cell_v1_L1 (P.length : Int) ((P.length + (M1.length + M2.length) : Nat) : Int) (P ++ (srtd M1 ++ (M2 ++ S)), ((P.length + M1.length : Nat) : Int)) = some (P ++ (srtd (M1 ++ M2) ++ S))
  | [], M1, hl => by
    refine loopO_inr ?_
    unfold slices_insertionSortCmpFunc_api_Cell_v1_B1
    dsimp only
    rw [if_neg (d_f (by simp)), List.append_nil]; rfl
  | x :: M2, M1, hl => by
    have hsl := srtd_len M1
    obtain ⟨U1, U2, e1, h1, h2, h3⟩ := ins_in P (P ++ (srtd M1 ++ (x :: M2 ++ S)), ((P.length + M1.length : Nat) : Int)) _ (srtd M1) (M2 ++ S) x rfl (srtd_srt M1) (by simp only [List.length_append, List.length_cons] at hl ⊢; omega)
    have hw : w64 (((P.length + M1.length : Nat) : Int) + 1) = ((P.length + (M1 ++ [x]).length : Nat) : Int) := by
      simp only [List.length_append, List.length_cons, List.length_nil] at hl ⊢
      rw [w64_id (by omega) (by omega)]; omega
    have hsx : U1 ++ x :: U2 = srtd (M1 ++ [x]) := by
      refine srtd_is (put_srt (e1 ▸ srtd_srt M1) h1 fun y hy => le_of_ah (h2 y hy)) ?_
      have a1 : Stab (M1 ++ [x]) (srtd M1 ++ [x]) := Stab.app (srtd_stab M1) (Stab.refl _)
      have a2 : Stab (U2 ++ [x]) ([x] ++ U2) := Stab.swap fun y hy z hz q => by
        rw [List.mem_singleton.1 hz] at q
        exact ah_key (h2 y hy) (key_symm q)
      have a3 : Stab (U1 ++ (U2 ++ [x])) (U1 ++ ([x] ++ U2)) := Stab.app (Stab.refl U1) a2
      rw [e1, List.append_assoc] at a1
      exact a1.trans a3
    have ih := ins_out P S M2 (M1 ++ [x]) (by simpa using hl)
    refine (loopO_inl ?_).trans ((congrArg (fun z => slices_insertionSortCmpFunc_api_Cell_v1_L1 (P.length : Int) z (P ++ (srtd (M1 ++ [x]) ++ (M2 ++ S)), ((P.length + (M1 ++ [x]).length : Nat) : Int))) (show ((P.length + (M1.length + (x :: M2).length) : Nat) : Int) = ((P.length + ((M1 ++ [x]).length + M2.length) : Nat) : Int) by simp only [List.length_append, List.length_cons, List.length_nil]; omega)).trans (ih.trans ?_))
    · unfold slices_insertionSortCmpFunc_api_Cell_v1_B1
      dsimp only
      rw [if_pos (d_t (by simp only [List.length_cons]; omega))]
      rw [hsl] at h3
      refine h3.trans ?_
      rw [hw, ← hsx]; simp
    · rw [List.append_assoc]; rfl
/-- a part is put in order -/
theorem insertion_eq (P M S : List Cell) (hl : (P ++ (M ++ S)).length ≤ 1000000000000) : slices_insertionSortCmpFunc_api_Cell_v1 (P.length : Int) ((P.length + M.length : Nat) : Int) (P ++ (M ++ S)) = some (P ++ (srtd M ++ S)) := by
  have hw : w64 ((P.length : Int) + 1) = ((P.length + 1 : Nat) : Int) := by simp only [List.length_append] at hl; rw [w64_id (by omega) (by omega)]; omega
  unfold slices_insertionSortCmpFunc_api_Cell_v1
  rw [hw]
  cases M with
  | nil =>
    have e : srtd [] = [] := srtd_self .nil
    rw [e]
    refine loopO_inr ?_
    unfold slices_insertionSortCmpFunc_api_Cell_v1_B1
    dsimp only
    rw [if_neg (d_f (by simp; omega))]; rfl
  | cons x M =>
    have e : srtd [x] = [x] := srtd_self (List.pairwise_singleton _ _)
    have := ins_out P S M [x] (by simpa using hl)
    rw [e] at this
    have e2 : ((P.length + (x :: M).length : Nat) : Int) = ((P.length + ([x].length + M.length) : Nat) : Int) := by simp only [List.length_cons, List.length_nil]; omega
    rw [e2]; exact this
theorem swr_loop (P Q S : List Cell) (a b num : Int) : ∀ (Xr Yr Xd Yd : List Cell) (t : Nat), Xr.length = Yr.length → Xd.length = t → Yd.length = t → num = ((t + Xr.length : Nat) : Int) → a = (P.length : Int) → b = ((P.length + (t + Xr.length) + Q.length : Nat) : Int) →
    (P ++ (Yd ++ (Xr ++ (Q ++ (Xd ++ (Yr ++ S)))))).length ≤ 1000000000000 →
    slices_swapRangeCmpFunc_api_Cell_v1_L1 a b num (P ++ (Yd ++ (Xr ++ (Q ++ (Xd ++ (Yr ++ S))))), (t : Int)) = some (P ++ ((Yd ++ Yr) ++ (Q ++ ((Xd ++ Xr) ++ S))))
  | [], [], Xd, Yd, t, e1, e2, e3, e4, e5, e6, hl => by
    refine loopO_inr ?_
    unfold slices_swapRangeCmpFunc_api_Cell_v1_B1
    dsimp only
    rw [if_neg (d_f (by rw [e4]; simp))]
    simp only [List.append_nil, List.nil_append]; rfl
  | x :: Xr, y :: Yr, Xd, Yd, t, e1, e2, e3, e4, e5, e6, hl => by
    have ih := swr_loop P Q S a b num Xr Yr (Xd ++ [x]) (Yd ++ [y]) (t + 1) (by simpa using e1) (by simp [e2]) (by simp [e3]) (by rw [e4]; simp only [List.length_cons]; omega) e5 (by rw [e6]; simp only [List.length_cons]; omega) (by simp only [List.length_append, List.length_cons, List.length_nil] at hl ⊢; omega)
    have hd : P ++ (Yd ++ (x :: Xr ++ (Q ++ (Xd ++ (y :: Yr ++ S))))) = (P ++ Yd) ++ x :: ((Xr ++ (Q ++ Xd)) ++ y :: (Yr ++ S)) := by simp
    have hd2 : P ++ ((Yd ++ [y]) ++ (Xr ++ (Q ++ ((Xd ++ [x]) ++ (Yr ++ S))))) = (P ++ Yd) ++ y :: ((Xr ++ (Q ++ Xd)) ++ x :: (Yr ++ S)) := by simp
    have hlen : ((P ++ Yd) ++ x :: ((Xr ++ (Q ++ Xd)) ++ y :: (Yr ++ S))).length = (P ++ Yd).length + 1 + (Xr ++ (Q ++ Xd)).length + 1 + (Yr ++ S).length := by simp; omega
    rw [hd] at hl ⊢
    rw [hd2] at ih
    rw [hlen] at hl
    have hA : w64 (a + (t : Int)) = ((P ++ Yd).length : Int) := by
      simp only [List.length_append, List.length_cons] at hl ⊢
      rw [e5, w64_id (by omega) (by omega)]; omega
    have hJ : w64 (b + (t : Int)) = (((P ++ Yd).length + 1 + (Xr ++ (Q ++ Xd)).length : Nat) : Int) := by
      simp only [List.length_append, List.length_cons] at hl e6 ⊢
      rw [e6, w64_id (by omega) (by omega)]; omega
    have hr1 : 0 ≤ (((P ++ Yd).length + 1 + (Xr ++ (Q ++ Xd)).length : Nat) : Int) ∧ (((P ++ Yd).length + 1 + (Xr ++ (Q ++ Xd)).length : Nat) : Int) < (((P ++ Yd) ++ x :: ((Xr ++ (Q ++ Xd)) ++ y :: (Yr ++ S))).length : Int) := by rw [hlen]; omega
    have hr2 : 0 ≤ ((P ++ Yd).length : Int) ∧ ((P ++ Yd).length : Int) < (((P ++ Yd) ++ x :: ((Xr ++ (Q ++ Xd)) ++ y :: (Yr ++ S))).length : Int) := by rw [hlen]; omega
    refine (loopO_inl ?_).trans (ih.trans ?_)
    · unfold slices_swapRangeCmpFunc_api_Cell_v1_B1
      dsimp only
      rw [if_pos (d_t (by rw [e4]; simp only [List.length_cons]; omega)), hA, hJ, asrt_pos hr1, asrt_pos hr1, asrt_pos hr2, asrt_pos hr2, asrt_pos hr2, asrt_pos hr2, asrt_pos (by rw [lset_len]; exact hr1), asrt_pos (by rw [lset_len]; exact hr1), sw_i, sw_j _ _ _ _ _ rfl]
      simp only [cell_eta, lt]
      rw [sw_ij _ _ _ _ _ rfl, w64_id (by simp only [List.length_append] at hl; omega) (by simp only [List.length_append] at hl; omega)]
      rfl
    · simp
/-- two parts of the same length change places -/
theorem swapRange_eq (P X Q Y S : List Cell) (h : X.length = Y.length) (hl : (P ++ (X ++ (Q ++ (Y ++ S)))).length ≤ 1000000000000) {a b num : Int} (ha : a = (P.length : Int)) (hb : b = ((P.length + X.length + Q.length : Nat) : Int)) (hn : num = (X.length : Int)) :
    slices_swapRangeCmpFunc_api_Cell_v1 a b num (P ++ (X ++ (Q ++ (Y ++ S)))) = some (P ++ (Y ++ (Q ++ (X ++ S)))) := by
  unfold slices_swapRangeCmpFunc_api_Cell_v1
  have := swr_loop P Q S a b num X Y [] [] 0 h rfl rfl (by rw [hn]; simp) ha (by rw [hb]; simp) (by simpa using hl)
  simpa using this
theorem rot_loop (m : Int) : ∀ (n : Nat) (P U V S : List Cell), U.length + V.length = n → U ≠ [] → V ≠ [] → m = ((P.length + U.length : Nat) : Int) → (P ++ (U ++ (V ++ S))).length ≤ 1000000000000 →
    slices_rotateCmpFunc_api_Cell_v1_L1 m (P ++ (U ++ (V ++ S)), (U.length : Int), (V.length : Int)) = some (P ++ (V ++ (U ++ S))) := by
  intro n
  induction n using Nat.strongRecOn with
  | _ n ih =>
    intro P U V S e hU hV hm hl
    have hu := List.length_pos_iff.2 hU
    have hv := List.length_pos_iff.2 hV
    have hl' := hl
    simp only [List.length_append] at hl'
    have hmi : w64 (m - (U.length : Int)) = (P.length : Int) := by rw [hm, w64_id (by omega) (by omega)]; omega
    by_cases c : U.length = V.length
    · refine loopO_inr ?_
      unfold slices_rotateCmpFunc_api_Cell_v1_B1
      dsimp only
      rw [if_neg (n_f (by omega))]
      unfold slices_rotateCmpFunc_api_Cell_v1_J1
      dsimp only
      have := swapRange_eq P U [] V S c (by simpa using hl) (a := (P.length : Int)) (b := m) (num := (U.length : Int)) rfl (by rw [hm]; simp) rfl
      simp only [List.nil_append] at this
      rw [hmi, this]; rfl
    · by_cases c2 : V.length < U.length
      · have hsp : U = U.take V.length ++ U.drop V.length := (List.take_append_drop ..).symm
        have h1 : (U.take V.length).length = V.length := by rw [List.length_take]; omega
        have h2 : (U.drop V.length).length = U.length - V.length := by rw [List.length_drop]
        generalize U.take V.length = U1 at *
        generalize U.drop V.length = U2 at *
        subst hsp
        have ih' := ih (U2.length + U1.length) (by simp only [List.length_append] at e; omega) (P ++ V) U2 U1 S rfl (List.length_pos_iff.1 (by omega)) (List.length_pos_iff.1 (by omega)) (by rw [hm]; simp only [List.length_append]; omega) (by simp only [List.length_append] at hl ⊢; omega)
        have hd : P ++ (U1 ++ U2 ++ (V ++ S)) = P ++ (U1 ++ (U2 ++ (V ++ S))) := by simp
        have hw : w64 (((U1 ++ U2).length : Int) - (V.length : Int)) = (U2.length : Int) := by simp only [List.length_append] at hl' ⊢; rw [w64_id (by omega) (by omega)]; omega
        have hsw := swapRange_eq P U1 U2 V S h1 (by rw [← hd]; exact hl) (a := (P.length : Int)) (b := m) (num := (V.length : Int)) rfl (by rw [hm]; simp only [List.length_append]; omega) (by omega)
        refine (loopO_inl ?_).trans (ih'.trans (by simp))
        unfold slices_rotateCmpFunc_api_Cell_v1_B1
        dsimp only
        rw [if_pos (n_t (by omega)), if_pos (d_t (by omega)), hmi, hd, hsw, ob_some, hw, h1]
        simp
      · have hsp : V = V.take (V.length - U.length) ++ V.drop (V.length - U.length) := (List.take_append_drop ..).symm
        have h1 : (V.take (V.length - U.length)).length = V.length - U.length := by rw [List.length_take]; omega
        have h2 : (V.drop (V.length - U.length)).length = U.length := by rw [List.length_drop]; omega
        generalize V.take (V.length - U.length) = V1 at *
        generalize V.drop (V.length - U.length) = V2 at *
        subst hsp
        have ih' := ih (V2.length + V1.length) (by simp only [List.length_append] at e; omega) P V2 V1 (U ++ S) rfl (List.length_pos_iff.1 (by omega)) (List.length_pos_iff.1 (by omega)) (by rw [hm]; omega) (by simp only [List.length_append] at hl ⊢; omega)
        have hd : P ++ (U ++ (V1 ++ V2 ++ S)) = P ++ (U ++ (V1 ++ (V2 ++ S))) := by simp
        have hw : w64 (((V1 ++ V2).length : Int) - (U.length : Int)) = (V1.length : Int) := by simp only [List.length_append] at hl' ⊢; rw [w64_id (by omega) (by omega)]; omega
        have hw2 : w64 (w64 (m + ((V1 ++ V2).length : Int)) - (U.length : Int)) = ((P.length + U.length + V1.length : Nat) : Int) := by
          simp only [List.length_append] at hl' ⊢
          have h3 : w64 (m + ((V1.length + V2.length : Nat) : Int)) = m + ((V1.length + V2.length : Nat) : Int) := w64_id (by omega) (by omega)
          rw [h3, w64_id (by omega) (by omega)]; omega
        have hsw := swapRange_eq P U V1 V2 S h2.symm (by rw [← hd]; exact hl) (a := (P.length : Int)) (b := ((P.length + U.length + V1.length : Nat) : Int)) (num := (U.length : Int)) rfl rfl rfl
        refine (loopO_inl ?_).trans (ih'.trans (by simp))
        unfold slices_rotateCmpFunc_api_Cell_v1_B1
        dsimp only
        rw [if_pos (n_t (by omega)), if_neg (d_f (by omega)), hmi, hw2, hd, hsw, ob_some, hw, h2]
/-- two parts, one behind the other, change places -/
theorem rotate_eq (P U V S : List Cell) (hU : U ≠ []) (hV : V ≠ []) (hl : (P ++ (U ++ (V ++ S))).length ≤ 1000000000000) {a m b : Int} (ha : a = (P.length : Int)) (hm : m = ((P.length + U.length : Nat) : Int)) (hb : b = ((P.length + U.length + V.length : Nat) : Int)) :
    slices_rotateCmpFunc_api_Cell_v1 a m b (P ++ (U ++ (V ++ S))) = some (P ++ (V ++ (U ++ S))) := by
  have hl' := hl
  simp only [List.length_append] at hl'
  unfold slices_rotateCmpFunc_api_Cell_v1
  have e1 : w64 (m - a) = (U.length : Int) := by rw [ha, hm, w64_id (by omega) (by omega)]; omega
  have e2 : w64 (b - m) = (V.length : Int) := by rw [hb, hm, w64_id (by omega) (by omega)]; omega
  rw [e1, e2]
  exact rot_loop m _ P U V S rfl hU hV hm hl
end G
end Go.Proofs.Ytollmifjbcccgaa
