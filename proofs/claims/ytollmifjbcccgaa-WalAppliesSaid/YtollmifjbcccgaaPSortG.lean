/- Merge: the first of each kind, in order; cells put one by one. -/
import Derived.Test.YtollmifjbcccgaaPSortF
namespace Go.Proofs.Ytollmifjbcccgaa
open Go Go.Dm
set_option linter.unusedVariables false
set_option linter.unusedSectionVars false
set_option linter.unusedSimpArgs false
namespace G
theorem grow_eq (n : Nat) (hn : n ≤ 500000000000) : slices_Grow_api_Cell_api_Cell_v1 (n : Int) = some [] := by
  unfold slices_Grow_api_Cell_api_Cell_v1
  have h0 : w64 (0 - 0) = 0 := by decide
  have hw : w64 ((n : Int) - 0) = (n : Int) := by rw [w64_id (by omega) (by omega)]; omega
  rw [h0, hw, if_neg (d_f (by omega)), ob_some]
  by_cases c : 0 < n
  · rw [if_pos (d_t (by omega)), asrt_pos (by omega), asrt_pos (by simp)]
    dsimp only [lt]
    rw [asrt_pos (by simp), ob_some]; rfl
  · rw [if_neg (d_f (by omega)), ob_some]
theorem cat_loop (L : List (List Cell)) (hf : L.flatten.length ≤ 500000000000) (hL : L.length ≤ 500000000000) : ∀ (R D : List (List Cell)), L = D ++ R → slices_Concat_api_Cell_api_Cell_L1 L (D.flatten, (D.length : Int)) = some L.flatten
  | [], D, h => by
    refine loopO_inr ?_
    unfold slices_Concat_api_Cell_api_Cell_B1
    dsimp only
    rw [if_neg (d_f (by rw [h]; simp))]
    unfold slices_Concat_api_Cell_api_Cell_J2
    rw [h, List.append_nil]; rfl
  | g :: R, D, h => by
    have ih := cat_loop L hf hL R (D ++ [g]) (by rw [h]; simp)
    have hlen : L.length = D.length + 1 + R.length := by rw [h]; simp; omega
    have hg : lget L (D.length : Int) = g := by rw [h]; simp [lget]
    have hfl : (D.flatten ++ g).length ≤ 500000000000 := by
      have : L.flatten.length = (D.flatten ++ g).length + R.flatten.length := by rw [h]; simp; omega
      omega
    refine (loopO_inl ?_).trans ih
    unfold slices_Concat_api_Cell_api_Cell_B1
    dsimp only
    rw [if_pos (d_t (by omega)), asrt_pos (by omega), hg, asrt_pos (by omega), w64_id (by omega) (by omega)]
    have e1 : (D ++ [g]).flatten = D.flatten ++ g := by simp
    have e2 : (((D ++ [g]).length : Nat) : Int) = (D.length : Int) + 1 := by simp
    rw [e1, e2]
theorem cat_size (L : List (List Cell)) (hf : L.flatten.length ≤ 500000000000) (hL : L.length ≤ 500000000000) : ∀ (R D : List (List Cell)), L = D ++ R → slices_Concat_api_Cell_api_Cell_L2 L ((D.flatten.length : Int), (D.length : Int)) = some L.flatten
  | [], D, h => by
    have hB : slices_Concat_api_Cell_api_Cell_B2 L ((D.flatten.length : Int), (D.length : Int)) = some (.inr L.flatten) := by
      unfold slices_Concat_api_Cell_api_Cell_B2
      dsimp only
      rw [if_neg (d_f (by rw [h]; simp))]
      unfold slices_Concat_api_Cell_api_Cell_J1
      have hD : D.flatten.length ≤ 500000000000 := by
        have : L = D := by rw [h]; simp
        rw [← this]; exact hf
      rw [grow_eq _ hD, ob_some]
      have := cat_loop L hf hL L [] rfl
      have this' : slices_Concat_api_Cell_api_Cell_L1 L ([], 0) = some L.flatten := this
      rw [this']; rfl
    exact loopO_inr hB
  | g :: R, D, h => by
    have ih := cat_size L hf hL R (D ++ [g]) (by rw [h]; simp)
    have hlen : L.length = D.length + 1 + R.length := by rw [h]; simp; omega
    have hg : lget L (D.length : Int) = g := by rw [h]; simp [lget]
    have hfl : D.flatten.length + g.length ≤ 500000000000 := by
      have : L.flatten.length = D.flatten.length + g.length + R.flatten.length := by rw [h]; simp; omega
      omega
    refine (loopO_inl ?_).trans ih
    unfold slices_Concat_api_Cell_api_Cell_B2
    dsimp only
    rw [if_pos (d_t (by omega)), asrt_pos (by omega), hg]
    have w1 : w64 ((D.flatten.length : Int) + (g.length : Int)) = (((D ++ [g]).flatten.length : Nat) : Int) := by
      have e1 : (D ++ [g]).flatten.length = D.flatten.length + g.length := by simp
      rw [e1, w64_id (by omega) (by omega)]; omega
    have e2 : (((D ++ [g]).length : Nat) : Int) = (D.length : Int) + 1 := by simp
    rw [w1, if_neg (d_f (by omega)), ob_some, w64_id (by omega) (by omega), e2]
theorem concat_eq (L : List (List Cell)) (hf : L.flatten.length ≤ 500000000000) (hL : L.length ≤ 500000000000) : slices_Concat_api_Cell_api_Cell L = some L.flatten := cat_size L hf hL L [] rfl
/-- the first of each kind, in order -/
noncomputable def firsts (l : List Cell) : List Cell := ddp (srtd l)
theorem firsts_ok (l : List Cell) : Firsts l (firsts l) := ddp_srtd l
theorem firsts_is {l x : List Cell} (h : Firsts l x) : x = firsts l := firsts_uniq h (firsts_ok l)
theorem merge_eq (L : List (List Cell)) (hf : L.flatten.length ≤ 500000000000) (hL : L.length ≤ 500000000000) : cell_Merge L = some (firsts L.flatten) := by
  unfold cell_Merge
  rw [concat_eq L hf hL, ob_some, stable_eq _ hf, ob_some, compact_eq _ (by rw [srtd_len]; exact hf), ob_some]; rfl
/- cells put one by one -/
/-- what was put, and what was there and is not like it -/
theorem Firsts.put {m l x : List Cell} {c : Cell} (h : Firsts m l) (hx : x.Pairwise ah) (hm : ∀ w, w ∈ x ↔ w = c ∨ (w ∈ l ∧ ¬ key w c)) : Firsts (c :: m) x := by
  refine ⟨hx, fun w => ?_⟩
  rw [hm, fk_cons]
  by_cases q : key w c
  · rw [if_pos q]
    simp only [List.head?_cons, Option.some.injEq]
    constructor
    · rintro (e | ⟨_, e⟩)
      · exact e.symm
      · exact absurd q e
    · intro e; exact .inl e.symm
  · rw [if_neg q, ← h.2 w]
    constructor
    · rintro (e | ⟨e, _⟩)
      · rw [e] at q; exact absurd (key_refl c) q
      · exact e
    · intro e; exact .inr ⟨e, q⟩
theorem split_at (c : Cell) : ∀ l : List Cell, l.Pairwise ah → ∃ u v, l = u ++ v ∧ (∀ x ∈ u, ah x c) ∧ (∀ x ∈ v, ¬ ah x c)
  | [], _ => ⟨[], [], rfl, by simp, by simp⟩
  | a :: l, h => by
    obtain ⟨p1, p2⟩ := List.pairwise_cons.1 h
    by_cases q : R_Ahead a c = true
    · obtain ⟨u, v, rfl, h1, h2⟩ := split_at c l p2
      exact ⟨a :: u, v, rfl, fun x hx => by
        rcases List.mem_cons.1 hx with e | e
        · rw [e]; exact (ahead_iff _ _).1 q
        · exact h1 x e, h2⟩
    · have q' : ¬ ah a c := fun z => q ((ahead_iff _ _).2 z)
      exact ⟨[], a :: l, rfl, by simp, fun x hx => by
        rcases List.mem_cons.1 hx with e | e
        · rw [e]; exact q'
        · exact fun z => q' (ah_trans (p1 x e) z)⟩
theorem put_loop (c : Cell) (u v : List Cell) (hu : ∀ x ∈ u, ah x c) (hv : ∀ x ∈ v, ¬ ah x c) (hl : (u ++ v).length ≤ 1000000000000) : ∀ (m k : Nat), u.length - k = m → k ≤ u.length →
    R_PutCell_L1 (u ++ v) (c, (k : Int)) = R_PutCell_J1 (u ++ v) (c, (u.length : Int)) := by
  intro m
  induction m with
  | zero =>
    intro k e hk
    have : k = u.length := by omega
    subst this
    have hB : R_PutCell_B1 (u ++ v) (c, (u.length : Int)) = inrO (R_PutCell_J1 (u ++ v) (c, (u.length : Int))) := by
      unfold R_PutCell_B1
      dsimp only
      rw [asrt_pos (fun h => by have := of_decide_eq_true h; omega)]
      simp only [cell_eta, lt]
      rw [if_neg]
      intro q
      rw [Bool.and_eq_true, decide_eq_true_iff] at q
      have hin : u.length < (u ++ v).length := by omega
      have hm : lget (u ++ v) (u.length : Int) ∈ v := by
        rw [lget_nat _ _ hin, List.getElem_append_right (Nat.le_refl _)]
        exact List.getElem_mem _
      exact hv _ hm ((ahead_iff _ _).1 q.2)
    unfold R_PutCell_L1
    rw [loopO_eq, hB]
    cases R_PutCell_J1 (u ++ v) (c, (u.length : Int)) <;> rfl
  | succ m ih =>
    intro k e hk
    have hl' := hl
    rw [List.length_append] at hl'
    refine (loopO_inl ?_).trans (ih (k + 1) (by omega) (by omega))
    unfold R_PutCell_B1
    dsimp only
    rw [asrt_pos (fun h => by have := of_decide_eq_true h; omega)]
    simp only [cell_eta, lt]
    have hm : lget (u ++ v) (k : Int) ∈ u := by
      rw [lget_nat _ _ (by rw [List.length_append]; omega), List.getElem_append_left (by omega)]
      exact List.getElem_mem _
    rw [(ahead_iff _ _).2 (hu _ hm), if_pos (by simp only [Bool.and_true]; exact d_t (by rw [List.length_append]; omega)), w64_id (by omega) (by omega)]
    rfl
/-- a cell is put -/
theorem rput_eq (l : List Cell) (c : Cell) (hs : l.Pairwise ah) (hl : l.length ≤ 1000000000) : ∃ x, R_PutCell l c = some x ∧ x.Pairwise ah ∧ (∀ w, w ∈ x ↔ w = c ∨ (w ∈ l ∧ ¬ key w c)) ∧ x.length ≤ l.length + 1 := by
  obtain ⟨u, v, rfl, hu, hv⟩ := split_at c l hs
  have hl' := hl
  rw [List.length_append] at hl'
  obtain ⟨su, sv, suv⟩ := List.pairwise_append.1 hs
  have h0 := put_loop c u v hu hv (by omega) u.length 0 (by omega) (by omega)
  have h0' : R_PutCell (u ++ v) c = R_PutCell_J1 (u ++ v) (c, (u.length : Int)) := h0
  have hdr : ldrop (u ++ v) (u.length : Int) = v := by rw [ldrop_nat, List.drop_left]
  have htk : ltake (u ++ v) (u.length : Int) = u := by rw [ltake_nat, List.take_left]
  rw [h0']
  have ins : (∀ x ∈ v, ah c x) → (u ++ c :: v).Pairwise ah ∧ (∀ w, w ∈ u ++ c :: v ↔ w = c ∨ (w ∈ u ++ v ∧ ¬ key w c)) := by
    intro hcv
    refine ⟨List.pairwise_append.2 ⟨su, List.pairwise_cons.2 ⟨hcv, sv⟩, fun x hx y hy => ?_⟩, fun w => ?_⟩
    · rcases List.mem_cons.1 hy with e | e
      · rw [e]; exact hu x hx
      · exact suv x hx y e
    · simp only [List.mem_append, List.mem_cons]
      constructor
      · rintro (e | e | e)
        · exact .inr ⟨.inl e, ah_key (hu w e)⟩
        · exact .inl e
        · exact .inr ⟨.inr e, fun q => ah_key (hcv w e) (key_symm q)⟩
      · rintro (e | ⟨e | e, _⟩)
        · exact .inr (.inl e)
        · exact .inl e
        · exact .inr (.inr e)
  unfold R_PutCell_J1
  dsimp only
  rw [asrt_pos (fun h => by have := of_decide_eq_true h; omega)]
  simp only [cell_eta, lt]
  cases v with
  | nil =>
    rw [if_neg (by simp), hdr, htk, asrt_pos (by simp), asrt_pos (by omega), asrt_pos (by simp; omega), asrt_pos (by simp), asrt_pos (by simp; omega)]
    obtain ⟨i1, i2⟩ := ins (by simp)
    exact ⟨u ++ [c] ++ [], rfl, by simpa using i1, by simpa using i2, by simp⟩
  | cons a v =>
    have hg : lget (u ++ a :: v) (u.length : Int) = a := lget_mid u a v
    have hlt : ((u.length : Int)) < ((u ++ a :: v).length : Int) := by simp only [List.length_append, List.length_cons]; omega
    obtain ⟨sa, sv'⟩ := List.pairwise_cons.1 sv
    rw [hg]
    by_cases q : R_Ahead c a = true
    · have q' := (ahead_iff _ _).1 q
      rw [q, if_neg (by simp), hdr, htk, asrt_pos (by omega), asrt_pos (by omega), asrt_pos (by simp; omega), asrt_pos (by omega), asrt_pos (by simp only [List.length_append, List.length_cons, List.length_nil] at hl' ⊢; omega)]
      obtain ⟨i1, i2⟩ := ins (fun x hx => by
        rcases List.mem_cons.1 hx with e | e
        · rw [e]; exact q'
        · exact ah_trans q' (sa x e))
      refine ⟨u ++ [c] ++ a :: v, rfl, by simpa using i1, fun w => ?_, by simp; omega⟩
      rw [← i2 w]; simp
    · have q' : ¬ ah c a := fun z => q ((ahead_iff _ _).2 z)
      have hk : key c a := by
        rcases ah_tri c a with e | e | e
        · exact absurd e q'
        · exact e
        · exact absurd e (hv a (List.mem_cons_self ..))
      have qf : R_Ahead c a = false := by simpa using q
      rw [qf, if_pos (by rw [Bool.not_false, Bool.and_true]; exact d_t hlt), asrt_pos (by omega), asrt_pos (by omega), asrt_pos (by omega), lset_mid]
      refine ⟨u ++ c :: v, rfl, ?_, fun w => ?_, by simp⟩
      · refine List.pairwise_append.2 ⟨su, List.pairwise_cons.2 ⟨fun x hx => ah_left (key_symm hk) (sa x hx), sv'⟩, fun x hx y hy => ?_⟩
        rcases List.mem_cons.1 hy with e | e
        · rw [e]; exact hu x hx
        · exact suv x hx y (List.mem_cons_of_mem _ e)
      · simp only [List.mem_append, List.mem_cons]
        constructor
        · rintro (e | e | e)
          · exact .inr ⟨.inl e, ah_key (hu w e)⟩
          · exact .inl e
          · exact .inr ⟨.inr (.inr e), fun z => ah_key (sa w e) (key_symm (key_trans z hk))⟩
        · rintro (e | ⟨e | e | e, z⟩)
          · exact .inr (.inl e)
          · exact .inl e
          · rw [e] at z; exact absurd (key_symm hk) z
          · exact .inr (.inr e)
theorem rputs_loop (M : List Cell) : ∀ (R D m l : List Cell), M = D ++ R → Firsts m l → l.length + R.length ≤ 1000000000 → M.length ≤ 1000000000 → ∃ x, R_PutCells_L1 M (l, (D.length : Int)) = some x ∧ Firsts (R.reverse ++ m) x ∧ x.length ≤ l.length + R.length
  | [], D, m, l, h, hF, hl, hM => by
    refine ⟨l, loopO_inr ?_, hF, by simp⟩
    unfold R_PutCells_B1
    dsimp only
    rw [if_neg (d_f (by rw [h]; simp))]; rfl
  | c :: R, D, m, l, h, hF, hl, hM => by
    have hlen : M.length = D.length + 1 + R.length := by rw [h]; simp; omega
    simp only [List.length_cons] at hl
    have hg : lget M (D.length : Int) = c := by rw [h]; exact lget_mid D c R
    obtain ⟨x, x1, x2, x3, x4⟩ := rput_eq l c hF.1 (by omega)
    obtain ⟨y, y1, y2, y3⟩ := rputs_loop M R (D ++ [c]) (c :: m) x (by rw [h]; simp) (hF.put x2 x3) (by omega) hM
    refine ⟨y, (loopO_inl ?_).trans y1, by simpa using y2, by simp only [List.length_cons]; omega⟩
    unfold R_PutCells_B1
    dsimp only
    rw [if_pos (d_t (by omega)), asrt_pos (by omega), hg]
    simp only [cell_eta]
    rw [x1, ob_some, w64_id (by omega) (by omega)]
    have e2 : (((D ++ [c]).length : Nat) : Int) = (D.length : Int) + 1 := by simp
    rw [e2]
/-- cells are put: of those that are alike the last one stays -/
theorem rputs_eq (l M m : List Cell) (hF : Firsts m l) (hl : l.length + M.length ≤ 1000000000) : R_PutCells l M = some (firsts (M.reverse ++ m)) := by
  obtain ⟨x, x1, x2, _⟩ := rputs_loop M M [] m l rfl hF hl (by omega)
  have x1' : R_PutCells l M = some x := x1
  rw [x1', firsts_is x2]
theorem firsts_nil : Firsts [] [] := ⟨.nil, fun c => by simp [fk]⟩
theorem firsts_len (l : List Cell) : (firsts l).length ≤ l.length := by
  have h : ∀ (l : List Cell) (y : Cell), (ddpP y l).length ≤ l.length := by
    intro l
    induction l with
    | nil => intro y; exact Nat.le_refl _
    | cons x l ih =>
      intro y
      rw [ddpP]
      split
      · have := ih x; simp only [List.length_cons]; omega
      · have := ih x; simp only [List.length_cons]; omega
  unfold firsts
  rw [← srtd_len l]
  cases srtd l with
  | nil => exact Nat.le_refl _
  | cons x t => rw [ddp]; have := h t x; simp only [List.length_cons]; omega
end G
end Go.Proofs.Ytollmifjbcccgaa
