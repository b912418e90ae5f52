/- All lists, joined: the first of each kind, in order. -/
import Derived.Test.YtkbgkkbinnclmaaPMergeB
namespace Go.Proofs.Ytkbgkkbinnclmaa
open Go Go.Dm
set_option linter.unusedVariables false
set_option linter.unusedSectionVars false
set_option linter.unusedSimpArgs false
namespace G
theorem do_eq (c : Cell) (out : List Cell) (hl : out.length ≤ 1000000000) : merge_joined_1_v1 c out = some (true, outN out c) := by
  have hw : w64 ((out.length : Int) - 1) = (out.length : Int) - 1 := w64_id (by omega) (by omega)
  unfold merge_joined_1_v1 outN
  rw [hw]
  by_cases h0 : out = []
  · subst h0
    rw [asrt_pos (fun q => by simp at q), asrt_pos (fun q => by simp at q), if_neg (by simp), ob_some, if_pos (by simp), if_pos (.inl rfl), asrt_pos (by simp), ob_some]
  · have hp := List.length_pos_iff.2 h0
    rw [asrt_pos (fun _ => by omega), asrt_pos (fun _ => by omega), if_pos (n_t (by omega))]
    simp only [cell_eta]
    rw [order_eq, ob_some]
    by_cases k : key (lget out ((out.length : Int) - 1)) c
    · rw [if_neg (by rw [d_t ((ordz _ _).2 k)]; simp; omega), if_neg (fun q => q.elim h0 (fun z => z k)), ob_some]
    · rw [if_pos (by rw [decide_eq_false (fun q => k ((ordz _ _).1 q))]; simp), if_pos (.inr k), asrt_pos (by simp; omega), ob_some]
theorem outN_len (out : List Cell) (c : Cell) : (outN out c).length ≤ out.length + 1 := by
  unfold outN; split <;> simp
variable {l : List (List Cell)} (hs : ∀ g ∈ l, g.Pairwise ah)
include hs in
theorem main_loop (F : Nat) (hF : F ≤ 1000000000) : ∀ (n : Nat) (out : List Cell) (row : List Nat) (ar : List source), cnt ar = n → out.length + n ≤ F → Inv l ar row out → HF ar row 0 → row.length ≤ 1000000 →
    ∃ x, merge_each_L1 (out, row, ar) = some x ∧ Firsts l.flatten x := by
  intro n
  induction n using Nat.strongRecOn with
  | _ n ih =>
    intro out row ar hn hb hI hH hl
    cases row with
    | nil =>
      refine ⟨out, loopO_inr ?_, hI.last⟩
      unfold merge_each_B1
      dsimp only
      rw [if_neg (d_f (by simp))]; rfl
    | cons s0 R =>
      have hm0 := (hI.mem s0).1 (List.mem_cons_self ..)
      obtain ⟨hlt, hne⟩ := hm0
      have hp := List.length_pos_iff.2 hne
      have hg0 : lget (s0 :: R) 0 = s0 := rfl
      have hmin : ∀ j ∈ s0 :: R, ¬ slt (lget ar (j : Int)) (lget ar (s0 : Int)) := by
        intro j hj
        obtain ⟨p, hp, e⟩ := List.mem_iff_getElem.1 hj
        have := hH.min p hp
        unfold At at this
        rw [lget_nat _ p hp, e] at this
        exact this
      obtain ⟨s', hs'⟩ : ∃ s', s' = (⟨ldrop (lget ar (s0 : Int)).cells 1, (lget ar (s0 : Int)).rank⟩ : source) := ⟨_, rfl⟩
      obtain ⟨ar', har⟩ : ∃ ar', ar' = lset ar (s0 : Int) s' := ⟨_, rfl⟩
      have hlen : ar'.length = ar.length := by rw [har, lset_len]
      have hs0 : lget ar' (s0 : Int) = s' := by rw [har, lget_lset _ _ _ _ (by omega) (by omega), if_pos rfl]
      have hoth : ∀ j : Nat, j ≠ s0 → lget ar' (j : Int) = lget ar (j : Int) := fun j hj => by rw [har, lget_lset _ _ _ _ (by omega) (by omega), if_neg (by omega)]
      have hs'l : s'.cells.length + 1 = (lget ar (s0 : Int)).cells.length := by
        rw [hs']; show (ldrop (lget ar (s0 : Int)).cells 1).length + 1 = _
        unfold ldrop; rw [List.length_drop]; simp; omega
      have hcnt : cnt ar' + 1 = n := by
        have := cnt_set ar s0 s' hlt
        rw [← har] at this; omega
      obtain ⟨hn0, hnR⟩ := List.nodup_cons.1 hI.nod
      -- the row then
      obtain ⟨row', hrow, hnod', hmem', hHF', hlen'⟩ : ∃ row' : List Nat, (ob (
        if (decide ((((lget ar' (s0 : Int)).cells).length : Int) = 0)) = true then
          asrt (0 ≤ w64 (((s0 :: R).length : Int) - 1) ∧ w64 (((s0 :: R).length : Int) - 1) < ((s0 :: R).length : Int)) <|
          asrt (0 ≤ w64 (((s0 :: R).length : Int) - 1) ∧ w64 (((s0 :: R).length : Int) - 1) < ((s0 :: R).length : Int)) <|
          asrt (0 ≤ (0 : Int) ∧ 0 < ((s0 :: R).length : Int)) <|
          asrt (0 ≤ (0 : Int) ∧ 0 < ((s0 :: R).length : Int)) <|
          asrt (0 ≤ w64 (((lset (s0 :: R) 0 (lget (s0 :: R) (w64 (((s0 :: R).length : Int) - 1)))).length : Int) - 1) ∧ w64 (((lset (s0 :: R) 0 (lget (s0 :: R) (w64 (((s0 :: R).length : Int) - 1)))).length : Int) - 1) ≤ ((lset (s0 :: R) 0 (lget (s0 :: R) (w64 (((s0 :: R).length : Int) - 1)))).length : Int)) <|
          asrt (((w64 (((lset (s0 :: R) 0 (lget (s0 :: R) (w64 (((s0 :: R).length : Int) - 1)))).length : Int) - 1)).toNat) ≤ (lset (s0 :: R) 0 (lget (s0 :: R) (w64 (((s0 :: R).length : Int) - 1)))).length) <|
          some ((lset (s0 :: R) 0 (lget (s0 :: R) (w64 (((s0 :: R).length : Int) - 1)))).take ((w64 (((lset (s0 :: R) 0 (lget (s0 :: R) (w64 (((s0 :: R).length : Int) - 1)))).length : Int) - 1)).toNat))
        else
          some (s0 :: R)) fun (v5 : List Nat) => some v5) = some row' ∧ row'.Nodup ∧ (∀ j : Nat, j ∈ row' ↔ j ∈ s0 :: R ∧ (j = s0 → 1 < (lget ar (s0 : Int)).cells.length)) ∧ HF ar' row' 1 ∧ row'.length ≤ (s0 :: R).length := by
        by_cases c : s'.cells.length = 0
        · have hwl : w64 (((s0 :: R).length : Int) - 1) = (R.length : Int) := by rw [List.length_cons, w64_id (by simp only [List.length_cons] at hl; omega) (by simp only [List.length_cons] at hl; omega)]; omega
          rw [if_pos (d_t (by rw [hs0]; omega))]
          have hll : ((lset (s0 :: R) 0 (lget (s0 :: R) (w64 (((s0 :: R).length : Int) - 1)))).length : Int) = ((s0 :: R).length : Int) := by rw [lset_len]
          rw [hll, hwl, asrt_pos (by simp only [List.length_cons]; omega), asrt_pos (by simp only [List.length_cons]; omega), asrt_pos (by simp only [List.length_cons]; omega), asrt_pos (by simp only [List.length_cons]; omega), asrt_pos (by simp only [List.length_cons]; omega), asrt_pos (by rw [lset_len]; simp), ob_some, Int.toNat_natCast]
          refine ⟨_, rfl, ?_⟩
          rcases List.eq_nil_or_concat R with e | ⟨R', z, e⟩
          · subst e
            refine ⟨.nil, fun j => ?_, fun p c' h1 h2 h3 => by simp at h3, by simp⟩
            simp only [List.length_nil, List.take_zero, List.not_mem_nil, List.mem_cons, or_false, false_iff]
            rintro ⟨e1, e2⟩
            have := e2 e1; omega
          · rw [List.concat_eq_append] at e
            have hz : lget (s0 :: R) (R.length : Int) = z := by
              rw [e]
              have e2 : ((R' ++ [z]).length : Int) = ((s0 :: R').length : Int) := by simp
              rw [e2]
              have : s0 :: (R' ++ [z]) = (s0 :: R') ++ [z] := rfl
              rw [this]; simp [lget]
            have hv : (lset (s0 :: R) 0 (lget (s0 :: R) (R.length : Int))).take R.length = z :: R' := by
              rw [hz, e]
              have : lset (s0 :: (R' ++ [z])) 0 z = z :: (R' ++ [z]) := rfl
              rw [this, List.length_append, List.length_singleton, List.take_succ_cons, List.take_left]
            rw [hv]
            have hnz : z ∉ R' ∧ R'.Nodup := by
              rw [e] at hnR
              have := List.nodup_append.1 hnR
              exact ⟨fun q => this.2.2 z q z (List.mem_singleton.2 rfl) rfl, this.1⟩
            refine ⟨List.nodup_cons.2 hnz, fun j => ?_, fun p c' h1 h2 h3 => ?_, by rw [e]; simp⟩
            · have hR : j ∈ z :: R' ↔ j ∈ R := by rw [e]; simp [or_comm]
              rw [hR]
              constructor
              · intro q
                refine ⟨List.mem_cons_of_mem _ q, fun z => ?_⟩
                rw [z] at q; exact absurd q hn0
              · rintro ⟨q1, q2⟩
                rcases List.mem_cons.1 q1 with z | z
                · have := q2 z; omega
                · exact z
            · have hlR : R.length = R'.length + 1 := by rw [e]; simp
              rw [List.length_cons] at h3
              have old : ∀ q : Nat, 1 ≤ q → q < R'.length + 1 → At ar' (z :: R') q = At ar (s0 :: R) q := by
                intro q h4 h5
                have g1 : lget (z :: R') (q : Int) = lget (s0 :: R) (q : Int) := by
                  rw [lget_nat _ q (by simp; omega), lget_nat _ q (by simp; omega)]
                  obtain ⟨q', rfl⟩ : ∃ q', q = q' + 1 := ⟨q - 1, by omega⟩
                  simp only [List.getElem_cons_succ, e]
                  rw [List.getElem_append_left]
                have g2 : lget (s0 :: R) (q : Int) ≠ s0 := by
                  obtain ⟨q', rfl⟩ : ∃ q', q = q' + 1 := ⟨q - 1, by omega⟩
                  rw [lget_nat _ _ (by simp; omega), List.getElem_cons_succ]
                  exact fun w => hn0 (w ▸ List.getElem_mem _)
                unfold At
                rw [g1, hoth _ g2]
              rw [old p h1 (by omega), old c' (by omega) h3]
              exact hH p c' (Nat.zero_le _) h2 (by simp; omega)
        · rw [if_neg (d_f (by rw [hs0]; omega)), ob_some]
          refine ⟨_, rfl, hI.nod, fun j => ⟨fun q => ⟨q, fun _ => by omega⟩, fun q => q.1⟩, fun p c' h1 h2 h3 => ?_, Nat.le_refl _⟩
          have old : ∀ q : Nat, 1 ≤ q → q < (s0 :: R).length → At ar' (s0 :: R) q = At ar (s0 :: R) q := by
            intro q h4 h5
            have g2 : lget (s0 :: R) (q : Int) ≠ s0 := by
              obtain ⟨q', rfl⟩ : ∃ q', q = q' + 1 := ⟨q - 1, by omega⟩
              rw [lget_nat _ _ h5, List.getElem_cons_succ]
              exact fun w => hn0 (w ▸ List.getElem_mem _)
            unfold At
            rw [hoth _ g2]
          rw [old p h1 (by omega), old c' (by omega) h3]
          exact hH p c' (Nat.zero_le _) h2 h3
      have hI' := hI.step hs (List.mem_cons_self ..) hmin (ar' := ar') (by rw [har, hs']) hnod' hmem'
      have hol := outN_len out (hd (lget ar (s0 : Int)))
      have hF' : cnt ar' < n := by omega
      have hob : ∀ {α β : Type} (e : Option α) (f : α → Option β) (r : α), (ob e fun v => some v) = some r → ob e f = f r := by
        intro α β e f r h
        cases e with
        | none => cases h
        | some v => cases h; rfl
      have hB : merge_each_B1 (out, s0 :: R, ar) = (if (decide (0 < (row'.length : Int))) = true then
          ob (merge_heap_down 0 row' ar') fun x1 => some (Sum.inl (outN out (hd (lget ar (s0 : Int))), x1, ar')) else some (Sum.inl (outN out (hd (lget ar (s0 : Int))), row', ar'))) := by
        unfold merge_each_B1
        dsimp only
        rw [hg0, if_pos (d_t (by simp)), asrt_pos (by simp), asrt_pos (by simp), asrt_pos (by omega), asrt_pos (by omega)]
        simp only [cell_eta]
        have hd0 : lget (lget ar (s0 : Int)).cells 0 = hd (lget ar (s0 : Int)) := rfl
        rw [hd0, do_eq _ _ (by omega), ob_some]
        dsimp only
        rw [if_neg (by decide), asrt_pos (by omega), asrt_pos (by omega), asrt_pos (by omega)]
        dsimp only [lt]
        rw [← hs', ← har, asrt_pos (by omega)]
        exact hob _ _ _ hrow
      by_cases c : 0 < row'.length
      · rw [if_pos (d_t (by omega))] at hB
        obtain ⟨r2, d1, d2, d3⟩ := down_eq (a := 0) (i := 0) hI'.okr (by omega) c (Nat.le_refl _) hHF'.step
        have d1' : merge_heap_down 0 row' ar' = some r2 := d1
        rw [d1', ob_some] at hB
        have hI2 : Inv l ar' r2 (outN out (hd (lget ar (s0 : Int)))) := { hI' with nod := d2.nodup_iff.2 hI'.nod, mem := fun j => by rw [d2.mem_iff]; exact hI'.mem j }
        obtain ⟨x, x1, x2⟩ := ih (cnt ar') hF' _ r2 ar' rfl (by omega) hI2 d3 (by rw [d2.length_eq]; omega)
        exact ⟨x, (loopO_inl hB).trans x1, x2⟩
      · rw [if_neg (d_f (by omega))] at hB
        have e : row' = [] := List.eq_nil_of_length_eq_zero (by omega)
        subst e
        obtain ⟨x, x1, x2⟩ := ih (cnt ar') hF' _ [] ar' rfl (by omega) hI' (fun p c' h1 h2 h3 => by simp at h3) (by simp)
        exact ⟨x, (loopO_inl hB).trans x1, x2⟩
include hs in
theorem heap_loop (F : Nat) (hF : F ≤ 1000000000) (row0 : List Nat) (ar : List source) (hc : cnt ar ≤ F) : ∀ (n : Nat) (row : List Nat), Inv l ar row [] → HF ar row n → n ≤ row.length → row.length ≤ 1000000 →
    ∃ x, merge_each_L2 (row0, ar) (row, (n : Int) - 1) = some x ∧ Firsts l.flatten x
  | 0, row, hI, hH, hn, hl => by
    obtain ⟨x, x1, x2⟩ := main_loop hs F hF (cnt ar) [] row ar rfl (by simpa using hc) hI hH hl
    refine ⟨x, loopO_inr ?_, x2⟩
    unfold merge_each_B2
    dsimp only
    rw [if_neg (d_f (by simp))]
    unfold merge_each_J2
    rw [x1]; rfl
  | n + 1, row, hI, hH, hn, hl => by
    obtain ⟨r2, d1, d2, d3⟩ := down_eq (a := n) (i := n) hI.okr hl (by omega) (Nat.le_refl _) hH.step
    have hI2 : Inv l ar r2 [] := { hI with nod := d2.nodup_iff.2 hI.nod, mem := fun j => by rw [d2.mem_iff]; exact hI.mem j }
    obtain ⟨x, x1, x2⟩ := heap_loop F hF row0 ar hc n r2 hI2 d3 (by rw [d2.length_eq]; omega) (by rw [d2.length_eq]; exact hl)
    refine ⟨x, (loopO_inl ?_).trans x1, x2⟩
    unfold merge_each_B2
    dsimp only
    have e : ((n + 1 : Nat) : Int) - 1 = (n : Int) := by omega
    rw [e, if_pos (d_t (by omega)), d1, ob_some, w64_id (by omega) (by omega)]
/-- the sources as they are made -/
structure Made (l : List (List Cell)) (k : Nat) (ar : List source) : Prop where
  src : ∀ j : Nat, j < ar.length → ∃ r : Nat, r < k ∧ (lget ar (j : Int)).rank = (r : Int) ∧ lget l (r : Int) = (lget ar (j : Int)).cells ∧ (lget ar (j : Int)).cells ≠ []
  inc : ∀ i j : Nat, i < j → j < ar.length → (lget ar (i : Int)).rank < (lget ar (j : Int)).rank
  all : ∀ r : Nat, r < k → lget l (r : Int) ≠ [] → ∃ j : Nat, j < ar.length ∧ (lget ar (j : Int)).rank = (r : Int)
  cnt : cnt ar = (l.take k).flatten.length
  few : ar.length ≤ k
theorem app_get (ar : List source) (s : source) (j : Nat) (hj : j < ar.length + 1) : lget (ar ++ [s]) (j : Int) = if j = ar.length then s else lget ar (j : Int) := by
  by_cases e : j = ar.length
  · rw [if_pos e, e]; simp [lget]
  · rw [if_neg e, lget_app_l _ _ _ (by omega)]
theorem Made.skip {k : Nat} {ar : List source} (h : Made l k ar) (hk : k < l.length) (he : lget l (k : Int) = []) : Made l (k + 1) ar := by
  refine ⟨fun j hj => ?_, h.inc, fun r hr hne => ?_, ?_, by have := h.few; omega⟩
  · obtain ⟨r, h1, h2⟩ := h.src j hj
    exact ⟨r, by omega, h2⟩
  · by_cases e : r = k
    · rw [e] at hne; exact absurd he hne
    · exact h.all r (by omega) hne
  · rw [lget_take l k hk, List.flatten_append, List.length_append, he, h.cnt]; simp
theorem Made.push {k : Nat} {ar : List source} (h : Made l k ar) (hk : k < l.length) (he : lget l (k : Int) ≠ []) : Made l (k + 1) (ar ++ [⟨lget l (k : Int), (k : Int)⟩]) := by
  refine ⟨fun j hj => ?_, fun i j hij hj => ?_, fun r hr hne => ?_, ?_, by have := h.few; simp; omega⟩
  · rw [List.length_append, List.length_singleton] at hj
    rw [app_get _ _ _ hj]
    by_cases e : j = ar.length
    · rw [if_pos e]; exact ⟨k, by omega, rfl, rfl, he⟩
    · rw [if_neg e]
      obtain ⟨r, h1, h2⟩ := h.src j (by omega)
      exact ⟨r, by omega, h2⟩
  · rw [List.length_append, List.length_singleton] at hj
    rw [app_get _ _ _ (by omega), app_get _ _ _ hj, if_neg (by omega)]
    by_cases e : j = ar.length
    · rw [if_pos e]
      obtain ⟨r, h1, h2, _⟩ := h.src i (by omega)
      rw [h2]; show (r : Int) < (k : Int); omega
    · rw [if_neg e]; exact h.inc i j hij (by omega)
  · by_cases e : r = k
    · refine ⟨ar.length, by simp, ?_⟩
      rw [app_get _ _ _ (by omega), if_pos rfl, e]
    · obtain ⟨j, h1, h2⟩ := h.all r (by omega) hne
      refine ⟨j, by simp; omega, ?_⟩
      rw [app_get _ _ _ (by omega), if_neg (by omega)]; exact h2
  · rw [lget_take l k hk, List.flatten_append, List.length_append, ← h.cnt]
    simp [G.cnt]
theorem Made.inv {ar : List source} (h : Made l l.length ar) : Inv l ar (List.range ar.length) [] := by
  refine ⟨fun j hj => ?_, h.inc, h.all, List.nodup_range, fun j => ?_, .nil, fun _ _ _ _ o ho => by simp at ho, fun j r hj hjr x hx => ?_, fun o ho => by simp at ho⟩
  · obtain ⟨r, h1, h2, h3, _⟩ := h.src j hj
    exact ⟨r, h1, h2, [], by rw [h3]; rfl⟩
  · rw [List.mem_range]
    constructor
    · intro hj
      obtain ⟨r, _, _, _, h4⟩ := h.src j hj
      exact ⟨hj, h4⟩
    · exact fun q => q.1
  · obtain ⟨r', h1, h2, h3, _⟩ := h.src j hj
    have : r = r' := by rw [h2] at hjr; omega
    left
    rw [← h3, ← this]; exact hx
include hs in
theorem make_loop (hl : l.length ≤ 1000000) (hf : l.flatten.length ≤ 1000000000) : ∀ (m k : Nat) (ar : List source), l.length - k = m → k ≤ l.length → Made l k ar →
    ∃ x, merge_each_L3 l (List.range ar.length, (k : Int), ar) = some x ∧ Firsts l.flatten x := by
  intro m
  induction m with
  | zero =>
    intro k ar e hk hM
    have : k = l.length := by omega
    subst this
    have hfew := hM.few
    have hcnt := hM.cnt
    rw [List.take_length] at hcnt
    obtain ⟨x, x1, x2⟩ := heap_loop hs l.flatten.length hf (List.range ar.length) ar (by omega) ar.length (List.range ar.length) hM.inv (fun p c h1 h2 h3 => by rw [List.length_range] at h3; omega) (by simp) (by simp; omega)
    refine ⟨x, loopO_inr ?_, x2⟩
    unfold merge_each_B3
    dsimp only
    rw [if_neg (d_f (by omega))]
    unfold merge_each_J1
    rw [List.length_range, w64_id (by omega) (by omega), x1]; rfl
  | succ m ih =>
    intro k ar e hk hM
    have hk' : k < l.length := by omega
    have hfew := hM.few
    by_cases he : lget l (k : Int) = []
    · obtain ⟨x, x1, x2⟩ := ih (k + 1) ar (by omega) (by omega) (hM.skip hk' he)
      refine ⟨x, (loopO_inl ?_).trans x1, x2⟩
      unfold merge_each_B3
      dsimp only
      rw [if_pos (d_t (by omega)), asrt_pos (by omega), he, if_neg (by simp), ob_some, w64_id (by omega) (by omega)]
      rfl
    · have hp := List.length_pos_iff.2 he
      obtain ⟨x, x1, x2⟩ := ih (k + 1) (ar ++ [⟨lget l (k : Int), (k : Int)⟩]) (by omega) (by omega) (hM.push hk' he)
      refine ⟨x, (loopO_inl ?_).trans x1, x2⟩
      unfold merge_each_B3
      dsimp only
      rw [if_pos (d_t (by omega)), asrt_pos (by omega), if_pos (d_t (by omega)), asrt_pos (by simp; omega), ob_some, w64_id (by omega) (by omega), List.length_append, List.length_singleton, List.range_succ]
      rfl
include hs in
/-- lists that are fine, joined -/
theorem joined_eq (hl : l.length ≤ 1000000) (hf : l.flatten.length ≤ 1000000000) : merge_joined l = some (firsts l.flatten) := by
  obtain ⟨x, x1, x2⟩ := make_loop hs hl hf l.length 0 [] (by omega) (by omega) ⟨fun j hj => by simp at hj, fun i j _ hj => by simp at hj, fun r hr => by omega, by simp [G.cnt], by simp⟩
  unfold merge_joined
  have x1' : merge_each l = some x := x1
  rw [x1', ob_some, firsts_is x2]
end G
end Go.Proofs.Ytkbgkkbinnclmaa
