/- Parts of the rows: who has a row; what is put in another's place; what Split and Join say. -/
import Derived.Test.YtdjlninhfndjfaaPPartsA
namespace Go.Proofs.Ytdjlninhfndjfaa
open Go Go.Dm
set_option linter.unusedVariables false
set_option linter.unusedSimpArgs false
namespace G
/- searching -/
theorem half (i j : Nat) (h : i + j ≤ 2000) : w64 (Int.fdiv (IntKind.u64.wrap (w64 ((i : Int) + (j : Int)))) (2 ^ (min (1 : Int).toNat 64))) = (((i + j) / 2 : Nat) : Int) := by
  have e1 : w64 ((i : Int) + (j : Int)) = ((i + j : Nat) : Int) := by rw [w64_id (by omega) (by omega)]; omega
  have e2 : IntKind.u64.wrap ((i + j : Nat) : Int) = ((i + j : Nat) : Int) := by rw [IntKind.wrap_u64]; omega
  have e3 : (2 : Int) ^ (min (1 : Int).toNat 64) = ((2 : Nat) : Int) := by decide
  rw [e1, e2, e3, fdiv_nat', w64_id (by omega) (by omega)]
theorem search_loop (l : List Part) (row : List UInt8) (c : Nat) (hl : l.length ≤ 1000) (hc : c ≤ l.length) (h1 : ∀ j : Nat, j < c → Op.bytesLess row (lget l (j : Int)).From = false) (h2 : ∀ j : Nat, c ≤ j → j < l.length → Op.bytesLess row (lget l (j : Int)).From = true) : ∀ (m i j : Nat), j - i = m → i ≤ c → c ≤ j → j ≤ l.length → sort_Search_L1 l row ((i : Int), (j : Int)) = some (c : Int) := by
  intro m
  induction m using Nat.strongRecOn with
  | _ m ih =>
    intro i j e hi hj hjl
    by_cases hlt : i < j
    · have hh := half i j (by omega)
      obtain ⟨k, hk⟩ : ∃ k, k = (i + j) / 2 := ⟨_, rfl⟩
      have hw : w64 ((k : Int) + 1) = ((k + 1 : Nat) : Int) := by rw [w64_id (by omega) (by omega)]; omega
      rw [← hk] at hh
      by_cases hck : c ≤ k
      · refine (loopO_inl (y := ((i : Int), (k : Int))) ?_).trans (ih (k - i) (by omega) i k rfl hi hck (by omega))
        simp only [sort_Search_B1]
        rw [if_pos (d_t (by omega)), hh]
        dsimp only [lt]
        unfold parts_find_1
        rw [asrt_pos (by omega), ob_some, h2 k hck (by omega)]
        rfl
      · refine (loopO_inl (y := (((k + 1 : Nat) : Int), (j : Int))) ?_).trans (ih (j - (k + 1)) (by omega) (k + 1) j rfl (by omega) hj hjl)
        simp only [sort_Search_B1]
        rw [if_pos (d_t (by omega)), hh]
        dsimp only [lt]
        unfold parts_find_1
        rw [asrt_pos (by omega), ob_some, h1 k (by omega), hw]
        rfl
    · have : c = i := by omega
      subst this
      refine loopO_inr ?_
      simp only [sort_Search_B1]
      rw [if_neg (d_f (by omega))]; rfl
theorem search1_loop (l : List Part) (row : List UInt8) (c : Nat) (hl : l.length ≤ 1000) (hc : c ≤ l.length) (h1 : ∀ j : Nat, j < c → Op.bytesLess (lget l (j : Int)).From row = true) (h2 : ∀ j : Nat, c ≤ j → j < l.length → Op.bytesLess (lget l (j : Int)).From row = false) : ∀ (m i j : Nat), j - i = m → i ≤ c → c ≤ j → j ≤ l.length → sort_Search_v1_L1 l row ((i : Int), (j : Int)) = some (c : Int) := by
  intro m
  induction m using Nat.strongRecOn with
  | _ m ih =>
    intro i j e hi hj hjl
    by_cases hlt : i < j
    · have hh := half i j (by omega)
      obtain ⟨k, hk⟩ : ∃ k, k = (i + j) / 2 := ⟨_, rfl⟩
      have hw : w64 ((k : Int) + 1) = ((k + 1 : Nat) : Int) := by rw [w64_id (by omega) (by omega)]; omega
      rw [← hk] at hh
      by_cases hck : c ≤ k
      · refine (loopO_inl (y := ((i : Int), (k : Int))) ?_).trans (ih (k - i) (by omega) i k rfl hi hck (by omega))
        simp only [sort_Search_v1_B1]
        rw [if_pos (d_t (by omega)), hh]
        dsimp only [lt]
        unfold parts_Meet_1
        rw [asrt_pos (by omega), ob_some, h2 k hck (by omega)]
        rfl
      · refine (loopO_inl (y := (((k + 1 : Nat) : Int), (j : Int))) ?_).trans (ih (j - (k + 1)) (by omega) (k + 1) j rfl (by omega) hj hjl)
        simp only [sort_Search_v1_B1]
        rw [if_pos (d_t (by omega)), hh]
        dsimp only [lt]
        unfold parts_Meet_1
        rw [asrt_pos (by omega), ob_some, h1 k (by omega), hw]
        rfl
    · have : c = i := by omega
      subst this
      refine loopO_inr ?_
      simp only [sort_Search_v1_B1]
      rw [if_neg (d_f (by omega))]; rfl
/- where a row is -/
theorem ch_ge : ∀ {l : List Part} {a : List UInt8}, ch a l → ∀ p ∈ l, Op.bytesLess p.From a = false
  | p :: r, a, h, q, hq => by
    rcases List.mem_cons.1 hq with rfl | hq
    · rw [h.1, bl_irr]
    · rcases h.2 with h2 | h2
      · rw [h2.1] at hq; cases hq
      · have h3 := ch_ge h2.2.2 q hq
        have h4 := h2.2.1
        rw [h.1] at h4
        cases h5 : Op.bytesLess q.From a with
        | false => rfl
        | true =>
          have := bl_trans h5 h4
          rw [h3] at this; cases this
theorem ch_lget {l : List Part} {a : List UInt8} (h : ch a l) (j : Nat) (hj : j < l.length) : Op.bytesLess (lget l (j : Int)).From a = false := ch_ge h _ (lget_mem l (j : Int) (by omega))
theorem lget_cons (p : Part) (l : List Part) (j : Nat) : lget (p :: l) ((j + 1 : Nat) : Int) = lget l (j : Int) := by simp [lget]
theorem lget_zero (p : Part) (l : List Part) : lget (p :: l) ((0 : Nat) : Int) = p := rfl
def inP (p : Part) (row : List UInt8) : Prop := Op.bytesLess row p.From = false ∧ (p.To = [] ∨ Op.bytesLess row p.To = true)
theorem inPart_eq (p : Part) (row : List UInt8) : R_InPart p row = true ↔ inP p row := by
  unfold R_InPart inP lt; simp
theorem ch_find : ∀ {l : List Part} {a : List UInt8} (row : List UInt8), ch a l → Op.bytesLess row a = false → ∃ k : Nat, k < l.length ∧ ∀ j : Nat, j < l.length → (Op.bytesLess row (lget l (j : Int)).From = false ↔ j ≤ k) ∧ (((lget l (j : Int)).To = [] ∨ Op.bytesLess row (lget l (j : Int)).To = true) ↔ k ≤ j)
  | p :: r, a, row, h, hr => by
    obtain ⟨h1, h2⟩ := h
    by_cases c : p.To = [] ∨ Op.bytesLess row p.To = true
    · refine ⟨0, by simp, fun j hj => ?_⟩
      match j with
      | 0 => rw [lget_zero]; exact ⟨by rw [h1, hr]; simp, by simp [c]⟩
      | j + 1 =>
        rw [lget_cons]
        have hj' : j < r.length := by simpa using hj
        rcases h2 with h2 | ⟨h2, h3, h4⟩
        · rw [h2.1] at hj'; simp at hj'
        · have h5 : Op.bytesLess row p.To = true := by
            rcases c with c | c
            · rw [c, bl_nil] at h3; cases h3
            · exact c
          have h6 := ch_lget h4 j hj'
          have h7 : Op.bytesLess row (lget r (j : Int)).From = true := by
            rcases bl_tri p.To (lget r (j : Int)).From with g | g | g
            · exact bl_trans h5 g
            · rw [← g]; exact h5
            · rw [h6] at g; cases g
          refine ⟨by rw [h7]; simp, ?_⟩
          have h8 : (lget r (j : Int)).To = [] ∨ Op.bytesLess row (lget r (j : Int)).To = true := by
            have : ∀ {r : List Part} {a : List UInt8}, ch a r → ∀ q ∈ r, q.To = [] ∨ Op.bytesLess q.From q.To = true := by
              intro r
              induction r with
              | nil => intro a h; cases h
              | cons x r ih =>
                intro a h q hq
                rcases List.mem_cons.1 hq with rfl | hq
                · rcases h.2 with g | g
                  · exact .inl g.2
                  · exact .inr g.2.1
                · rcases h.2 with g | g
                  · rw [g.1] at hq; cases hq
                  · exact ih g.2.2 q hq
            rcases this h4 _ (lget_mem r (j : Int) (by omega)) with g | g
            · exact .inl g
            · exact .inr (bl_trans h7 g)
          exact ⟨fun _ => by omega, fun _ => h8⟩
    · rcases h2 with h2 | ⟨h2, h3, h4⟩
      · exact absurd (.inl h2.2) c
      · have hf : Op.bytesLess row p.To = false := by
          cases h5 : Op.bytesLess row p.To with
          | false => rfl
          | true => exact absurd (.inr h5) c
        obtain ⟨k, hk, hall⟩ := ch_find row h4 hf
        refine ⟨k + 1, by simpa using hk, fun j hj => ?_⟩
        match j with
        | 0 =>
          rw [lget_zero]
          exact ⟨by rw [h1, hr]; simp, by simp [c]⟩
        | j + 1 =>
          rw [lget_cons]
          obtain ⟨g1, g2⟩ := hall j (by simpa using hj)
          exact ⟨g1.trans (by omega), g2.trans (by omega)⟩
theorem ch_to : ∀ {l : List Part} {a : List UInt8} (to : List UInt8), ch a l → ∃ b : Nat, b ≤ l.length ∧ ∀ j : Nat, j < l.length → (Op.bytesLess (lget l (j : Int)).From to = true ↔ j < b)
  | p :: r, a, to, h => by
    obtain ⟨h1, h2⟩ := h
    by_cases c : Op.bytesLess p.From to = true
    · rcases h2 with h2 | ⟨h2, h3, h4⟩
      · refine ⟨1, by simp, fun j hj => ?_⟩
        rw [h2.1] at hj ⊢
        have : j = 0 := by simp at hj; omega
        subst this
        rw [lget_zero]; simp [c]
      · obtain ⟨b, hb, hall⟩ := ch_to to h4
        refine ⟨b + 1, by simpa using hb, fun j hj => ?_⟩
        match j with
        | 0 => rw [lget_zero]; simp [c]
        | j + 1 =>
          rw [lget_cons]
          exact (hall j (by simpa using hj)).trans (by omega)
    · refine ⟨0, by simp, fun j hj => ?_⟩
      have h5 := ch_lget (l := p :: r) (a := a) ⟨h1, h2⟩ j hj
      have h6 : Op.bytesLess (lget (p :: r) (j : Int)).From to = false := by
        cases h7 : Op.bytesLess (lget (p :: r) (j : Int)).From to with
        | false => rfl
        | true =>
          rw [h1] at c
          rcases bl_tri a (lget (p :: r) (j : Int)).From with g | g | g
          · exact absurd (bl_trans g h7) c
          · rw [← g] at h7; exact absurd h7 c
          · rw [h5] at g; cases g
      rw [h6]; simp
theorem find_at {l : List Part} (hg : PGood l) (row : List UInt8) : ∃ k : Nat, k < l.length ∧ parts_find l row = some (k : Int) ∧ ∀ j : Nat, j < l.length → (Op.bytesLess row (lget l (j : Int)).From = false ↔ j ≤ k) ∧ (((lget l (j : Int)).To = [] ∨ Op.bytesLess row (lget l (j : Int)).To = true) ↔ k ≤ j) := by
  obtain ⟨k, hk, hall⟩ := ch_find row hg.ch (bl_nil row)
  have hlen := hg.len
  refine ⟨k, hk, ?_, hall⟩
  have := search_loop l row (k + 1) (by omega) hk (fun j hj => ((hall j (by omega)).1).2 (by omega)) (fun j h1 h2 => by
    cases h3 : Op.bytesLess row (lget l (j : Int)).From with
    | true => rfl
    | false => have := ((hall j h2).1).1 h3; omega) l.length 0 l.length (by omega) (by omega) hk (by omega)
  have h0 : ((0 : Nat) : Int) = 0 := rfl
  rw [h0] at this
  unfold parts_find sort_Search
  rw [this, ob_some]
  have hw : w64 (((k + 1 : Nat) : Int) - 1) = (k : Int) := by rw [w64_id (by omega) (by omega)]; omega
  rw [hw]
theorem find_in {l : List Part} {row : List UInt8} {k : Nat} (hall : ∀ j : Nat, j < l.length → (Op.bytesLess row (lget l (j : Int)).From = false ↔ j ≤ k) ∧ (((lget l (j : Int)).To = [] ∨ Op.bytesLess row (lget l (j : Int)).To = true) ↔ k ≤ j)) (j : Nat) (hj : j < l.length) : R_InPart (lget l (j : Int)) row = decide (j = k) := by
  rw [Bool.eq_iff_iff, inPart_eq]
  unfold inP
  rw [(hall j hj).1, (hall j hj).2]
  simp; omega
/- others -/
def hasID (l : List Part) (id : Int) : Bool := l.any fun p => decide (p.ID = id)
theorem idx_loop (l : List Part) (id : Int) (hl : l.length ≤ 1000) : ∀ (m n : Nat), l.length - n = m → n ≤ l.length → ∃ r, slices_IndexFunc_api_Part_api_Part_L1 l id (n : Int) = some r ∧ (0 ≤ r ↔ hasID (l.drop n) id = true)
  | 0, n, hm, hn => by
    have : n = l.length := by omega
    subst this
    refine ⟨-1, loopO_inr ?_, by simp [hasID]⟩
    simp only [slices_IndexFunc_api_Part_api_Part_B1]
    rw [if_neg (d_f (by omega))]; rfl
  | m + 1, n, hm, hn => by
    have hlt : n < l.length := by omega
    have hw : w64 ((n : Int) + 1) = ((n + 1 : Nat) : Int) := by rw [w64_id (by omega) (by omega)]; omega
    rw [lget_drop l n hlt]
    by_cases c : (lget l (n : Int)).ID = id
    · refine ⟨n, loopO_inr ?_, by simp [hasID, c]⟩
      simp only [slices_IndexFunc_api_Part_api_Part_B1]
      rw [if_pos (d_t (by omega)), asrt_pos (by omega)]
      dsimp only [lt, parts_others_1]
      rw [if_pos (d_t c)]
    · obtain ⟨r, h1, h2⟩ := idx_loop l id hl m (n + 1) (by omega) (by omega)
      refine ⟨r, (loopO_inl (y := ((n + 1 : Nat) : Int)) ?_).trans h1, h2.trans (by simp [hasID, c])⟩
      simp only [slices_IndexFunc_api_Part_api_Part_B1]
      rw [if_pos (d_t (by omega)), asrt_pos (by omega)]
      dsimp only [lt, parts_others_1]
      rw [if_neg (d_f c), hw]
theorem idx1_eq (l : List Part) (id : Int) : slices_IndexFunc_api_Part_api_Part_v1 l id = slices_IndexFunc_api_Part_api_Part l id := rfl
theorem contains_eq (l : List Part) (id : Int) (hl : l.length ≤ 1000) : slices_ContainsFunc_api_Part_api_Part l id = some (hasID l id) := by
  obtain ⟨r, h1, h2⟩ := idx_loop l id hl l.length 0 (by omega) (by omega)
  have h0 : ((0 : Nat) : Int) = 0 := rfl
  rw [h0] at h1
  unfold slices_ContainsFunc_api_Part_api_Part slices_IndexFunc_api_Part_api_Part
  rw [h1, ob_some, List.drop_zero] at *
  rw [show decide (0 ≤ r) = hasID l id by rw [Bool.eq_iff_iff, decide_eq_true_eq]; exact h2]
theorem contains1_eq (l : List Part) (id : Int) (hl : l.length ≤ 1000) : slices_ContainsFunc_api_Part_api_Part_v1 l id = some (hasID l id) := contains_eq l id hl
theorem others_eq (l : List Part) (a b : Nat) (id : Int) (hl : l.length ≤ 1000) (ha : a ≤ l.length) (hb : b ≤ l.length) : parts_others l (a : Int) (b : Int) id = some (hasID (l.take a ++ l.drop b) id) := by
  unfold parts_others
  rw [asrt_pos (by omega), ltake_nat, ldrop_nat, contains_eq _ _ (by simp; omega), ob_some, asrt_pos (fun _ => by omega), contains1_eq _ _ (by simp; omega)]
  have e : hasID (l.take a ++ l.drop b) id = (hasID (l.take a) id || hasID (l.drop b) id) := by unfold hasID; rw [List.any_append]
  rw [e]
  cases hasID (l.take a) id
  · rw [if_pos (by decide), ob_some]
  · rw [if_neg (by decide), ob_some]; rfl
theorem hid_loop (l : List Part) (a n : Nat) (id : Int) (hl : l.length ≤ 1000) (ha : a ≤ l.length) (hn : n ≤ 10) : ∀ (m i : Nat), l.length - i = m → i ≤ l.length → R_HasID_L1 l (a : Int) (n : Int) id (i : Int) = some (hasID ((l.take a).drop i ++ l.drop (max (a + n) i)) id)
  | 0, i, hm, hi => by
    have : i = l.length := by omega
    subst this
    refine loopO_inr ?_
    simp only [R_HasID_B1]
    rw [if_neg (d_f (by omega))]
    have e1 : (l.take a).drop l.length = [] := by rw [List.drop_eq_nil_iff]; simp; omega
    have e2 : l.drop (max (a + n) l.length) = [] := by rw [List.drop_eq_nil_iff]; omega
    rw [e1, e2]; rfl
  | m + 1, i, hm, hi => by
    have hlt : i < l.length := by omega
    have hw : w64 ((i : Int) + 1) = ((i + 1 : Nat) : Int) := by rw [w64_id (by omega) (by omega)]; omega
    have hw2 : w64 ((a : Int) + (n : Int)) = ((a + n : Nat) : Int) := by rw [w64_id (by omega) (by omega)]; omega
    have ih := hid_loop l a n id hl ha hn m (i + 1) (by omega) (by omega)
    by_cases c : (i < a ∨ a + n ≤ i)
    · have e : hasID ((l.take a).drop i ++ l.drop (max (a + n) i)) id = (decide ((lget l (i : Int)).ID = id) || hasID ((l.take a).drop (i + 1) ++ l.drop (max (a + n) (i + 1))) id) := by
        by_cases c1 : i < a
        · have hlt2 : i < (l.take a).length := by simp; omega
          have e1 : (l.take a).drop i = lget l (i : Int) :: (l.take a).drop (i + 1) := by
            rw [lget_drop _ i hlt2]
            have := lget_ltake l (a : Int) (i : Int) (by omega)
            rw [ltake_nat] at this
            rw [this]
          have e2 : max (a + n) (i + 1) = max (a + n) i := by omega
          rw [e1, e2]; simp [hasID]
        · have e1 : ∀ i, a ≤ i → (l.take a).drop i = [] := fun i h => by rw [List.drop_eq_nil_iff]; simp; omega
          have e2 : max (a + n) i = i := by omega
          have e3 : max (a + n) (i + 1) = i + 1 := by omega
          rw [e1 i (by omega), e1 (i + 1) (by omega), e2, e3, lget_drop l i hlt]; simp [hasID]
      rw [e]
      by_cases c2 : (lget l (i : Int)).ID = id
      · rw [decide_eq_true c2]
        refine loopO_inr ?_
        simp only [R_HasID_B1]
        rw [if_pos (d_t (by omega)), asrt_pos (by omega), hw2, if_pos]
        · rfl
        · rw [decide_eq_true c2]; simp; omega
      · rw [decide_eq_false c2, Bool.false_or]
        refine (loopO_inl (y := ((i + 1 : Nat) : Int)) ?_).trans ih
        simp only [R_HasID_B1]
        rw [if_pos (d_t (by omega)), asrt_pos (by omega), hw2, if_neg, hw]
        rw [decide_eq_false c2]; simp
    · have e1 : ∀ i, a ≤ i → (l.take a).drop i = [] := fun i h => by rw [List.drop_eq_nil_iff]; simp; omega
      have e2 : max (a + n) i = max (a + n) (i + 1) := by omega
      rw [e1 i (by omega), e2]
      rw [e1 (i + 1) (by omega)] at ih
      refine (loopO_inl (y := ((i + 1 : Nat) : Int)) ?_).trans ih
      simp only [R_HasID_B1]
      rw [if_pos (d_t (by omega)), asrt_pos (by omega), hw2, if_neg, hw]
      have c3 : ¬ (i : Int) < (a : Int) := by omega
      have c4 : ¬ ((a + n : Nat) : Int) ≤ (i : Int) := by omega
      rw [decide_eq_false c3, decide_eq_false c4]; simp
theorem hid_eq (l : List Part) (a n : Nat) (id : Int) (hl : l.length ≤ 1000) (ha : a ≤ l.length) (hn : n ≤ 10) : R_HasID l (a : Int) (n : Int) id = some (hasID (l.take a ++ l.drop (a + n)) id) := by
  have := hid_loop l a n id hl ha hn l.length 0 (by omega) (by omega)
  have h0 : ((0 : Nat) : Int) = 0 := rfl
  rw [h0, List.drop_zero, Nat.max_zero] at this
  exact this
/- Concat, Instead -/
theorem cat_L1 (ls : List (List Part)) (hl : ls.flatten.length ≤ 100000) (hn : ls.length ≤ 1000) : ∀ (m n : Nat) (acc : List Part), ls.length - n = m → n ≤ ls.length → acc ++ (ls.drop n).flatten = ls.flatten → slices_Concat_api_Part_api_Part_L1 ls (acc, (n : Int)) = some ls.flatten
  | 0, n, acc, hm, hi, he => by
    have : n = ls.length := by omega
    subst this
    refine loopO_inr ?_
    simp only [slices_Concat_api_Part_api_Part_B1]
    rw [if_neg (d_f (by omega)), ← he]
    simp [slices_Concat_api_Part_api_Part_J2, inrO]
  | m + 1, n, acc, hm, hi, he => by
    have hlt : n < ls.length := by omega
    have hw : w64 ((n : Int) + 1) = ((n + 1 : Nat) : Int) := by rw [w64_id (by omega) (by omega)]; omega
    rw [lget_drop ls n hlt, List.flatten_cons, ← List.append_assoc] at he
    refine (loopO_inl (y := (acc ++ lget ls (n : Int), ((n + 1 : Nat) : Int))) ?_).trans (cat_L1 ls hl hn m (n + 1) _ (by omega) (by omega) he)
    have h2 := congrArg List.length he
    rw [List.length_append] at h2
    simp only [slices_Concat_api_Part_api_Part_B1]
    rw [if_pos (d_t (by omega)), asrt_pos (by omega), asrt_pos (by omega), hw]
theorem grow_eq (n : Nat) (h : n ≤ 100000) : slices_Grow_api_Part_api_Part_v1 (n : Int) = some [] := by
  have hw : w64 ((n : Int) - w64 (0 - 0)) = (n : Int) := by
    have : w64 (0 - 0) = 0 := by decide
    rw [this, w64_id (by omega) (by omega)]; omega
  unfold slices_Grow_api_Part_api_Part_v1
  rw [hw, if_neg (d_f (by omega)), ob_some]
  by_cases h0 : n = 0
  · subst h0; rfl
  · rw [if_pos (d_t (by omega)), asrt_pos (by simp; omega), asrt_pos (by simp)]
    dsimp only [lt]
    rw [asrt_pos (show Int.toNat 0 ≤ _ from Nat.zero_le _)]; rfl
theorem cat_L2 (ls : List (List Part)) (hl : ls.flatten.length ≤ 100000) (hn : ls.length ≤ 1000) : ∀ (m n : Nat) (s : Nat), ls.length - n = m → n ≤ ls.length → s + (ls.drop n).flatten.length = ls.flatten.length → slices_Concat_api_Part_api_Part_L2 ls ((s : Int), (n : Int)) = some ls.flatten
  | 0, n, s, hm, hi, he => by
    have : n = ls.length := by omega
    subst this
    refine loopO_inr ?_
    simp only [slices_Concat_api_Part_api_Part_B2]
    rw [if_neg (d_f (by omega))]
    unfold slices_Concat_api_Part_api_Part_J1
    rw [grow_eq s (by omega), ob_some]
    have := cat_L1 ls hl hn ls.length 0 [] (by omega) (by omega) (by simp)
    have h0 : ((0 : Nat) : Int) = 0 := rfl
    rw [h0] at this
    rw [this]; rfl
  | m + 1, n, s, hm, hi, he => by
    have hlt : n < ls.length := by omega
    have hw : w64 ((n : Int) + 1) = ((n + 1 : Nat) : Int) := by rw [w64_id (by omega) (by omega)]; omega
    rw [lget_drop ls n hlt, List.flatten_cons, List.length_append] at he
    have hw2 : w64 ((s : Int) + ((lget ls (n : Int)).length : Int)) = ((s + (lget ls (n : Int)).length : Nat) : Int) := by rw [w64_id (by omega) (by omega)]; omega
    refine (loopO_inl (y := (((s + (lget ls (n : Int)).length : Nat) : Int), ((n + 1 : Nat) : Int))) ?_).trans (cat_L2 ls hl hn m (n + 1) _ (by omega) (by omega) (by omega))
    simp only [slices_Concat_api_Part_api_Part_B2, hw2]
    rw [if_pos (d_t (by omega)), asrt_pos (by omega), if_neg (d_f (by omega)), ob_some, hw]
theorem cat_eq (ls : List (List Part)) (hl : ls.flatten.length ≤ 100000) (hn : ls.length ≤ 1000) : slices_Concat_api_Part_api_Part ls = some ls.flatten := by
  have := cat_L2 ls hl hn ls.length 0 0 (by omega) (by omega) (by simp)
  exact this
theorem part_eta (p : Part) : (⟨p.From, p.To, p.ID⟩ : Part) = p := rfl
theorem ins_L1 (l : List Part) (hl : l.length ≤ 1000) : ∀ (m n : Nat) (acc : List Part), l.length - n = m → acc.length ≤ 1000 + n → R_Instead_v1_L1 l (acc, (n : Int)) = some (acc ++ l.drop n)
  | 0, n, acc, hm, ha => by
    refine loopO_inr ?_
    simp only [R_Instead_v1_B1]
    rw [if_neg (d_f (by omega)), List.drop_eq_nil_of_le (by omega)]
    simp [R_Instead_v1_J2, inrO]
  | m + 1, n, acc, hm, ha => by
    have hlt : n < l.length := by omega
    have hw : w64 ((n : Int) + 1) = ((n + 1 : Nat) : Int) := by rw [w64_id (by omega) (by omega)]; omega
    have ih := ins_L1 l hl m (n + 1) (acc ++ [lget l (n : Int)]) (by omega) (by simp; omega)
    rw [lget_drop l n hlt]
    refine (loopO_inl (y := (acc ++ [lget l (n : Int)], ((n + 1 : Nat) : Int))) ?_).trans (ih.trans (by simp))
    simp only [R_Instead_v1_B1, part_eta]
    rw [if_pos (d_t (by omega)), asrt_pos (by omega), asrt_pos (by simp; omega), hw]; rfl
theorem ins_L2 (l : List Part) (a n : Nat) (bs : List Part) (hl : l.length ≤ 1000) (ha : a ≤ l.length) (hn : n ≤ 10) (hb : bs.length ≤ 10) : ∀ (m i : Nat), a - i = m → i ≤ a → R_Instead_v1_L2 l (a : Int) (n : Int) bs (l.take i, (i : Int)) = some (l.take a ++ bs ++ l.drop (a + n))
  | 0, i, hm, hi => by
    have : i = a := by omega
    subst this
    have hw : w64 ((i : Int) + (n : Int)) = ((i + n : Nat) : Int) := by rw [w64_id (by omega) (by omega)]; omega
    refine loopO_inr ?_
    simp only [R_Instead_v1_B2]
    rw [if_neg (d_f (by omega))]
    unfold R_Instead_v1_J1
    rw [asrt_pos (by simp; omega), hw, ins_L1 l hl (l.length - (i + n)) (i + n) _ rfl (by simp; omega)]; rfl
  | m + 1, i, hm, hi => by
    have hlt : i < l.length := by omega
    have hw : w64 ((i : Int) + 1) = ((i + 1 : Nat) : Int) := by rw [w64_id (by omega) (by omega)]; omega
    refine (loopO_inl (y := (l.take (i + 1), ((i + 1 : Nat) : Int))) ?_).trans (ins_L2 l a n bs hl ha hn hb m (i + 1) (by omega) (by omega))
    simp only [R_Instead_v1_B2, part_eta]
    rw [if_pos (d_t (by omega)), asrt_pos (by omega), asrt_pos (by simp; omega), hw, lget_take l i hlt]; rfl
theorem ins_eq (l : List Part) (a n : Nat) (bs : List Part) (hl : l.length ≤ 1000) (ha : a ≤ l.length) (hn : n ≤ 10) (hb : bs.length ≤ 10) : R_Instead_v1 l (a : Int) (n : Int) bs = some (l.take a ++ bs ++ l.drop (a + n)) :=
  ins_L2 l a n bs hl ha hn hb a 0 (by omega) (by omega)
theorem same_loop (a b : List Part) (hl : a.length ≤ 100000) (hb : a.length = b.length) : ∀ (m n : Nat), a.length - n = m → n ≤ a.length → ∃ r, R_SameParts_L1 a b (n : Int) = some r ∧ (r = true ↔ a.drop n = b.drop n)
  | 0, n, hm, hn => by
    have : n = a.length := by omega
    subst this
    refine ⟨true, loopO_inr ?_, by simp [hb]⟩
    simp only [R_SameParts_B1]
    rw [if_neg (d_f (by omega))]; rfl
  | m + 1, n, hm, hn => by
    have hlt : n < a.length := by omega
    have hw : w64 ((n : Int) + 1) = ((n + 1 : Nat) : Int) := by rw [w64_id (by omega) (by omega)]; omega
    rw [lget_drop a n hlt, lget_drop b n (by omega)]
    by_cases c : lget a (n : Int) = lget b (n : Int)
    · obtain ⟨r, h1, h2⟩ := same_loop a b hl hb m (n + 1) (by omega) (by omega)
      refine ⟨r, (loopO_inl (y := ((n + 1 : Nat) : Int)) ?_).trans h1, h2.trans (by rw [c]; simp)⟩
      simp only [R_SameParts_B1]
      rw [if_pos (d_t (by omega)), asrt_pos (by omega), asrt_pos (by omega), if_neg (by rw [c]; simp), hw]
    · refine ⟨false, loopO_inr ?_, by simp [c]⟩
      simp only [R_SameParts_B1]
      rw [if_pos (d_t (by omega)), asrt_pos (by omega), asrt_pos (by omega), if_pos]
      cases hx : lget a (n : Int) with
      | mk f t i =>
        cases hy : lget b (n : Int) with
        | mk f' t' i' =>
          rw [hx, hy] at c
          simp only [Part.mk.injEq, not_and] at c
          by_cases g1 : f = f'
          · by_cases g2 : t = t'
            · have := c g1 g2
              simp [this]
            · simp [g2]
          · simp [g1]
theorem same_self (a : List Part) (hl : a.length ≤ 100000) : R_SameParts a a = some true := by
  obtain ⟨r, h1, h2⟩ := same_loop a a hl rfl a.length 0 (by omega) (by omega)
  have h0 : ((0 : Nat) : Int) = 0 := rfl
  rw [h0] at h1
  unfold R_SameParts
  rw [if_neg (by simp), h1, h2.2 rfl]
end G
end Go.Proofs.Ytdjlninhfndjfaa
