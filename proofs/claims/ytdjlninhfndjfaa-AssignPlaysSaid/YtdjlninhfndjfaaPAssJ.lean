/- Assign: what parts.Split says (as in PPartsB, PPartsC). -/
import Derived.Test.YtdjlninhfndjfaaPAssI
namespace Go.Proofs.Ytdjlninhfndjfaa
open Go Go.Dm
set_option linter.unusedVariables false
set_option linter.unusedSimpArgs false
namespace G
theorem half (i j : Nat) (h : i + j ≤ 2000) : w64 (Int.fdiv (IntKind.u64.wrap (w64 ((i : Int) + (j : Int)))) (2 ^ (min (1 : Int).toNat 64))) = (((i + j) / 2 : Nat) : Int) := by
  have e1 : w64 ((i : Int) + (j : Int)) = ((i + j : Nat) : Int) := by rw [w64_id (by omega) (by omega)]; omega
  have e2 : IntKind.u64.wrap ((i + j : Nat) : Int) = ((i + j : Nat) : Int) := by rw [IntKind.wrap_u64]; omega
  have e3 : (2 : Int) ^ (min (1 : Int).toNat 64) = ((2 : Nat) : Int) := by decide
  rw [e1, e2, e3, fdiv_nat', w64_id (by omega) (by omega)]
theorem search_loop (l : List Part) (row : List UInt8) (c : Nat) (hl : l.length ≤ 1000) (hc : c ≤ l.length) (h1 : ∀ j : Nat, j < c → Op.bytesLess row (lget l (j : Int)).From = false) (h2 : ∀ j : Nat, c ≤ j → j < l.length → Op.bytesLess row (lget l (j : Int)).From = true) : ∀ (m i j : Nat), j - i = m → i ≤ c → c ≤ j → j ≤ l.length → sort_Search_L1 l row ((i : Int), (j : Int)) = some (c : Int) := by
  intro m
  induction m using Nat.strongRecOn with
  | _ m ih =>
    intro i j e hi hj hjl
    by_cases hlt : i < j
    · have hh := half i j (by omega)
      obtain ⟨k, hk⟩ : ∃ k, k = (i + j) / 2 := ⟨_, rfl⟩
      have hw : w64 ((k : Int) + 1) = ((k + 1 : Nat) : Int) := by rw [w64_id (by omega) (by omega)]; omega
      rw [← hk] at hh
      by_cases hck : c ≤ k
      · refine (loopO_inl (y := ((i : Int), (k : Int))) ?_).trans (ih (k - i) (by omega) i k rfl hi hck (by omega))
        simp only [sort_Search_B1]
        rw [if_pos (d_t (by omega)), hh]
        dsimp only [lt]
        unfold parts_find_1
        rw [asrt_pos (by omega), ob_some, h2 k hck (by omega)]
        rfl
      · refine (loopO_inl (y := (((k + 1 : Nat) : Int), (j : Int))) ?_).trans (ih (j - (k + 1)) (by omega) (k + 1) j rfl (by omega) hj hjl)
        simp only [sort_Search_B1]
        rw [if_pos (d_t (by omega)), hh]
        dsimp only [lt]
        unfold parts_find_1
        rw [asrt_pos (by omega), ob_some, h1 k (by omega), hw]
        rfl
    · have : c = i := by omega
      subst this
      refine loopO_inr ?_
      simp only [sort_Search_B1]
      rw [if_neg (d_f (by omega))]; rfl
theorem ch_ge : ∀ {l : List Part} {a : List UInt8}, ch a l → ∀ p ∈ l, Op.bytesLess p.From a = false
  | p :: r, a, h, q, hq => by
    rcases List.mem_cons.1 hq with rfl | hq
    · rw [h.1, bl_irr]
    · rcases h.2 with h2 | h2
      · rw [h2.1] at hq; cases hq
      · have h3 := ch_ge h2.2.2 q hq
        have h4 := h2.2.1
        rw [h.1] at h4
        cases h5 : Op.bytesLess q.From a with
        | false => rfl
        | true =>
          have := bl_trans h5 h4
          rw [h3] at this; cases this
theorem ch_lget {l : List Part} {a : List UInt8} (h : ch a l) (j : Nat) (hj : j < l.length) : Op.bytesLess (lget l (j : Int)).From a = false := ch_ge h _ (lget_mem l (j : Int) (by omega))
theorem lget_cons (p : Part) (l : List Part) (j : Nat) : lget (p :: l) ((j + 1 : Nat) : Int) = lget l (j : Int) := by simp [lget]
theorem lget_zero (p : Part) (l : List Part) : lget (p :: l) ((0 : Nat) : Int) = p := rfl
theorem ch_find : ∀ {l : List Part} {a : List UInt8} (row : List UInt8), ch a l → Op.bytesLess row a = false → ∃ k : Nat, k < l.length ∧ ∀ j : Nat, j < l.length → (Op.bytesLess row (lget l (j : Int)).From = false ↔ j ≤ k) ∧ (((lget l (j : Int)).To = [] ∨ Op.bytesLess row (lget l (j : Int)).To = true) ↔ k ≤ j)
  | p :: r, a, row, h, hr => by
    obtain ⟨h1, h2⟩ := h
    by_cases c : p.To = [] ∨ Op.bytesLess row p.To = true
    · refine ⟨0, by simp, fun j hj => ?_⟩
      match j with
      | 0 => rw [lget_zero]; exact ⟨by rw [h1, hr]; simp, by simp [c]⟩
      | j + 1 =>
        rw [lget_cons]
        have hj' : j < r.length := by simpa using hj
        rcases h2 with h2 | ⟨h2, h3, h4⟩
        · rw [h2.1] at hj'; simp at hj'
        · have h5 : Op.bytesLess row p.To = true := by
            rcases c with c | c
            · rw [c, bl_nil] at h3; cases h3
            · exact c
          have h6 := ch_lget h4 j hj'
          have h7 : Op.bytesLess row (lget r (j : Int)).From = true := by
            rcases bl_tri p.To (lget r (j : Int)).From with g | g | g
            · exact bl_trans h5 g
            · rw [← g]; exact h5
            · rw [h6] at g; cases g
          refine ⟨by rw [h7]; simp, ?_⟩
          have h8 : (lget r (j : Int)).To = [] ∨ Op.bytesLess row (lget r (j : Int)).To = true := by
            have : ∀ {r : List Part} {a : List UInt8}, ch a r → ∀ q ∈ r, q.To = [] ∨ Op.bytesLess q.From q.To = true := by
              intro r
              induction r with
              | nil => intro a h; cases h
              | cons x r ih =>
                intro a h q hq
                rcases List.mem_cons.1 hq with rfl | hq
                · rcases h.2 with g | g
                  · exact .inl g.2
                  · exact .inr g.2.1
                · rcases h.2 with g | g
                  · rw [g.1] at hq; cases hq
                  · exact ih g.2.2 q hq
            rcases this h4 _ (lget_mem r (j : Int) (by omega)) with g | g
            · exact .inl g
            · exact .inr (bl_trans h7 g)
          exact ⟨fun _ => by omega, fun _ => h8⟩
    · rcases h2 with h2 | ⟨h2, h3, h4⟩
      · exact absurd (.inl h2.2) c
      · have hf : Op.bytesLess row p.To = false := by
          cases h5 : Op.bytesLess row p.To with
          | false => rfl
          | true => exact absurd (.inr h5) c
        obtain ⟨k, hk, hall⟩ := ch_find row h4 hf
        refine ⟨k + 1, by simpa using hk, fun j hj => ?_⟩
        match j with
        | 0 =>
          rw [lget_zero]
          exact ⟨by rw [h1, hr]; simp, by simp [c]⟩
        | j + 1 =>
          rw [lget_cons]
          obtain ⟨g1, g2⟩ := hall j (by simpa using hj)
          exact ⟨g1.trans (by omega), g2.trans (by omega)⟩
theorem find_at {l : List Part} (hg : PGood l) (row : List UInt8) : ∃ k : Nat, k < l.length ∧ parts_find l row = some (k : Int) ∧ ∀ j : Nat, j < l.length → (Op.bytesLess row (lget l (j : Int)).From = false ↔ j ≤ k) ∧ (((lget l (j : Int)).To = [] ∨ Op.bytesLess row (lget l (j : Int)).To = true) ↔ k ≤ j) := by
  obtain ⟨k, hk, hall⟩ := ch_find row hg.ch (bl_nil row)
  have hlen := hg.len
  refine ⟨k, hk, ?_, hall⟩
  have := search_loop l row (k + 1) (by omega) hk (fun j hj => ((hall j (by omega)).1).2 (by omega)) (fun j h1 h2 => by
    cases h3 : Op.bytesLess row (lget l (j : Int)).From with
    | true => rfl
    | false => have := ((hall j h2).1).1 h3; omega) l.length 0 l.length (by omega) (by omega) hk (by omega)
  have h0 : ((0 : Nat) : Int) = 0 := rfl
  rw [h0] at this
  unfold parts_find sort_Search
  rw [this, ob_some]
  have hw : w64 (((k + 1 : Nat) : Int) - 1) = (k : Int) := by rw [w64_id (by omega) (by omega)]; omega
  rw [hw]
theorem find_in {l : List Part} {row : List UInt8} {k : Nat} (hall : ∀ j : Nat, j < l.length → (Op.bytesLess row (lget l (j : Int)).From = false ↔ j ≤ k) ∧ (((lget l (j : Int)).To = [] ∨ Op.bytesLess row (lget l (j : Int)).To = true) ↔ k ≤ j)) (j : Nat) (hj : j < l.length) : hasP (lget l (j : Int)) row ↔ j = k := by
  unfold hasP
  rw [(hall j hj).1, (hall j hj).2]
  omega
def hasID (l : List Part) (id : Int) : Bool := l.any fun p => decide (p.ID = id)
theorem idx_loop (l : List Part) (id : Int) (hl : l.length ≤ 1000) : ∀ (m n : Nat), l.length - n = m → n ≤ l.length → ∃ r, slices_IndexFunc_api_Part_api_Part_L1 l id (n : Int) = some r ∧ (0 ≤ r ↔ hasID (l.drop n) id = true)
  | 0, n, hm, hn => by
    have : n = l.length := by omega
    subst this
    refine ⟨-1, loopO_inr ?_, by simp [hasID]⟩
    simp only [slices_IndexFunc_api_Part_api_Part_B1]
    rw [if_neg (d_f (by omega))]; rfl
  | m + 1, n, hm, hn => by
    have hlt : n < l.length := by omega
    have hw : w64 ((n : Int) + 1) = ((n + 1 : Nat) : Int) := by rw [w64_id (by omega) (by omega)]; omega
    rw [lget_drop l n hlt]
    by_cases c : (lget l (n : Int)).ID = id
    · refine ⟨n, loopO_inr ?_, by simp [hasID, c]⟩
      simp only [slices_IndexFunc_api_Part_api_Part_B1]
      rw [if_pos (d_t (by omega)), asrt_pos (by omega)]
      dsimp only [lt, parts_others_1]
      rw [if_pos (d_t c)]
    · obtain ⟨r, h1, h2⟩ := idx_loop l id hl m (n + 1) (by omega) (by omega)
      refine ⟨r, (loopO_inl (y := ((n + 1 : Nat) : Int)) ?_).trans h1, h2.trans (by simp [hasID, c])⟩
      simp only [slices_IndexFunc_api_Part_api_Part_B1]
      rw [if_pos (d_t (by omega)), asrt_pos (by omega)]
      dsimp only [lt, parts_others_1]
      rw [if_neg (d_f c), hw]
theorem idx1_eq (l : List Part) (id : Int) : slices_IndexFunc_api_Part_api_Part_v1 l id = slices_IndexFunc_api_Part_api_Part l id := rfl
theorem contains_eq (l : List Part) (id : Int) (hl : l.length ≤ 1000) : slices_ContainsFunc_api_Part_api_Part l id = some (hasID l id) := by
  obtain ⟨r, h1, h2⟩ := idx_loop l id hl l.length 0 (by omega) (by omega)
  have h0 : ((0 : Nat) : Int) = 0 := rfl
  rw [h0] at h1
  unfold slices_ContainsFunc_api_Part_api_Part slices_IndexFunc_api_Part_api_Part
  rw [h1, ob_some, List.drop_zero] at *
  rw [show decide (0 ≤ r) = hasID l id by rw [Bool.eq_iff_iff, decide_eq_true_eq]; exact h2]
theorem contains1_eq (l : List Part) (id : Int) (hl : l.length ≤ 1000) : slices_ContainsFunc_api_Part_api_Part_v1 l id = some (hasID l id) := contains_eq l id hl
theorem others_eq (l : List Part) (a b : Nat) (id : Int) (hl : l.length ≤ 1000) (ha : a ≤ l.length) (hb : b ≤ l.length) : parts_others l (a : Int) (b : Int) id = some (hasID (l.take a ++ l.drop b) id) := by
  unfold parts_others
  rw [asrt_pos (by omega), ltake_nat, ldrop_nat, contains_eq _ _ (by simp; omega), ob_some, asrt_pos (fun _ => by omega), contains1_eq _ _ (by simp; omega)]
  have e : hasID (l.take a ++ l.drop b) id = (hasID (l.take a) id || hasID (l.drop b) id) := by unfold hasID; rw [List.any_append]
  rw [e]
  cases hasID (l.take a) id
  · rw [if_pos (by decide), ob_some]
  · rw [if_neg (by decide), ob_some]; rfl
theorem cat_L1 (ls : List (List Part)) (hl : ls.flatten.length ≤ 100000) (hn : ls.length ≤ 1000) : ∀ (m n : Nat) (acc : List Part), ls.length - n = m → n ≤ ls.length → acc ++ (ls.drop n).flatten = ls.flatten → slices_Concat_api_Part_api_Part_L1 ls (acc, (n : Int)) = some ls.flatten
  | 0, n, acc, hm, hi, he => by
    have : n = ls.length := by omega
    subst this
    refine loopO_inr ?_
    simp only [slices_Concat_api_Part_api_Part_B1]
    rw [if_neg (d_f (by omega)), ← he]
    simp [slices_Concat_api_Part_api_Part_J2, inrO]
  | m + 1, n, acc, hm, hi, he => by
    have hlt : n < ls.length := by omega
    have hw : w64 ((n : Int) + 1) = ((n + 1 : Nat) : Int) := by rw [w64_id (by omega) (by omega)]; omega
    rw [lget_drop ls n hlt, List.flatten_cons, ← List.append_assoc] at he
    refine (loopO_inl (y := (acc ++ lget ls (n : Int), ((n + 1 : Nat) : Int))) ?_).trans (cat_L1 ls hl hn m (n + 1) _ (by omega) (by omega) he)
    have h2 := congrArg List.length he
    rw [List.length_append] at h2
    simp only [slices_Concat_api_Part_api_Part_B1]
    rw [if_pos (d_t (by omega)), asrt_pos (by omega), asrt_pos (by omega), hw]
theorem grow_eq (n : Nat) (h : n ≤ 100000) : slices_Grow_api_Part_api_Part_v1 (n : Int) = some [] := by
  have hw : w64 ((n : Int) - w64 (0 - 0)) = (n : Int) := by
    have : w64 (0 - 0) = 0 := by decide
    rw [this, w64_id (by omega) (by omega)]; omega
  unfold slices_Grow_api_Part_api_Part_v1
  rw [hw, if_neg (d_f (by omega)), ob_some]
  by_cases h0 : n = 0
  · subst h0; rfl
  · rw [if_pos (d_t (by omega)), asrt_pos (by simp; omega), asrt_pos (by simp)]
    dsimp only [lt]
    rw [asrt_pos (show Int.toNat 0 ≤ _ from Nat.zero_le _)]; rfl
theorem cat_L2 (ls : List (List Part)) (hl : ls.flatten.length ≤ 100000) (hn : ls.length ≤ 1000) : ∀ (m n : Nat) (s : Nat), ls.length - n = m → n ≤ ls.length → s + (ls.drop n).flatten.length = ls.flatten.length → slices_Concat_api_Part_api_Part_L2 ls ((s : Int), (n : Int)) = some ls.flatten
  | 0, n, s, hm, hi, he => by
    have : n = ls.length := by omega
    subst this
    refine loopO_inr ?_
    simp only [slices_Concat_api_Part_api_Part_B2]
    rw [if_neg (d_f (by omega))]
    unfold slices_Concat_api_Part_api_Part_J1
    rw [grow_eq s (by omega), ob_some]
    have := cat_L1 ls hl hn ls.length 0 [] (by omega) (by omega) (by simp)
    have h0 : ((0 : Nat) : Int) = 0 := rfl
    rw [h0] at this
    rw [this]; rfl
  | m + 1, n, s, hm, hi, he => by
    have hlt : n < ls.length := by omega
    have hw : w64 ((n : Int) + 1) = ((n + 1 : Nat) : Int) := by rw [w64_id (by omega) (by omega)]; omega
    rw [lget_drop ls n hlt, List.flatten_cons, List.length_append] at he
    have hw2 : w64 ((s : Int) + ((lget ls (n : Int)).length : Int)) = ((s + (lget ls (n : Int)).length : Nat) : Int) := by rw [w64_id (by omega) (by omega)]; omega
    refine (loopO_inl (y := (((s + (lget ls (n : Int)).length : Nat) : Int), ((n + 1 : Nat) : Int))) ?_).trans (cat_L2 ls hl hn m (n + 1) _ (by omega) (by omega) (by omega))
    simp only [slices_Concat_api_Part_api_Part_B2, hw2]
    rw [if_pos (d_t (by omega)), asrt_pos (by omega), if_neg (d_f (by omega)), ob_some, hw]
theorem cat_eq (ls : List (List Part)) (hl : ls.flatten.length ≤ 100000) (hn : ls.length ≤ 1000) : slices_Concat_api_Part_api_Part ls = some ls.flatten := by
  have := cat_L2 ls hl hn ls.length 0 0 (by omega) (by omega) (by simp)
  exact this
theorem part_eta (p : Part) : (⟨p.From, p.To, p.ID⟩ : Part) = p := rfl
open Classical in
noncomputable def splitF (l : List Part) (at0 : Int) (row : List UInt8) (left right : Int) : Fault :=
  if ¬ (partsF l).Code = 0 then partsF l
  else if at0 < 0 ∨ (l.length : Int) ≤ at0 then ⟨3, -1⟩
  else if 40 < row.length then ⟨8, -2⟩
  else if ¬ (Op.bytesLess (lget l at0).From row = true ∧ hasP (lget l at0) row) then ⟨5, -2⟩
  else if noNum left ∨ noNum right then ⟨3, -3⟩
  else if left = right ∨ hasID (rest1 l at0.toNat 1) left = true ∨ hasID (rest1 l at0.toNat 1) right = true then ⟨10, -3⟩
  else if l.length = 200 then ⟨2, -1⟩
  else ⟨0, 0⟩
theorem or_b {p q : Bool} : (p || q) = true ↔ p = true ∨ q = true := by simp
theorem split_eq (l : List Part) (at0 : Int) (row : List UInt8) (left right : Int) : parts_Split l at0 row left right = some (if (splitF l at0 row left right).Code = 0 then splitL l at0.toNat row left right else [], splitF l at0 row left right) := by
  unfold parts_Split splitF
  rw [check_eq, ob_some]
  by_cases c0 : (partsF l).Code = 0
  · have hg := partsF_good.1 c0
    have hlen := hg.len
    rw [if_neg (n_f c0), if_neg (not_not_intro c0)]
    by_cases c1 : at0 < 0 ∨ (l.length : Int) ≤ at0
    · rw [if_pos (or_t c1), if_pos c1]; rfl
    · rw [if_neg (or_f c1), if_neg c1]
      obtain ⟨a, rfl⟩ : ∃ a : Nat, at0 = (a : Int) := ⟨at0.toNat, by omega⟩
      by_cases c2 : 40 < row.length
      · rw [if_pos (d_t (by omega)), if_pos c2]; rfl
      · rw [if_neg (d_f (by omega)), if_neg c2, asrt_pos (by omega)]
        obtain ⟨k, hk, hf, hall⟩ := find_at hg row
        have ha : a < l.length := by omega
        have hin2 : hasP (lget l (a : Int)) row ↔ a = k := find_in hall a ha
        have hw : w64 ((a : Int) + 1) = ((a + 1 : Nat) : Int) := by rw [w64_id (by omega) (by omega)]; omega
        rw [hf, hw]
        by_cases c3 : Op.bytesLess (lget l (a : Int)).From row = true ∧ hasP (lget l (a : Int)) row
        · have hak := hin2.1 c3.2
          rw [if_neg (not_not_intro c3), c3.1, if_pos (by decide), ob_some, if_neg (by rw [hak]; simp)]
          dsimp only [lt]
          by_cases c4 : noNum left ∨ noNum right
          · rw [if_pos c4, if_pos (by rcases c4 with c4 | c4 <;> rw [num_f c4] <;> simp)]; rfl
          · rw [if_neg c4, if_neg (by rw [num_t (fun h => c4 (.inl h)), num_t (fun h => c4 (.inr h))]; simp)]
            have o := fun id => others_eq l a (a + 1) id (by omega) (by omega) (by omega)
            have er : ∀ id, hasID (l.take a ++ l.drop (a + 1)) id = hasID (rest1 l a 1) id := fun _ => rfl
            rw [Int.toNat_natCast, o left, o right, er, er]
            by_cases c5 : left = right
            · simp [ob_some, c5, parts_fault]
            · cases h1 : hasID (rest1 l a 1) left with
              | true => simp [c5, ob_some, parts_fault]
              | false =>
                cases h2 : hasID (rest1 l a 1) right with
                | true => simp [c5, ob_some, parts_fault]
                | false =>
                  by_cases c6 : l.length = 200
                  · simp [c5, c6, ob_some, parts_fault]
                  · have c6' : ¬ (l.length : Int) = 200 := by omega
                    have hc := cat_eq [l.take a, [(⟨(lget l (a : Int)).From, row, left⟩ : Part), ⟨row, (lget l (a : Int)).To, right⟩], l.drop (a + 1)] (by simp; omega) (by simp)
                    rw [if_pos (n_t c5), ob_some, if_pos (by simp [c5]), ob_some, if_neg (by simp [c5]), if_neg (d_f c6'), asrt_pos (by omega), asrt_pos (by omega), asrt_pos (by omega), ltake_nat, ldrop_nat, hc, ob_some]
                    simp [c5, c6, splitL]
        · rw [if_pos c3]
          cases hb : Op.bytesLess (lget l (a : Int)).From row with
          | false => rw [if_neg (by decide), ob_some, if_pos (by simp)]; rfl
          | true =>
            have hak : ¬ (k : Int) = (a : Int) := fun h => c3 ⟨hb, hin2.2 (by omega)⟩
            rw [if_pos (by decide), ob_some, if_pos (by simp [hak])]; rfl
  · rw [if_pos (n_t c0), if_pos c0, if_neg c0]
theorem split2_eq (l : List Part) (at0 : Int) (row : List UInt8) (left right : Int) : parts_Split_v2 at0 row left right l = some (if (splitF l at0 row left right).Code = 0 then splitL l at0.toNat row left right else [], splitF l at0 row left right, l) := by
  unfold parts_Split_v2 splitF
  rw [check_eq, ob_some]
  by_cases c0 : (partsF l).Code = 0
  · have hg := partsF_good.1 c0
    have hlen := hg.len
    rw [if_neg (n_f c0), if_neg (not_not_intro c0)]
    by_cases c1 : at0 < 0 ∨ (l.length : Int) ≤ at0
    · rw [if_pos (or_t c1), if_pos c1]; rfl
    · rw [if_neg (or_f c1), if_neg c1]
      obtain ⟨a, rfl⟩ : ∃ a : Nat, at0 = (a : Int) := ⟨at0.toNat, by omega⟩
      by_cases c2 : 40 < row.length
      · rw [if_pos (d_t (by omega)), if_pos c2]; rfl
      · rw [if_neg (d_f (by omega)), if_neg c2, asrt_pos (by omega), asrt_pos (by omega)]
        obtain ⟨k, hk, hf, hall⟩ := find_at hg row
        have ha : a < l.length := by omega
        have hin2 : hasP (lget l (a : Int)) row ↔ a = k := find_in hall a ha
        have hw : w64 ((a : Int) + 1) = ((a + 1 : Nat) : Int) := by rw [w64_id (by omega) (by omega)]; omega
        rw [hf, hw]
        by_cases c3 : Op.bytesLess (lget l (a : Int)).From row = true ∧ hasP (lget l (a : Int)) row
        · have hak := hin2.1 c3.2
          rw [if_neg (not_not_intro c3), c3.1, if_pos (by decide), ob_some, if_neg (by rw [hak]; simp)]
          dsimp only [lt]
          by_cases c4 : noNum left ∨ noNum right
          · rw [if_pos c4, if_pos (by rcases c4 with c4 | c4 <;> rw [num_f c4] <;> simp)]; rfl
          · rw [if_neg c4, if_neg (by rw [num_t (fun h => c4 (.inl h)), num_t (fun h => c4 (.inr h))]; simp)]
            have o := fun id => others_eq l a (a + 1) id (by omega) (by omega) (by omega)
            have er : ∀ id, hasID (l.take a ++ l.drop (a + 1)) id = hasID (rest1 l a 1) id := fun _ => rfl
            rw [Int.toNat_natCast, o left, o right, er, er]
            by_cases c5 : left = right
            · simp [ob_some, c5, parts_fault]
            · cases h1 : hasID (rest1 l a 1) left with
              | true => simp [c5, ob_some, parts_fault]
              | false =>
                cases h2 : hasID (rest1 l a 1) right with
                | true => simp [c5, ob_some, parts_fault]
                | false =>
                  by_cases c6 : l.length = 200
                  · simp [c5, c6, ob_some, parts_fault]
                  · have c6' : ¬ (l.length : Int) = 200 := by omega
                    have hc := cat_eq [l.take a, [(⟨(lget l (a : Int)).From, row, left⟩ : Part), ⟨row, (lget l (a : Int)).To, right⟩], l.drop (a + 1)] (by simp; omega) (by simp)
                    rw [if_pos (n_t c5), ob_some, if_pos (by simp [c5]), ob_some, if_neg (by simp [c5]), if_neg (d_f c6'), asrt_pos (by omega), asrt_pos (by omega), asrt_pos (by omega), asrt_pos (by omega), ltake_nat, ldrop_nat, hc, ob_some]
                    simp [c5, c6, splitL]
        · rw [if_pos c3]
          cases hb : Op.bytesLess (lget l (a : Int)).From row with
          | false => rw [if_neg (by decide), ob_some, if_pos (by simp)]; rfl
          | true =>
            have hak : ¬ (k : Int) = (a : Int) := fun h => c3 ⟨hb, hin2.2 (by omega)⟩
            rw [if_pos (by decide), ob_some, if_pos (by simp [hak])]; rfl
  · rw [if_pos (n_t c0), if_pos c0, if_neg c0]
end G
end Go.Proofs.Ytdjlninhfndjfaa
