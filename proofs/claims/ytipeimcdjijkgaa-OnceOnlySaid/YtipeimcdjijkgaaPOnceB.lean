/- What a call does to rows, as the program and as the document have it. -/
import Derived.Test.YtipeimcdjijkgaaPOnceA
namespace Go.Proofs.Ytipeimcdjijkgaa
open Go Go.Dm
set_option linter.unusedVariables false
set_option linter.unusedSimpArgs false
namespace G
/-- where a row stands, or would -/
structure At (l : List Pair) (row : List UInt8) (pos : Nat) (f : Bool) : Prop where
  le : pos ≤ l.length
  lo : ∀ k : Nat, k < pos → Op.bytesLess (lget l (k : Int)).Row row = true
  hi : ∀ k : Nat, pos ≤ k → k < l.length → Op.bytesLess (lget l (k : Int)).Row row = false
  is : f = true ↔ pos < l.length ∧ (lget l (pos : Int)).Row = row
  gt : ∀ k : Nat, pos + f.toNat ≤ k → k < l.length → Op.bytesLess row (lget l (k : Int)).Row = true
theorem At.ex {l : List Pair} (h : RS l) (row : List UInt8) : ∃ pos f, At l row pos f := by
  obtain ⟨pos, h1, h2, h3⟩ := split_pos (fun k => Op.bytesLess (lget l (k : Int)).Row row = true) l.length (fun i j a b c => bl_trans (h.up a b) c)
  have h3' : ∀ k : Nat, pos ≤ k → k < l.length → Op.bytesLess (lget l (k : Int)).Row row = false := fun k a b => by simpa using h3 k a b
  refine ⟨pos, decide (pos < l.length ∧ (lget l (pos : Int)).Row = row), h1, h2, h3', by simp, fun k a b => ?_⟩
  by_cases c : pos < l.length ∧ (lget l (pos : Int)).Row = row
  · rw [decide_eq_true c] at a
    rw [← c.2]
    exact h.up (by simp at a; omega) b
  · rw [decide_eq_false c] at a
    rcases bl_tri row (lget l (k : Int)).Row with g | g | g
    · exact g
    · by_cases e : k = pos
      · subst e; exact absurd ⟨b, g.symm⟩ c
      · have := h.up (show pos < k by simp at a; omega) b
        rw [← g, h3' pos (Nat.le_refl _) (by simp at a; omega)] at this
        cases this
    · rw [h3' k (by simpa using a) b] at g; cases g
theorem At.take {l : List Pair} {row : List UInt8} {pos : Nat} {f : Bool} (h : At l row pos f) : l.filter (fun p => Op.bytesLess p.Row row) = l.take pos := by
  have e : l.filter (fun p => Op.bytesLess p.Row row) = (l.take pos).filter (fun p => Op.bytesLess p.Row row) ++ (l.drop pos).filter (fun p => Op.bytesLess p.Row row) := by
    rw [← List.filter_append, List.take_append_drop]
  have h1 : (l.take pos).filter (fun p => Op.bytesLess p.Row row) = l.take pos := by
    rw [List.filter_eq_self]
    intro p hp
    obtain ⟨k, hk, e⟩ := (mem_take_lget h.le).1 hp
    rw [← e]; exact h.lo k hk
  have h2 : (l.drop pos).filter (fun p => Op.bytesLess p.Row row) = [] := by
    rw [List.filter_eq_nil_iff]
    intro p hp
    obtain ⟨k, hk, e⟩ := mem_lget.1 hp
    have hd := lget_ldrop l (pos : Int) (k : Int) (by omega)
    rw [ldrop_nat] at hd
    rw [hd] at e
    rw [List.length_drop] at hk
    have := h.hi (pos + k) (by omega) (by omega)
    rw [← e]
    rw [show ((pos + k : Nat) : Int) = (pos : Int) + (k : Int) by omega] at this
    rw [this]; simp
  rw [e, h1, h2, List.append_nil]
theorem At.drop {l : List Pair} {row : List UInt8} {pos : Nat} {f : Bool} (h : At l row pos f) : l.filter (fun p => Op.bytesLess row p.Row) = l.drop (pos + f.toNat) := by
  have hle : pos + f.toNat ≤ l.length := by
    have := h.le
    cases hf : f with
    | false => simpa using this
    | true => have := (h.is.1 hf).1; simp; omega
  have e : l.filter (fun p => Op.bytesLess row p.Row) = (l.take (pos + f.toNat)).filter (fun p => Op.bytesLess row p.Row) ++ (l.drop (pos + f.toNat)).filter (fun p => Op.bytesLess row p.Row) := by
    rw [← List.filter_append, List.take_append_drop]
  have h1 : (l.take (pos + f.toNat)).filter (fun p => Op.bytesLess row p.Row) = [] := by
    rw [List.filter_eq_nil_iff]
    intro p hp
    obtain ⟨k, hk, e⟩ := (mem_take_lget hle).1 hp
    rw [← e]
    by_cases c : k < pos
    · rw [bl_asymm (h.lo k c)]; simp
    · cases hf : f with
      | false => rw [hf] at hk; simp at hk; omega
      | true =>
        rw [hf] at hk
        have : k = pos := by simp at hk; omega
        rw [this, (h.is.1 hf).2, bl_irr]; simp
  have h2 : (l.drop (pos + f.toNat)).filter (fun p => Op.bytesLess row p.Row) = l.drop (pos + f.toNat) := by
    rw [List.filter_eq_self]
    intro p hp
    obtain ⟨k, hk, e⟩ := mem_lget.1 hp
    have hd := lget_ldrop l ((pos + f.toNat : Nat) : Int) (k : Int) (by omega)
    rw [ldrop_nat] at hd
    rw [hd] at e
    rw [List.length_drop] at hk
    have := h.gt (pos + f.toNat + k) (by omega) (by omega)
    rw [← e]
    rw [show ((pos + f.toNat + k : Nat) : Int) = ((pos + f.toNat : Nat) : Int) + (k : Int) by omega] at this
    exact this
  rw [e, h1, h2, List.nil_append]
/- the document -/
theorem stands_eq {l : List Pair} (hs : RS l) {row : List UInt8} {pos : Nat} {f : Bool} (h : At l row pos f) : R_StandsIn l row = some (if f = true then ((lget l (pos : Int)).Value, true) else ([], false)) := by
  have hl := hs.len
  unfold R_StandsIn
  have := loop_first (step := fun y => R_StandsIn_B1 l row y) l.length (fun k => (k : Int)) (fun k => (lget l (k : Int)).Row = row) (fun k => ((lget l (k : Int)).Value, true)) (r := ([], false))
    (fun k hk hb => by
      have hw : w64 ((k : Int) + 1) = ((k + 1 : Nat) : Int) := by rw [w64_id (by omega) (by omega)]; omega
      show R_StandsIn_B1 l row (k : Int) = _
      unfold R_StandsIn_B1
      rw [if_pos (d_t (by omega)), asrt_pos (by omega), if_neg (d_f hb), hw])
    (fun k hk hb => by
      show R_StandsIn_B1 l row (k : Int) = _
      unfold R_StandsIn_B1
      rw [if_pos (d_t (by omega)), asrt_pos (by omega), if_pos (d_t hb), asrt_pos (by omega)])
    (by
      show R_StandsIn_B1 l row (l.length : Int) = _
      unfold R_StandsIn_B1
      rw [if_neg (d_f (by omega))]; rfl)
  rcases this with ⟨j, h1, h2, h3, h4⟩ | ⟨h1, h4⟩
  · have hj : j = pos := by
      rcases Nat.lt_trichotomy j pos with g | g | g
      · have := h.lo j g; rw [h2, bl_irr] at this; cases this
      · exact g
      · have hp : pos < l.length := by omega
        have a := hs.up g h1
        rw [h2, h.hi pos (Nat.le_refl _) hp] at a; cases a
    subst hj
    rw [if_pos (h.is.2 ⟨h1, h2⟩)]; exact h4
  · rw [if_neg (fun e => h1 pos (h.is.1 e).1 (h.is.1 e).2)]; exact h4
def withR (l : List Pair) (row value : List UInt8) (pos : Nat) (f is : Bool) : List Pair := l.take pos ++ (if is = true then [⟨row, value⟩] else []) ++ l.drop (pos + f.toNat)
theorem pair_eta (p : Pair) : (⟨p.Row, p.Value⟩ : Pair) = p := rfl
theorem with_eq {l : List Pair} (hl : l.length ≤ 100000) {row : List UInt8} {pos : Nat} {f : Bool} (h : At l row pos f) (value : List UInt8) (is : Bool) : R_RowsWith l row value is = some (withR l row value pos f is) := by
  unfold R_RowsWith
  refine loop_run (step := fun y => R_RowsWith_B2 l row value is y) l.length (fun k => ((l.take k).filter (fun p => Op.bytesLess p.Row row), (k : Int))) (fun k hk => ?_) ?_
  · have hw : w64 ((k : Int) + 1) = ((k + 1 : Nat) : Int) := by rw [w64_id (by omega) (by omega)]; omega
    have hfl : ((l.take k).filter (fun p => Op.bytesLess p.Row row)).length ≤ l.length := Nat.le_trans (List.length_filter_le _ _) (by simp; omega)
    show R_RowsWith_B2 l row value is (_, (k : Int)) = _
    unfold R_RowsWith_B2
    dsimp only
    rw [if_pos (d_t (by omega)), asrt_pos (by omega), lget_take l k hk, List.filter_append, hw, pair_eta]
    cases hb : Op.bytesLess (lget l (k : Int)).Row row with
    | true => rw [if_pos rfl, asrt_pos (by omega), asrt_pos (by rw [List.length_append]; simp; omega), ob_some]; simp [hb]
    | false => rw [if_neg (by decide), ob_some]; simp [hb]
  · show R_RowsWith_B2 l row value is (_, (l.length : Int)) = _
    unfold R_RowsWith_B2
    dsimp only
    rw [if_neg (d_f (by omega)), List.take_length, h.take]
    unfold R_RowsWith_J1
    have htl : (l.take pos).length ≤ l.length := by simp; omega
    have hif : (if is = true then asrt ((((l.take pos) ++ [(⟨row, value⟩ : Pair)]).length : Int) * 32 ≤ 140737488351232) (some ((l.take pos) ++ [(⟨row, value⟩ : Pair)])) else some (l.take pos)) = some (l.take pos ++ (if is = true then [⟨row, value⟩] else [])) := by
      cases is with
      | true => rw [if_pos rfl, if_pos rfl, asrt_pos (by rw [List.length_append]; simp; omega)]
      | false => rw [if_neg (by decide), if_neg (by decide), List.append_nil]
    rw [hif, ob_some]
    obtain ⟨v, hv⟩ : ∃ v, v = l.take pos ++ (if is = true then [(⟨row, value⟩ : Pair)] else []) := ⟨_, rfl⟩
    have hvl : v.length ≤ l.length + 1 := by rw [hv, List.length_append]; cases is <;> simp <;> omega
    rw [← hv]
    have := loop_run (step := fun y => R_RowsWith_B1 l row y) l.length (fun k => (v ++ (l.take k).filter (fun p => Op.bytesLess row p.Row), (k : Int))) (r := withR l row value pos f is) (fun k hk => by
      have hw : w64 ((k : Int) + 1) = ((k + 1 : Nat) : Int) := by rw [w64_id (by omega) (by omega)]; omega
      have hfl : ((l.take k).filter (fun p => Op.bytesLess row p.Row)).length ≤ l.length := Nat.le_trans (List.length_filter_le _ _) (by simp; omega)
      show R_RowsWith_B1 l row (_, (k : Int)) = _
      unfold R_RowsWith_B1
      dsimp only
      rw [if_pos (d_t (by omega)), asrt_pos (by omega), lget_take l k hk, List.filter_append, hw, pair_eta]
      cases hb : Op.bytesLess row (lget l (k : Int)).Row with
      | true => rw [if_pos rfl, asrt_pos (by omega), asrt_pos (by rw [List.length_append, List.length_append]; simp; omega), ob_some]; simp [hb]
      | false => rw [if_neg (by decide), ob_some]; simp [hb]) (by
      show R_RowsWith_B1 l row (_, (l.length : Int)) = _
      unfold R_RowsWith_B1
      dsimp only
      rw [if_neg (d_f (by omega)), List.take_length, h.drop, hv]; rfl)
    rw [show R_RowsWith_L1 l row (v, 0) = some (withR l row value pos f is) from by
      have e : (v ++ (l.take 0).filter (fun p => Op.bytesLess row p.Row), ((0 : Nat) : Int)) = (v, 0) := by simp
      rw [← e]; exact this]
    rfl
/-- what a call that is fine comes to -/
def calledF (l : List Pair) (c : Call) (pos : Nat) (f : Bool) : List Pair × List UInt8 :=
  if c.Kind = 1 ∨ (c.Kind = 3 ∧ f = true ∧ (lget l (pos : Int)).Value = c.Old) then (withR l c.Row c.Value pos f true, [111, 107])
  else if c.Kind = 3 then (l, [110, 111])
  else if f = false then (l, [110, 111, 110, 101])
  else if c.Kind = 2 then (l, [61] ++ (lget l (pos : Int)).Value)
  else (withR l c.Row [] pos f false, [111, 107])
theorem called_eq {l : List Pair} (hs : RS l) (c : Call) {pos : Nat} {f : Bool} (h : At l c.Row pos f) : R_Called_v1 l c = some (calledF l c pos f) := by
  have hl := hs.len
  unfold R_Called_v1 calledF
  rw [stands_eq hs h, ob_some, with_eq (by omega) h, with_eq (by omega) h, ob_some, ob_some]
  have a1 : ∀ x : Option (List Pair × List UInt8), asrt ((l.length : Int) * 32 ≤ 140737488351232) x = x := fun x => asrt_pos (by omega) x
  cases hf : f with
  | true =>
    have hv := (hs.row pos (h.is.1 hf).1).2
    have a2 : ∀ x : Option (List Pair × List UInt8), asrt ((([61] : List UInt8).length : Int) + (lget l (pos : Int)).Value.length ≤ 9223372036854775807) x = x := fun x => asrt_pos (by simp; omega) x
    by_cases k1 : c.Kind = 1
    · simp [k1]
    · by_cases k3 : c.Kind = 3
      · by_cases ko : (lget l (pos : Int)).Value = c.Old
        · simp [k3, ko]
        · simp [k3, ko, a1]
      · by_cases k2 : c.Kind = 2
        · have := a2 (some (l, [61] ++ (lget l (pos : Int)).Value))
          have c1 : ¬ (c.Kind = 1 ∨ c.Kind = 3 ∧ True ∧ (lget l (pos : Int)).Value = c.Old) := by rw [k2]; simp
          simp only [a1, if_true, this]
          simp [k2]
        · simp [k1, k2, k3]
  | false =>
    by_cases k1 : c.Kind = 1
    · simp [k1]
    · by_cases k3 : c.Kind = 3
      · simp [k3, a1]
      · simp [k1, k3, a1]
/- the program -/
theorem pclone_eq (l : List Pair) (h : l.length ≤ 100000) : slices_Clone_api_Pair_api_Pair l = some l := by
  have e : asrt (((([] : List Pair) ++ l).length : Int) * 32 ≤ 140737488351232) (some (([] : List Pair) ++ l)) = some l := by
    rw [asrt_pos (by simp; omega)]; rfl
  unfold slices_Clone_api_Pair_api_Pair ubO
  rw [e, asrt_pos]
  · split
    · rename_i c; simp at c; rw [c]
    · rfl
  · intro c; simp at c; rw [c]
theorem cmpS_lt (a b : List UInt8) : decide (cmp_Compare_string a b < 0) = Op.bytesLess a b := by
  simp only [cmp_Compare_string, cmp_isNaN_string, lt]
  cases h1 : Op.bytesLess a b <;> cases h2 : Op.bytesLess b a <;> simp
theorem cmpS_zero (a b : List UInt8) : decide (cmp_Compare_string a b = 0) = decide (a = b) := by
  refine b_iff ?_
  simp only [cmp_Compare_string, cmp_isNaN_string, lt]
  rcases bl_tri a b with h | h | h
  · have : a ≠ b := fun e => by rw [e, bl_irr] at h; cases h
    simp [h, this]
  · simp [h, bl_irr]
  · have : a ≠ b := fun e => by rw [e, bl_irr] at h; cases h
    simp [h, this, bl_asymm h]
theorem psearch_eq {l : List Pair} (hl : l.length ≤ 100000) {row : List UInt8} {pos : Nat} {f : Bool} (h : At l row pos f) : slices_BinarySearchFunc_api_Pair_api_Pair_string row l = some ((pos : Int), f) := by
  have hle := h.le
  unfold slices_BinarySearchFunc_api_Pair_api_Pair_string
  refine bsearch (step := fun y => slices_BinarySearchFunc_api_Pair_api_Pair_string_B1 row l y) l.length pos h.le _ (fun i j hij hj => ?_) ?_
  · have hw : w64 ((((i + j) / 2 : Nat) : Int) + 1) = (((i + j) / 2 + 1 : Nat) : Int) := by rw [w64_id (by omega) (by omega)]; omega
    show slices_BinarySearchFunc_api_Pair_api_Pair_string_B1 row l ((i : Int), (j : Int)) = _
    unfold slices_BinarySearchFunc_api_Pair_api_Pair_string_B1
    dsimp only
    rw [if_pos (d_t (by omega)), half i j (by omega)]
    dsimp only [lt, once_plain_1]
    rw [asrt_pos (by omega), asrt_pos (by omega), cmpS_lt, hw]
    by_cases c : (i + j) / 2 < pos
    · rw [if_pos (h.lo _ c), if_pos c, if_pos c]
    · rw [if_neg (by rw [h.hi _ (by omega) (by omega)]; decide), if_neg c, if_neg c]
  · show slices_BinarySearchFunc_api_Pair_api_Pair_string_B1 row l ((pos : Int), (pos : Int)) = _
    unfold slices_BinarySearchFunc_api_Pair_api_Pair_string_B1
    dsimp only
    rw [if_neg (d_f (by omega))]
    unfold slices_BinarySearchFunc_api_Pair_api_Pair_string_J1
    dsimp only [lt, once_plain_1]
    rw [asrt_pos (fun e => by simp at e; omega), asrt_pos (fun e => by simp at e; omega), cmpS_zero]
    have : (decide ((pos : Int) < (l.length : Int)) && decide ((lget l (pos : Int)).Row = row)) = f := by
      rw [Bool.eq_iff_iff, h.is]
      simp
    rw [this]; rfl
theorem take_set {α : Type} (l : List α) (n : Nat) (x : α) (h : n < l.length) : l.set n x = l.take n ++ [x] ++ l.drop (n + 1) := by
  apply List.ext_getElem?
  intro i
  rw [List.getElem?_set]
  by_cases e : n = i
  · subst e
    rw [if_pos rfl, if_pos h, List.getElem?_append_left (by simp; omega), List.getElem?_append_right (by simp; omega)]
    simp
    rw [show n - min n l.length = 0 by omega]; rfl
  · rw [if_neg e]
    by_cases g : i < n
    · rw [List.append_assoc, List.getElem?_append_left (by simp; omega), List.getElem?_take, if_pos g]
    · rw [List.getElem?_append_right (by simp; omega), List.getElem?_drop]
      congr 1
      simp; omega
theorem put_eq {l : List Pair} (hs : RS l) (c : Call) {pos : Nat} {f : Bool} (h : At l c.Row pos f) : once_plain_2 f c (pos : Int) l = some (withR l c.Row c.Value pos f true, [111, 107]) := by
  have hl := hs.len
  have hle := h.le
  unfold once_plain_2 withR
  cases hf : f with
  | true =>
    have hp := h.is.1 hf
    rw [if_pos rfl, asrt_pos (by omega), asrt_pos (by omega), hp.2]
    have : lset l (pos : Int) (⟨c.Row, c.Value⟩ : Pair) = l.take pos ++ [⟨c.Row, c.Value⟩] ++ l.drop (pos + 1) := by
      unfold lset; rw [Int.toNat_natCast]; exact take_set l pos _ hp.1
    rw [this]; rfl
  | false =>
    rw [if_neg (by decide)]
    unfold slices_Insert_api_Pair_api_Pair
    rw [asrt_pos (by omega), asrt_pos (by simp), asrt_pos (by simp; omega), ob_some]
    rfl
theorem some_inj {α : Type} {a b : α} : (some a = some b) = (a = b) := by simp
theorem pdel_eq {l : List Pair} (hl : l.length ≤ 100000) (pos : Nat) (hp : pos < l.length) : slices_Delete_api_Pair_api_Pair (pos : Int) ((pos : Int) + 1) l = some (l.take pos ++ l.drop (pos + 1)) := by
  unfold slices_Delete_api_Pair_api_Pair
  have e1 : ((pos : Int) + 1).toNat = pos + 1 := by omega
  have e2 : (l.drop (pos + 1)).take (l.length - (pos + 1)) = l.drop (pos + 1) := List.take_of_length_le (by simp)
  have hlen : (l.take pos ++ l.drop (pos + 1)).length = l.length - 1 := by simp; omega
  rw [asrt_pos (by omega), if_neg (d_f (by omega)), asrt_pos (by omega), asrt_pos (by omega), e1, Int.toNat_natCast, e2, hlen, asrt_pos (by omega), asrt_pos (by omega), asrt_pos (by omega), asrt_pos (by
    rw [List.length_map]; omega)]
  dsimp only [lt]
  rw [some_inj]
  unfold lclear
  rw [hlen, show ((l.length - 1 : Nat) : Int).toNat = l.length - 1 by omega]
  have h1 : ∀ m : Nat, l.length - 1 ≤ m → (l.take pos ++ l.drop (pos + 1)).take m = l.take pos ++ l.drop (pos + 1) := fun m hm => List.take_of_length_le (by rw [hlen]; exact hm)
  have h2 : ∀ m : Nat, l.length - 1 ≤ m → (l.take pos ++ l.drop (pos + 1)).drop m = [] := fun m hm => List.drop_of_length_le (by rw [hlen]; exact hm)
  rw [h1 _ (Nat.le_refl _), h2 _ (by omega), Nat.sub_self, Nat.min_zero]
  simp
end G
end Go.Proofs.Ytipeimcdjijkgaa
