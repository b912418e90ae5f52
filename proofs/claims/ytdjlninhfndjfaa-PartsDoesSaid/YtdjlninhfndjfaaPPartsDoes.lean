/- Every Check, Split and Join of parts is as the document says. -/
import Derived.Test.YtdjlninhfndjfaaPPartsC
namespace Go.Proofs.Ytdjlninhfndjfaa
open Go Go.Dm
set_option linter.unusedVariables false
set_option linter.unusedSimpArgs false
namespace G
noncomputable def tail2 (j : List Part) (f2 w0 : Fault) (l : List Part) (at0 : Int) (left : Int) : Option Bool :=
  ob (
    if ((decide (w0.Code = 0)) && ((decide (at0 < 0)) || (decide ((w64 ((l.length : Int) - 1)) ≤ at0)))) = true then
      lt (R_F 3 (-1)) fun x19 =>
      some (f2, x19)
    else
      some (f2, w0)) fun (v6 : Fault × Fault) =>
  lt (R_Num left) fun x20 =>
  ob (
    if ((decide (v6.2.Code = 0)) && (!x20)) = true then
      lt (R_F 3 (-3)) fun x21 =>
      some (v6.1, x21)
    else
      some (v6.1, v6.2)) fun (v7 : Fault × Fault) =>
  ob (if (decide (v7.2.Code = 0)) = true then (R_HasID l at0 2 left) else some default) fun x22 =>
  ob (
    if ((decide (v7.2.Code = 0)) && x22) = true then
      lt (R_F 10 (-3)) fun x23 =>
      some (v7.1, x23)
    else
      some (v7.1, v7.2)) fun (v8 : Fault × Fault) =>
  ob (law_partsAs_v1 j v8.1 v8.2 l at0 left) fun x24 =>
  some x24
noncomputable def mid2 (x3 x4 : List Part × Fault) (x5 : Fault) (l : List Part) (at0 : Int) (row : List UInt8) (left right : Int) : Option Bool :=
  ob (
    if ((decide (x5.Code = 0)) && ((decide (at0 < 0)) || (decide ((l.length : Int) ≤ at0)))) = true then
      lt (R_F 3 (-1)) fun x7 =>
      some (x3.2, x4.2, x5, x7)
    else
      some (x3.2, x4.2, x5, x5)) fun (v : Fault × Fault × Fault × Fault) =>
  ob (
    if ((decide (v.2.2.2.Code = 0)) && (decide (40 < (row.length : Int)))) = true then
      lt (R_F 8 (-2)) fun x8 =>
      some (v.1, v.2.1, v.2.2.1, x8)
    else
      some (v.1, v.2.1, v.2.2.1, v.2.2.2)) fun (v1 : Fault × Fault × Fault × Fault) =>
  asrt ((decide (v1.2.2.2.Code = 0)) = true → 0 ≤ at0 ∧ at0 < (l.length : Int)) <|
  asrt ((!(decide (row = ((lget l at0).From)))) = true → (decide (v1.2.2.2.Code = 0)) = true → 0 ≤ at0 ∧ at0 < (l.length : Int)) <|
  lt (R_InPart (⟨(lget l at0).From, (lget l at0).To, (lget l at0).ID⟩ : Part) row) fun x9 =>
  ob (
    if ((decide (v1.2.2.2.Code = 0)) && ((decide (row = ((lget l at0).From))) || (!x9))) = true then
      lt (R_F 5 (-2)) fun x10 =>
      some (v1.1, v1.2.1, v1.2.2.1, x10)
    else
      some (v1.1, v1.2.1, v1.2.2.1, v1.2.2.2)) fun (v2 : Fault × Fault × Fault × Fault) =>
  lt (R_Num left) fun x11 =>
  lt (R_Num right) fun x12 =>
  ob (
    if ((decide (v2.2.2.2.Code = 0)) && ((!x11) || (!x12))) = true then
      lt (R_F 3 (-3)) fun x13 =>
      some (v2.1, v2.2.1, v2.2.2.1, x13)
    else
      some (v2.1, v2.2.1, v2.2.2.1, v2.2.2.2)) fun (v3 : Fault × Fault × Fault × Fault) =>
  ob (if (!(decide (left = right))) = true then (if (decide (v3.2.2.2.Code = 0)) = true then (R_HasID l at0 1 left) else some default) else some default) fun x14 =>
  ob (if (!((decide (left = right)) || x14)) = true then (if (decide (v3.2.2.2.Code = 0)) = true then (R_HasID l at0 1 right) else some default) else some default) fun x15 =>
  ob (
    if ((decide (v3.2.2.2.Code = 0)) && (((decide (left = right)) || x14) || x15)) = true then
      lt (R_F 10 (-3)) fun x16 =>
      some (v3.1, v3.2.1, v3.2.2.1, x16)
    else
      some (v3.1, v3.2.1, v3.2.2.1, v3.2.2.2)) fun (v4 : Fault × Fault × Fault × Fault) =>
  ob (
    if ((decide (v4.2.2.2.Code = 0)) && (decide ((l.length : Int) = 200))) = true then
      lt (R_F 2 (-1)) fun x17 =>
      some (v4.1, v4.2.1, v4.2.2.1, x17)
    else
      some (v4.1, v4.2.1, v4.2.2.1, v4.2.2.2)) fun (v5 : Fault × Fault × Fault × Fault) =>
  ob (law_partsAs x3.1 v5.1 v5.2.2.2 l at0 row left right) fun x18 =>
  if (!x18) = true then
    some false
  else
    tail2 x4.1 v5.2.1 v5.2.2.1 l at0 left
theorem as_bad (F : Fault) (hF : ¬ F.Code = 0) (l : List Part) (at0 : Int) (row : List UInt8) (left right : Int) : law_partsAs [] F F l at0 row left right = some true := by
  unfold law_partsAs
  rw [if_neg (by simp), if_pos (n_t hF)]; rfl
theorem as1_bad (F : Fault) (hF : ¬ F.Code = 0) (l : List Part) (at0 : Int) (left : Int) : law_partsAs_v1 [] F F l at0 left = some true := by
  unfold law_partsAs_v1
  rw [if_neg (by simp), if_pos (n_t hF)]; rfl
theorem as_ok (l : List Part) (hl : l.length ≤ 1000) (a : Nat) (ha : a < l.length) (row : List UInt8) (left right : Int) : law_partsAs (splitL l a row left right) ⟨0, 0⟩ ⟨0, 0⟩ l (a : Int) row left right = some true := by
  unfold law_partsAs law_PartsDoes_1
  rw [if_neg (by simp), if_neg (by simp), asrt_pos (by omega), asrt_pos (by omega)]
  have := ins_eq l a 1 [(⟨(lget l (a : Int)).From, row, left⟩ : Part), ⟨row, (lget l (a : Int)).To, right⟩] hl (by omega) (by omega) (by simp)
  have h1 : ((1 : Nat) : Int) = 1 := rfl
  rw [h1] at this
  rw [this, ob_some, ob_some]
  have e : l.take a ++ [(⟨(lget l (a : Int)).From, row, left⟩ : Part), ⟨row, (lget l (a : Int)).To, right⟩] ++ l.drop (a + 1) = splitL l a row left right := rfl
  rw [e, same_self _ (by simp [splitL]; omega), ob_some]
theorem as1_ok (l : List Part) (hl : l.length ≤ 1000) (a : Nat) (ha : a + 1 < l.length) (left : Int) : law_partsAs_v1 (joinL l a left) ⟨0, 0⟩ ⟨0, 0⟩ l (a : Int) left = some true := by
  have hw : w64 ((a : Int) + 1) = ((a + 1 : Nat) : Int) := by rw [w64_id (by omega) (by omega)]; omega
  unfold law_partsAs_v1 law_PartsDoes_2
  rw [if_neg (by simp), if_neg (by simp), hw, asrt_pos (by omega), asrt_pos (by omega)]
  have := ins_eq l a 2 [(⟨(lget l (a : Int)).From, (lget l ((a + 1 : Nat) : Int)).To, left⟩ : Part)] hl (by omega) (by omega) (by simp)
  have h1 : ((2 : Nat) : Int) = 2 := rfl
  rw [h1] at this
  rw [this, ob_some, ob_some]
  have e : l.take a ++ [(⟨(lget l (a : Int)).From, (lget l ((a + 1 : Nat) : Int)).To, left⟩ : Part)] ++ l.drop (a + 2) = joinL l a left := rfl
  rw [e, same_self _ (by simp [joinL]; omega), ob_some]
theorem tail2_eq (l : List Part) (at0 left : Int) (hl : l.length ≤ 1000) : tail2 (if (joinF l at0 left).Code = 0 then joinL l at0.toNat left else []) (joinF l at0 left) (partsF l) l at0 left = some true := by
  have hw0 : w64 ((l.length : Int) - 1) = (l.length : Int) - 1 := w64_id (by omega) (by omega)
  unfold tail2 joinF
  rw [hw0]
  by_cases c0 : (partsF l).Code = 0
  · have h0 := partsF_zero c0
    rw [if_neg (not_not_intro c0), h0]
    by_cases c1 : at0 < 0 ∨ (l.length : Int) - 1 ≤ at0
    · rw [if_pos c1, or_t c1]
      simp [lt, R_F, ob_some, as1_bad]
    · have e1 : (decide (at0 < 0) || decide ((l.length : Int) - 1 ≤ at0)) = false := by rw [Bool.eq_false_iff]; exact or_f c1
      obtain ⟨a, rfl⟩ : ∃ a : Nat, at0 = (a : Int) := ⟨at0.toNat, by omega⟩
      rw [if_neg c1, e1]
      by_cases c4 : noNum left
      · rw [if_pos c4, rnum_eq, num_f c4]
        simp [lt, R_F, ob_some, as1_bad]
      · rw [if_neg c4, rnum_eq, num_t c4]
        have := hid_eq l a 2 left hl (by omega) (by omega)
        have h1 : ((2 : Nat) : Int) = 2 := rfl
        rw [h1] at this
        have er : hasID (l.take a ++ l.drop (a + 2)) left = hasID (rest1 l a 2) left := rfl
        rw [this, er, Int.toNat_natCast]
        cases hasID (rest1 l a 2) left with
        | true => simp [lt, R_F, ob_some, as1_bad]
        | false =>
          have := as1_ok l hl a (by omega) left
          simp [lt, R_F, ob_some, this]
  · rw [if_pos c0, if_neg c0]
    simp [lt, R_F, ob_some, c0, as1_bad]
theorem mid2_eq (l : List Part) (at0 : Int) (row : List UInt8) (left right : Int) (hl : l.length ≤ 1000) : mid2 (if (splitF l at0 row left right).Code = 0 then splitL l at0.toNat row left right else [], splitF l at0 row left right) (if (joinF l at0 left).Code = 0 then joinL l at0.toNat left else [], joinF l at0 left) (partsF l) l at0 row left right = some true := by
  have ht := tail2_eq l at0 left hl
  generalize (if (joinF l at0 left).Code = 0 then joinL l at0.toNat left else []) = jl at ht ⊢
  generalize joinF l at0 left = jf at ht ⊢
  unfold mid2 splitF
  by_cases c0 : (partsF l).Code = 0
  · have h0 := partsF_zero c0
    rw [if_neg (not_not_intro c0), h0]
    rw [h0] at ht
    by_cases c1 : at0 < 0 ∨ (l.length : Int) ≤ at0
    · rw [if_pos c1, or_t c1]
      simp [lt, R_F, ob_some, as_bad, asrt, ht]
    · have e1 : (decide (at0 < 0) || decide ((l.length : Int) ≤ at0)) = false := by rw [Bool.eq_false_iff]; exact or_f c1
      obtain ⟨a, rfl⟩ : ∃ a : Nat, at0 = (a : Int) := ⟨at0.toNat, by omega⟩
      have ha : a < l.length := by omega
      rw [if_neg c1, e1]
      by_cases c2 : 40 < row.length
      · have c2' : 40 < (row.length : Int) := by omega
        rw [if_pos c2, decide_eq_true c2']
        simp [lt, R_F, ob_some, as_bad, asrt, ht]
      · have c2' : ¬ 40 < (row.length : Int) := by omega
        rw [if_neg c2, decide_eq_false c2']
        simp only [Bool.and_false, Bool.false_eq_true, if_false, ob_some]
        rw [asrt_pos (fun _ => by omega), asrt_pos (fun _ _ => by omega), part_eta]
        have hfrm : (decide (row = (lget l (a : Int)).From) || !R_InPart (lget l (a : Int)) row) = true ↔ ¬ (Op.bytesLess (lget l (a : Int)).From row = true ∧ inP (lget l (a : Int)) row) := by
          have hi := inPart_eq (lget l (a : Int)) row
          by_cases h1 : inP (lget l (a : Int)) row
          · rw [hi.2 h1]
            have h2 := h1.1
            rcases bl_tri row (lget l (a : Int)).From with g | g | g
            · rw [h2] at g; cases g
            · rw [← g, bl_irr]; simp
            · have := bl_ne g
              simp [g, h1, Ne.symm this]
          · have : R_InPart (lget l (a : Int)) row = false := by
              cases h : R_InPart (lget l (a : Int)) row with
              | false => rfl
              | true => exact absurd (hi.1 h) h1
            simp [this, h1]
        by_cases c3 : Op.bytesLess (lget l (a : Int)).From row = true ∧ inP (lget l (a : Int)) row
        · have e3 : (decide (row = (lget l (a : Int)).From) || !R_InPart (lget l (a : Int)) row) = false := by
            rw [Bool.eq_false_iff]; exact fun h => hfrm.1 h c3
          rw [if_neg (not_not_intro c3)]
          dsimp only [lt]
          rw [e3]
          by_cases c4 : noNum left ∨ noNum right
          · have e4 : ((!R_Num left) || (!R_Num right)) = true := by rcases c4 with c4 | c4 <;> rw [rnum_eq, rnum_eq, num_f c4] <;> simp
            rw [if_pos c4, e4]
            simp [lt, R_F, ob_some, as_bad, asrt, ht]
          · have e4 : ((!R_Num left) || (!R_Num right)) = false := by rw [rnum_eq, rnum_eq, num_t (fun h => c4 (.inl h)), num_t (fun h => c4 (.inr h))]; simp
            rw [if_neg c4, e4]
            have hid := fun id => hid_eq l a 1 id hl (by omega) (by omega)
            have h1 : ((1 : Nat) : Int) = 1 := rfl
            rw [h1] at hid
            have er : ∀ id, hasID (l.take a ++ l.drop (a + 1)) id = hasID (rest1 l a 1) id := fun _ => rfl
            rw [hid left, hid right, er, er, Int.toNat_natCast]
            by_cases c5 : left = right
            · subst c5
              simp [lt, R_F, ob_some, as_bad, asrt, ht]
            · cases h1 : hasID (rest1 l a 1) left with
              | true =>
                simp [lt, R_F, ob_some, as_bad, asrt, ht, c5]
              | false =>
                cases h2 : hasID (rest1 l a 1) right with
                | true =>
                  simp [lt, R_F, ob_some, as_bad, asrt, ht, c5]
                | false =>
                  by_cases c6 : l.length = 200
                  · have c6' : (l.length : Int) = 200 := by omega
                    rw [if_pos c6]
                    simp [lt, R_F, ob_some, as_bad, asrt, ht, c5, c6']
                  · have c6' : ¬ (l.length : Int) = 200 := by omega
                    rw [if_neg c6]
                    have := as_ok l hl a ha row left right
                    simp [lt, R_F, ob_some, asrt, ht, c5, c6', this]
        · rw [if_pos c3]
          dsimp only [lt]
          rw [hfrm.2 c3]
          simp [lt, R_F, ob_some, as_bad, asrt, ht]
  · rw [if_pos c0, if_neg c0]
    simp [lt, R_F, ob_some, as_bad, asrt, ht, c0]
theorem PartsDoes_eq (l : List Part) (at0 : Int) (row : List UInt8) (left right : Int) : law_PartsDoes l at0 row left right = some true := by
  unfold law_PartsDoes
  rw [begun_eq, ob_some, if_neg (by decide)]
  by_cases c : 1000 < l.length
  · rw [if_pos (d_t (by omega))]
  · rw [if_neg (d_f (by omega)), own_eq l (by omega), ob_some, check_eq, ob_some, split_eq, ob_some, join_eq, ob_some, rcheck_eq, ob_some]
    have hs : (decide ((partsF l).Code = (partsF l).Code) && (decide ((partsF l).At = (partsF l).At) && true)) = true := by simp
    rw [hs, if_pos (by decide), same_self l (by omega), ob_some, if_neg (by decide)]
    exact mid2_eq l at0 row left right (by omega)
end G
end Go.Proofs.Ytdjlninhfndjfaa
