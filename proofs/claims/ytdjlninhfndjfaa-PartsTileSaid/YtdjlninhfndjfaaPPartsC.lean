/- Parts of the rows: what Split and Join say. -/
import Derived.Test.YtdjlninhfndjfaaPPartsB
namespace Go.Proofs.Ytdjlninhfndjfaa
open Go Go.Dm
set_option linter.unusedVariables false
set_option linter.unusedSimpArgs false
namespace G
def noNum (x : Int) : Prop := x < 0 ∨ 1000000000 < x
def rest1 (l : List Part) (a n : Nat) : List Part := l.take a ++ l.drop (a + n)
open Classical in
noncomputable def splitF (l : List Part) (at0 : Int) (row : List UInt8) (left right : Int) : Fault :=
  if ¬ (partsF l).Code = 0 then partsF l
  else if at0 < 0 ∨ (l.length : Int) ≤ at0 then ⟨3, -1⟩
  else if 40 < row.length then ⟨8, -2⟩
  else if ¬ (Op.bytesLess (lget l at0).From row = true ∧ inP (lget l at0) row) then ⟨5, -2⟩
  else if noNum left ∨ noNum right then ⟨3, -3⟩
  else if left = right ∨ hasID (rest1 l at0.toNat 1) left = true ∨ hasID (rest1 l at0.toNat 1) right = true then ⟨10, -3⟩
  else if l.length = 200 then ⟨2, -1⟩
  else ⟨0, 0⟩
noncomputable def splitL (l : List Part) (a : Nat) (row : List UInt8) (left right : Int) : List Part := l.take a ++ [⟨(lget l (a : Int)).From, row, left⟩, ⟨row, (lget l (a : Int)).To, right⟩] ++ l.drop (a + 1)
open Classical in
noncomputable def joinF (l : List Part) (at0 : Int) (id : Int) : Fault :=
  if ¬ (partsF l).Code = 0 then partsF l
  else if at0 < 0 ∨ (l.length : Int) - 1 ≤ at0 then ⟨3, -1⟩
  else if noNum id then ⟨3, -3⟩
  else if hasID (rest1 l at0.toNat 2) id = true then ⟨10, -3⟩
  else ⟨0, 0⟩
noncomputable def joinL (l : List Part) (a : Nat) (id : Int) : List Part := l.take a ++ [⟨(lget l (a : Int)).From, (lget l ((a + 1 : Nat) : Int)).To, id⟩] ++ l.drop (a + 2)
theorem or_b {p q : Bool} : (p || q) = true ↔ p = true ∨ q = true := by simp
theorem split_eq (l : List Part) (at0 : Int) (row : List UInt8) (left right : Int) : parts_Split_v1 l at0 row left right = some (if (splitF l at0 row left right).Code = 0 then splitL l at0.toNat row left right else [], splitF l at0 row left right) := by
  unfold parts_Split_v1 splitF
  rw [check_eq, ob_some]
  by_cases c0 : (partsF l).Code = 0
  · have hg := partsF_good.1 c0
    have hlen := hg.len
    rw [if_neg (n_f c0), if_neg (not_not_intro c0)]
    by_cases c1 : at0 < 0 ∨ (l.length : Int) ≤ at0
    · rw [if_pos (or_t c1), if_pos c1]; rfl
    · rw [if_neg (or_f c1), if_neg c1]
      obtain ⟨a, rfl⟩ : ∃ a : Nat, at0 = (a : Int) := ⟨at0.toNat, by omega⟩
      by_cases c2 : 40 < row.length
      · rw [if_pos (d_t (by omega)), if_pos c2]; rfl
      · rw [if_neg (d_f (by omega)), if_neg c2, asrt_pos (by omega)]
        obtain ⟨k, hk, hf, hall⟩ := find_at hg row
        have ha : a < l.length := by omega
        have hin := find_in hall a ha
        have hin2 : inP (lget l (a : Int)) row ↔ a = k := by rw [← inPart_eq, hin]; simp
        have hw : w64 ((a : Int) + 1) = ((a + 1 : Nat) : Int) := by rw [w64_id (by omega) (by omega)]; omega
        rw [hf, hw]
        by_cases c3 : Op.bytesLess (lget l (a : Int)).From row = true ∧ inP (lget l (a : Int)) row
        · have hak := hin2.1 c3.2
          rw [if_neg (not_not_intro c3), c3.1, if_pos (by decide), ob_some, if_neg (by rw [hak]; simp)]
          dsimp only [lt]
          by_cases c4 : noNum left ∨ noNum right
          · rw [if_pos c4, if_pos (by rcases c4 with c4 | c4 <;> rw [num_f c4] <;> simp)]; rfl
          · rw [if_neg c4, if_neg (by rw [num_t (fun h => c4 (.inl h)), num_t (fun h => c4 (.inr h))]; simp)]
            have o := fun id => others_eq l a (a + 1) id (by omega) (by omega) (by omega)
            have er : ∀ id, hasID (l.take a ++ l.drop (a + 1)) id = hasID (rest1 l a 1) id := fun _ => rfl
            rw [Int.toNat_natCast, o left, o right, er, er]
            by_cases c5 : left = right
            · simp [ob_some, c5, parts_fault]
            · cases h1 : hasID (rest1 l a 1) left with
              | true => simp [c5, ob_some, parts_fault]
              | false =>
                cases h2 : hasID (rest1 l a 1) right with
                | true => simp [c5, ob_some, parts_fault]
                | false =>
                  by_cases c6 : l.length = 200
                  · simp [c5, c6, ob_some, parts_fault]
                  · have c6' : ¬ (l.length : Int) = 200 := by omega
                    have hc := cat_eq [l.take a, [(⟨(lget l (a : Int)).From, row, left⟩ : Part), ⟨row, (lget l (a : Int)).To, right⟩], l.drop (a + 1)] (by simp; omega) (by simp)
                    rw [if_pos (n_t c5), ob_some, if_pos (by simp [c5]), ob_some, if_neg (by simp [c5]), if_neg (d_f c6'), asrt_pos (by omega), asrt_pos (by omega), asrt_pos (by omega), ltake_nat, ldrop_nat, hc, ob_some]
                    simp [c5, c6, splitL]
        · rw [if_pos c3]
          cases hb : Op.bytesLess (lget l (a : Int)).From row with
          | false => rw [if_neg (by decide), ob_some, if_pos (by simp)]; rfl
          | true =>
            have hak : ¬ (k : Int) = (a : Int) := fun h => c3 ⟨hb, hin2.2 (by omega)⟩
            rw [if_pos (by decide), ob_some, if_pos (by simp [hak])]; rfl
  · rw [if_pos (n_t c0), if_pos c0, if_neg c0]
theorem join_eq (l : List Part) (at0 : Int) (id : Int) : parts_Join_v1 l at0 id = some (if (joinF l at0 id).Code = 0 then joinL l at0.toNat id else [], joinF l at0 id) := by
  unfold parts_Join_v1 joinF
  rw [check_eq, ob_some]
  by_cases c0 : (partsF l).Code = 0
  · have hg := partsF_good.1 c0
    have hlen := hg.len
    have hw0 : w64 ((l.length : Int) - 1) = (l.length : Int) - 1 := w64_id (by omega) (by omega)
    rw [if_neg (n_f c0), if_neg (not_not_intro c0), hw0]
    by_cases c1 : at0 < 0 ∨ (l.length : Int) - 1 ≤ at0
    · rw [if_pos (or_t c1), if_pos c1]; rfl
    · rw [if_neg (or_f c1), if_neg c1]
      obtain ⟨a, rfl⟩ : ∃ a : Nat, at0 = (a : Int) := ⟨at0.toNat, by omega⟩
      have hw : w64 ((a : Int) + 1) = ((a + 1 : Nat) : Int) := by rw [w64_id (by omega) (by omega)]; omega
      have hw2 : w64 ((a : Int) + 2) = ((a + 2 : Nat) : Int) := by rw [w64_id (by omega) (by omega)]; omega
      rw [hw, hw2]
      dsimp only [lt]
      by_cases c4 : noNum id
      · rw [if_pos c4, if_pos (by rw [num_f c4]; simp)]; rfl
      · rw [if_neg c4, if_neg (by rw [num_t c4]; simp), Int.toNat_natCast, others_eq l a (a + 2) id (by omega) (by omega) (by omega), ob_some]
        have er : ∀ id, hasID (l.take a ++ l.drop (a + 2)) id = hasID (rest1 l a 2) id := fun _ => rfl
        rw [er]
        by_cases c5 : hasID (rest1 l a 2) id = true
        · rw [if_pos c5, if_pos c5]; rfl
        · rw [if_neg c5, if_neg c5, asrt_pos (by omega), asrt_pos (by omega), asrt_pos (by omega), asrt_pos (by omega), ltake_nat, ldrop_nat, cat_eq, ob_some, if_pos rfl]
          · simp [joinL]
          · simp; omega
          · simp
  · rw [if_pos (n_t c0), if_pos c0, if_neg c0]
theorem begun_eq : law_partsBegun = some true := by
  have hg : PGood [(⟨[], [], 5⟩ : Part)] := ⟨by simp, by simp [okp], by simp, ⟨rfl, .inl ⟨rfl, rfl⟩⟩⟩
  have h0 := partsF_good.2 hg
  have hf : splitF [(⟨[], [], 5⟩ : Part)] 0 [109] 1 2 = ⟨0, 0⟩ := by
    unfold splitF
    rw [if_neg (not_not_intro h0), if_neg (by simp), if_neg (by simp), if_neg, if_neg (by unfold noNum; omega), if_neg, if_neg (by simp)]
    · simp [rest1, hasID]
    · exact not_not_intro ⟨rfl, rfl, .inl rfl⟩
  unfold law_partsBegun
  rw [split_eq, hf, ob_some]
  have e : splitL [(⟨[], [], 5⟩ : Part)] (0 : Int).toNat [109] 1 2 = [(⟨[], [109], 1⟩ : Part), ⟨[109], [], 2⟩] := rfl
  rw [if_pos rfl, e]
  dsimp only
  rw [if_pos (d_t rfl), same_self _ (by simp), ob_some]; rfl
theorem own_eq (l : List Part) (h : l.length ≤ 100000) : law_ownParts_v1 l = some l := by
  unfold law_ownParts_v1
  rw [asrt_pos (by omega)]
end G
end Go.Proofs.Ytdjlninhfndjfaa
