/- The parts tile the rows. -/
import Derived.Test.YtdjlninhfndjfaaPPartsFinds
namespace Go.Proofs.Ytdjlninhfndjfaa
open Go Go.Dm
set_option linter.unusedVariables false
set_option linter.unusedSimpArgs false
namespace G
theorem tile_B2 (rows : List (List UInt8)) (l : List Part) (hl : l.length ≤ 200) (v2 : Nat) (hv2 : v2 < rows.length) (hrows : rows.length ≤ 100) (k : Nat) (f : Fault)
    (hin : ∀ j : Nat, j < l.length → R_InPart (lget l (j : Int)) (lget rows (v2 : Int)) = decide (j = k)) :
    ∀ (m j : Nat), l.length - j = m → j ≤ l.length → law_PartsTile_L2 rows l (v2 : Int) ((k : Int), f) (j : Int) = some (.inl ((v2 + 1 : Nat) : Int))
  | 0, j, e, hj => by
    have hw : w64 ((v2 : Int) + 1) = ((v2 + 1 : Nat) : Int) := by rw [w64_id (by omega) (by omega)]; omega
    refine loopO_inr ?_
    simp only [law_PartsTile_B2]
    rw [if_neg (d_f (by omega))]
    simp only [inrO, law_PartsTile_J3, hw]
  | m + 1, j, e, hj => by
    have hlt : j < l.length := by omega
    have hw : w64 ((j : Int) + 1) = ((j + 1 : Nat) : Int) := by rw [w64_id (by omega) (by omega)]; omega
    refine (loopO_inl ?_).trans (tile_B2 rows l hl v2 hv2 hrows k f hin m (j + 1) (by omega) (by omega))
    simp only [law_PartsTile_B2]
    rw [if_pos (d_t (by omega)), asrt_pos (by omega), asrt_pos (by omega), part_eta, hin j hlt, hw]
    have : (decide (j = k) == decide ((j : Int) = (k : Int))) = true := by
      have e1 : ((j : Int) = (k : Int)) ↔ j = k := by omega
      simp [e1]
    simp only [lt, this]; rfl
theorem tile_L1 (rows : List (List UInt8)) (hrows : rows.length ≤ 100) (l : List Part) (hg : PGood l) : ∀ (m i : Nat), rows.length - i = m → i ≤ rows.length → law_PartsTile_L1 rows l (i : Int) = some true
  | 0, i, e, hi => by
    refine loopO_inr ?_
    simp only [law_PartsTile_B1]
    rw [if_neg (d_f (by omega))]; rfl
  | m + 1, i, e, hi => by
    have hlen := hg.len
    obtain ⟨k, hk, hf, hall⟩ := findS_good hg (lget rows (i : Int))
    refine (loopO_inl ?_).trans (tile_L1 rows hrows l hg m (i + 1) (by omega) (by omega))
    simp only [law_PartsTile_B1]
    rw [if_pos (d_t (by omega)), asrt_pos (by omega), hf, ob_some, if_neg (by simp; omega)]
    exact tile_B2 rows l hlen i (by omega) hrows k ⟨0, 0⟩ (find_in hall) l.length 0 (by omega) (by omega)
theorem round_at (a : Int) (n : Nat) (h0 : 0 < n) (hn : n ≤ 200) : ∃ k : Nat, k < n ∧ w64 (Int.tmod (IntKind.u64.wrap a) (IntKind.u64.wrap (n : Int))) = (k : Int) ∧ IntKind.u64.wrap (n : Int) ≠ 0 := by
  have e1 : IntKind.u64.wrap (n : Int) = (n : Int) := by rw [IntKind.wrap_u64]; omega
  have e2 : 0 ≤ IntKind.u64.wrap a := by rw [IntKind.wrap_u64]; omega
  obtain ⟨x, hx⟩ : ∃ x : Nat, IntKind.u64.wrap a = (x : Int) := ⟨(IntKind.u64.wrap a).toNat, by omega⟩
  have := Nat.mod_lt x h0
  refine ⟨x % n, this, ?_, by omega⟩
  have et : Int.tmod (x : Int) (n : Int) = ((x % n : Nat) : Int) := rfl
  rw [hx, e1, et, w64_id (by omega) (by omega)]
theorem tile_L3 (steps : List PartStep) (rows : List (List UInt8)) (hs : steps.length ≤ 300) (hrows : rows.length ≤ 100) : ∀ (m i : Nat) (l : List Part), steps.length - i = m → i ≤ steps.length → PGood l →
    law_PartsTile_L3 steps rows (l, (i : Int)) = some true
  | 0, i, l, e, hi, hg => by
    refine loopO_inr ?_
    simp only [law_PartsTile_B3]
    rw [if_neg (d_f (by omega))]
    have c0 := partsF_good.2 hg
    have := tile_L1 rows hrows l hg rows.length 0 (by omega) (by omega)
    have h0 : ((0 : Nat) : Int) = 0 := rfl
    rw [h0] at this
    simp only [law_PartsTile_J1]
    rw [check_eq, ob_some, if_neg (n_f c0), this]; rfl
  | m + 1, i, l, e, hi, hg => by
    have hlen := hg.len
    have hne := ch_ne hg.ch
    have hpos : 0 < l.length := List.length_pos_iff.2 hne
    have hw : w64 ((i : Int) + 1) = ((i + 1 : Nat) : Int) := by rw [w64_id (by omega) (by omega)]; omega
    obtain ⟨a, ha, ea, en⟩ := round_at (lget steps (i : Int)).At l.length hpos hlen
    have nx : ∀ l', PGood l' → law_PartsTile_B3 steps rows (l, (i : Int)) = some (.inl (l', ((i + 1 : Nat) : Int))) → law_PartsTile_L3 steps rows (l, (i : Int)) = some true := fun l' hg' h =>
      (loopO_inl h).trans (tile_L3 steps rows hs hrows m (i + 1) l' (by omega) (by omega) hg')
    have hB : law_PartsTile_B3 steps rows (l, (i : Int)) = law_PartsTile_B3 steps rows (l, (i : Int)) := rfl
    conv at hB => rhs; simp only [law_PartsTile_B3]
    rw [if_pos (d_t (by omega)), asrt_pos (by omega), if_neg (d_f (by omega)), asrt_pos en, ea] at hB
    dsimp only [lt] at hB
    cases hj : (lget steps (i : Int)).Join with
    | true =>
      rw [hj, if_pos rfl, join_eq, ob_some] at hB
      by_cases c : (joinF l (a : Int) (lget steps (i : Int)).Left).Code = 0
      · rw [if_pos c, if_pos (d_t c), ob_some, Int.toNat_natCast] at hB
        refine nx _ (join_good (joinF_ok.1 c)) (hB.trans ?_)
        simp only [law_PartsTile_J4, hw]
      · rw [if_neg (d_f c), ob_some] at hB
        refine nx l hg (hB.trans ?_)
        simp only [law_PartsTile_J4, hw]
    | false =>
      rw [hj, if_neg (by decide), split_eq, ob_some] at hB
      by_cases c : (splitF l (a : Int) (lget steps (i : Int)).Row (lget steps (i : Int)).Left (lget steps (i : Int)).Right).Code = 0
      · obtain ⟨hok, _⟩ := splitF_ok c
        have hg' := split_good hok
        have hlen' := hg'.len
        have hl' := split_len (row := (lget steps (i : Int)).Row) (left := (lget steps (i : Int)).Left) (right := (lget steps (i : Int)).Right) ha
        have c1 := partsF_good.2 hg'
        obtain ⟨b1, b2⟩ := back_ok hok
        have hw2 : w64 ((l.length : Int) + 1) = ((l.length + 1 : Nat) : Int) := by rw [w64_id (by omega) (by omega)]; omega
        rw [if_pos c, if_neg (n_f c), Int.toNat_natCast, check_eq, ob_some, hw2, hl', if_neg (by simp [c1]), asrt_pos (by omega), join_eq, ob_some, joinF_zero b1, Int.toNat_natCast, b2] at hB
        refine nx _ hg' (hB.trans ?_)
        simp [same_self l (by omega), ob_some, law_PartsTile_J4, hw]
      · rw [if_neg c, if_pos (n_t c)] at hB
        refine nx l hg (hB.trans ?_)
        simp only [law_PartsTile_J4, hw]
theorem PartsTile_eq (steps : List PartStep) (rows : List (List UInt8)) : law_PartsTile steps rows = some true := by
  unfold law_PartsTile
  rw [begun_eq, ob_some, if_neg (by decide)]
  by_cases c : 300 < (steps.length : Int) ∨ 100 < (rows.length : Int)
  · rw [if_pos (or_t c)]
  · rw [if_neg (or_f c)]
    refine tile_L3 steps rows (by omega) (by omega) steps.length 0 _ (by omega) (by omega) ?_
    exact ⟨by simp, by simp [okp], by simp, ⟨rfl, .inl ⟨rfl, rfl⟩⟩⟩
end G
end Go.Proofs.Ytdjlninhfndjfaa
