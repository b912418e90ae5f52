/- Every Find and Meet tells the parts that have the rows. -/
import Derived.Test.YtdjlninhfndjfaaPPartsD
namespace Go.Proofs.Ytdjlninhfndjfaa
open Go Go.Dm
set_option linter.unusedVariables false
set_option linter.unusedSimpArgs false
namespace G
theorem findS_good {l : List Part} (hg : PGood l) (row : List UInt8) : ∃ k : Nat, k < l.length ∧ parts_Find l row = some ((k : Int), ⟨0, 0⟩) ∧ ∀ j : Nat, j < l.length → (Op.bytesLess row (lget l (j : Int)).From = false ↔ j ≤ k) ∧ (((lget l (j : Int)).To = [] ∨ Op.bytesLess row (lget l (j : Int)).To = true) ↔ k ≤ j) := by
  obtain ⟨k, h1, h2, h3⟩ := find_at hg row
  refine ⟨k, h1, ?_, h3⟩
  unfold parts_Find
  rw [check_eq, ob_some, if_neg (n_f (partsF_good.2 hg)), h2, ob_some]
theorem findS_bad {l : List Part} (hg : ¬ (partsF l).Code = 0) (row : List UInt8) : parts_Find l row = some (0, partsF l) := by
  unfold parts_Find
  rw [check_eq, ob_some, if_pos (n_t hg)]
def tt (from0 to0 : List UInt8) : Bool := decide (to0 = ([] : List UInt8)) || Op.bytesLess from0 to0
theorem meetS_good {l : List Part} (hg : PGood l) (from0 to0 : List UInt8) : ∃ ka b : Nat, b ≤ l.length ∧ (tt from0 to0 = true → ka < b) ∧
    (∀ j : Nat, j < l.length → (((lget l (j : Int)).To = [] ∨ Op.bytesLess from0 (lget l (j : Int)).To = true) ↔ ka ≤ j)) ∧
    (∀ j : Nat, j < l.length → ((to0 = [] ∨ Op.bytesLess (lget l (j : Int)).From to0 = true) ↔ j < b)) ∧
    parts_Meet l from0 to0 = some (if tt from0 to0 = true then ((ka : Int), ((b - ka : Nat) : Int), ⟨0, 0⟩) else (0, 0, ⟨0, 0⟩)) := by
  obtain ⟨ka, h1, h2, h3⟩ := find_at hg from0
  have c0 := partsF_good.2 hg
  have hlen := hg.len
  unfold parts_Meet
  rw [check_eq, ob_some, partsF_zero c0]
  by_cases ct : to0 = []
  · subst ct
    have e : tt from0 [] = true := rfl
    refine ⟨ka, l.length, by omega, fun _ => h1, fun j hj => (h3 j hj).2, fun j hj => by simp [hj], ?_⟩
    rw [if_neg (by simp), h2, ob_some, if_neg (by simp), ob_some, e, if_pos rfl, w64_id (by simp; omega) (by simp; omega)]
    simp only [Option.some.injEq, Prod.mk.injEq, true_and, and_true]; omega
  · obtain ⟨b, hb, hall⟩ := ch_to to0 hg.ch
    have hs := search1_loop l to0 b (by omega) hb (fun j hj => (hall j (by omega)).2 hj) (fun j h1 h2 => by
      cases h3 : Op.bytesLess (lget l (j : Int)).From to0 with
      | true => have := (hall j h2).1 h3; omega
      | false => rfl) l.length 0 l.length (by omega) (by omega) hb (by omega)
    have h0 : ((0 : Nat) : Int) = 0 := rfl
    rw [h0] at hs
    have hT : tt from0 to0 = true → ka < b := by
      intro h
      have h5 : Op.bytesLess from0 to0 = true := by unfold tt at h; simpa [ct] using h
      have h6 := ((h3 ka h1).1).2 (Nat.le_refl _)
      exact (hall ka h1).1 (bl_le_trans h6 h5)
    refine ⟨ka, b, hb, hT, fun j hj => (h3 j hj).2, fun j hj => by simp [ct, hall j hj], ?_⟩
    cases hl : Op.bytesLess from0 to0 with
    | true =>
      have e : tt from0 to0 = true := by unfold tt; rw [hl]; simp
      have := hT e
      unfold sort_Search_v1
      rw [if_neg (by simp), h2, ob_some, if_pos (n_t ct), hs, ob_some, ob_some, e, if_pos rfl, w64_id (by simp; omega) (by simp; omega)]
      simp only [Option.some.injEq, Prod.mk.injEq, true_and, and_true]; omega
    | false =>
      have e : tt from0 to0 = false := by unfold tt; rw [hl]; simp [ct]
      rw [if_pos (by simp [ct]), e]; rfl
theorem meetS_bad {l : List Part} (hg : ¬ (partsF l).Code = 0) (from0 to0 : List UInt8) : parts_Meet l from0 to0 = some (0, 0, partsF l) := by
  unfold parts_Meet
  rw [check_eq, ob_some, if_pos (by simp [hg])]
def fst0 (T : Bool) (k ka b i : Nat) : Int × Int × Int × Int :=
  ((if T = true ∧ ka < i then (ka : Int) else 0), (((if T = true then min i b - ka else 0 : Nat)) : Int), (if k < i then (k : Int) else -1), (i : Int))
theorem finds_loop (l : List Part) (hl : l.length ≤ 200) (row from0 to0 : List UInt8) (k ka b : Nat) (hk : k < l.length) (hb : b ≤ l.length)
    (hrow : ∀ j : Nat, j < l.length → R_InPart (lget l (j : Int)) row = decide (j = k))
    (h2 : ∀ j : Nat, j < l.length → (((lget l (j : Int)).To = [] ∨ Op.bytesLess from0 (lget l (j : Int)).To = true) ↔ ka ≤ j))
    (h3 : ∀ j : Nat, j < l.length → ((to0 = [] ∨ Op.bytesLess (lget l (j : Int)).From to0 = true) ↔ j < b))
    (hT : tt from0 to0 = true → ka < b) (x2 : Int × Fault) (x3 : Int × Int × Fault) (e2 : x2.1 = (fst0 (tt from0 to0) k ka b l.length).2.2.1) (e3 : x3.1 = (fst0 (tt from0 to0) k ka b l.length).1) (e4 : x3.2.1 = (fst0 (tt from0 to0) k ka b l.length).2.1) :
    ∀ (m i : Nat), l.length - i = m → i ≤ l.length → law_PartsFinds_L1 l row from0 to0 x2 x3 (fst0 (tt from0 to0) k ka b i) = some true
  | 0, i, e, hi => by
    have : i = l.length := by omega
    subst this
    refine loopO_inr ?_
    simp only [law_PartsFinds_B1]
    rw [if_neg (d_f (by simp only [fst0]; omega))]
    simp only [inrO, law_PartsFinds_J1, lt, e2, e3, e4]; simp
  | m + 1, i, e, hi => by
    have hlt : i < l.length := by omega
    have ih := finds_loop l hl row from0 to0 k ka b hk hb hrow h2 h3 hT x2 x3 e2 e3 e4 m (i + 1) (by omega) (by omega)
    have hw : w64 ((i : Int) + 1) = ((i + 1 : Nat) : Int) := by rw [w64_id (by omega) (by omega)]; omega
    have hr : (0 : Int) ≤ (i : Int) ∧ (i : Int) < (l.length : Int) := by omega
    have hc : ((((decide (to0 = ([] : List UInt8))) || (Op.bytesLess from0 to0)) && ((decide (((lget l (i : Int)).To) = ([] : List UInt8))) || (Op.bytesLess from0 ((lget l (i : Int)).To)))) && ((decide (to0 = ([] : List UInt8))) || (Op.bytesLess ((lget l (i : Int)).From) to0))) = true ↔ (tt from0 to0 = true ∧ ka ≤ i) ∧ i < b := by
      rw [← h2 i hlt, ← h3 i hlt]
      unfold tt
      simp
    have hJ : ∀ v3 : Int, v3 = (if k < i + 1 then (k : Int) else -1) → law_PartsFinds_J2 l from0 to0 (fst0 (tt from0 to0) k ka b i) v3 = some (.inl (fst0 (tt from0 to0) k ka b (i + 1))) := by
      intro v3 hv
      unfold law_PartsFinds_J2
      have ei : (fst0 (tt from0 to0) k ka b i).2.2.2 = (i : Int) := rfl
      rw [ei, asrt_pos (fun _ => hr), asrt_pos (fun _ _ => hr), asrt_pos (fun _ _ => hr), hw]
      generalize hTT : tt from0 to0 = T at hT hc ⊢
      by_cases c : (T = true ∧ ka ≤ i) ∧ i < b
      · rw [if_pos (hc.2 c)]
        obtain ⟨⟨c1, c2⟩, c3⟩ := c
        subst c1
        have em : (fst0 true k ka b i).2.1 = ((i - ka : Nat) : Int) := by simp only [fst0]; simp; omega
        have em2 : w64 (((i - ka : Nat) : Int) + 1) = ((i + 1 - ka : Nat) : Int) := by rw [w64_id (by omega) (by omega)]; omega
        rw [em, em2]
        by_cases c4 : i = ka
        · subst c4
          rw [if_pos (by simp), ob_some, ob_some, hv]
          simp only [fst0]
          simp; omega
        · rw [if_neg (by simp; omega), ob_some, ob_some, hv]
          simp only [fst0]
          have : ka < i := by omega
          have h7 : ka < i + 1 := by omega
          simp [this, h7]; omega
      · rw [if_neg (fun h => c (hc.1 h)), ob_some, hv]
        cases T with
        | false => simp [fst0]
        | true =>
          have := hT rfl
          have c' : ¬ (ka ≤ i ∧ i < b) := fun h => c ⟨⟨rfl, h.1⟩, h.2⟩
          simp only [fst0, true_and, if_true]
          by_cases c5 : ka < i
          · have h8 : ka < i + 1 := by omega
            simp [c5, h8]; omega
          · have h8 : ¬ ka < i + 1 := by omega
            simp [c5, h8]; omega
    refine (loopO_inl ?_).trans ih
    simp only [law_PartsFinds_B1]
    have ei : (fst0 (tt from0 to0) k ka b i).2.2.2 = (i : Int) := rfl
    have ea : (fst0 (tt from0 to0) k ka b i).2.2.1 = (if k < i then (k : Int) else -1) := rfl
    rw [ei, ea, if_pos (d_t hr.2), asrt_pos hr, part_eta, hrow i hlt]
    dsimp only [lt]
    by_cases c : i = k
    · subst c
      rw [if_pos (d_t rfl), if_neg (Nat.lt_irrefl i), if_neg (by decide)]
      exact hJ _ (by simp)
    · rw [if_neg (d_f c)]
      refine hJ _ ?_
      by_cases c2 : k < i
      · rw [if_pos c2, if_pos (by omega)]
      · rw [if_neg c2, if_neg (by omega)]
theorem PartsFinds_eq (l : List Part) (row from0 to0 : List UInt8) : law_PartsFinds l row from0 to0 = some true := by
  unfold law_PartsFinds
  rw [begun_eq, ob_some, if_neg (by decide)]
  by_cases c : 1000 < l.length
  · rw [if_pos (d_t (by omega))]
  · rw [if_neg (d_f (by omega)), own_eq l (by omega), ob_some]
    have hs := same_self l (by omega)
    by_cases c0 : (partsF l).Code = 0
    · have hg := partsF_good.1 c0
      have hlen := hg.len
      obtain ⟨k, hk, hf, hall⟩ := findS_good hg row
      obtain ⟨ka, b, hb, hT, h2, h3, hm⟩ := meetS_good hg from0 to0
      have hx : (if tt from0 to0 = true then ((ka : Int), ((b - ka : Nat) : Int), (⟨0, 0⟩ : Fault)) else (0, 0, ⟨0, 0⟩)).2.2 = ⟨0, 0⟩ := by cases tt from0 to0 <;> rfl
      rw [hf, ob_some, hm, ob_some, rcheck_eq, ob_some, partsF_zero c0, hx, hs, if_pos (by simp), ob_some, if_neg (by simp), if_neg (by simp)]
      have := finds_loop l hlen row from0 to0 k ka b hk hb (find_in hall) h2 h3 hT ((k : Int), ⟨0, 0⟩) (if tt from0 to0 = true then ((ka : Int), ((b - ka : Nat) : Int), (⟨0, 0⟩ : Fault)) else (0, 0, ⟨0, 0⟩)) (by simp [fst0, hk])
        (by
          cases h : tt from0 to0 with
          | false => simp [fst0]
          | true =>
            have := hT h
            have h9 : ka < l.length := by omega
            simp [fst0, h9])
        (by
          cases h : tt from0 to0 with
          | false => simp [fst0]
          | true => simp [fst0]; omega) l.length 0 (by omega) (by omega)
      have e0 : fst0 (tt from0 to0) k ka b 0 = (0, 0, -1, 0) := by simp [fst0]
      rw [e0] at this
      exact this
    · rw [findS_bad c0, ob_some, meetS_bad c0, ob_some, rcheck_eq, ob_some, hs, if_pos (by simp), ob_some, if_neg (by simp), if_pos (n_t c0)]
      rfl
end G
end Go.Proofs.Ytdjlninhfndjfaa
