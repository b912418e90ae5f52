/- What the document says of choosing: the same. -/
import Derived.Test.YteckapomkemglaaPSealD
namespace Go.Proofs.Yteckapomkemglaa
open Go Go.Dm
set_option linter.unusedVariables false
set_option linter.unusedSimpArgs false
namespace G
def cnd (E L : Int) (c : Copy) : Prop := c.Ended = E ∧ (0 < E ∨ (c.Recs.length : Int) = L)
instance (E L : Int) (c : Copy) : Decidable (cnd E L c) := by unfold cnd; infer_instance
theorem best_char (said : List Copy) (hE : ∀ c ∈ said, 0 ≤ c.Ended) : ∀ k : Nat, k < said.length →
    (∃ j : Nat, j ≤ k ∧ bB said k = lget said (j : Int) ∧ cnd (bE said (k + 1)) (bL said (k + 1)) (lget said (j : Int)) ∧ ∀ i : Nat, i < j → ¬ cnd (bE said (k + 1)) (bL said (k + 1)) (lget said (i : Int))) ∧
    (∀ i : Nat, i ≤ k → (lget said (i : Int)).Ended ≤ bE said (k + 1) ∧ ((lget said (i : Int)).Recs.length : Int) ≤ bL said (k + 1)) ∧ 0 ≤ bE said (k + 1)
  | 0, h => by
    have h0 := hE _ (lget_mem h)
    have e1 : bE said 1 = (lget said ((0 : Nat) : Int)).Ended := by simp only [bE]; omega
    have e2 : bL said 1 = ((lget said ((0 : Nat) : Int)).Recs.length : Int) := by simp only [bL]; omega
    refine ⟨⟨0, Nat.le_refl _, rfl, ⟨e1.symm, .inr e2.symm⟩, fun i hi => by omega⟩, fun i hi => ?_, by rw [e1]; exact h0⟩
    have : i = 0 := by omega
    subst this
    rw [e1, e2]; exact ⟨Int.le_refl _, Int.le_refl _⟩
  | k + 1, h => by
    obtain ⟨⟨j, hj, hb, ⟨c1, c2⟩, c3⟩, hle, hE0⟩ := best_char said hE k (by omega)
    have hc := hE _ (lget_mem h)
    have e1 : bE said (k + 1 + 1) = max (bE said (k + 1)) (lget said ((k + 1 : Nat) : Int)).Ended := rfl
    have e2 : bL said (k + 1 + 1) = max (bL said (k + 1)) ((lget said ((k + 1 : Nat) : Int)).Recs.length : Int) := rfl
    have e3 : bB said (k + 1) = bet (bB said k) (lget said ((k + 1 : Nat) : Int)) := rfl
    rw [e1, e2, e3, hb]
    have hall : ∀ i : Nat, i ≤ k + 1 → (lget said (i : Int)).Ended ≤ max (bE said (k + 1)) (lget said ((k + 1 : Nat) : Int)).Ended ∧ ((lget said (i : Int)).Recs.length : Int) ≤ max (bL said (k + 1)) ((lget said ((k + 1 : Nat) : Int)).Recs.length : Int) := fun i hi => by
      by_cases hk : i = k + 1
      · subst hk; omega
      · have := hle i (by omega); omega
    refine ⟨?_, hall, by omega⟩
    unfold bet
    generalize hcc : lget said ((k + 1 : Nat) : Int) = c at *
    by_cases hbet : (lget said (j : Int)).Ended < c.Ended ∨ ((lget said (j : Int)).Ended = 0 ∧ c.Ended = 0) ∧ ((lget said (j : Int)).Recs.length : Int) < (c.Recs.length : Int)
    · rw [if_pos hbet]
      refine ⟨k + 1, Nat.le_refl _, hcc.symm, ?_, fun i hi hn => ?_⟩
      · rw [hcc]; unfold cnd; omega
      · have := hle i (by omega)
        unfold cnd at hn
        omega
    · rw [if_neg hbet]
      refine ⟨j, by omega, rfl, ?_, fun i hi hn => c3 i hi ?_⟩
      · unfold cnd; omega
      · unfold cnd at hn ⊢; omega
theorem chk_pos {c : Copy} (h : (chkS c).Code = 0) : 0 ≤ c.Ended := by
  unfold chkS at h
  split at h
  · simp at h
  · rename_i h1
    simp [R_Num] at h1
    omega
theorem chosen_eq (n : Int) (said : List Copy) (hb : ∀ c ∈ said, c.Recs.length ≤ 1000000) : R_Chosen n said = some (chS n said) := by
  unfold R_Chosen chS
  simp only [lt, R_F]
  by_cases h1 : n < 1 ∨ 7 < n
  · rw [if_pos (by simpa using h1), if_pos h1]
  · rw [if_neg (by simpa using h1), if_neg h1]
    by_cases h2 : n < (said.length : Int)
    · rw [if_pos (d_t h2), if_pos h2]
    · rw [if_neg (d_f h2), if_neg h2]
      let fE : Nat → Option Ans := fun k => if cnd (bE said said.length) (bL said said.length) (lget said (k : Int)) then some ((lget said (k : Int)).Recs, F0) else none
      have hJ : R_Chosen_J1 n said () = some (if 2 * (said.length : Int) ≤ n then ([], ⟨6, -1⟩) else firstFrom fE ([], F0) 0 said.length) := by
        unfold R_Chosen_J1
        rw [w64_id (by omega) (by omega)]
        simp only [lt, R_F]
        by_cases h3 : 2 * (said.length : Int) ≤ n
        · rw [if_pos (d_t h3), if_pos h3]
        · rw [if_neg (d_f h3), if_neg h3]
          unfold R_Chosen_L2
          refine loop_count (step := fun y => R_Chosen_B2 said y) (fun k => (bE said k, bL said k, (k : Int))) _ said.length (fun k hk => ?_) ?_
          · have hw : w64 ((k : Int) + 1) = ((k + 1 : Nat) : Int) := by rw [w64_id (by omega) (by omega)]; omega
            show R_Chosen_B2 said (bE said k, bL said k, (k : Int)) = _
            unfold R_Chosen_B2
            dsimp only
            rw [if_pos (d_t (by omega)), asrt_pos (by omega), asrt_pos (by omega), hw]; rfl
          · show R_Chosen_B2 said (bE said said.length, bL said said.length, (said.length : Int)) = _
            unfold R_Chosen_B2
            dsimp only
            rw [if_neg (d_f (by omega))]
            suffices h : R_Chosen_J2 said (bE said said.length, bL said said.length) = some (firstFrom fE ([], F0) 0 said.length) by rw [h]; rfl
            unfold R_Chosen_J2 R_Chosen_L1
            refine loop_firstF (step := fun y => R_Chosen_B1 said (bE said said.length, bL said said.length) y) fE ([], F0) said.length (fun k hk => ?_) ?_
            · have hw : w64 ((k : Int) + 1) = ((k + 1 : Nat) : Int) := by rw [w64_id (by omega) (by omega)]; omega
              show R_Chosen_B1 said (bE said said.length, bL said said.length) (k : Int) = _
              unfold R_Chosen_B1
              dsimp only
              have hrl := hb _ (lget_mem hk)
              rw [if_pos (d_t (by omega)), asrt_pos (by omega), asrt_pos (fun _ _ => by omega), asrt_pos (by omega), asrt_pos (by omega), hw]
              by_cases c : cnd (bE said said.length) (bL said said.length) (lget said (k : Int))
              · rw [if_pos (by simpa [cnd] using c)]
                show _ = some (nx (if _ then _ else _) _)
                rw [if_pos c]
              · rw [if_neg (by simpa [cnd] using c)]
                show _ = some (nx (if _ then _ else _) _)
                rw [if_neg c]
            · show R_Chosen_B1 said (bE said said.length, bL said said.length) (said.length : Int) = _
              unfold R_Chosen_B1
              rw [if_neg (d_f (by omega))]; rfl
      unfold R_Chosen_L3
      have hL := loop_firstF (step := fun y => R_Chosen_B3 n said y) (badF said) (if 2 * (said.length : Int) ≤ n then ([], ⟨6, -1⟩) else firstFrom fE ([], F0) 0 said.length) said.length (fun k hk => by
        have hw : w64 ((k : Int) + 1) = ((k + 1 : Nat) : Int) := by rw [w64_id (by omega) (by omega)]; omega
        show R_Chosen_B3 n said (k : Int) = _
        unfold R_Chosen_B3 badF
        rw [if_pos (d_t (by omega)), asrt_pos (by omega), asrt_pos (by omega)]
        have hc := fault_eq (lget said (k : Int)) (hb _ (lget_mem hk))
        rw [show (⟨(lget said (k : Int)).Epoch, (lget said (k : Int)).Closed, (lget said (k : Int)).Recs, (lget said (k : Int)).Ended⟩ : Copy) = lget said (k : Int) from rfl, hc, ob_some, ob_some, hw, asrt_pos (by omega)]
        simp only [lt, R_F]
        by_cases c1 : (chkS (lget said (k : Int))).Code = 0
        · cases c2 : (lget said (k : Int)).Closed <;> simp [c1, nx]
        · simp [c1, nx]) (by
        show R_Chosen_B3 n said (said.length : Int) = _
        unfold R_Chosen_B3
        rw [if_neg (d_f (by omega)), hJ]; rfl)
      refine hL.trans ?_
      -- where none is bad, it is the best one
      rcases firstFrom_cases (badF said) (if 2 * (said.length : Int) ≤ n then ([], ⟨6, -1⟩) else firstFrom fE ([], F0) 0 said.length) said.length 0 with ⟨g1, g2⟩ | ⟨j, x, g1, g2, g3, g4, g5⟩
      · rw [g2]
        rcases firstFrom_cases (badF said) (chR n said) said.length 0 with ⟨g3, g4⟩ | ⟨j, x, g3, g4, g5, _⟩
        · rw [g4]
          unfold chR
          by_cases h3 : 2 * (said.length : Int) ≤ n
          · rw [if_pos h3, if_pos h3]
          · rw [if_neg h3, if_neg h3]
            have hgood : ∀ k : Nat, k < said.length → (chkS (lget said (k : Int))).Code = 0 := fun k hk => by
              have := g1 k (Nat.zero_le _) (by omega)
              unfold badF at this
              split at this
              · cases this
              · rename_i hh; simpa using hh
            obtain ⟨⟨q, hq, hqb, hqc, hqn⟩, _⟩ := best_char said (fun c hc => by
              obtain ⟨k, hk⟩ := List.getElem?_of_mem hc
              have hkl := (List.getElem?_eq_some_iff.1 hk).1
              have : lget said (k : Int) = c := by simp [lget, List.getD, hk]
              rw [← this]; exact chk_pos (hgood k hkl)) (said.length - 1) (by omega)
            rw [show said.length - 1 + 1 = said.length by omega] at hqc hqn
            rcases firstFrom_cases fE ([], F0) said.length 0 with ⟨f1, f2⟩ | ⟨j, x, f1, f2, f3, f4, f5⟩
            · have := f1 q (Nat.zero_le _) (by omega)
              simp only [fE, if_pos hqc] at this
              cases this
            · rw [f5, hqb]
              have hjq : j = q := by
                have hj : cnd (bE said said.length) (bL said said.length) (lget said (j : Int)) := by
                  simp only [fE] at f3
                  split at f3
                  · assumption
                  · cases f3
                rcases Nat.lt_trichotomy j q with h | h | h
                · exact absurd hj (hqn j h)
                · exact h
                · have := f4 q (Nat.zero_le _) h
                  simp only [fE, if_pos hqc] at this
                  cases this
              subst hjq
              simp only [fE, if_pos hqc] at f3
              cases f3; rfl
        · have := g1 j g3 g4
          rw [g5] at this; cases this
      · rw [g5]
        rcases firstFrom_cases (badF said) (chR n said) said.length 0 with ⟨f3, f4⟩ | ⟨i, y, f1, f2, f3, f4, f5⟩
        · have := f3 j g1 g2
          rw [g3] at this; cases this
        · rw [f5]
          rcases Nat.lt_trichotomy i j with h | h | h
          · have := g4 i f1 h; rw [f3] at this; cases this
          · subst h; rw [g3] at f3; cases f3; rfl
          · have := f4 j g1 h; rw [g3] at this; cases this
theorem chosen1_eq (n : Int) (said : List Copy) (hb : ∀ c ∈ said, c.Recs.length ≤ 1000000) : R_Chosen_v1 n said = some (chS n said) := chosen_eq n said hb
end G
end Go.Proofs.Yteckapomkemglaa
