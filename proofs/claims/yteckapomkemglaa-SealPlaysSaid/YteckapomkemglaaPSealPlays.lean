/- SealPlays. -/
import Derived.Test.YteckapomkemglaaPSealK
namespace Go.Proofs.Yteckapomkemglaa
open Go Go.Dm
set_option linter.unusedVariables false
set_option linter.unusedSimpArgs false
set_option linter.unusedSectionVars false
namespace G
theorem sure_end (v : Vault) (h : v.Took.length = v.Wrote.length) : ∃ s : Nat, s ≤ v.Took.length ∧ sureS v = ((s : Int), F0) ∧ (∀ p : Nat, p < s → v.Copies.length < 2 * (lget v.Took (p : Int)).length) ∧ (s < v.Took.length → 2 * (lget v.Took (s : Int)).length ≤ v.Copies.length) := by
  unfold sureS
  rw [if_neg (by simp [h])]
  have key : ∀ p : Nat, sureF v p = none → v.Copies.length < 2 * (lget v.Took (p : Int)).length := fun p hp => by
    unfold sureF at hp
    split at hp
    · cases hp
    · omega
  rcases firstFrom_cases (sureF v) ((v.Took.length : Int), F0) v.Took.length 0 with ⟨g1, g2⟩ | ⟨j, x, g1, g2, g3, g4, g5⟩
  · exact ⟨v.Took.length, by omega, g2, fun p hp => key p (g1 p (Nat.zero_le _) (by omega)), fun q => by omega⟩
  · refine ⟨j, by omega, ?_, fun p hp => key p (g4 p (Nat.zero_le _) hp), fun _ => ?_⟩
    · rw [g5]
      unfold sureF at g3
      split at g3
      · cases g3; rfl
      · cases g3
    · unfold sureF at g3
      split at g3
      · omega
      · cases g3
theorem plays_L1 (v : Vault) (f : Fault) (hv : VB v 2000) : law_SealPlays_L1 (tup (v, f)) (v, f) (sureS v) 0 = some true := by
  have h1 := hv.wr
  have h2 := hv.tk
  have h3 := hv.cn
  obtain ⟨s, s1, s2, s3, s4⟩ := sure_end v h2
  unfold law_SealPlays_L1
  rw [s2]
  have hw2 : ∀ k : Nat, k < v.Took.length → w64 (2 * ((lget v.Took (k : Int)).length : Int)) = 2 * ((lget v.Took (k : Int)).length : Int) := fun k hk => by
    have := hv.tl _ (mem_at (l := v.Took) (n := (k : Int)) (by omega))
    exact w64_id (by omega) (by omega)
  refine loop_count (step := fun y => law_SealPlays_B1 (tup (v, f)) (v, f) ((s : Int), F0) y) (fun k => (k : Int)) true s (fun k hk => ?_) ?_
  · have hw : w64 ((k : Int) + 1) = ((k + 1 : Nat) : Int) := by rw [w64_id (by omega) (by omega)]; omega
    have g1 := s3 k hk
    show law_SealPlays_B1 (tup (v, f)) (v, f) ((s : Int), F0) (k : Int) = _
    unfold law_SealPlays_B1
    dsimp only
    rw [asrt_pos (fun _ => by omega), hw2 k (by omega), if_pos (by simp; omega), hw]
  · show law_SealPlays_B1 (tup (v, f)) (v, f) ((s : Int), F0) (s : Int) = _
    unfold law_SealPlays_B1
    dsimp only
    rw [asrt_pos (fun q => by have := of_decide_eq_true q; omega)]
    have hneg : ¬ ((decide ((s : Int) < (v.Took.length : Int)) && decide ((v.Copies.length : Int) < w64 (2 * ((lget v.Took (s : Int)).length : Int)))) = true) := by
      by_cases c : s < v.Took.length
      · rw [hw2 s c]
        have := s4 c
        simp; omega
      · simp; omega
    rw [if_neg hneg]
    unfold law_SealPlays_J2 tup
    dsimp only [lt, R_F]
    rw [if_neg (by simp [F0]), asrt_pos (by simp; omega), sure_eq _ (by show v.Took.length ≤ _; omega) (fun t ht => by have := hv.tl t ht; omega), ob_some]
    unfold sureS
    rw [if_pos (by show ¬ (v.Wrote ++ [[]]).length = v.Took.length; rw [List.length_append, List.length_singleton]; omega)]
    rfl
theorem SealPlays_eq (num : Int) (recs : List (List UInt8)) (deeds : List Deed) : law_SealPlays num recs deeds = some true := by
  unfold law_SealPlays
  rw [begun_eq, ob_some, if_neg (by simp)]
  by_cases h : ((200 < (deeds.length : Int) ∧ (deeds.length : Int) < 2001) ∨ 3000 < (deeds.length : Int)) ∨ 300 < (recs.length : Int)
  · rw [if_pos (by simpa using h)]
  rw [if_neg (by simpa using h), asrt_pos (by omega)]
  have e1 : law_ownTexts recs = some recs := by unfold law_ownTexts; rw [asrt_pos (by omega)]
  rw [e1, ob_some, play_eq _ _ _ (by omega), ob_some]
  have hv := play_vb num recs deeds
  unfold law_SealPlays_L2
  refine loop_count (step := fun y => law_SealPlays_B2 num recs deeds recs (tup (playS num recs deeds)) y) (fun k => (k : Int)) true deeds.length (fun k hk => ?_) ?_
  · have hw : w64 ((k : Int) + 1) = ((k + 1 : Nat) : Int) := by rw [w64_id (by omega) (by omega)]; omega
    show law_SealPlays_B2 num recs deeds recs (tup (playS num recs deeds)) (k : Int) = _
    unfold law_SealPlays_B2
    rw [if_pos (d_t (by omega)), asrt_pos (by omega), asrt_pos (by omega), asrt_pos (by omega), if_neg (by simp), hw]
  · show law_SealPlays_B2 num recs deeds recs (tup (playS num recs deeds)) (deeds.length : Int) = _
    unfold law_SealPlays_B2
    rw [if_neg (d_f (by omega))]
    suffices hh : law_SealPlays_J1 num recs deeds recs (tup (playS num recs deeds)) () = some true by rw [hh]; rfl
    unfold law_SealPlays_J1
    rw [vaults_eq _ _ _ (by omega), ob_some]
    have ht : tup (playS num recs deeds) = tup ((playS num recs deeds).1, (playS num recs deeds).2) := rfl
    have hL := plays_L1 (playS num recs deeds).1 (playS num recs deeds).2 hv
    have hs := sure_eq (playS num recs deeds).1 (by have := hv.tk; have := hv.wr; omega) (fun t ht => by have := hv.tl t ht; omega)
    have hsv := sameVault_self hv (by omega)
    have hf : ¬ ((!(decide ((tup (playS num recs deeds)).2.2.2.2.Code = (playS num recs deeds).2.Code) && (decide ((tup (playS num recs deeds)).2.2.2.2.At = (playS num recs deeds).2.At) && true))) = true) := by simp [tup]
    have hf2 : (!(decide ((tup (playS num recs deeds)).2.2.2.2.Code = (playS num recs deeds).2.Code) && (decide ((tup (playS num recs deeds)).2.2.2.2.At = (playS num recs deeds).2.At) && true))) = false := by simpa using hf
    rw [hf2]
    rw [if_pos (by simp), show R_SameVault (⟨(tup (playS num recs deeds)).1, (tup (playS num recs deeds)).2.1, (tup (playS num recs deeds)).2.2.1, (tup (playS num recs deeds)).2.2.2.1⟩ : Vault) (playS num recs deeds).1 = some true from hsv, ob_some,
      if_pos (by simp), sameTexts_self _ (by omega), ob_some, if_neg (by simp), show seal_Sure (⟨(tup (playS num recs deeds)).1, (tup (playS num recs deeds)).2.1, (tup (playS num recs deeds)).2.2.1, (tup (playS num recs deeds)).2.2.2.1⟩ : Vault) = _ from hs, ob_some]
    exact hL
end G
end Go.Proofs.Yteckapomkemglaa
