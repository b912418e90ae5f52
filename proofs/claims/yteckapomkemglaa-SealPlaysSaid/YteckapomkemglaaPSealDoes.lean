/- SealDoes. -/
import Derived.Test.YteckapomkemglaaPSealI
namespace Go.Proofs.Yteckapomkemglaa
open Go Go.Dm
set_option linter.unusedVariables false
set_option linter.unusedSimpArgs false
namespace G
theorem sameTexts_self (l : List (List UInt8)) (h : l.length ≤ 1000000) : R_SameTexts l l = some true := by rw [sameTexts_eq _ _ h]; simp
theorem sameCopy_self (c : Copy) (h : c.Recs.length ≤ 1000000) : R_SameCopy c c = some true := by
  unfold R_SameCopy
  rw [if_pos (by simp), sameTexts_self _ h, ob_some]
  simp [lt]
theorem ownCopy_eq (c : Copy) (h : c.Recs.length ≤ 1000000) : law_ownCopy c = some c := by
  unfold law_ownCopy law_ownTexts_v1
  rw [asrt_pos (by omega)]; rfl
theorem apC_len (c : Copy) (e a : Int) (r : List UInt8) (h : c.Recs.length ≤ 1000) : (apC c e a r).Recs.length ≤ 1001 := by
  unfold apC; split
  · simp
  · have := apR_len c a r; show (apR c a r).length ≤ 1001; omega
theorem clC_len (c : Copy) (e : Int) (h : c.Recs.length ≤ 1000) : (clC c e).Recs.length ≤ 1000 := by
  unfold clC; split
  · simp
  · exact h
theorem enC_len (c : Copy) (e : Int) (l : List (List UInt8)) (h : l.length ≤ 1000) : (enC c e l).Recs.length ≤ 1000 := by
  unfold enC; split
  · simp
  · exact h
theorem SealDoes_eq (c : Copy) (epoch at0 : Int) (rec0 : List UInt8) (recs : List (List UInt8)) : law_SealDoes c epoch at0 rec0 recs = some true := by
  unfold law_SealDoes
  rw [begun_eq, ob_some, if_neg (by simp)]
  by_cases h : 300 < (c.Recs.length : Int) ∨ 300 < (recs.length : Int)
  · rw [if_pos (by simpa using h)]
  · rw [if_neg (by simpa using h)]
    have e1 : law_ownTexts_v1 recs = some recs := by unfold law_ownTexts_v1; rw [asrt_pos (by omega)]
    rw [ownCopy_eq _ (by omega), ob_some, e1, ob_some, check_eq _ (by omega), ob_some, append1_eq _ _ _ _ (by omega), ob_some, close1_eq _ _ (by omega), ob_some, end1_eq _ _ _ (by omega) (by omega), ob_some,
      sameCopy_self _ (by omega), ob_some, if_pos (by simp), sameTexts_self _ (by omega), ob_some, if_neg (by simp),
      appended1_eq _ _ _ _ (by omega), ob_some, closed1_eq _ _ (by omega), ob_some, ended1_eq _ _ _ (by omega) (by omega), ob_some, fault_eq _ (by omega), ob_some,
      sameCopy_self _ (by have := apC_len c epoch at0 rec0 (by omega); show (apC _ _ _ _).Recs.length ≤ _; omega), sameCopy_self _ (by have := clC_len c epoch (by omega); show (clC _ _).Recs.length ≤ _; omega), sameCopy_self _ (by have := enC_len c epoch recs (by omega); show (enC _ _ _).Recs.length ≤ _; omega)]
    simp [ob, lt]
end G
end Go.Proofs.Yteckapomkemglaa
