/- What the document says of appending, closing, ending. -/
import Derived.Test.YteckapomkemglaaPSealB
namespace Go.Proofs.Yteckapomkemglaa
open Go Go.Dm
set_option linter.unusedVariables false
set_option linter.unusedSimpArgs false
namespace G
theorem appended_w (c : Copy) (e at0 : Int) (r : List UInt8) (hl : c.Recs.length ≤ 1000000) {β : Type} (k : Fault → Option β) :
    (ob (R_CopyAsked c e (⟨0, 0⟩ : Fault)) fun x =>
  ob (
    if ((decide (x.Code = 0)) && c.Closed) = true then
      lt (R_F 11 (-2)) fun x1 =>
      some x1
    else
      some x) fun (v : Fault) =>
  ob (
    if ((decide (v.Code = 0)) && (decide (200 < (r.length : Int)))) = true then
      lt (R_F 8 (-2)) fun x2 =>
      some x2
    else
      some v) fun (v1 : Fault) =>
  ob (
    if ((decide (v1.Code = 0)) && ((decide (at0 < 0)) || (decide ((c.Recs.length : Int) < at0)))) = true then
      lt (R_F 3 (-2)) fun x3 =>
      some x3
    else
      some v1) fun (v2 : Fault) =>
  asrt (((decide (v2.Code = 0)) && (decide (at0 < (c.Recs.length : Int)))) = true → 0 ≤ at0 ∧ at0 < (c.Recs.length : Int)) <|
  ob (
    if (((decide (v2.Code = 0)) && (decide (at0 < (c.Recs.length : Int)))) && (!decide ((lget c.Recs at0) = r))) = true then
      lt (R_F 7 (-2)) fun x4 =>
      some x4
    else
      some v2) fun (v3 : Fault) =>
  ob (
    if (((decide (v3.Code = 0)) && (decide (at0 = (c.Recs.length : Int)))) && (decide (100 ≤ at0))) = true then
      lt (R_F 2 (-2)) fun x5 =>
      some x5
    else
      some v3) k) = k (apF c e at0 r) := by
  rw [asked_eq _ _ _ hl, ob_some]
  unfold apF
  simp only [lt, R_F]
  by_cases h1 : (askS c e F0).Code = 0
  · rw [if_neg (show ¬ (askS c e F0).Code ≠ 0 by simp [h1])]
    have hlen := chk_len (ask_chk h1)
    by_cases h2 : c.Closed = true
    · rw [if_pos (show (decide ((askS c e F0).Code = 0) && c.Closed) = true by simp [h1, h2]), if_pos h2]
      simp [ob, asrt]
    · rw [if_neg (show ¬ (decide ((askS c e F0).Code = 0) && c.Closed) = true by simp [h2]), if_neg h2, ob_some]
      by_cases h3 : 200 < (r.length : Int)
      · rw [if_pos (show (decide ((askS c e F0).Code = 0) && decide (200 < (r.length : Int))) = true by simp [h1]; omega), if_pos h3]
        simp [ob, asrt]
      · rw [if_neg (show ¬ (decide ((askS c e F0).Code = 0) && decide (200 < (r.length : Int))) = true by simp; intro _; omega), if_neg h3, ob_some]
        by_cases h4 : at0 < 0 ∨ (c.Recs.length : Int) < at0
        · rw [if_pos (show (decide ((askS c e F0).Code = 0) && (decide (at0 < 0) || decide ((c.Recs.length : Int) < at0))) = true by simp [h1, h4]), if_pos h4]
          simp [ob, asrt]
        · rw [if_neg (show ¬ (decide ((askS c e F0).Code = 0) && (decide (at0 < 0) || decide ((c.Recs.length : Int) < at0))) = true by simp [h4]), if_neg h4, ob_some,
            asrt_pos (fun h => ⟨by omega, by simp at h; exact h.2⟩)]
          by_cases h5 : at0 < (c.Recs.length : Int) ∧ lget c.Recs at0 ≠ r
          · rw [if_pos (show (decide ((askS c e F0).Code = 0) && decide (at0 < (c.Recs.length : Int)) && !decide (lget c.Recs at0 = r)) = true by simp [h1, h5]), if_pos h5]
            simp [ob]
          · rw [if_neg (show ¬ (decide ((askS c e F0).Code = 0) && decide (at0 < (c.Recs.length : Int)) && !decide (lget c.Recs at0 = r)) = true by
              simp only [Bool.and_eq_true, decide_eq_true_eq, Bool.not_eq_true', decide_eq_false_iff_not]; exact fun h => h5 ⟨h.1.2, h.2⟩), if_neg h5, ob_some]
            by_cases h6 : at0 = 100
            · rw [if_pos (show (decide ((askS c e F0).Code = 0) && decide (at0 = (c.Recs.length : Int)) && decide (100 ≤ at0)) = true by simp [h1]; omega), if_pos h6]; rfl
            · rw [if_neg (show ¬ (decide ((askS c e F0).Code = 0) && decide (at0 = (c.Recs.length : Int)) && decide (100 ≤ at0)) = true by simp [h1]; omega), if_neg h6, ob_some, ask_0 h1]
  · rw [if_pos (show (askS c e F0).Code ≠ 0 from h1)]
    simp [ob, h1, asrt]
theorem appended_eq (c : Copy) (e at0 : Int) (r : List UInt8) (hl : c.Recs.length ≤ 1000000) : R_Appended c e at0 r = some ((apC c e at0 r).Epoch, (apC c e at0 r).Closed, (apC c e at0 r).Recs, (apC c e at0 r).Ended, apF c e at0 r) := by
  unfold R_Appended
  refine (appended_w c e at0 r hl _).trans ?_
  unfold apC
  by_cases h : (apF c e at0 r).Code = 0
  · rw [if_neg (show ¬ ((!decide ((apF c e at0 r).Code = 0)) = true) by simp [h]), if_neg (show ¬ (apF c e at0 r).Code ≠ 0 by simp [h]), asrt_pos (by omega)]
    exact apTail c at0 r hl _
  · rw [if_pos (show ((!decide ((apF c e at0 r).Code = 0)) = true) by simp [h]), if_pos (show (apF c e at0 r).Code ≠ 0 by simp [h])]
theorem appended1_eq (c : Copy) (e at0 : Int) (r : List UInt8) (hl : c.Recs.length ≤ 1000000) : R_Appended_v1 c e at0 r = some (apC c e at0 r, apF c e at0 r) := by
  unfold R_Appended_v1
  refine (appended_w c e at0 r hl _).trans ?_
  unfold apC
  by_cases h : (apF c e at0 r).Code = 0
  · rw [if_neg (show ¬ ((!decide ((apF c e at0 r).Code = 0)) = true) by simp [h]), if_neg (show ¬ (apF c e at0 r).Code ≠ 0 by simp [h]), asrt_pos (by omega)]
    exact apTail c at0 r hl _
  · rw [if_pos (show ((!decide ((apF c e at0 r).Code = 0)) = true) by simp [h]), if_pos (show (apF c e at0 r).Code ≠ 0 by simp [h])]

/-- a copy that is closed -/
def clC (c : Copy) (e : Int) : Copy := if (askS c e F0).Code ≠ 0 then ⟨0, false, [], 0⟩ else ⟨e, true, c.Recs, c.Ended⟩
theorem close_eq (c : Copy) (e : Int) (hl : c.Recs.length ≤ 1000000) : seal_Close c e = some ((clC c e).Epoch, (clC c e).Closed, (clC c e).Recs, (clC c e).Ended, askS c e F0) := by
  unfold seal_Close
  refine (ms_eq c e hl _).trans ?_
  unfold clC
  by_cases h : (askS c e F0).Code = 0
  · rw [if_neg (show ¬ ((!decide ((askS c e F0).Code = 0)) = true) by simp [h]), if_neg (show ¬ (askS c e F0).Code ≠ 0 by simp [h])]
    unfold seal_own
    rw [clone_eq _ hl]; rfl
  · rw [if_pos (show ((!decide ((askS c e F0).Code = 0)) = true) by simp [h]), if_pos (show (askS c e F0).Code ≠ 0 by simp [h])]
theorem close1_eq (c : Copy) (e : Int) (hl : c.Recs.length ≤ 1000000) : seal_Close_v1 c e = some (clC c e, askS c e F0) := by
  unfold seal_Close_v1
  refine (ms_eq c e hl _).trans ?_
  unfold clC
  by_cases h : (askS c e F0).Code = 0
  · rw [if_neg (show ¬ ((!decide ((askS c e F0).Code = 0)) = true) by simp [h]), if_neg (show ¬ (askS c e F0).Code ≠ 0 by simp [h])]
    unfold seal_own
    rw [clone_eq _ hl]; rfl
  · rw [if_pos (show ((!decide ((askS c e F0).Code = 0)) = true) by simp [h]), if_pos (show (askS c e F0).Code ≠ 0 by simp [h])]
theorem closed_eq (c : Copy) (e : Int) (hl : c.Recs.length ≤ 1000000) : R_ClosedCopy c e = some ((clC c e).Epoch, (clC c e).Closed, (clC c e).Recs, (clC c e).Ended, askS c e F0) := by
  unfold R_ClosedCopy
  rw [asked_eq _ _ _ hl, ob_some]
  unfold clC
  by_cases h : (askS c e F0).Code = 0
  · rw [if_neg (show ¬ ((!decide ((askS c e F0).Code = 0)) = true) by simp [h]), if_neg (show ¬ (askS c e F0).Code ≠ 0 by simp [h]), asrt_pos (by omega)]
  · rw [if_pos (show ((!decide ((askS c e F0).Code = 0)) = true) by simp [h]), if_pos (show (askS c e F0).Code ≠ 0 by simp [h])]
theorem closed1_eq (c : Copy) (e : Int) (hl : c.Recs.length ≤ 1000000) : R_ClosedCopy_v1 c e = some (clC c e, askS c e F0) := by
  unfold R_ClosedCopy_v1
  rw [asked_eq _ _ _ hl, ob_some]
  unfold clC
  by_cases h : (askS c e F0).Code = 0
  · rw [if_neg (show ¬ ((!decide ((askS c e F0).Code = 0)) = true) by simp [h]), if_neg (show ¬ (askS c e F0).Code ≠ 0 by simp [h]), asrt_pos (by omega)]
  · rw [if_pos (show ((!decide ((askS c e F0).Code = 0)) = true) by simp [h]), if_pos (show (askS c e F0).Code ≠ 0 by simp [h])]

/-- what is wrong with records that a copy is to end with -/
def recF (l : List (List UInt8)) : Fault := if 100 < (l.length : Int) then ⟨2, -2⟩ else if 0 ≤ longS l then ⟨8, longS l⟩ else F0
def enC (c : Copy) (e : Int) (l : List (List UInt8)) : Copy := if (askS c e (recF l)).Code ≠ 0 then ⟨0, false, [], 0⟩ else ⟨e, true, l, e⟩
theorem ended_w (l : List (List UInt8)) (hl : l.length ≤ 1000000) : (
    if (decide (100 < (l.length : Int))) = true then
      lt (R_F 2 (-2)) fun x =>
      some x
    else
      ob (R_TooLong l) fun x1 =>
      if (decide (0 ≤ x1)) = true then
        ob (R_TooLong l) fun x2 =>
        lt (R_F 8 x2) fun x3 =>
        some x3
      else
        some (⟨0, 0⟩ : Fault)) = some (recF l) := by
  unfold recF
  rw [tooLong_eq _ hl, ob_some, ob_some]
  simp only [lt, R_F]
  by_cases h1 : 100 < (l.length : Int)
  · rw [if_pos (d_t h1), if_pos h1]
  · rw [if_neg (d_f h1), if_neg h1]
    by_cases h2 : 0 ≤ longS l
    · rw [if_pos (d_t h2), if_pos h2]
    · rw [if_neg (d_f h2), if_neg h2]
theorem ended_eq (c : Copy) (e : Int) (l : List (List UInt8)) (hl : c.Recs.length ≤ 1000000) (h2 : l.length ≤ 1000000) : R_EndedCopy c e l = some ((enC c e l).Epoch, (enC c e l).Closed, (enC c e l).Recs, (enC c e l).Ended, askS c e (recF l)) := by
  unfold R_EndedCopy
  rw [ended_w _ h2, ob_some, asked_eq _ _ _ hl, ob_some]
  unfold enC
  by_cases h : (askS c e (recF l)).Code = 0
  · rw [if_neg (show ¬ ((!decide ((askS c e (recF l)).Code = 0)) = true) by simp [h]), if_neg (show ¬ (askS c e (recF l)).Code ≠ 0 by simp [h]), asrt_pos (by omega)]
  · rw [if_pos (show ((!decide ((askS c e (recF l)).Code = 0)) = true) by simp [h]), if_pos (show (askS c e (recF l)).Code ≠ 0 by simp [h])]
theorem ended1_eq (c : Copy) (e : Int) (l : List (List UInt8)) (hl : c.Recs.length ≤ 1000000) (h2 : l.length ≤ 1000000) : R_EndedCopy_v1 c e l = some (enC c e l, askS c e (recF l)) := by
  unfold R_EndedCopy_v1
  rw [ended_w _ h2, ob_some, asked_eq _ _ _ hl, ob_some]
  unfold enC
  by_cases h : (askS c e (recF l)).Code = 0
  · rw [if_neg (show ¬ ((!decide ((askS c e (recF l)).Code = 0)) = true) by simp [h]), if_neg (show ¬ (askS c e (recF l)).Code ≠ 0 by simp [h]), asrt_pos (by omega)]
  · rw [if_pos (show ((!decide ((askS c e (recF l)).Code = 0)) = true) by simp [h]), if_pos (show (askS c e (recF l)).Code ≠ 0 by simp [h])]
/-- the same, as it is worked out -/
theorem end_w (c : Copy) (e : Int) (l : List (List UInt8)) (hl : c.Recs.length ≤ 1000000) (h2 : l.length ≤ 1000000) {β : Type} (k : Fault → Option β) : (
  ob (seal_may c e) fun x =>
  ob (
    if ((decide (x.Code = 0)) && (decide (100 < (l.length : Int)))) = true then
      lt (seal_fault 2 (-2)) fun x1 =>
      some x1
    else
      some x) fun (v : Fault) =>
  ob (seal_long l) fun x2 =>
  ob (
    if ((decide (v.Code = 0)) && (decide (0 ≤ x2))) = true then
      lt (seal_fault 8 x2) fun x3 =>
      some x3
    else
      some v) fun v1 =>
  ob (
    if (decide (v1.Code = 0)) = true then
      lt (seal_stale c e) fun x4 =>
      some x4
    else
      some v1) k) = k (askS c e (recF l)) := by
  rw [may_eq _ _ hl, ob_some, long_eq _ h2]
  unfold askS recF
  simp only [lt, seal_fault, seal_stale]
  by_cases h1 : (chkS c).Code = 0
  · rw [if_neg (show ¬ (chkS c).Code ≠ 0 by simp [h1]), if_neg (show ¬ (chkS c).Code ≠ 0 by simp [h1])]
    by_cases h2 : e < 1 ∨ 1000000000 < e
    · rw [if_pos h2, if_pos h2]; simp [ob]
    · rw [if_neg h2, if_neg h2]
      by_cases h3 : 100 < (l.length : Int)
      · rw [if_pos h3]; simp [ob, h3]
      · rw [if_neg h3]
        by_cases h4 : 0 ≤ longS l
        · rw [if_pos h4]; simp [ob, h4, h3]
        · rw [if_neg h4]
          by_cases h5 : e < c.Epoch <;> simp [ob, h4, h5, h3]
  · rw [if_pos (show (chkS c).Code ≠ 0 from h1), if_pos (show (chkS c).Code ≠ 0 from h1)]; simp [ob, h1]
theorem end_eq (c : Copy) (e : Int) (l : List (List UInt8)) (hl : c.Recs.length ≤ 1000000) (h2 : l.length ≤ 1000000) : seal_End c e l = some ((enC c e l).Epoch, (enC c e l).Closed, (enC c e l).Recs, (enC c e l).Ended, askS c e (recF l)) := by
  unfold seal_End
  refine (end_w c e l hl h2 _).trans ?_
  unfold enC
  by_cases h : (askS c e (recF l)).Code = 0
  · rw [if_neg (show ¬ ((!decide ((askS c e (recF l)).Code = 0)) = true) by simp [h]), if_neg (show ¬ (askS c e (recF l)).Code ≠ 0 by simp [h]), clone_eq _ h2]; rfl
  · rw [if_pos (show ((!decide ((askS c e (recF l)).Code = 0)) = true) by simp [h]), if_pos (show (askS c e (recF l)).Code ≠ 0 by simp [h])]
theorem end1_eq (c : Copy) (e : Int) (l : List (List UInt8)) (hl : c.Recs.length ≤ 1000000) (h2 : l.length ≤ 1000000) : seal_End_v1 c e l = some (enC c e l, askS c e (recF l)) := by
  unfold seal_End_v1
  refine (end_w c e l hl h2 _).trans ?_
  unfold enC
  by_cases h : (askS c e (recF l)).Code = 0
  · rw [if_neg (show ¬ ((!decide ((askS c e (recF l)).Code = 0)) = true) by simp [h]), if_neg (show ¬ (askS c e (recF l)).Code ≠ 0 by simp [h]), clone_eq _ h2]; rfl
  · rw [if_pos (show ((!decide ((askS c e (recF l)).Code = 0)) = true) by simp [h]), if_pos (show (askS c e (recF l)).Code ≠ 0 by simp [h])]
end G
end Go.Proofs.Yteckapomkemglaa
