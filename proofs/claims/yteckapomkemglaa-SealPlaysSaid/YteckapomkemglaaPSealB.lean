/- What is appended, closed, ended: both ways the same. -/
import Derived.Test.YteckapomkemglaaPSealA
namespace Go.Proofs.Yteckapomkemglaa
open Go Go.Dm
set_option linter.unusedVariables false
set_option linter.unusedSimpArgs false
namespace G
abbrev F0 : Fault := ⟨0, 0⟩
theorem may_eq (c : Copy) (e : Int) (hl : c.Recs.length ≤ 1000000) : seal_may c e = some (if (chkS c).Code ≠ 0 then chkS c else if e < 1 ∨ 1000000000 < e then ⟨3, -1⟩ else F0) := by
  unfold seal_may
  rw [check_eq _ hl, ob_some]
  simp only [lt, seal_fault]
  by_cases h1 : (chkS c).Code = 0 <;> by_cases h2 : e < 1 ∨ 1000000000 < e <;> simp [h1, h2]
theorem ms_eq {β : Type} (c : Copy) (e : Int) (hl : c.Recs.length ≤ 1000000) (f : Fault → Option β) :
    (ob (seal_may c e) fun x => ob (if (decide (x.Code = 0)) = true then lt (seal_stale c e) fun x1 => some x1 else some x) f) = f (askS c e F0) := by
  rw [may_eq _ _ hl, ob_some]
  unfold askS
  simp only [lt, seal_stale, seal_fault]
  by_cases h1 : (chkS c).Code = 0 <;> by_cases h2 : e < 1 ∨ 1000000000 < e <;> by_cases h4 : e < c.Epoch <;> simp [h1, h2, h4, ob]
theorem ask_chk {c : Copy} {e : Int} {w : Fault} (h : (askS c e w).Code = 0) : (chkS c).Code = 0 := by
  unfold askS at h
  split at h
  · rename_i h1; exact absurd h h1
  · rename_i h1; simpa using h1
theorem ask_0 {c : Copy} {e : Int} (h : (askS c e F0).Code = 0) : askS c e F0 = F0 := by
  unfold askS at h ⊢
  by_cases h1 : (chkS c).Code ≠ 0
  · rw [if_pos h1] at h; exact absurd h h1
  · rw [if_neg h1] at h ⊢
    by_cases h2 : e < 1 ∨ 1000000000 < e
    · rw [if_pos h2] at h; simp at h
    · rw [if_neg h2] at h ⊢
      rw [if_neg (by simp)] at h ⊢
      by_cases h3 : e < c.Epoch
      · rw [if_pos h3] at h; simp at h
      · rw [if_neg h3]

/-- what is wrong with what is to be appended -/
def apF (c : Copy) (e at0 : Int) (r : List UInt8) : Fault :=
  if (askS c e F0).Code ≠ 0 then askS c e F0
  else if c.Closed = true then ⟨11, -2⟩
  else if 200 < (r.length : Int) then ⟨8, -2⟩
  else if at0 < 0 ∨ (c.Recs.length : Int) < at0 then ⟨3, -2⟩
  else if at0 < (c.Recs.length : Int) ∧ lget c.Recs at0 ≠ r then ⟨7, -2⟩
  else if at0 = 100 then ⟨2, -2⟩ else F0
def apR (c : Copy) (at0 : Int) (r : List UInt8) : List (List UInt8) := if at0 = (c.Recs.length : Int) then c.Recs ++ [r] else c.Recs
theorem apF_0 {c : Copy} {e at0 : Int} {r : List UInt8} (h : (apF c e at0 r).Code = 0) : (chkS c).Code = 0 ∧ c.Closed = false ∧ 0 ≤ at0 ∧ at0 ≤ (c.Recs.length : Int) ∧ apF c e at0 r = F0 ∧ askS c e F0 = F0 ∧ (r.length : Int) ≤ 200 ∧ at0 ≠ 100 ∧ (at0 < (c.Recs.length : Int) → lget c.Recs at0 = r) := by
  unfold apF at h ⊢
  split at h
  · rename_i h1; exact absurd h h1
  · rename_i h1
    have h1 : (askS c e F0).Code = 0 := by simpa using h1
    split at h
    · simp at h
    · rename_i h2
      split at h
      · simp at h
      · rename_i h3
        split at h
        · simp at h
        · rename_i h4
          split at h
          · simp at h
          · rename_i h5
            split at h
            · simp at h
            · rename_i h6
              refine ⟨ask_chk h1, by simpa using h2, by omega, by omega, by rw [if_neg (by simpa using h1), if_neg h2, if_neg h3, if_neg h4, if_neg h5, if_neg h6], ask_0 h1, by omega, h6, fun hlt => ?_⟩
              exact Classical.byContradiction fun hne => h5 ⟨hlt, hne⟩
/-- the copy behind -/
def apC (c : Copy) (e at0 : Int) (r : List UInt8) : Copy := if (apF c e at0 r).Code ≠ 0 then ⟨0, false, [], 0⟩ else ⟨e, false, apR c at0 r, 0⟩
theorem apR_len (c : Copy) (at0 : Int) (r : List UInt8) : (apR c at0 r).length ≤ c.Recs.length + 1 := by
  unfold apR; split <;> simp
theorem append_w (c : Copy) (e at0 : Int) (r : List UInt8) (hl : c.Recs.length ≤ 1000000) {β : Type} (k : Fault → Option β) :
    (ob (
      if (!decide ((askS c e F0).Code = 0)) = true then
        some (askS c e F0)
      else
        if c.Closed = true then
          lt (seal_fault 11 (-2)) fun x2 =>
          some x2
        else
          if (decide (200 < (r.length : Int))) = true then
            lt (seal_fault 8 (-2)) fun x3 =>
            some x3
          else
            if ((decide (at0 < 0)) || (decide ((c.Recs.length : Int) < at0))) = true then
              lt (seal_fault 3 (-2)) fun x4 =>
              some x4
            else
              asrt ((decide (at0 < (c.Recs.length : Int))) = true → 0 ≤ at0 ∧ at0 < (c.Recs.length : Int)) <|
              if ((decide (at0 < (c.Recs.length : Int))) && (!decide ((lget c.Recs at0) = r))) = true then
                lt (seal_fault 7 (-2)) fun x5 =>
                some x5
              else
                if (decide (at0 = 100)) = true then
                  lt (seal_fault 2 (-2)) fun x6 =>
                  some x6
                else
                  some (askS c e F0)) k) = k (apF c e at0 r) := by
  unfold apF
  simp only [lt, seal_fault]
  by_cases h1 : (askS c e F0).Code = 0
  · rw [if_neg (show ¬ ((!decide ((askS c e F0).Code = 0)) = true) by simp [h1]), if_neg (show ¬ (askS c e F0).Code ≠ 0 by simp [h1])]
    by_cases h2 : c.Closed = true
    · rw [if_pos h2, if_pos h2]; rfl
    · rw [if_neg h2, if_neg h2]
      by_cases h3 : 200 < (r.length : Int)
      · rw [if_pos (d_t h3), if_pos h3]; rfl
      · rw [if_neg (d_f h3), if_neg h3]
        by_cases h4 : at0 < 0 ∨ (c.Recs.length : Int) < at0
        · rw [if_pos (by simpa using h4), if_pos h4]; rfl
        · rw [if_neg (by simpa using h4), if_neg h4, asrt_pos (fun h => ⟨by omega, by simpa using h⟩)]
          by_cases h5 : at0 < (c.Recs.length : Int) ∧ lget c.Recs at0 ≠ r
          · rw [if_pos (by simpa using h5), if_pos h5]; rfl
          · rw [if_neg (by simpa using h5), if_neg h5]
            by_cases h6 : at0 = 100
            · rw [if_pos (d_t h6), if_pos h6]; rfl
            · rw [if_neg (d_f h6), if_neg h6, ob_some, ask_0 h1]
  · rw [if_pos (show ((!decide ((askS c e F0).Code = 0)) = true) by simp [h1]), if_pos (show (askS c e F0).Code ≠ 0 by simp [h1])]; rfl
theorem apTail (c : Copy) (at0 : Int) (r : List UInt8) (hl : c.Recs.length ≤ 1000000) {β : Type} (k : List (List UInt8) → Option β) :
    (ob (
      if (decide (at0 = (c.Recs.length : Int))) = true then
        asrt (((c.Recs ++ ([r] : List (List UInt8))).length : Int) * 16 ≤ 140737488351232) <|
        some (c.Recs ++ ([r] : List (List UInt8)))
      else
        some c.Recs) k) = k (apR c at0 r) := by
  unfold apR
  by_cases h : at0 = (c.Recs.length : Int)
  · rw [if_pos (d_t h), if_pos h, asrt_pos (by simp; omega)]; rfl
  · rw [if_neg (d_f h), if_neg h]; rfl
theorem append_eq (c : Copy) (e at0 : Int) (r : List UInt8) (hl : c.Recs.length ≤ 1000000) : seal_Append c e at0 r = some ((apC c e at0 r).Epoch, (apC c e at0 r).Closed, (apC c e at0 r).Recs, (apC c e at0 r).Ended, apF c e at0 r) := by
  unfold seal_Append
  refine (ms_eq c e hl _).trans ((append_w c e at0 r hl _).trans ?_)
  unfold apC
  by_cases h : (apF c e at0 r).Code = 0
  · rw [if_neg (show ¬ ((!decide ((apF c e at0 r).Code = 0)) = true) by simp [h]), if_neg (show ¬ (apF c e at0 r).Code ≠ 0 by simp [h])]
    obtain ⟨h1, h2, _⟩ := apF_0 h
    unfold seal_own
    rw [clone_eq _ hl, ob_some, ob_some]
    refine (apTail c at0 r hl _).trans ?_
    simp only [h2, chk_ended h1 h2]
  · rw [if_pos (show ((!decide ((apF c e at0 r).Code = 0)) = true) by simp [h]), if_pos (show (apF c e at0 r).Code ≠ 0 by simp [h])]
theorem append1_eq (c : Copy) (e at0 : Int) (r : List UInt8) (hl : c.Recs.length ≤ 1000000) : seal_Append_v1 c e at0 r = some (apC c e at0 r, apF c e at0 r) := by
  unfold seal_Append_v1
  refine (ms_eq c e hl _).trans ((append_w c e at0 r hl _).trans ?_)
  unfold apC
  by_cases h : (apF c e at0 r).Code = 0
  · rw [if_neg (show ¬ ((!decide ((apF c e at0 r).Code = 0)) = true) by simp [h]), if_neg (show ¬ (apF c e at0 r).Code ≠ 0 by simp [h])]
    obtain ⟨h1, h2, _⟩ := apF_0 h
    unfold seal_own
    rw [clone_eq _ hl, ob_some, ob_some]
    refine (apTail c at0 r hl _).trans ?_
    simp only [h2, chk_ended h1 h2]
  · rw [if_pos (show ((!decide ((apF c e at0 r).Code = 0)) = true) by simp [h]), if_pos (show (apF c e at0 r).Code ≠ 0 by simp [h])]
end G
end Go.Proofs.Yteckapomkemglaa
