/- What the seal package tells of a copy, plainly: checks, what is appended, closed, ended. -/
import Derived.Test.YteckapomkemglaaPFirst
namespace Go.Proofs.Yteckapomkemglaa
open Go Go.Dm
set_option linter.unusedVariables false
set_option linter.unusedSimpArgs false
namespace G
def longF (l : List (List UInt8)) (k : Nat) : Option Int := if 200 < ((lget l (k : Int)).length : Int) then some (k : Int) else none
/-- the first record that is too long -/
def longS (l : List (List UInt8)) : Int := firstFrom (longF l) (-1) 0 l.length
theorem long_eq (l : List (List UInt8)) (hl : l.length ≤ 1000000) : seal_long l = some (longS l) := by
  unfold seal_long slices_IndexFunc_string_string
  have : slices_IndexFunc_string_string_L1 l 0 = some (longS l) := by
    refine loop_firstF (step := fun y => slices_IndexFunc_string_string_B1 l y) (longF l) (-1) l.length (fun k hk => ?_) ?_
    · have hw : w64 ((k : Int) + 1) = ((k + 1 : Nat) : Int) := by rw [w64_id (by omega) (by omega)]; omega
      show slices_IndexFunc_string_string_B1 l (k : Int) = _
      unfold slices_IndexFunc_string_string_B1 longF
      rw [if_pos (d_t (by omega)), asrt_pos (by omega)]
      dsimp only [lt, seal_long_1]
      rw [hw]
      by_cases c : 200 < ((lget l (k : Int)).length : Int)
      · rw [if_pos (d_t c), if_pos c]
      · rw [if_neg (d_f c), if_neg c]
    · show slices_IndexFunc_string_string_B1 l (l.length : Int) = _
      unfold slices_IndexFunc_string_string_B1
      rw [if_neg (d_f (by omega))]; rfl
  rw [this]; rfl
theorem tooLong_eq (l : List (List UInt8)) (hl : l.length ≤ 1000000) : R_TooLong l = some (longS l) := by
  unfold R_TooLong R_TooLong_L1
  refine loop_firstF (step := fun y => R_TooLong_B1 l y) (longF l) (-1) l.length (fun k hk => ?_) ?_
  · have hw : w64 ((k : Int) + 1) = ((k + 1 : Nat) : Int) := by rw [w64_id (by omega) (by omega)]; omega
    show R_TooLong_B1 l (k : Int) = _
    unfold R_TooLong_B1 longF
    rw [if_pos (d_t (by omega)), asrt_pos (by omega), hw]
    by_cases c : 200 < ((lget l (k : Int)).length : Int)
    · rw [if_pos (d_t c), if_pos c]
    · rw [if_neg (d_f c), if_neg c]
  · show R_TooLong_B1 l (l.length : Int) = _
    unfold R_TooLong_B1
    rw [if_neg (d_f (by omega))]; rfl

/-- what is wrong with a copy -/
def chkS (c : Copy) : Fault :=
  if ((!R_Num c.Epoch) || (!R_Num c.Ended)) = true then ⟨3, -1⟩
  else if ((decide (c.Epoch < c.Ended)) || ((decide (0 < c.Ended)) && (!c.Closed))) = true then ⟨11, -1⟩
  else if 100 < (c.Recs.length : Int) then ⟨2, -1⟩
  else if 0 ≤ longS c.Recs then ⟨8, longS c.Recs⟩ else ⟨0, 0⟩
theorem check_eq (c : Copy) (hl : c.Recs.length ≤ 1000000) : seal_Check c = some (chkS c) := by
  unfold seal_Check chkS
  rw [long_eq _ hl]
  simp only [lt, ob_some, seal_fault, show ∀ n, seal_number n = R_Num n from fun _ => rfl]
  by_cases h1 : ((!R_Num c.Epoch) || (!R_Num c.Ended)) = true
  · rw [if_pos (show ((!R_Num c.Epoch) || (!R_Num c.Ended)) = true from h1), if_pos h1]
  · rw [if_neg (show ¬ ((!R_Num c.Epoch) || (!R_Num c.Ended)) = true from h1), if_neg h1]
    by_cases h2 : ((decide (c.Epoch < c.Ended)) || ((decide (0 < c.Ended)) && (!c.Closed))) = true
    · rw [if_pos h2, if_pos h2]
    · rw [if_neg h2, if_neg h2]
      by_cases h3 : 100 < (c.Recs.length : Int)
      · rw [if_pos (d_t h3), if_pos h3]
      · rw [if_neg (d_f h3), if_neg h3]
        by_cases h4 : 0 ≤ longS c.Recs
        · rw [if_pos (d_t h4), if_pos h4]
        · rw [if_neg (d_f h4), if_neg h4]
theorem fault_eq (c : Copy) (hl : c.Recs.length ≤ 1000000) : R_CopyFault c = some (chkS c) := by
  unfold R_CopyFault chkS
  rw [tooLong_eq _ hl]
  simp only [lt, ob_some, R_F]
  by_cases h1 : ((!R_Num c.Epoch) || (!R_Num c.Ended)) = true
  · rw [if_pos (show ((!R_Num c.Epoch) || (!R_Num c.Ended)) = true from h1), if_pos h1]
  · rw [if_neg (show ¬ ((!R_Num c.Epoch) || (!R_Num c.Ended)) = true from h1), if_neg h1]
    by_cases h2 : ((decide (c.Epoch < c.Ended)) || ((decide (0 < c.Ended)) && (!c.Closed))) = true
    · rw [if_pos h2, if_pos h2]
    · rw [if_neg h2, if_neg h2]
      by_cases h3 : 100 < (c.Recs.length : Int)
      · rw [if_pos (d_t h3), if_pos h3]
      · rw [if_neg (d_f h3), if_neg h3]
        by_cases h4 : 0 ≤ longS c.Recs
        · rw [if_pos (d_t h4), if_pos h4]
        · rw [if_neg (d_f h4), if_neg h4]
/-- what is wrong with a copy that is asked -/
def askS (c : Copy) (epoch : Int) (also : Fault) : Fault :=
  if (chkS c).Code ≠ 0 then chkS c
  else if epoch < 1 ∨ 1000000000 < epoch then ⟨3, -1⟩
  else if also.Code ≠ 0 then also
  else if epoch < c.Epoch then ⟨12, -1⟩ else also
theorem asked_eq (c : Copy) (epoch : Int) (also : Fault) (hl : c.Recs.length ≤ 1000000) : R_CopyAsked c epoch also = some (askS c epoch also) := by
  unfold R_CopyAsked askS
  rw [fault_eq _ hl]
  simp only [lt, ob_some, R_F]
  by_cases h1 : (chkS c).Code = 0 <;> by_cases h2 : epoch < 1 ∨ 1000000000 < epoch <;> by_cases h3 : also.Code = 0 <;> by_cases h4 : epoch < c.Epoch <;>
    simp [h1, h2, h3, h4, ob]
theorem clone_eq (l : List (List UInt8)) (hl : l.length ≤ 1000000) : slices_Clone_string_string l = some l := by
  unfold slices_Clone_string_string
  rw [asrt_pos (by rw [List.nil_append]; omega), List.nil_append]
  cases l with
  | nil => simp [ubO, asrt]
  | cons x l => simp [ubO, asrt]
theorem chk_len {c : Copy} (h : (chkS c).Code = 0) : c.Recs.length ≤ 100 := by
  unfold chkS at h
  repeat' split at h
  all_goals first | (simp at h; done) | omega
theorem chk_ended {c : Copy} (h : (chkS c).Code = 0) (hc : c.Closed = false) : c.Ended = 0 := by
  unfold chkS at h
  split at h
  · simp at h
  · rename_i h1
    split at h
    · simp at h
    · rename_i h2
      rw [hc] at h2
      simp [R_Num] at h1 h2
      omega
end G
end Go.Proofs.Yteckapomkemglaa
