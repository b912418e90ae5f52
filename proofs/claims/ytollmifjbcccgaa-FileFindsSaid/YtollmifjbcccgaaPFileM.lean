/- Open tells of any bytes what the document says: the program. -/
import Derived.Test.YtollmifjbcccgaaPFileL
namespace Go.Proofs.Ytollmifjbcccgaa
open Go Go.Dm
set_option linter.unusedVariables false
set_option linter.unusedSectionVars false
set_option linter.unusedSimpArgs false
namespace G
theorem badO_f {b : List UInt8} (h : ¬ badO b) : 2 ≤ (opn b.length b [] 0).1.length := by
  apply Decidable.byContradiction
  intro q
  exact h (.inr (.inl (by omega)))
theorem open_any (b : List UInt8) : file_Open_v1 b = some ((fileO b).1, (fileO b).2.2) := by
  unfold file_Open_v1
  rw [open_all, ob_some]
  unfold openS fileO
  by_cases c : 60000 < b.length
  · rw [if_pos c, if_pos c]
    dsimp only
    rw [if_pos (by simp)]
  · rw [if_neg c, if_neg c]
    by_cases cb : badO b
    · rw [if_pos cb, if_pos cb]
      dsimp only
      rw [if_pos (by simp)]
    · have h2 := badO_f cb
      have hlen := opn_len b.length b [] 0
      rw [if_neg cb, if_neg cb]
      unfold idxO
      generalize (opn b.length b [] 0).1 = L at *
      have hL : L.length ≤ 60000 := by have := hlen.1; simp at this; omega
      cases hi : idxP L (L.length - 2) 0 (lget L ((L.length : Int) - 2)) [] with
      | none =>
        unfold opI
        dsimp only
        rw [if_pos (by simp)]
      | some rows =>
        have hrl := idxP_len L _ _ _ _ _ hi
        have hrl : rows.length = L.length - 2 := by simpa using hrl
        have htl : (L.take (L.length - 2)).length = L.length - 2 := by rw [List.length_take]; omega
        unfold opI
        dsimp only
        rw [if_neg (by simp), asrt_pos rfl]
        have hcl : file_opened_cells (L.take (L.length - 2)) rows (lget L ((L.length : Int) - 1)) 0 ((L.take (L.length - 2)).length : Int) = some (cellsO (celP L rows (L.length - 2) 0 [] [])) := by
          rw [htl]
          have := cells_loop (L.take (L.length - 2)) rows (lget L ((L.length : Int) - 1)) (L.length - 2) (by omega) (by omega) (by omega) (L.length - 2) 0 [] [] (by omega) (by omega) (by simp)
          rw [celP_take L rows (L.length - 2) (by omega) _ _ _ _ (by omega)] at this
          exact this
        rw [hcl, ob_some]
        cases hq : celP L rows (L.length - 2) 0 [] [] with
        | none =>
          unfold cellsO endO
          dsimp only
          rw [if_pos (by simp)]; rfl
        | some q =>
          unfold cellsO endO
          dsimp only
          by_cases cc : ¬ (cellF q.1).Code = 0 ∨ 500 < q.1.length
          · rw [if_pos (by simp only [Bool.or_eq_true, decide_eq_true_eq, Bool.not_eq_true', decide_eq_false_iff_not]; omega), if_pos cc]; rfl
          · have hz : (cellF q.1).Code = 0 := Decidable.not_not.1 (fun x => cc (.inl x))
            have hl := (cellF_good hz).len
            have hN := filN_bd q.1
            rw [if_neg (by simp only [Bool.or_eq_true, decide_eq_true_eq, Bool.not_eq_true', decide_eq_false_iff_not]; omega), if_neg cc, (rfil_small hz).2, ob_some, equal_eq _ _ (by unfold filF; rw [bytesOf_len]; omega), ob_some]
            by_cases cf : filF q.1 = lget L ((L.length : Int) - 1)
            · rw [if_neg (by simp [cf]), if_pos cf]
            · rw [if_pos (by simp [cf]), if_neg cf]; rfl
end G
end Go.Proofs.Ytollmifjbcccgaa
