/- Every Make makes the bytes that the document says, and Open opens them. -/
import Derived.Test.YtollmifjbcccgaaPFileG
namespace Go.Proofs.Ytollmifjbcccgaa
open Go Go.Dm
set_option linter.unusedVariables false
set_option linter.unusedSectionVars false
set_option linter.unusedSimpArgs false
namespace G
theorem bytesAs_bad {f : Fault} (hf : ¬ f.Code = 0) (x : List UInt8) : law_bytesAs [] f f x = true := by
  unfold law_bytesAs
  rw [if_neg (by simp), if_pos (n_t hf)]; rfl
theorem bytesAs_ok (b : List UInt8) : law_bytesAs b ⟨0, 0⟩ ⟨0, 0⟩ b = true := by
  unfold law_bytesAs law_FileMakes_1 R_Same
  simp [lt]
theorem FileMakes_eq (l : List Cell) (size : Int) : law_FileMakes l size = some true := by
  unfold law_FileMakes
  rw [fileBegun, ob_some, if_neg (by decide)]
  by_cases c0 : (((decide (150 < (l.length : Int))) && (decide ((l.length : Int) < 490))) || (decide (2000 < (l.length : Int)))) = true
  · rw [if_pos c0]
  · have hl2 : l.length ≤ 2000 := by
      simp only [Bool.or_eq_true, decide_eq_true_eq, not_or] at c0
      omega
    have ho : law_ownCells_v1 l = some l := by unfold law_ownCells_v1; rw [asrt_pos (by omega)]
    rw [if_neg c0, ho, ob_some, make_eq, ob_some, rcheck_eq, ob_some]
    by_cases c : (cellF l).Code = 0
    · have hG := cellF_good c
      have hlen := hG.len
      by_cases c2 : 500 < l.length
      · have hm : makeS l size = ([], ⟨2, -1⟩) := by
          have e : makeF l size = ⟨2, -1⟩ := by unfold makeF; rw [if_neg (not_not_intro c), if_pos c2]
          unfold makeS; rw [e, if_neg (by decide)]
        rw [hm, hG.f, if_pos (by simp; omega)]
        simp only [lt, ob_some, R_F]
        rw [if_neg (by simp)]
        simp only [ob_some]
        rw [if_neg (by simp)]
        simp only [ob_some]
        rw [bytesAs_bad (by decide), if_neg (by decide), if_pos (by simp)]
      · rw [hG.f, if_neg (by simp; omega)]
        simp only [lt, ob_some]
        by_cases c3 : size < 50 ∨ 4000 < size
        · have hm : makeS l size = ([], ⟨3, -1⟩) := by
            have e : makeF l size = ⟨3, -1⟩ := by unfold makeF; rw [if_neg (not_not_intro c), if_neg c2, if_pos c3]
            unfold makeS; rw [e, if_neg (by decide)]
          rw [hm, if_pos (by simp; exact c3)]
          simp only [R_F, ob_some]
          rw [if_neg (by simp)]
          simp only [ob_some]
          rw [bytesAs_bad (by decide), if_neg (by decide), if_pos (by simp)]
        · rw [if_neg (by simp; omega)]
          simp only [ob_some]
          rw [if_pos (by simp), rfile_eq hG.code hlen size, ob_some]
          by_cases c4 : 60000 < (fileB l size).length
          · have hm : makeS l size = ([], ⟨9, 0⟩) := by
              have e : makeF l size = ⟨9, 0⟩ := by unfold makeF; rw [if_neg (not_not_intro c), if_neg c2, if_neg c3, if_pos c4]
              unfold makeS; rw [e, if_neg (by decide)]
            rw [hm, if_pos (d_t (by omega))]
            simp only [R_F, ob_some]
            rw [bytesAs_bad (by decide), if_neg (by decide), if_pos (by simp)]
          · rw [makeS_ok hG (by omega) (by omega) (by omega) (by omega), if_neg (d_f (by omega))]
            simp only [ob_some]
            rw [bytesAs_ok, if_neg (by decide), if_neg (by simp), open_made hG size (by omega) (by omega)]
            simp only [ob_some]
            rw [if_pos (by simp), sameCells_self _ (by omega), ob_some]; rfl
    · have hm : makeS l size = ([], cellF l) := by
        have e : makeF l size = cellF l := by unfold makeF; rw [if_pos c]
        unfold makeS; rw [e, if_neg c]
      rw [hm, if_neg (by simp [c])]
      simp only [ob_some]
      rw [if_neg (by simp [c])]
      simp only [ob_some]
      rw [if_neg (d_f c)]
      simp only [ob_some, lt]
      rw [bytesAs_bad c, if_neg (by decide), if_pos (n_t c)]
end G
end Go.Proofs.Ytollmifjbcccgaa
