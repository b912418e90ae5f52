/- The example of files. -/
import Derived.Test.YtollmifjbcccgaaPFileF
namespace Go.Proofs.Ytollmifjbcccgaa
open Go Go.Dm
set_option linter.unusedVariables false
set_option linter.unusedSectionVars false
set_option linter.unusedSimpArgs false
namespace G
theorem fileB_small {l : List Cell} (hg : ∀ c ∈ l, R_CellCode c = 0) (hl : l.length ≤ 1000) (size : Int) : (fileB l size).length ≤ 367 * l.length + 13 := by
  obtain ⟨h1, h2, h3, h4, h5, h6, h7⟩ := blk_bd hg hl size l.length (Nat.le_refl _)
  have hN := filN_bd l
  have hfl : (filF l).length ≤ l.length + 1 := by unfold filF; rw [bytesOf_len]; omega
  unfold fileB partsL
  rw [encF_app, encF_cons, encF_one, List.length_append, List.length_append, frame_len, frame_len]
  omega
theorem makeS_ok {l : List Cell} (hG : Good l) (hl : l.length ≤ 500) {size : Int} (h0 : 50 ≤ size) (h1 : size ≤ 4000) (hB : (fileB l size).length ≤ 60000) : makeS l size = (fileB l size, ⟨0, 0⟩) := by
  have e : makeF l size = ⟨0, 0⟩ := by
    unfold makeF
    rw [if_neg (not_not_intro (by rw [hG.f])), if_neg (by omega), if_neg (by omega), if_neg (by omega)]
  unfold makeS
  rw [e, if_pos rfl]
theorem nil_good : Good [] := cellF_good (by simp [cellF, ck])
theorem vers_good : Good law_versions := cellF_good (by simp [law_versions, lt, cellF, ck, R_CellCode, okp, R_Ahead])
theorem filF_nil : filF [] = [0] := by
  show bytesOf (fun _ => false) 1 = [0]
  rw [← bytesOf_zero]; rfl
theorem fileBegun : law_fileBegun = some true := by
  have b0 := fileB_small nil_good.code (by simp) 50
  have b1 := fileB_small vers_good.code (by simp [law_versions, lt]) 50
  have hv : law_versions.length = 2 := by simp [law_versions, lt]
  rw [hv] at b1
  have e0 : fileB [] 50 = frame [] ++ frame [0] := by
    have : fileB [] 50 = encF [idxL [], filF []] := rfl
    rw [this, filF_nil, encF_cons, encF_one]; rfl
  unfold law_fileBegun
  rw [make_v0, make_eq, ob_some, makeS_ok nil_good (by simp) (by decide) (by decide) (by simp at b0; omega)]
  dsimp only [lt]
  rw [make_v0, make_eq, ob_some, makeS_ok vers_good (by omega) (by decide) (by decide) (by omega)]
  dsimp only
  rw [open_v0, open_made vers_good 50 (by omega) (by omega), ob_some]
  dsimp only
  rw [if_pos (by simp), framed_eq _ (by simp), ob_some, framed_eq _ (by simp), ob_some, asrt_pos (by rw [List.length_append, frame_len, frame_len]; simp), e0, hv]
  simp [R_Same]
end G
end Go.Proofs.Ytollmifjbcccgaa
