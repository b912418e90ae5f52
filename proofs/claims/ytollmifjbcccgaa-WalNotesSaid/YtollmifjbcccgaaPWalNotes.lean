/- Notes are written and read as the document says. -/
import Derived.Test.YtollmifjbcccgaaPWalA
namespace Go.Proofs.Ytollmifjbcccgaa
open Go Go.Dm
set_option linter.unusedVariables false
set_option linter.unusedSimpArgs false
namespace G
theorem walBegun : law_walBegun = some true := by
  unfold law_walBegun
  have h : wnoteS law_oneNote = ([1, 1, 114, 1, 99, 7, 0, 1, 97], ⟨0, 0⟩) := by
    unfold wnoteS
    rw [note1F, if_pos rfl]
    simp [encN, law_oneNote, lt, encC, wrAll, wrC, wrT, num_lt]
  simp only [lt, wwrite_eq, ob_some, h]
  simp [R_Same]
theorem bytesAs_eq (n : Note) : law_bytesAs (wnoteS n).1 (wnoteS n).2 (noteF n) n = some true := by
  unfold law_bytesAs wnoteS
  by_cases c : (noteF n).Code = 0
  · have hg := noteF_good c
    rw [if_pos c, hg.f]
    simp only [law_WalNotes_1, noteBytes_eq n hg, ob_some, lt, R_Same]
    simp
  · rw [if_neg c]
    rw [if_neg (by simp), if_pos (n_t c)]; simp
theorem WalNotes_eq (n : Note) (b : List UInt8) : law_WalNotes n b = some true := by
  unfold law_WalNotes
  rw [walBegun, ob_some, if_neg (by simp)]
  dsimp only [lt]
  cases hm : law_many (n.Cells.length : Int) with
  | true => rw [if_pos (by simp)]
  | false =>
    have hl : n.Cells.length ≤ 2000 := by
      unfold law_many at hm
      simp [lt] at hm; omega
    by_cases hb : 100000 < (b.length : Int)
    · rw [if_pos (by simp; omega)]
    · rw [if_neg (by simp; omega)]
      have ho : law_ownNote n = some n := by unfold law_ownNote law_ownCells_v1; rw [asrt_pos (by omega)]; rfl
      have hob : law_ownBytes_v1 b = some b := by unfold law_ownBytes_v1; rw [asrt_pos (by omega)]
      have hrl := noteS_len b
      rw [ho, ob_some, hob, ob_some, wwrite_eq, ob_some, wread_eq, ob_some, sameNote_self n (by omega), ob_some]
      have hs : R_Same b b = true := by simp [R_Same]
      rw [hs, if_neg (by simp), noteOf_eq, ob_some, rnote_eq, ob_some, bytesAs_eq, ob_some, sameNote_self _ (by omega)]
      simp [ob_some]
end G
end Go.Proofs.Ytollmifjbcccgaa
