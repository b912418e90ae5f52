/- Every Open, May and Find tells of bytes what the document says. -/
import Derived.Test.YtollmifjbcccgaaPFileS
namespace Go.Proofs.Ytollmifjbcccgaa
open Go Go.Dm
set_option linter.unusedVariables false
set_option linter.unusedSectionVars false
set_option linter.unusedSimpArgs false
namespace G
theorem cellsAs_bad {f : Fault} (hf : ¬ f.Code = 0) (x : List Cell) : law_cellsAs [] f f x = some true := by
  unfold law_cellsAs
  rw [if_neg (by simp), if_pos (n_t hf)]; rfl
theorem cellsAs_ok (l : List Cell) (hl : l.length ≤ 1000000) : law_cellsAs l ⟨0, 0⟩ ⟨0, 0⟩ l = some true := by
  unfold law_cellsAs law_FileOpens_1
  rw [if_neg (by simp), if_neg (n_f rfl)]
  dsimp only [lt]
  rw [sameCells_self l hl]; rfl
theorem seen_new (l : List Cell) (hG : Good l) (row col : List UInt8) (t : Int) : ((newS l row col t).2 && !(newS l row col t).1.Gone) = (seenS l row col t).2 ∧ (newS l row col t).1.Value = (seenS l row col t).1.Value := by
  unfold newS seenS
  cases hf : fnd l row col t with
  | none => exact ⟨rfl, rfl⟩
  | some x =>
    have hx : x ∈ l := List.mem_of_find?_eq_some hf
    dsimp only
    by_cases hg : x.Gone = true
    · rw [if_pos hg, hg, code_val (hG.code x hx) hg]; exact ⟨rfl, rfl⟩
    · have : x.Gone = false := by simpa using hg
      rw [if_neg hg, this]; exact ⟨rfl, rfl⟩
theorem seen_not {l : List Cell} (hG : Good l) {row : List UInt8} (h : mayF l row = false) (col : List UInt8) (t : Int) : seenS l row col t = (cell0, false) := by
  have : fnd l row col t = none := by
    unfold fnd
    rw [List.find?_eq_none]
    intro x hx q
    have := may_there hG hx
    rw [(at_iff.1 q).1, h] at this; cases this
  unfold seenS; rw [this]
theorem FileOpens_eq (b row col : List UInt8) (time : Int) (hr : row.length ≤ 140737488351232) : law_FileOpens b row col time = some true := by
  unfold law_FileOpens
  rw [fileBegun, ob_some, if_neg (by decide)]
  by_cases c0 : 100000 < (b.length : Int)
  · rw [if_pos (d_t c0)]
  · have ho : law_ownBytes_v1 b = some b := by unfold law_ownBytes_v1; rw [asrt_pos (by omega)]
    have hs : R_Same b b = true := by unfold R_Same; simp [lt]
    rw [if_neg (d_f c0), ho, ob_some, open_any, ob_some]
    rcases fine_or b with ⟨f, hf, h⟩ | ⟨rows, gs, L, h⟩
    · rw [May_bad hf h, ob_some, Find_bad hf h, ob_some, ropen_eq, ob_some, h]
      dsimp only
      rw [cellsAs_bad hf, ob_some]
      dsimp only [lt]
      rw [hs, if_neg (by simp), if_neg (d_f hf), ob_some, decide_eq_false hf]
      simp only [Bool.false_and]
      rw [if_neg (by decide), if_neg (by decide)]
      simp only [ob_some]
      rw [if_neg (by simp), if_pos (n_t hf)]; rfl
    · have hlen := h.good.len
      rw [May_fine h row hr, ob_some]
      by_cases ct : time < 0 ∨ 1000000000 < time
      · rw [Find_time h row col time ct, ob_some, ropen_eq, ob_some, h.f]
        dsimp only
        rw [cellsAs_ok _ (by omega), ob_some]
        dsimp only [lt]
        rw [hs, if_neg (by simp), if_pos (by simp), rmay_eq h.good row hr, ob_some, if_neg (by simp), if_pos (by simp; omega)]
        simp [R_F, ob_some]
      · rw [Find_fine h row col hr time ct, ob_some, ropen_eq, ob_some, h.f]
        dsimp only
        rw [cellsAs_ok _ (by omega), ob_some]
        dsimp only [lt]
        rw [hs, if_neg (by simp), if_pos (by simp), rmay_eq h.good row hr, ob_some, if_neg (by simp), if_neg (by simp; omega)]
        obtain ⟨e1, e2⟩ := seen_new gs.flatten h.good row col time
        cases hm : mayF gs.flatten row with
        | false =>
          rw [if_neg (by decide)]
          simp only [ob_some]
          rw [if_neg (by simp), if_neg (by simp), if_neg (by decide)]
          simp only [ob_some]
          rw [seen_eq _ h.good, ob_some, seen_not h.good hm]; rfl
        | true =>
          have hle := h.le
          have hmn := h.many
          rw [if_pos rfl]
          simp only [ob_some]
          unfold findS
          dsimp only
          rw [if_neg (by simp), if_neg (by simp)]
          simp only [if_true]
          rw [blocksFor h.blk row h.len (by omega) (by omega)]
          simp only [ob_some]
          rw [seen_eq _ h.good, ob_some, e1, e2]; simp
end G
end Go.Proofs.Ytollmifjbcccgaa
