/- No row is missed: what is in a file may be there, and Find tells what Get tells, however the blocks are cut. -/
import Derived.Test.YtollmifjbcccgaaPFileS
namespace Go.Proofs.Ytollmifjbcccgaa
open Go Go.Dm
set_option linter.unusedVariables false
set_option linter.unusedSectionVars false
set_option linter.unusedSimpArgs false
namespace G
theorem makeF_ok {l : List Cell} {size : Int} (h : (makeF l size).Code = 0) : Good l ∧ l.length ≤ 500 ∧ ¬ (size < 50 ∨ 4000 < size) ∧ (fileB l size).length ≤ 60000 := by
  unfold makeF at h
  by_cases c : (cellF l).Code = 0
  · rw [if_neg (not_not_intro c)] at h
    by_cases c2 : 500 < l.length
    · rw [if_pos c2] at h; cases h
    · rw [if_neg c2] at h
      by_cases c3 : size < 50 ∨ 4000 < size
      · rw [if_pos c3] at h; cases h
      · rw [if_neg c3] at h
        by_cases c4 : 60000 < (fileB l size).length
        · rw [if_pos c4] at h; cases h
        · exact ⟨cellF_good c, by omega, c3, by omega⟩
  · rw [if_pos c] at h; exact absurd h c
theorem made_fine {l : List Cell} {size : Int} (h : (makeF l size).Code = 0) : makeS l size = (fileB l size, ⟨0, 0⟩) ∧ ∃ rows gs L, FineO (fileB l size) rows gs L ∧ gs.flatten = l := by
  refine ⟨by unfold makeS; rw [if_pos h], ?_⟩
  obtain ⟨hG, h5, _, hB⟩ := makeF_ok h
  have ho := open_made hG size hB h5
  rw [open_any] at ho
  have ho := Option.some.inj ho
  rcases fine_or (fileB l size) with ⟨f, hf, e⟩ | ⟨rows, gs, L, e⟩
  · rw [e] at ho
    exact absurd (congrArg (fun x : List Cell × Fault => x.2.Code) ho) hf
  · refine ⟨rows, gs, L, e, ?_⟩
    rw [e.f] at ho
    exact congrArg (fun x : List Cell × Fault => x.1) ho
theorem get_time {l : List Cell} (hG : Good l) (row col : List UInt8) (t : Int) (ht : t < 0 ∨ 1000000000 < t) : cell_Get l row col t = some ([], false, ⟨3, -1⟩) := by
  unfold cell_Get
  rw [check_eq, ob_some, hG.f, if_neg (n_f rfl), if_pos (or_t ht)]; rfl
theorem get_fine {l : List Cell} (hG : Good l) (row col : List UInt8) (t : Int) (ht : ¬ (t < 0 ∨ 1000000000 < t)) : cell_Get l row col t = some ((newS l row col t).1.Value, (newS l row col t).2 && !(newS l row col t).1.Gone, ⟨0, 0⟩) := by
  unfold cell_Get
  rw [check_eq, ob_some, hG.f, if_neg (n_f rfl), if_neg (or_f ht), newest_eq l hG, ob_some]
theorem find_made {l : List Cell} {size : Int} (h : (makeF l size).Code = 0) (row col : List UInt8) (hr : row.length ≤ 140737488351232) (t : Int) (ht : ¬ (t < 0 ∨ 1000000000 < t)) : ∃ n, file_Find (fileB l size) row col t = some ((newS l row col t).1.Value, (newS l row col t).2 && !(newS l row col t).1.Gone, n, ⟨0, 0⟩) := by
  obtain ⟨_, rows, gs, L, hF, rfl⟩ := made_fine h
  rw [Find_fine hF row col hr t ht]
  cases hm : mayF gs.flatten row with
  | true => exact ⟨_, rfl⟩
  | false =>
    refine ⟨0, ?_⟩
    have : fnd gs.flatten row col t = none := by
      unfold fnd
      rw [List.find?_eq_none]
      intro x hx q
      have := may_there hF.good hx
      rw [(at_iff.1 q).1, hm] at this; cases this
    unfold newS
    rw [this]; rfl
theorem FileFinds_J1 {l : List Cell} {size : Int} (h : (makeF l size).Code = 0) (row col : List UInt8) (hr : row.length ≤ 140737488351232) (t : Int) : law_FileFinds_J1 l row col t (fileB l size, ⟨0, 0⟩) () = some true := by
  obtain ⟨hG, h5, _, hB⟩ := makeF_ok h
  unfold law_FileFinds_J1
  dsimp only
  by_cases ht : t < 0 ∨ 1000000000 < t
  · obtain ⟨_, rows, gs, L, hF, e⟩ := made_fine h
    rw [Find_time hF row col t ht, ob_some, get_time hG row col t ht, ob_some]
    dsimp only [lt]
    rw [if_pos (by simp)]; rfl
  · obtain ⟨n, hf⟩ := find_made h row col hr t ht
    rw [hf, ob_some, get_fine hG row col t ht, ob_some]
    dsimp only
    rw [if_neg (by simp), make_eq, ob_some]
    by_cases c : (makeF l 50).Code = 0
    · obtain ⟨n', hf'⟩ := find_made c row col hr t ht
      rw [(made_fine c).1]
      dsimp only
      rw [if_neg (n_f rfl), hf', ob_some]
      dsimp only [lt]
      simp
    · have hm : makeS l 50 = ([], makeF l 50) := by unfold makeS; rw [if_neg c]
      have h9 : (makeF l 50).Code = 9 := by
        unfold makeF at c ⊢
        rw [if_neg (not_not_intro (by rw [hG.f])), if_neg (by omega), if_neg (by omega)] at c ⊢
        split
        · rfl
        · rename_i q; rw [if_neg q] at c; exact absurd rfl c
      rw [hm]
      dsimp only
      rw [if_pos (n_t c), h9]; rfl
theorem FileFinds_eq (l : List Cell) (size : Int) (row col : List UInt8) (t : Int) (hr : row.length ≤ 140737488351232) : law_FileFinds l size row col t = some true := by
  unfold law_FileFinds
  rw [fileBegun, ob_some, if_neg (by decide)]
  by_cases c0 : 150 < (l.length : Int)
  · rw [if_pos (d_t c0)]
  · rw [if_neg (d_f c0), make_eq, ob_some]
    by_cases c : (makeF l size).Code = 0
    · obtain ⟨hG, h5, _, hB⟩ := makeF_ok c
      obtain ⟨hm, rows, gs, L, hF, e⟩ := made_fine c
      rw [hm]
      dsimp only
      rw [if_neg (n_f rfl)]
      have key : ∀ (m k : Nat), l.length - k = m → k ≤ l.length → law_FileFinds_L1 l row col t (fileB l size, ⟨0, 0⟩) (k : Int) = some true := by
        intro m
        induction m with
        | zero =>
          intro k e hk
          refine loopO_inr ?_
          unfold law_FileFinds_B1
          rw [if_neg (d_f (by omega)), FileFinds_J1 c row col hr t]; rfl
        | succ m ih =>
          intro k e2 hk
          have hw : w64 ((k : Int) + 1) = ((k + 1 : Nat) : Int) := by rw [w64_id (by omega) (by omega)]; omega
          have hmem : lget l (k : Int) ∈ l := lget_mem l _ (by omega)
          have hrk := (code_len (hG.code _ hmem)).1
          have ht := may_there hG hmem
          refine (loopO_inl ?_).trans (ih (k + 1) (by omega) (by omega))
          unfold law_FileFinds_B1
          rw [if_pos (d_t (by omega)), asrt_pos (by omega), May_fine hF _ (by omega), ob_some, e, ht]
          dsimp only
          rw [if_neg (by decide), hw]
      exact key l.length 0 (by omega) (by omega)
    · have hm : makeS l size = ([], makeF l size) := by unfold makeS; rw [if_neg c]
      rw [hm]
      dsimp only
      rw [if_pos (n_t c)]
end G
end Go.Proofs.Ytollmifjbcccgaa
