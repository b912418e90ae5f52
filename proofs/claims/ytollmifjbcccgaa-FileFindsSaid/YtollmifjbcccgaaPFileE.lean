/- Make. -/
import Derived.Test.YtollmifjbcccgaaPFileD
namespace Go.Proofs.Ytollmifjbcccgaa
open Go Go.Dm
set_option linter.unusedVariables false
set_option linter.unusedSectionVars false
set_option linter.unusedSimpArgs false
namespace G
theorem encF_take_len (L : List (List UInt8)) (k : Nat) (hk : k < L.length) : (encF (L.take (k + 1))).length = (encF (L.take k)).length + (lget L (k : Int)).length + 6 := by
  rw [lget_take L k hk, encF_app, encF_one, List.length_append, frame_len]; omega
theorem encF_take_mono (L : List (List UInt8)) (k : Nat) : (encF (L.take k)).length ≤ (encF L).length := by
  have e : encF L = encF (L.take k) ++ encF (L.drop k) := by rw [← encF_app, List.take_append_drop]
  rw [e, List.length_append]; omega
noncomputable def makeF (l : List Cell) (size : Int) : Fault :=
  if ¬ (cellF l).Code = 0 then cellF l
  else if 500 < l.length then ⟨2, -1⟩
  else if size < 50 ∨ 4000 < size then ⟨3, -1⟩
  else if 60000 < (fileB l size).length then ⟨9, 0⟩ else ⟨0, 0⟩
noncomputable def makeS (l : List Cell) (size : Int) : List UInt8 × Fault := if (makeF l size).Code = 0 then (fileB l size, ⟨0, 0⟩) else ([], makeF l size)
section
variable {l : List Cell} (hg : ∀ c ∈ l, R_CellCode c = 0) (hl : l.length ≤ 1000) (size : Int)
include hg hl
omit hg hl in
theorem blk_last (hne : l.length ≠ 0) : (blkK l size l.length).2 = [] := by
  obtain ⟨k, hk⟩ : ∃ k, l.length = k + 1 := ⟨l.length - 1, by omega⟩
  rw [hk, blkK, if_pos (.inr hk.symm)]
omit hg hl in
theorem blk_end : (blkK l size l.length).2 = [] := by
  by_cases h : l.length = 0
  · have : l = [] := List.eq_nil_of_length_eq_zero h
    subst this; rfl
  · exact blk_last size h
omit hg hl in
theorem rows_end : rowsB (blkK l size l.length) = (blkK l size l.length).1.map hdR := by
  unfold rowsB; rw [if_pos (blk_end size), List.append_nil]
omit hg hl in
theorem partsL_len : (partsL l size).length = (blkK l size l.length).1.length + 2 := by simp [partsL]
theorem parts_bd : ∀ b ∈ partsL l size, b.length ≤ 400000 := by
  obtain ⟨h1, h2, h3, h4, h5, h6, h7⟩ := blk_bd hg hl size l.length (Nat.le_refl _)
  have hN := filN_bd l
  intro b hb
  unfold partsL at hb
  rcases List.mem_append.1 hb with q | q
  · obtain ⟨g, hgm, rfl⟩ := List.mem_map.1 q
    have : ∀ (gs : List (List Cell)), g ∈ gs → (encC g).length ≤ (encF (gs.map encC)).length := by
      intro gs
      induction gs with
      | nil => intro h; cases h
      | cons x gs ih =>
        intro h
        rw [List.map_cons, encF_cons, List.length_append, frame_len]
        rcases List.mem_cons.1 h with e | e
        · subst e; omega
        · have := ih e; omega
    have := this _ hgm
    omega
  · simp only [List.mem_cons, List.not_mem_nil, or_false] at q
    rcases q with e | e
    · rw [e]; omega
    · rw [e]; unfold filF; rw [bytesOf_len]; omega
theorem fileB_bd : (fileB l size).length ≤ 1000000 := by
  obtain ⟨h1, h2, h3, h4, h5, h6, h7⟩ := blk_bd hg hl size l.length (Nat.le_refl _)
  have hN := filN_bd l
  have hfl : (filF l).length ≤ l.length + 1 := by unfold filF; rw [bytesOf_len]; omega
  unfold fileB partsL
  rw [encF_app, encF_cons, encF_one, List.length_append, List.length_append, frame_len, frame_len]
  omega
theorem make_L1 (z : Fault) : file_Make_v1_L1 ((blkK l size l.length).1.map encC, rowsB (blkK l size l.length)) (z, idxL (blkK l size l.length).1) (filF l) (z, [], 0) = some (if 60000 < (fileB l size).length then ([], ⟨9, 0⟩) else (fileB l size, ⟨0, 0⟩)) := by
  have hb := parts_bd hg hl size
  have hbd := fileB_bd hg hl size
  have hL : (blkK l size l.length).1.map encC ++ [idxL (blkK l size l.length).1, filF l] = partsL l size := rfl
  have hlen := partsL_len size (l := l)
  obtain ⟨_, _, _, h4, _, _, _⟩ := blk_bd hg hl size l.length (Nat.le_refl _)
  have hfb : fileB l size = encF (partsL l size) := rfl
  rw [hfb] at hbd ⊢
  unfold file_Make_v1_L1
  have hstep : ∀ k, k < (partsL l size).length → file_Make_v1_B1 ((blkK l size l.length).1.map encC, rowsB (blkK l size l.length)) (z, idxL (blkK l size l.length).1) (filF l) (z, encF ((partsL l size).take k), (k : Int)) =
      if 60000 < (encF ((partsL l size).take (k + 1))).length then some (.inr ([], ⟨9, 0⟩)) else some (.inl (z, encF ((partsL l size).take (k + 1)), ((k + 1 : Nat) : Int))) := by
    intro k hk
    have hw : w64 ((k : Int) + 1) = ((k + 1 : Nat) : Int) := by rw [w64_id (by omega) (by omega)]; omega
    have hm := encF_take_mono (partsL l size) k
    have hbk := hb _ (lget_mem (partsL l size) (k : Int) (by omega))
    have htl := encF_take_len (partsL l size) k hk
    have hw2 : w64 (w64 (((encF ((partsL l size).take k)).length : Int) + ((lget (partsL l size) (k : Int)).length : Int)) + 6) = ((encF ((partsL l size).take (k + 1))).length : Int) := by
      have e0 : w64 (((encF ((partsL l size).take k)).length : Int) + ((lget (partsL l size) (k : Int)).length : Int)) = ((encF ((partsL l size).take k)).length : Int) + ((lget (partsL l size) (k : Int)).length : Int) := w64_id (by omega) (by omega)
      rw [e0, w64_id (by omega) (by omega)]; omega
    unfold file_Make_v1_B1
    dsimp only [lt]
    rw [hL, if_pos (d_t (by omega)), asrt_pos (by omega), asrt_pos (by omega), hw2]
    by_cases c : 60000 < (encF ((partsL l size).take (k + 1))).length
    · rw [if_pos (d_t (by omega)), if_pos c]; rfl
    · rw [if_neg (d_f (by omega)), if_neg c, addFrame_eq _ _ (by omega) (by omega), ob_some, hw, lget_take _ k hk, encF_app, encF_one]
  have key := loop_any (step := fun y => file_Make_v1_B1 ((blkK l size l.length).1.map encC, rowsB (blkK l size l.length)) (z, idxL (blkK l size l.length).1) (filF l) y) (partsL l size).length (fun k => (z, encF ((partsL l size).take k), (k : Int))) (fun k => 60000 < (encF ((partsL l size).take (k + 1))).length) (rb := ([], ⟨9, 0⟩)) (r := (encF (partsL l size), ⟨0, 0⟩))
    (fun k hk hnb => by
      have := hstep k hk
      rw [if_neg hnb] at this; exact this)
    (fun k hk hbad => by
      have := hstep k hk
      rw [if_pos hbad] at this; exact this)
    (by
      show file_Make_v1_B1 _ _ _ (z, encF ((partsL l size).take (partsL l size).length), ((partsL l size).length : Int)) = _
      unfold file_Make_v1_B1
      dsimp only [lt]
      rw [hL, if_neg (d_f (by omega)), List.take_length]; rfl)
  rcases key with ⟨⟨j, hj, hbad⟩, e⟩ | ⟨hall, e⟩
  · have := encF_take_mono (partsL l size) (j + 1)
    rw [if_pos (by omega)]; exact e
  · have h9 := hall ((partsL l size).length - 1) (by omega)
    have e9 : (partsL l size).length - 1 + 1 = (partsL l size).length := by omega
    rw [e9, List.take_length] at h9
    rw [if_neg h9]; exact e
end
theorem make_eq (l : List Cell) (size : Int) : file_Make_v1 l size = some (makeS l size) := by
  unfold file_Make_v1 makeS makeF
  rw [check_eq, ob_some]
  by_cases c : (cellF l).Code = 0
  · have hg := cellF_good c
    have hc := hg.code
    have hl := hg.len
    rw [if_neg (n_f c), if_neg (not_not_intro c)]
    by_cases c2 : 500 < l.length
    · rw [if_pos (d_t (by omega)), if_pos c2]; rfl
    · rw [if_neg (d_f (by omega)), if_neg c2]
      by_cases c3 : size < 50 ∨ 4000 < size
      · rw [if_pos (or_t c3), if_pos c3]; rfl
      · rw [if_neg (or_f c3), if_neg c3, blocks_eq hc hl size, ob_some]
        have : file_Make_v1_L2 l ((blkK l size l.length).1.map encC, rowsB (blkK l size l.length)) ((⟨0, 0⟩ : Fault), ([] : List UInt8), 0) = some (if 60000 < (fileB l size).length then ([], ⟨9, 0⟩) else (fileB l size, ⟨0, 0⟩)) := by
          obtain ⟨h1, h2, h3, h4, h5, h6, h7⟩ := blk_bd hc hl size l.length (Nat.le_refl _)
          have hre := rows_end size (l := l)
          have hml := make_L1 hc hl size ⟨0, 0⟩
          rw [hre] at hml h3 ⊢
          unfold file_Make_v1_L2
          generalize hgs : (blkK l size l.length).1 = gs at *
          have hbd : ∀ k, (idxL (gs.take k)).length ≤ (idxL gs).length := fun k => by
            have e : idxL gs = idxL (gs.take k) ++ idxL (gs.drop k) := by unfold idxL; rw [← List.flatMap_append, List.take_append_drop]
            rw [e, List.length_append]; omega
          refine loop_run (step := fun y => file_Make_v1_B2 l (gs.map encC, gs.map hdR) y) gs.length (fun k => (⟨0, 0⟩, idxL (gs.take k), (k : Int))) (fun k hk => ?_) ?_
          · have hw : w64 ((k : Int) + 1) = ((k + 1 : Nat) : Int) := by rw [w64_id (by omega) (by omega)]; omega
            have m1 : lget (gs.map hdR) (k : Int) = hdR (lget gs (k : Int)) := by rw [lget_nat _ k (by simpa using hk), lget_nat _ k hk]; simp
            have m2 : lget (gs.map encC) (k : Int) = encC (lget gs (k : Int)) := by rw [lget_nat _ k (by simpa using hk), lget_nat _ k hk]; simp
            have hgm := lget_mem gs (k : Int) (by omega)
            have hhd : (hdR (lget gs (k : Int))).length ≤ 40 := by
              obtain ⟨hne, hcs⟩ := h6 _ hgm
              have : lget (lget gs (k : Int)) 0 ∈ lget gs (k : Int) := lget_mem _ 0 (by have := List.length_pos_iff.2 hne; omega)
              exact (code_len (hcs _ this)).1
            have hel : (encC (lget gs (k : Int))).length ≤ 400000 := parts_bd hc hl size _ (by unfold partsL; rw [hgs]; exact List.mem_append_left _ (List.mem_map.2 ⟨_, hgm, rfl⟩))
            have hbk := hbd k
            have q1 := wrT_len (hdR (lget gs (k : Int))) (by omega)
            have q2 := num_len5 (n := (encC (lget gs (k : Int))).length) (by omega)
            show file_Make_v1_B2 l (gs.map encC, gs.map hdR) (⟨0, 0⟩, idxL (gs.take k), (k : Int)) = _
            unfold file_Make_v1_B2
            dsimp only
            rw [List.length_map, List.length_map, if_pos (d_t (by omega)), asrt_pos (by omega), asrt_pos (by omega), asrt_pos (by omega), asrt_pos (by omega), m1, m2, addText_eq _ _ (by omega) (by omega), ob_some, addNum_eq _ _ (by rw [List.length_append]; omega), ob_some, hw, lget_take gs k hk, idxL_snoc, List.append_assoc]
          · show file_Make_v1_B2 l (gs.map encC, gs.map hdR) (⟨0, 0⟩, idxL (gs.take gs.length), (gs.length : Int)) = _
            have hN := filN_bd l
            unfold file_Make_v1_B2
            dsimp only
            rw [List.length_map, if_neg (d_f (by omega)), List.take_length]
            have hJ : file_Make_v1_J1 l (gs.map encC, gs.map hdR) (⟨0, 0⟩, idxL gs) = some (if 60000 < (fileB l size).length then ([], ⟨9, 0⟩) else (fileB l size, ⟨0, 0⟩)) := by
              unfold file_Make_v1_J1
              rw [filter_eq l (by omega) (fun c hcm => by have := (code_len (hc c hcm)).1; omega), ob_some, asrt_pos (by simp; omega)]
              exact hml
            rw [hJ]; rfl
        rw [this]
        by_cases c4 : 60000 < (fileB l size).length
        · rw [if_pos c4, if_pos c4]; rfl
        · rw [if_neg c4, if_neg c4]; rfl
  · rw [if_pos (n_t c), if_pos c, if_neg c]
end G
end Go.Proofs.Ytollmifjbcccgaa
