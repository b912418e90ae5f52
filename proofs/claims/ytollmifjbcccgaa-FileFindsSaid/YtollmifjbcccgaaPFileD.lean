/- The blocks of a file, and the file's bytes. -/
import Derived.Test.YtollmifjbcccgaaPFileC
namespace Go.Proofs.Ytollmifjbcccgaa
open Go Go.Dm
set_option linter.unusedVariables false
set_option linter.unusedSectionVars false
set_option linter.unusedSimpArgs false
namespace G
theorem addFrame_eq (body row : List UInt8) (hb : body.length ≤ 1000000000) (hr : row.length ≤ 1000000000) : wire_AddFrame_v2 body row = some (row ++ frame body) := by
  have e8 : (2 : Int) ^ (min (8 : Int).toNat 64) = ((256 : Nat) : Int) := by decide
  have eh : [toU8 (Int.fdiv (body.length : Int) (2 ^ (min (8 : Int).toNat 64))), toU8 (body.length : Int)] = [UInt8.ofNat (body.length / 256), UInt8.ofNat (body.length % 256)] := by
    rw [e8, fdiv_nat, toU8_nat, toU8_nat, ofNat_mod]
  unfold wire_AddFrame_v2
  rw [eh, asrt_pos (by simp; omega)]
  dsimp only [lt]
  rw [asrt_pos (by simp; omega), asrt_pos (by simp; omega), ldrop_nat]
  have ed : ((row ++ [UInt8.ofNat (body.length / 256), UInt8.ofNat (body.length % 256)]) ++ body).drop row.length = UInt8.ofNat (body.length / 256) :: UInt8.ofNat (body.length % 256) :: body := by simp
  rw [ed, crc_eq _ (by simp; omega), ob_some, crcB_w, asrt_pos (by simp [crcB]; omega)]
  simp [frame]
theorem encC_app : ∀ (a b : List Cell), encC (a ++ b) = encC a ++ encC b
  | [], b => by simp [encC, wrAll]
  | c :: a, b => by rw [List.cons_append, encC_cons, encC_cons, encC_app a b, List.append_assoc]
theorem encC_one (c : Cell) : encC [c] = wrC c := by rw [encC_cons]; simp [encC, wrAll]
theorem encF_app : ∀ (a b : List (List UInt8)), encF (a ++ b) = encF a ++ encF b
  | [], b => by simp [encF, wrAll]
  | c :: a, b => by rw [List.cons_append, encF_cons, encF_cons, encF_app a b, List.append_assoc]
theorem encF_one (c : List UInt8) : encF [c] = frame c := by rw [encF_cons]; simp [encF, wrAll]
def hdR (g : List Cell) : List UInt8 := (lget g 0).Row
theorem hdR_snoc (g : List Cell) (c : Cell) : hdR (g ++ [c]) = if g = [] then c.Row else hdR g := by
  cases g with
  | nil => rfl
  | cons x g => rw [if_neg (by simp)]; rfl
/-- the blocks of the first cells, and what is begun -/
def blkK (l : List Cell) (size : Int) : Nat → List (List Cell) × List Cell
  | 0 => ([], [])
  | k + 1 => if size ≤ ((encC ((blkK l size k).2 ++ [lget l (k : Int)])).length : Int) ∨ k + 1 = l.length then ((blkK l size k).1 ++ [(blkK l size k).2 ++ [lget l (k : Int)]], []) else ((blkK l size k).1, (blkK l size k).2 ++ [lget l (k : Int)])
def rowsB (s : List (List Cell) × List Cell) : List (List UInt8) := s.1.map hdR ++ (if s.2 = [] then [] else [hdR s.2])
def idxL (gs : List (List Cell)) : List UInt8 := gs.flatMap fun g => wrT (hdR g) ++ num (encC g).length
theorem idxL_snoc (gs : List (List Cell)) (g : List Cell) : idxL (gs ++ [g]) = idxL gs ++ (wrT (hdR g) ++ num (encC g).length) := by simp [idxL]
theorem rowsB_step (s : List (List Cell) × List Cell) (c : Cell) : rowsB (s.1, s.2 ++ [c]) = (if s.2 = [] then rowsB s ++ [c.Row] else rowsB s) ∧ rowsB (s.1 ++ [s.2 ++ [c]], []) = (if s.2 = [] then rowsB s ++ [c.Row] else rowsB s) := by
  unfold rowsB
  by_cases h : s.2 = []
  · rw [h]; constructor <;> (simp [hdR]; rfl)
  · constructor <;> simp [h, hdR_snoc]
theorem encC_zero {g : List Cell} (hg : ∀ c ∈ g, R_CellCode c = 0) : (encC g).length = 0 ↔ g = [] := by
  cases g with
  | nil => simp [encC, wrAll]
  | cons c g =>
    have := (wrC_len (hg c (by simp))).2
    rw [encC_cons, List.length_append]
    constructor
    · intro h; omega
    · intro h; cases h
section
variable {l : List Cell} (hg : ∀ c ∈ l, R_CellCode c = 0) (hl : l.length ≤ 1000) (size : Int)
include hg hl
/-- how great it all may be -/
theorem blk_bd : ∀ k : Nat, k ≤ l.length → (encF ((blkK l size k).1.map encC)).length + (encC (blkK l size k).2).length ≤ 316 * k ∧ (idxL (blkK l size k).1).length ≤ 50 * k ∧ (rowsB (blkK l size k)).length ≤ k ∧ (blkK l size k).1.length ≤ k ∧
    (∀ c ∈ (blkK l size k).2, R_CellCode c = 0) ∧ (∀ g ∈ (blkK l size k).1, g ≠ [] ∧ ∀ c ∈ g, R_CellCode c = 0) ∧ (blkK l size k).1.flatten ++ (blkK l size k).2 = l.take k
  | 0, _ => ⟨by simp [blkK, encF, encC, wrAll], by simp [blkK, idxL], by simp [blkK, rowsB], by simp [blkK], by simp [blkK], by simp [blkK], by simp [blkK]⟩
  | k + 1, h => by
    obtain ⟨h1, h2, h3, h4, h5, h6, h7⟩ := blk_bd k (by omega)
    have hc := hg _ (lget_mem l (k : Int) (by omega))
    have w1 := wrC_len hc
    have cl := code_len hc
    have ht := lget_take l k (by omega)
    obtain ⟨r1, r2⟩ := rowsB_step (blkK l size k) (lget l (k : Int))
    have hr : ((if (blkK l size k).2 = [] then rowsB (blkK l size k) ++ [(lget l (k : Int)).Row] else rowsB (blkK l size k))).length ≤ k + 1 := by
      split
      · rw [List.length_append, List.length_singleton]; omega
      · omega
    have hx : (encC ((blkK l size k).2 ++ [lget l (k : Int)])).length ≤ (encC (blkK l size k).2).length + 310 := by
      rw [encC_app, encC_one, List.length_append]; omega
    have hcs : ∀ c ∈ (blkK l size k).2 ++ [lget l (k : Int)], R_CellCode c = 0 := by
      intro c hm
      rcases List.mem_append.1 hm with q | q
      · exact h5 c q
      · rw [List.mem_singleton] at q; rw [q]; exact hc
    have hne : (blkK l size k).2 ++ [lget l (k : Int)] ≠ [] := by simp
    have hhd : (hdR ((blkK l size k).2 ++ [lget l (k : Int)])).length ≤ 40 := by
      have : lget ((blkK l size k).2 ++ [lget l (k : Int)]) 0 ∈ (blkK l size k).2 ++ [lget l (k : Int)] := lget_mem _ 0 (by rw [List.length_append, List.length_singleton]; omega)
      exact (code_len (hcs _ this)).1
    rw [blkK]
    split
    · refine ⟨?_, ?_, by rw [r2]; exact hr, by rw [List.length_append, List.length_singleton]; omega, by simp, ?_, ?_⟩
      · rw [List.map_append, encF_app, List.map_singleton, encF_one, List.length_append, frame_len]
        have : (encC ([] : List Cell)).length = 0 := by simp [encC, wrAll]
        dsimp only
        omega
      · have q1 := wrT_len (hdR ((blkK l size k).2 ++ [lget l (k : Int)])) (by omega)
        have q2 := num_len5 (n := (encC ((blkK l size k).2 ++ [lget l (k : Int)])).length) (by omega)
        dsimp only
        rw [idxL_snoc, List.length_append, List.length_append]
        omega
      · intro g hm
        rcases List.mem_append.1 hm with q | q
        · exact h6 g q
        · rw [List.mem_singleton] at q; rw [q]; exact ⟨hne, hcs⟩
      · rw [ht, ← h7]; simp
    · refine ⟨?_, by dsimp only; omega, by rw [r1]; exact hr, by dsimp only; omega, hcs, h6, ?_⟩
      · dsimp only; omega
      · rw [ht, ← h7]; simp
theorem blocks_eq : file_blocks l size = some ((blkK l size l.length).1.map encC, rowsB (blkK l size l.length)) := by
  unfold file_blocks file_blocks_L1
  refine loop_run (step := fun y => file_blocks_B1 l size y) l.length (fun k => ((blkK l size k).1.map encC, rowsB (blkK l size k), encC (blkK l size k).2, (k : Int))) (fun k hk => ?_) ?_
  · have hw : w64 ((k : Int) + 1) = ((k + 1 : Nat) : Int) := by rw [w64_id (by omega) (by omega)]; omega
    have hw2 : w64 ((l.length : Int) - 1) = (l.length : Int) - 1 := w64_id (by omega) (by omega)
    obtain ⟨h1, h2, h3, h4, h5, h6, h7⟩ := blk_bd hg hl size k (by omega)
    have hc := hg _ (lget_mem l (k : Int) (by omega))
    have w1 := wrC_len hc
    obtain ⟨r1, r2⟩ := rowsB_step (blkK l size k) (lget l (k : Int))
    have hz := encC_zero h5
    show file_blocks_B1 l size (_, _, encC (blkK l size k).2, (k : Int)) = _
    unfold file_blocks_B1
    dsimp only
    rw [if_pos (d_t (by omega)), asrt_pos (by omega), hw, hw2, cell_eta]
    have hv2 : (if (decide ((encC (blkK l size k).2).length = 0)) = true then
        asrt (((rowsB (blkK l size k) ++ ([(lget l (k : Int)).Row] : List (List UInt8))).length : Int) * 16 ≤ 140737488351232) <|
        some ((rowsB (blkK l size k) ++ ([(lget l (k : Int)).Row] : List (List UInt8))), lget l (k : Int))
      else
        some (rowsB (blkK l size k), lget l (k : Int))) = some ((if (blkK l size k).2 = [] then rowsB (blkK l size k) ++ [(lget l (k : Int)).Row] else rowsB (blkK l size k)), lget l (k : Int)) := by
      by_cases c : (blkK l size k).2 = []
      · rw [if_pos (d_t (hz.2 c)), if_pos c, asrt_pos (by rw [List.length_append, List.length_singleton]; omega)]
      · rw [if_neg (d_f (fun q => c (hz.1 q))), if_neg c]
    rw [hv2, ob_some, add_eq _ hc _ (by omega), ob_some]
    have hx : encC (blkK l size k).2 ++ wrC (lget l (k : Int)) = encC ((blkK l size k).2 ++ [lget l (k : Int)]) := by rw [encC_app, encC_one]
    rw [hx, blkK]
    have hcond : ((decide (size ≤ ((encC ((blkK l size k).2 ++ [lget l (k : Int)])).length : Int))) || (decide ((k : Int) = (l.length : Int) - 1))) = decide (size ≤ ((encC ((blkK l size k).2 ++ [lget l (k : Int)])).length : Int) ∨ k + 1 = l.length) := by
      rw [Bool.eq_iff_iff]
      simp only [Bool.or_eq_true, decide_eq_true_eq]
      omega
    rw [hcond]
    by_cases c : size ≤ ((encC ((blkK l size k).2 ++ [lget l (k : Int)])).length : Int) ∨ k + 1 = l.length
    · rw [if_pos (d_t c), if_pos c, asrt_pos (by rw [List.length_append, List.length_map, List.length_singleton]; omega), ob_some, r2, List.map_append]
      rfl
    · rw [if_neg (d_f c), if_neg c, ob_some, r1]
  · show file_blocks_B1 l size (_, _, _, (l.length : Int)) = _
    unfold file_blocks_B1
    dsimp only
    rw [if_neg (d_f (by omega))]; rfl
/-- the row of the first cell of what is begun, or of the last block -/
def firstK (l : List Cell) (size : Int) : Nat → List UInt8
  | 0 => []
  | k + 1 => if (blkK l size k).2 = [] then (lget l (k : Int)).Row else firstK l size k
omit hg hl in
theorem firstK_hd : ∀ k : Nat, (blkK l size k).2 ≠ [] → firstK l size k = hdR (blkK l size k).2
  | 0, h => absurd rfl h
  | k + 1, h => by
    rw [firstK]
    rw [blkK] at h ⊢
    by_cases c : size ≤ ((encC ((blkK l size k).2 ++ [lget l (k : Int)])).length : Int) ∨ k + 1 = l.length
    · rw [if_pos c] at h; exact absurd rfl h
    · rw [if_neg c, hdR_snoc]
      by_cases c2 : (blkK l size k).2 = []
      · rw [if_pos c2, if_pos c2]
      · rw [if_neg c2, if_neg c2, firstK_hd k c2]
omit hg hl in
theorem firstK_next (k : Nat) : firstK l size (k + 1) = hdR ((blkK l size k).2 ++ [lget l (k : Int)]) := by
  rw [firstK, hdR_snoc]
  by_cases c : (blkK l size k).2 = []
  · rw [if_pos c, if_pos c]
  · rw [if_neg c, if_neg c, firstK_hd size k c]
/-- the blocks, the index and the filter -/
def partsL (l : List Cell) (size : Int) : List (List UInt8) := (blkK l size l.length).1.map encC ++ [idxL (blkK l size l.length).1, filF l]
def fileB (l : List Cell) (size : Int) : List UInt8 := encF (partsL l size)
theorem rfile_eq : R_FileOf_v1 l size = some (fileB l size) := by
  unfold R_FileOf_v1 R_FileOf_v1_L1
  refine loop_run (step := fun y => R_FileOf_v1_B1 l size y) l.length (fun k => (encF ((blkK l size k).1.map encC), idxL (blkK l size k).1, encC (blkK l size k).2, firstK l size k, (k : Int))) (fun k hk => ?_) ?_
  · have hw : w64 ((k : Int) + 1) = ((k + 1 : Nat) : Int) := by rw [w64_id (by omega) (by omega)]; omega
    have hw2 : w64 ((l.length : Int) - 1) = (l.length : Int) - 1 := w64_id (by omega) (by omega)
    obtain ⟨h1, h2, h3, h4, h5, h6, h7⟩ := blk_bd hg hl size k (by omega)
    have hc := hg _ (lget_mem l (k : Int) (by omega))
    have w1 := wrC_len hc
    have hz := encC_zero h5
    have hfn := firstK_next size k (l := l)
    show R_FileOf_v1_B1 l size (_, _, encC (blkK l size k).2, firstK l size k, (k : Int)) = _
    unfold R_FileOf_v1_B1
    dsimp only
    rw [if_pos (d_t (by omega)), hw, hw2, cell_eta]
    have hv2 : (if (decide (((encC (blkK l size k).2).length : Int) = 0)) = true then
        asrt (0 ≤ (k : Int) ∧ (k : Int) < (l.length : Int)) <|
        some ((lget l (k : Int)).Row)
      else
        some (firstK l size k)) = some (firstK l size (k + 1)) := by
      rw [firstK]
      by_cases c : (blkK l size k).2 = []
      · have := hz.2 c
        rw [if_pos (d_t (by omega)), if_pos c, asrt_pos (by omega)]
      · have : ¬ (((encC (blkK l size k).2).length : Int) = 0) := fun q => c (hz.1 (by omega))
        rw [if_neg (d_f this), if_neg c]
    have hx : encC (blkK l size k).2 ++ wrC (lget l (k : Int)) = encC ((blkK l size k).2 ++ [lget l (k : Int)]) := by rw [encC_app, encC_one]
    have hxl : (encC ((blkK l size k).2 ++ [lget l (k : Int)])).length ≤ 316310 := by rw [← hx, List.length_append]; omega
    have hhd : (hdR ((blkK l size k).2 ++ [lget l (k : Int)])).length ≤ 40 := by
      have hm : lget ((blkK l size k).2 ++ [lget l (k : Int)]) 0 ∈ (blkK l size k).2 ++ [lget l (k : Int)] := lget_mem _ 0 (by rw [List.length_append, List.length_singleton]; omega)
      rcases List.mem_append.1 hm with q | q
      · exact (code_len (h5 _ q)).1
      · rw [List.mem_singleton] at q
        show (lget ((blkK l size k).2 ++ [lget l (k : Int)]) 0).Row.length ≤ 40
        rw [q]; exact (code_len hc).1
    rw [hv2, ob_some, asrt_pos (by omega), cellBytes_eq _ hc, ob_some, hx, asrt_pos (by omega), blkK]
    have hcond : ((decide (size ≤ ((encC ((blkK l size k).2 ++ [lget l (k : Int)])).length : Int))) || (decide ((k : Int) = (l.length : Int) - 1))) = decide (size ≤ ((encC ((blkK l size k).2 ++ [lget l (k : Int)])).length : Int) ∨ k + 1 = l.length) := by
      rw [Bool.eq_iff_iff]
      simp only [Bool.or_eq_true, decide_eq_true_eq]
      omega
    rw [hcond]
    have q1 := wrT_len (hdR ((blkK l size k).2 ++ [lget l (k : Int)])) (by omega)
    have q2 := num_len5 (n := (encC ((blkK l size k).2 ++ [lget l (k : Int)])).length) (by omega)
    by_cases c : size ≤ ((encC ((blkK l size k).2 ++ [lget l (k : Int)])).length : Int) ∨ k + 1 = l.length
    · rw [if_pos (d_t c), if_pos c, framed_eq _ (by omega), ob_some, asrt_pos (by rw [List.length_append, frame_len]; omega), hfn, written_eq _ (by omega), ob_some, asrt_pos (by rw [List.length_append]; omega), rnumber _ (by omega), ob_some,
        asrt_pos (by rw [List.length_append, List.length_append]; omega), ob_some, List.map_append, encF_app, List.map_singleton, encF_one, idxL_snoc, List.append_assoc]
      rfl
    · rw [if_neg (d_f c), if_neg c, ob_some]
  · obtain ⟨h1, h2, h3, h4, h5, h6, h7⟩ := blk_bd hg hl size l.length (Nat.le_refl _)
    have hN := filN_bd l
    have hfl : (filF l).length ≤ l.length + 1 := by unfold filF; rw [bytesOf_len]; omega
    show R_FileOf_v1_B1 l size (_, _, _, _, (l.length : Int)) = _
    unfold R_FileOf_v1_B1
    dsimp only
    rw [if_neg (d_f (by omega))]
    have : R_FileOf_v1_J1 l (encF ((blkK l size l.length).1.map encC), idxL (blkK l size l.length).1) = some (fileB l size) := by
      unfold R_FileOf_v1_J1
      dsimp only
      rw [framed_eq _ (by omega), ob_some, asrt_pos (by rw [List.length_append, frame_len]; omega), rfilter_eq l (by omega) (fun c hc => by have := (code_len (hg c hc)).1; omega), ob_some, framed_eq _ (by omega), ob_some,
        asrt_pos (by rw [List.length_append, List.length_append, frame_len, frame_len]; omega)]
      unfold fileB partsL
      rw [encF_app, encF_cons, encF_one, List.append_assoc]
    rw [this]; rfl
end
end G
end Go.Proofs.Ytollmifjbcccgaa
