/- A file that was made is opened again. -/
import Derived.Test.YtollmifjbcccgaaPFileE
namespace Go.Proofs.Ytollmifjbcccgaa
open Go Go.Dm
set_option linter.unusedVariables false
set_option linter.unusedSectionVars false
set_option linter.unusedSimpArgs false
namespace G
theorem ck_zero : ∀ (l : List Cell) (p : Option Cell) (i : Int), (∀ c ∈ l, R_CellCode c = 0) → l.Pairwise ah → (∀ q, p = some q → ∀ c ∈ l, ah q c) → ck p l i = ⟨0, 0⟩
  | [], p, i, _, _, _ => by rw [ck]
  | c :: l, p, i, hc, hs, hp => by
    have hok : okp p c = true := by
      cases p with
      | none => rfl
      | some q => exact (ahead_iff q c).2 (hp q rfl c (by simp))
    rw [List.pairwise_cons] at hs
    rw [ck, if_neg (not_not_intro (hc c (by simp))), if_pos hok]
    exact ck_zero l (some c) (i + 1) (fun x hx => hc x (by simp [hx])) hs.2 (fun q hq x hx => by cases hq; exact hs.1 x hx)
theorem good_of {l : List Cell} (hl : l.length ≤ 1000) (hc : ∀ c ∈ l, R_CellCode c = 0) (hs : l.Pairwise ah) : Good l := by
  have e : cellF l = ⟨0, 0⟩ := by
    unfold cellF
    rw [if_neg (by omega), ck_zero l none 0 hc hs (fun q h => by cases h)]
  exact cellF_good (by rw [e])
theorem readS_good {l : List Cell} (hg : Good l) (hl : (encC l).length ≤ 60000) : readS (encC l) = (l, ⟨0, 0⟩) := by
  have := rdAll_wrAll (f := rdC) (w := wrC) (fun x => R_CellCode x = 0) (fun x r h => rdC_wrC h r) (fun x h => (wrC_len h).2) l (encC l).length [] hg.code (Nat.le_refl _)
  have e : rdAll rdC (encC l).length (encC l) [] = .inl l := by simpa [encC] using this
  unfold readS
  rw [if_neg (by omega), e]
  unfold rcS
  dsimp only
  rw [hg.f]
  rfl
theorem opn_all : ∀ (L : List (List UInt8)) (k : Nat) (acc : List (List UInt8)) (g : Nat), (∀ s ∈ L, s.length ≤ 65535) → (encF L).length ≤ k → opn k (encF L) acc g = (acc ++ L, g + (encF L).length)
  | [], k, acc, g, _, _ => by
    have : rdF (encF []) = none := by simp [encF, wrAll, rdF]
    rw [opn_none this]; simp [encF, wrAll]
  | x :: L, k, acc, g, hs, hk => by
    have hx := hs x (by simp)
    have hfl := frame_len x
    rw [encF_cons, List.length_append, hfl] at hk
    match k, hk with
    | 0, hk => omega
    | k + 1, hk =>
      rw [encF_cons, opn_some (rdF_frame hx _), opn_all L k _ _ (fun s h => hs s (by simp [h])) (by omega), List.length_append, hfl]
      simp; omega
section
variable {l : List Cell} (hG : Good l) (size : Int) (hB : (fileB l size).length ≤ 60000)
include hG hB
theorem parts_small : ∀ s ∈ partsL l size, s.length ≤ 60000 := by
  intro s hs
  have : ∀ L : List (List UInt8), s ∈ L → s.length ≤ (encF L).length := by
    intro L
    induction L with
    | nil => intro h; cases h
    | cons x L ih =>
      intro h
      rw [encF_cons, List.length_append, frame_len]
      rcases List.mem_cons.1 h with e | e
      · subst e; omega
      · have := ih e; omega
  have := this _ hs
  unfold fileB at hB
  omega
theorem open_eq : file_open (fileB l size) = some (true, ⟨(blkK l size l.length).1.map encC, (blkK l size l.length).1.map hdR, filF l⟩, ⟨0, 0⟩) := by
  have hc := hG.code
  have hl := hG.len
  have hps := parts_small hG size hB
  obtain ⟨h1, h2, h3, h4, h5, h6, h7⟩ := blk_bd hc hl size l.length (Nat.le_refl _)
  have hN := filN_bd l
  have hop := opn_all (partsL l size) (fileB l size).length [] 0 (fun s h => by have := hps s h; omega) (by unfold fileB; omega)
  have hpl := partsL_len size (l := l)
  have hop2 : opn (fileB l size).length (fileB l size) [] 0 = (partsL l size, (fileB l size).length) := by
    have : opn (fileB l size).length (encF (partsL l size)) [] 0 = _ := hop
    unfold fileB at this ⊢
    rw [this]; simp
  unfold file_open
  rw [if_neg (d_f (by omega)), opened_eq _ (by omega), ob_some, hop2]
  dsimp only
  have hw1 : w64 (((partsL l size).length : Int) - 2) = ((blkK l size l.length).1.length : Int) := by rw [hpl, w64_id (by omega) (by omega)]; omega
  have hw2 : w64 (((blkK l size l.length).1.length : Int) + 1) = (((blkK l size l.length).1.length + 1 : Nat) : Int) := by rw [w64_id (by omega) (by omega)]; omega
  have g1 : lget (partsL l size) (((blkK l size l.length).1.length + 1 : Nat) : Int) = filF l := by
    unfold partsL
    rw [lget_app_r _ _ _ (by rw [List.length_map]; omega), List.length_map]
    have : (((blkK l size l.length).1.length + 1 : Nat) : Int) - ((blkK l size l.length).1.length : Int) = 1 := by omega
    rw [this]; rfl
  have g0 : lget (partsL l size) ((blkK l size l.length).1.length : Int) = idxL (blkK l size l.length).1 := by
    unfold partsL
    rw [lget_app_r _ _ _ (by rw [List.length_map]; omega), List.length_map, Int.sub_self]; rfl
  have hfl : (filF l).length = filN l := by unfold filF; rw [bytesOf_len]
  have hcond : (((!decide (((fileB l size).length : Int) = ((fileB l size).length : Int))) || (decide (((blkK l size l.length).1.length : Int) < 0))) || (decide (((filF l).length : Int) = 0))) = false := by
    simp only [decide_true, Bool.not_true, Bool.false_or, Bool.or_eq_false_iff, decide_eq_false_iff_not]
    omega
  rw [hw1, hw2, g1, hcond, asrt_pos (fun _ => by omega), if_neg (by decide), asrt_pos (by omega), asrt_pos (by omega), asrt_pos (by omega), g0]
  dsimp only [lt, wire_Read_v1]
  unfold file_open_L1
  have htk : ltake (partsL l size) ((blkK l size l.length).1.length : Int) = (blkK l size l.length).1.map encC := by
    rw [ltake_nat]; unfold partsL; rw [List.take_left' (by rw [List.length_map])]
  have hgk : ∀ k : Nat, k < (blkK l size l.length).1.length → lget (partsL l size) (k : Int) = encC (lget (blkK l size l.length).1 (k : Int)) := fun k hk => by
    unfold partsL
    rw [lget_app_l _ _ _ (by rw [List.length_map]; omega), lget_nat _ k (by simpa using hk), lget_nat _ k hk]; simp
  have hidx : (idxL (blkK l size l.length).1).length ≤ 60000 := hps _ (by unfold partsL; simp)
  have hend : file_open_J1 (partsL l size, ((fileB l size).length : Int)) ((blkK l size l.length).1.map hdR, ⟨[], false⟩) = some (true, ⟨(blkK l size l.length).1.map encC, (blkK l size l.length).1.map hdR, filF l⟩, ⟨0, 0⟩) := by
    unfold file_open_J1 wire_Reader_Ok
    dsimp only [lt]
    rw [hw1, hw2, g1, htk, if_neg (by simp)]
  generalize hgs : (blkK l size l.length).1 = gs at *
  refine loop_run (step := fun y => file_open_B1 (partsL l size, ((fileB l size).length : Int)) y) gs.length (fun k => ((gs.take k).map hdR, ⟨idxL (gs.drop k), false⟩, (k : Int))) (fun k hk => ?_) ?_
  · have hw : w64 ((k : Int) + 1) = ((k + 1 : Nat) : Int) := by rw [w64_id (by omega) (by omega)]; omega
    have hgm := lget_mem gs (k : Int) (by omega)
    have hhd : (hdR (lget gs (k : Int))).length ≤ 40 := by
      obtain ⟨hne, hcs⟩ := h6 _ hgm
      have : lget (lget gs (k : Int)) 0 ∈ lget gs (k : Int) := lget_mem _ 0 (by have := List.length_pos_iff.2 hne; omega)
      exact (code_len (hcs _ this)).1
    have hel : (encC (lget gs (k : Int))).length ≤ 60000 := by
      have := hps (lget (partsL l size) (k : Int)) (lget_mem _ _ (by omega))
      rwa [hgk k hk] at this
    have hdr : gs.drop k = lget gs (k : Int) :: gs.drop (k + 1) := by rw [lget_nat _ k hk]; exact List.drop_eq_getElem_cons hk
    have hid : idxL (gs.drop k) = wrT (hdR (lget gs (k : Int))) ++ (num (encC (lget gs (k : Int))).length ++ idxL (gs.drop (k + 1))) := by rw [hdr]; simp [idxL]
    have hbd : (idxL (gs.drop k)).length ≤ 60000 := by
      have e : idxL gs = idxL (gs.take k) ++ idxL (gs.drop k) := by unfold idxL; rw [← List.flatMap_append, List.take_append_drop]
      rw [e, List.length_append] at hidx; omega
    have ht := text_some (b := idxL (gs.drop k)) (by omega) (by rw [hid]; exact rdT_wrT (by omega) _)
    have hn := num_some (b := num (encC (lget gs (k : Int))).length ++ idxL (gs.drop (k + 1))) ht.2 (rdN_num (by omega) _)
    show file_open_B1 (partsL l size, ((fileB l size).length : Int)) ((gs.take k).map hdR, ⟨idxL (gs.drop k), false⟩, (k : Int)) = _
    unfold file_open_B1
    dsimp only
    rw [hw1, if_pos (d_t (by omega)), ht.1, ob_some]
    dsimp only
    rw [asrt_pos (by rw [List.length_append, List.length_map, List.length_take, List.length_singleton]; omega), hn.1, ob_some]
    dsimp only
    rw [asrt_pos (by omega), hgk k hk, if_neg (by simp), hw, lget_take gs k hk, List.map_append]
    rfl
  · show file_open_B1 (partsL l size, ((fileB l size).length : Int)) ((gs.take gs.length).map hdR, ⟨idxL (gs.drop gs.length), false⟩, (gs.length : Int)) = _
    have e0 : idxL (gs.drop gs.length) = [] := by rw [List.drop_length]; rfl
    rw [e0, List.take_length]
    unfold file_open_B1
    dsimp only
    rw [hw1, if_neg (d_f (by omega)), hend]; rfl
theorem cells_eq (o2 : List UInt8) : file_opened_cells ((blkK l size l.length).1.map encC) ((blkK l size l.length).1.map hdR) o2 0 (((blkK l size l.length).1.map encC).length : Int) = some (l, true) := by
  have hc := hG.code
  have hl := hG.len
  have hps := parts_small hG size hB
  obtain ⟨h1, h2, h3, h4, h5, h6, h7⟩ := blk_bd hc hl size l.length (Nat.le_refl _)
  rw [blk_end size, List.append_nil, List.take_length] at h7
  have hgp : ∀ g ∈ (blkK l size l.length).1, (encC g).length ≤ 60000 := fun g hg => hps _ (by unfold partsL; exact List.mem_append_left _ (List.mem_map.2 ⟨g, hg, rfl⟩))
  generalize hgs : (blkK l size l.length).1 = gs at *
  have hfl : ∀ k, (gs.take k).flatten.length ≤ l.length := fun k => by
    have e : gs.flatten = (gs.take k).flatten ++ (gs.drop k).flatten := by rw [← List.flatten_append, List.take_append_drop]
    rw [← h7, e, List.length_append]; omega
  have hgood : ∀ k : Nat, k < gs.length → Good (lget gs (k : Int)) := fun k hk => by
    have hgm := lget_mem gs (k : Int) (by omega)
    have hsub : (lget gs (k : Int)).Sublist l := by
      have hdr : gs.drop k = lget gs (k : Int) :: gs.drop (k + 1) := by rw [lget_nat _ k hk]; exact List.drop_eq_getElem_cons hk
      have e2 : gs.flatten = (gs.take k).flatten ++ (gs.drop k).flatten := by rw [← List.flatten_append, List.take_append_drop]
      rw [← h7, e2, hdr, List.flatten_cons]
      exact (List.sublist_append_left _ _).trans (List.sublist_append_right _ _)
    exact good_of (by have := hsub.length_le; omega) (h6 _ hgm).2 (hG.srt.sublist hsub)
  unfold file_opened_cells file_opened_cells_L1
  rw [List.length_map]
  refine loop_run (step := fun y => file_opened_cells_B1 (gs.length : Int) y) gs.length (fun k => (⟨gs.map encC, gs.map hdR, o2⟩, (gs.take k).flatten, (k : Int))) (fun k hk => ?_) ?_
  · have hw : w64 ((k : Int) + 1) = ((k + 1 : Nat) : Int) := by rw [w64_id (by omega) (by omega)]; omega
    have hgm := lget_mem gs (k : Int) (by omega)
    have m1 : lget (gs.map hdR) (k : Int) = hdR (lget gs (k : Int)) := by rw [lget_nat _ k (by simpa using hk), lget_nat _ k hk]; simp
    have m2 : lget (gs.map encC) (k : Int) = encC (lget gs (k : Int)) := by rw [lget_nat _ k (by simpa using hk), lget_nat _ k hk]; simp
    have hne := List.length_pos_iff.2 (h6 _ hgm).1
    have hfk := hfl (k + 1)
    have htk : (gs.take (k + 1)).flatten = (gs.take k).flatten ++ lget gs (k : Int) := by rw [lget_take gs k hk, List.flatten_append]; simp
    show file_opened_cells_B1 (gs.length : Int) (⟨gs.map encC, gs.map hdR, o2⟩, (gs.take k).flatten, (k : Int)) = _
    unfold file_opened_cells_B1
    dsimp only
    rw [List.length_map, List.length_map, if_pos (d_t (by omega)), asrt_pos (by omega), m1, m2, read_eq, readS_good (hgood k hk) (hgp _ hgm), ob_some]
    dsimp only
    have hcond : (((!decide ((0 : Int) = 0)) || (decide (((lget gs (k : Int)).length : Int) = 0))) || (!decide ((lget (lget gs (k : Int)) 0).Row = hdR (lget gs (k : Int))))) = false := by
      have e1 : decide (((lget gs (k : Int)).length : Int) = 0) = false := decide_eq_false (by omega)
      have e2 : decide ((lget (lget gs (k : Int)) 0).Row = hdR (lget gs (k : Int))) = true := decide_eq_true rfl
      rw [e1, e2]; rfl
    rw [hcond, asrt_pos (fun _ => by omega), asrt_pos (fun _ => by omega), asrt_pos (fun _ => by omega), if_neg (by decide), ← htk, asrt_pos (by omega), hw]
  · show file_opened_cells_B1 (gs.length : Int) (_, (gs.take gs.length).flatten, (gs.length : Int)) = _
    rw [List.take_length, h7]
    unfold file_opened_cells_B1
    dsimp only
    rw [if_neg (d_f (by omega))]
    unfold file_opened_cells_J1
    rw [check_eq, hG.f, ob_some]; rfl
theorem open_made (hl5 : l.length ≤ 500) : file_Open_v1 (fileB l size) = some (l, ⟨0, 0⟩) := by
  have hN := filN_bd l
  unfold file_Open_v1
  rw [open_eq hG size hB, ob_some]
  dsimp only
  rw [if_neg (by simp), asrt_pos rfl, cells_eq hG size hB, ob_some]
  dsimp only
  have e5 : decide (500 < (l.length : Int)) = false := decide_eq_false (by omega)
  have hcond : ((!true) || (decide (500 < (l.length : Int)))) = false := by rw [e5]; rfl
  rw [hcond, if_neg (by decide), filter_eq l (by omega) (fun c hc => by have := (code_len (hG.code c hc)).1; omega), ob_some, equal_eq _ _ (by unfold filF; rw [bytesOf_len]; omega), ob_some, if_neg (by simp)]
end
theorem make_v0 (l : List Cell) (size : Int) : file_Make l size = file_Make_v1 l size := rfl
theorem open_v0 (b : List UInt8) : file_Open b = file_Open_v1 b := rfl
end G
end Go.Proofs.Ytollmifjbcccgaa
