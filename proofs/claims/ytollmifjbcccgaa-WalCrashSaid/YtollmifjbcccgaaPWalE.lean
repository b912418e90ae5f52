/- What is logged, synced, crashed, and replayed, in the forms of WalCrash. -/
import Derived.Test.YtollmifjbcccgaaPWalLogs
import Derived.Test.YtollmifjbcccgaaPWalC
namespace Go.Proofs.Ytollmifjbcccgaa
open Go Go.Dm
set_option linter.unusedVariables false
set_option linter.unusedSimpArgs false
namespace G
theorem wlogc_eq {d : Disk} (hd : DGood d) (n : Note) : wal_Log d n = some (if (logF d n).Code = 0 then (d.Bytes ++ frame (encN n), d.Kept, ⟨0, 0⟩) else ([], 0, logF d n)) := by
  have hl := hd.len
  obtain ⟨l1, l2, l3⟩ := logd_le d.Bytes
  unfold wal_Log logF
  rw [dcheck_eq, dF_zero hd, wcheck_eq]
  dsimp only [lt]
  rw [if_neg (by simp), ob_some]
  by_cases c : (noteF n).Code = 0
  · have hg := noteF_good c
    rw [if_neg (n_f c), if_neg (not_not_intro c), wnotes_eq d hl, ob_some]
    dsimp only
    generalize (logd d.Bytes).1 = ns at *
    generalize (logd d.Bytes).2 = e at *
    have hw2 : w64 ((ns.length : Int) - 1) = (ns.length : Int) - 1 := w64_id (by omega) (by omega)
    have hbad : ((!decide ((e : Int) = (d.Bytes.length : Int))) || ((decide (0 < (ns.length : Int))) && (!decide (n.Seq = w64 ((lget ns ((ns.length : Int) - 1)).Seq + 1))))) = decide (badS d.Bytes ns e n) := by
      by_cases c2 : ns.length = 0
      · have d1 : decide (0 < (ns.length : Int)) = false := decide_eq_false (by omega)
        rw [d1, Bool.false_and, Bool.or_false, Bool.eq_iff_iff, decide_eq_true_iff]
        unfold badS
        simp only [Bool.not_eq_true', decide_eq_false_iff_not]
        constructor
        · intro h; exact .inl (by omega)
        · rintro (h | h)
          · omega
          · exact absurd c2 h.1
      · have hla := last_in c2 l3
        have q1 := hla.lo
        have q2 := hla.hi
        have hw3 : w64 ((lget ns ((ns.length : Int) - 1)).Seq + 1) = (lastN ns).Seq + 1 := w64_id (by unfold lastN at q1; omega) (by unfold lastN at q2; omega)
        rw [hw3, decide_eq_true (show 0 < (ns.length : Int) by omega), Bool.true_and, Bool.eq_iff_iff, decide_eq_true_iff]
        unfold badS
        simp only [Bool.or_eq_true, Bool.not_eq_true', decide_eq_false_iff_not]
        constructor
        · rintro (h | h)
          · exact .inl (by omega)
          · exact .inr ⟨c2, h⟩
        · rintro (h | h)
          · exact .inl (by omega)
          · exact .inr h.2
    rw [hw2, asrt_pos (fun h _ => by have := of_decide_eq_true h; omega), asrt_pos (fun h _ => by have := of_decide_eq_true h; omega), hbad]
    by_cases c3 : badS d.Bytes ns e n
    · rw [if_pos (d_t c3), if_pos c3]; rfl
    · rw [if_neg (d_f c3), if_neg c3, frame_eq n hg, ob_some, append_eq hd _ (by have := encN_len hg; rw [frame_len]; omega), ob_some]
      by_cases c4 : 60000 < d.Bytes.length + (frame (encN n)).length
      · rw [if_pos c4, if_pos c4]; rfl
      · rw [if_neg c4, if_neg c4]; rfl
  · rw [if_pos (n_t c), if_pos c, if_neg c]
theorem replc_eq {d : Disk} (hd : DGood d) (h : (logd d.Bytes).1.length ≤ 1000) : wal_Replay d = some (d.Bytes.take (logd d.Bytes).2, (((logd d.Bytes).2 : Nat) : Int), (logd d.Bytes).1, ⟨0, 0⟩) := by
  have hl := hd.len
  obtain ⟨l1, l2, l3⟩ := logd_le d.Bytes
  unfold wal_Replay
  rw [dcheck_eq, dF_zero hd]
  dsimp only [lt]
  rw [if_neg (by simp), wnotes_eq d hl, ob_some]
  dsimp only
  rw [if_neg (d_f (by omega)), asrt_pos (by omega), ltake_nat, clone_eq _ (by rw [List.length_take]; omega), ob_some]
theorem sync_eq {d : Disk} (h : DGood d) : disk_Sync d = some (d.Bytes, (d.Bytes.length : Int), ⟨0, 0⟩) := by
  unfold disk_Sync disk_Copy
  rw [dcheck_eq, dF_zero h, clone_eq _ (by have := h.len; omega)]
  rfl
theorem crash_eq {d : Disk} (h : DGood d) (n : Nat) (hn : d.Kept + n ≤ (d.Bytes.length : Int)) : disk_Crash d (n : Int) = some (d.Bytes.take (d.Kept.toNat + n), ((d.Kept.toNat + n : Nat) : Int), ⟨0, 0⟩) := by
  have hl := h.len
  have h0 := h.k0
  have h1 := h.k1
  have hw : w64 ((d.Bytes.length : Int) - d.Kept) = (d.Bytes.length : Int) - d.Kept := w64_id (by omega) (by omega)
  have e : w64 (d.Kept + n) = ((d.Kept.toNat + n : Nat) : Int) := by rw [w64_id (by omega) (by omega)]; omega
  unfold disk_Crash disk_cut
  rw [dcheck_eq, dF_zero h, hw]
  dsimp only [lt]
  rw [if_neg (by simp), if_neg (or_f (by omega)), e, asrt_pos (by omega), ltake_nat, clone_eq _ (by rw [List.length_take]; omega), ob_some, ob_some]
theorem ownNotes_eq (l : List Note) (hl : l.length ≤ 1000) (hc : ∀ n ∈ l, n.Cells.length ≤ 1000000) : law_ownNotes l = some l := by
  unfold law_ownNotes law_ownNotes_L1
  refine loop_run (step := fun y => law_ownNotes_B1 l y) l.length (fun k => (l.take k, (k : Int))) (fun k hk => ?_) ?_
  · have hw : w64 ((k : Int) + 1) = ((k + 1 : Nat) : Int) := by rw [w64_id (by omega) (by omega)]; omega
    have hn := hc _ (lget_mem l (k : Int) (by omega))
    show law_ownNotes_B1 l (l.take k, (k : Int)) = some (.inl (l.take (k + 1), ((k + 1 : Nat) : Int)))
    unfold law_ownNotes_B1 law_ownNote law_ownCells_v1
    dsimp only
    rw [if_pos (d_t (by omega)), asrt_pos (by omega), asrt_pos (by omega), ob_some, ob_some, note_eta, hw, ← lget_take l k hk, asrt_pos (by rw [List.length_take]; omega)]
  · show law_ownNotes_B1 l (l.take l.length, (l.length : Int)) = _
    unfold law_ownNotes_B1
    dsimp only
    rw [if_neg (d_f (by omega)), List.take_length]; rfl
end G
end Go.Proofs.Ytollmifjbcccgaa
