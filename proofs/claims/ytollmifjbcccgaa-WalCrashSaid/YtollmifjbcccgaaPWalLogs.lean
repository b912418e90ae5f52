/- Every Log and Replay is as the document says. -/
import Derived.Test.YtollmifjbcccgaaPWalB
namespace Go.Proofs.Ytollmifjbcccgaa
open Go Go.Dm
set_option linter.unusedVariables false
set_option linter.unusedSimpArgs false
namespace G
theorem walBegun : law_walBegun = some true := by
  unfold law_walBegun
  have h : wnoteS law_oneNote = ([1, 1, 114, 1, 99, 7, 0, 1, 97], ⟨0, 0⟩) := by
    unfold wnoteS
    rw [note1F, if_pos rfl]
    simp [encN, law_oneNote, lt, encC, wrAll, wrC, wrT, num_lt]
  simp only [lt, wwrite_eq, ob_some, h]
  simp [R_Same]
theorem encN_len {n : Note} (h : NGood n) : (encN n).length ≤ 7000 := by
  have h1 := h.lo
  have h2 := h.hi
  have h3 := h.len
  have h5 := num_len5 (n := n.Seq.toNat) (by omega)
  have h6 := encC_len n.Cells h.cells.code
  unfold encN
  rw [List.length_append]; omega
theorem frame_eq (n : Note) (h : NGood n) : wal_Frame_v1 n = some (frame (encN n)) := by
  have := encN_len h
  unfold wal_Frame_v1
  rw [wbytes_eq n h, ob_some, addFrame_eq _ (by omega), ob_some]
def badS (b : List UInt8) (ns : List Note) (e : Nat) (n : Note) : Prop := e ≠ b.length ∨ (ns.length ≠ 0 ∧ n.Seq ≠ (lastN ns).Seq + 1)
instance (b : List UInt8) (ns : List Note) (e : Nat) (n : Note) : Decidable (badS b ns e n) := inferInstanceAs (Decidable (_ ∨ _))
noncomputable def logF (d : Disk) (n : Note) : Fault :=
  if ¬ (noteF n).Code = 0 then noteF n
  else if badS d.Bytes (logd d.Bytes).1 (logd d.Bytes).2 n then ⟨11, 0⟩
  else if 60000 < d.Bytes.length + (frame (encN n)).length then ⟨9, 0⟩ else ⟨0, 0⟩
noncomputable def logS (d : Disk) (n : Note) : Disk × Fault := if (logF d n).Code = 0 then (⟨d.Bytes ++ frame (encN n), d.Kept⟩, ⟨0, 0⟩) else (dE, logF d n)
theorem wlog_eq {d : Disk} (hd : DGood d) (n : Note) : wal_Log_v1 d n = some (logS d n) := by
  have hl := hd.len
  obtain ⟨l1, l2, l3⟩ := logd_le d.Bytes
  unfold wal_Log_v1 logS logF
  rw [dcheck_eq, dF_zero hd, wcheck_eq]
  dsimp only [lt]
  rw [if_neg (by simp), ob_some]
  by_cases c : (noteF n).Code = 0
  · have hg := noteF_good c
    rw [if_neg (n_f c), if_neg (not_not_intro c), wnotes_eq d hl, ob_some]
    dsimp only
    generalize (logd d.Bytes).1 = ns at *
    generalize (logd d.Bytes).2 = e at *
    have hw2 : w64 ((ns.length : Int) - 1) = (ns.length : Int) - 1 := w64_id (by omega) (by omega)
    have hbad : ((!decide ((e : Int) = (d.Bytes.length : Int))) || ((decide (0 < (ns.length : Int))) && (!decide (n.Seq = w64 ((lget ns ((ns.length : Int) - 1)).Seq + 1))))) = decide (badS d.Bytes ns e n) := by
      by_cases c2 : ns.length = 0
      · have d1 : decide (0 < (ns.length : Int)) = false := decide_eq_false (by omega)
        rw [d1, Bool.false_and, Bool.or_false, Bool.eq_iff_iff, decide_eq_true_iff]
        unfold badS
        simp only [Bool.not_eq_true', decide_eq_false_iff_not]
        constructor
        · intro h; exact .inl (by omega)
        · rintro (h | h)
          · omega
          · exact absurd c2 h.1
      · have hla := last_in c2 l3
        have q1 := hla.lo
        have q2 := hla.hi
        have hw3 : w64 ((lget ns ((ns.length : Int) - 1)).Seq + 1) = (lastN ns).Seq + 1 := w64_id (by unfold lastN at q1; omega) (by unfold lastN at q2; omega)
        rw [hw3, decide_eq_true (show 0 < (ns.length : Int) by omega), Bool.true_and, Bool.eq_iff_iff, decide_eq_true_iff]
        unfold badS
        simp only [Bool.or_eq_true, Bool.not_eq_true', decide_eq_false_iff_not]
        constructor
        · rintro (h | h)
          · exact .inl (by omega)
          · exact .inr ⟨c2, h⟩
        · rintro (h | h)
          · exact .inl (by omega)
          · exact .inr h.2
    rw [hw2, asrt_pos (fun h _ => by have := of_decide_eq_true h; omega), asrt_pos (fun h _ => by have := of_decide_eq_true h; omega), hbad]
    by_cases c3 : badS d.Bytes ns e n
    · rw [if_pos (d_t c3), if_pos c3]; rfl
    · rw [if_neg (d_f c3), if_neg c3, frame_eq n hg, ob_some, append_eq hd _ (by have := encN_len hg; rw [frame_len]; omega), ob_some]
      by_cases c4 : 60000 < d.Bytes.length + (frame (encN n)).length
      · rw [if_pos c4, if_pos c4]; rfl
      · rw [if_neg c4, if_neg c4]; rfl
  · rw [if_pos (n_t c), if_pos c, if_neg c]; rfl
theorem wlog_bad {d : Disk} (hd : ¬ (dF d).Code = 0) (n : Note) : wal_Log_v1 d n = some (dE, dF d) := by
  unfold wal_Log_v1
  rw [dcheck_eq]
  dsimp only [lt]
  rw [if_pos (n_t hd)]; rfl
noncomputable def replS (d : Disk) : Disk × List Note × Fault := if 1000 < (logd d.Bytes).1.length then (dE, [], ⟨2, 0⟩) else (⟨d.Bytes.take (logd d.Bytes).2, (((logd d.Bytes).2 : Nat) : Int)⟩, (logd d.Bytes).1, ⟨0, 0⟩)
theorem repl_eq {d : Disk} (hd : DGood d) : wal_Replay_v1 d = some (replS d) := by
  have hl := hd.len
  obtain ⟨l1, l2, l3⟩ := logd_le d.Bytes
  unfold wal_Replay_v1 replS
  rw [dcheck_eq, dF_zero hd]
  dsimp only [lt]
  rw [if_neg (by simp), wnotes_eq d hl, ob_some]
  dsimp only
  by_cases c : 1000 < (logd d.Bytes).1.length
  · rw [if_pos (d_t (by omega)), if_pos c]; rfl
  · rw [if_neg (d_f (by omega)), if_neg c, asrt_pos (by omega), ltake_nat, clone_eq _ (by rw [List.length_take]; omega), ob_some]
theorem repl_bad {d : Disk} (hd : ¬ (dF d).Code = 0) : wal_Replay_v1 d = some (dE, [], dF d) := by
  unfold wal_Replay_v1
  rw [dcheck_eq]
  dsimp only [lt]
  rw [if_pos (n_t hd)]; rfl
theorem sameNotes_self (l : List Note) (hl : l.length ≤ 1000000) (hc : ∀ n ∈ l, n.Cells.length ≤ 1000000) : R_SameNotes l l = some true := by
  unfold R_SameNotes
  rw [if_neg (by simp)]
  refine loop_run (step := fun y => R_SameNotes_B1 l l y) l.length (fun k => (k : Int)) (fun k hk => ?_) ?_
  · have hw : w64 ((k : Int) + 1) = ((k + 1 : Nat) : Int) := by rw [w64_id (by omega) (by omega)]; omega
    show R_SameNotes_B1 l l (k : Int) = _
    unfold R_SameNotes_B1
    rw [if_pos (d_t (by omega)), asrt_pos (by omega), asrt_pos (by omega), note_eta, sameNote_self _ (hc _ (lget_mem l (k : Int) (by omega))), ob_some, if_neg (by decide), hw]
  · show R_SameNotes_B1 l l (l.length : Int) = _
    unfold R_SameNotes_B1
    rw [if_neg (d_f (by omega))]; rfl
theorem fsame (f : Fault) : (decide (f.Code = f.Code) && (decide (f.At = f.At) && true)) = true := by simp
theorem diskAs_eq {d : Disk} (hd : DGood d) (n : Note) (fr : List UInt8) (hf : (logF d n).Code = 0 → fr = frame (encN n)) : law_diskAs (logS d n).1 (logS d n).2 (logF d n) d fr = some true := by
  have hl := hd.len
  unfold law_diskAs logS
  by_cases c : (logF d n).Code = 0
  · have hg : NGood n := by
      unfold logF at c
      by_cases q : (noteF n).Code = 0
      · exact noteF_good q
      · rw [if_pos q] at c; exact absurd c q
    have hz : logF d n = ⟨0, 0⟩ := by
      unfold logF at c ⊢
      rw [if_neg (not_not_intro (by rw [hg.f]))] at c ⊢
      by_cases q : badS d.Bytes (logd d.Bytes).1 (logd d.Bytes).2 n
      · rw [if_pos q] at c; cases c
      · rw [if_neg q] at c ⊢
        by_cases q2 : 60000 < d.Bytes.length + (frame (encN n)).length
        · rw [if_pos q2] at c; cases c
        · rw [if_neg q2]
    have he := encN_len hg
    rw [if_pos c, hz, if_neg (by simp), if_neg (by simp), hf c]
    have hfl : (frame (encN n)).length ≤ 7006 := by rw [frame_len]; omega
    unfold law_WalLogs_1_v1 law_ownBytes
    rw [asrt_pos (by omega), ob_some, asrt_pos (by rw [List.length_append]; omega), ob_some]
    simp [lt, sameDisk_iff]
  · rw [if_neg c, if_neg (by simp), if_pos (n_t c)]
    simp [lt, sameDisk_iff, dE]
theorem WalLogs_eq (d : Disk) (n : Note) : law_WalLogs d n = some true := by
  unfold law_WalLogs
  rw [walBegun, ob_some, if_neg (by simp)]
  dsimp only [lt]
  cases hm : law_many (n.Cells.length : Int) with
  | true => rw [if_pos (by simp)]
  | false =>
    have hl : n.Cells.length ≤ 2000 := by
      unfold law_many at hm
      simp [lt] at hm; omega
    by_cases hb : 100000 < (d.Bytes.length : Int)
    · rw [if_pos (by simp; omega)]
    · rw [if_neg (by simp; omega)]
      have ho : law_ownNote n = some n := by unfold law_ownNote law_ownCells_v1; rw [asrt_pos (by omega)]; rfl
      have hod : law_ownDisk d = some d := by unfold law_ownDisk law_ownBytes_v1; rw [asrt_pos (by omega)]; rfl
      have hsd : R_SameDisk d d = true := by rw [sameDisk_iff]; simp
      have hE : (⟨([] : List UInt8), 0⟩ : Disk) = dE := rfl
      rw [hod, ob_some, ho, ob_some, hE]
      by_cases hd : (dF d).Code = 0
      · have hg := dF_good.1 hd
        obtain ⟨l1, l2, l3⟩ := logd_le d.Bytes
        have hdl := hg.len
        rw [wlog_eq hg, ob_some, repl_eq hg, ob_some, hsd, if_pos (by decide), sameNote_self n (by omega), ob_some, if_neg (by decide), rdisk_eq, dF_zero hg, if_neg (by simp), rlogd_eq _ hdl, ob_some, rnote_eq, ob_some]
        have key : ∃ fr, ((logF d n).Code = 0 → fr = frame (encN n)) ∧ (if (decide ((noteF n).Code = 0)) = true then
              ob (R_NoteBytes_v1 n) fun x13 =>
              ob (R_Framed_v1 x13) fun x14 =>
              asrt ((decide (0 < ((logd d.Bytes).1.length : Int))) = true → (!(!decide ((((logd d.Bytes).2 : Nat) : Int) = (d.Bytes.length : Int)))) = true → 0 ≤ w64 (((logd d.Bytes).1.length : Int) - 1) ∧ w64 (((logd d.Bytes).1.length : Int) - 1) < ((logd d.Bytes).1.length : Int)) <|
              if ((!decide ((((logd d.Bytes).2 : Nat) : Int) = (d.Bytes.length : Int))) || ((decide (0 < ((logd d.Bytes).1.length : Int))) && (!decide (((lget (logd d.Bytes).1 (w64 (((logd d.Bytes).1.length : Int) - 1))).Seq) = (w64 (n.Seq - 1)))))) = true then
                some (d, (logS d n).1, (logS d n).2, (replS d).1, (replS d).2.2, R_F 11 0, x14)
              else
                if (decide (60000 < (w64 ((d.Bytes.length : Int) + (x14.length : Int))))) = true then
                  some (d, (logS d n).1, (logS d n).2, (replS d).1, (replS d).2.2, R_F 9 0, x14)
                else
                  some (d, (logS d n).1, (logS d n).2, (replS d).1, (replS d).2.2, noteF n, x14)
            else
              some (d, (logS d n).1, (logS d n).2, (replS d).1, (replS d).2.2, noteF n, ([] : List UInt8))) = some (d, (logS d n).1, (logS d n).2, (replS d).1, (replS d).2.2, logF d n, fr) := by
          generalize logS d n = ls
          generalize replS d = rs
          unfold logF
          by_cases c : (noteF n).Code = 0
          · have hng := noteF_good c
            have he := encN_len hng
            have hlo := hng.lo
            have hhi := hng.hi
            refine ⟨frame (encN n), fun _ => rfl, ?_⟩
            rw [if_pos (d_t c), noteBytes_eq n hng, ob_some, framed_eq1 _ (by omega), ob_some, if_neg (not_not_intro c)]
            have hw : w64 ((d.Bytes.length : Int) + ((frame (encN n)).length : Int)) = ((d.Bytes.length + (frame (encN n)).length : Nat) : Int) := by
              rw [frame_len, w64_id (by omega) (by omega)]; omega
            rw [hw]
            generalize (logd d.Bytes).1 = ns at *
            generalize (logd d.Bytes).2 = e at *
            have hw2 : w64 ((ns.length : Int) - 1) = (ns.length : Int) - 1 := w64_id (by omega) (by omega)
            have hw4 : w64 (n.Seq - 1) = n.Seq - 1 := w64_id (by omega) (by omega)
            have hbad : ((!decide ((e : Int) = (d.Bytes.length : Int))) || ((decide (0 < (ns.length : Int))) && (!decide ((lget ns ((ns.length : Int) - 1)).Seq = n.Seq - 1)))) = decide (badS d.Bytes ns e n) := by
              rw [Bool.eq_iff_iff, decide_eq_true_iff]
              unfold badS lastN
              simp only [Bool.or_eq_true, Bool.and_eq_true, Bool.not_eq_true', decide_eq_false_iff_not, decide_eq_true_eq]
              omega
            rw [hw2, hw4, asrt_pos (fun h _ => by have := of_decide_eq_true h; omega), hbad]
            by_cases c3 : badS d.Bytes ns e n
            · rw [if_pos (d_t c3), if_pos c3]; rfl
            · rw [if_neg (d_f c3), if_neg c3]
              by_cases c4 : 60000 < d.Bytes.length + (frame (encN n)).length
              · rw [if_pos (d_t (by omega)), if_pos c4]; rfl
              · rw [if_neg (d_f (by omega)), if_neg c4, hng.f]
          · refine ⟨[], fun h => absurd h (by rw [if_pos c]; exact c), ?_⟩
            rw [if_neg (d_f c), if_pos c]
        obtain ⟨fr, hfr, hk⟩ := key
        dsimp only at hk ⊢
        rw [hk, ob_some]
        dsimp only
        rw [diskAs_eq hg n fr hfr, ob_some, if_neg (by decide)]
        unfold replS
        by_cases c : 1000 < (logd d.Bytes).1.length
        · rw [if_pos (d_t (by omega)), if_pos c]
          simp [R_F, sameDisk_iff]
        · rw [if_neg (d_f (by omega)), if_neg c]
          dsimp only
          rw [if_pos (by simp), sameNotes_self _ (by omega) (fun x hx => by have := (l3 x hx).len; omega), ob_some, asrt_pos (fun _ => by omega), ltake_nat, sameDisk_iff]
          simp
      · rw [wlog_bad hd, ob_some, repl_bad hd, ob_some, hsd, if_pos (by decide), sameNote_self n (by omega), ob_some, if_neg (by decide), rdisk_eq, if_pos (n_t hd), fsame]
        simp [sameDisk_iff, dE]
end G
end Go.Proofs.Ytollmifjbcccgaa
