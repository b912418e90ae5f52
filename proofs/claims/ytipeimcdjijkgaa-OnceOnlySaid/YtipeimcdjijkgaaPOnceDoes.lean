/- Every Check, Plain and Do is as the document says. -/
import Derived.Test.YtipeimcdjijkgaaPOnceD
namespace Go.Proofs.Ytipeimcdjijkgaa
open Go Go.Dm
set_option linter.unusedVariables false
set_option linter.unusedSimpArgs false
namespace G
theorem copyLed_eq (l : Ledger) (h1 : l.Rows.length ≤ 1000000) (h2 : l.Memos.length ≤ 1000000) : R_CopyLedger l = some (l.Rows, l.Memos) := by
  unfold R_CopyLedger; rw [asrt_pos (by omega), asrt_pos (by omega)]
theorem copyLed1_eq (l : Ledger) (h1 : l.Rows.length ≤ 1000000) (h2 : l.Memos.length ≤ 1000000) : R_CopyLedger_v1 l = some l := by
  unfold R_CopyLedger_v1; rw [asrt_pos (by omega), asrt_pos (by omega)]
theorem called0_eq (l : List Pair) (c : Call) : R_Called l c = R_Called_v1 l c := rfl
theorem once_eq {l : Ledger} (hr : RS l.Rows) (hm : MS l.Memos) {c : Call} (hc : callOk c) (h0 : (R_CallFault c) = ⟨0, 0⟩) {mp rp : Nat} {mf rf : Bool} (ma : MAt l.Memos c.Client mp mf) (ra : At l.Rows c.Row rp rf) :
    R_Once_v1 l c = some (doneF l c mp mf rp rf) := by
  have hl := hm.len
  have hrl := hr.len
  have hle := ma.le
  have hsq := hc.1.2.2
  unfold numOk at hsq
  have hz := ledF_zero.2 ⟨hr, hm⟩
  have hcl := hc.1.2.1
  unfold numOk at hcl
  have hw1 : w64 (c.Seq - 1) = c.Seq - 1 := w64_id (by omega) (by omega)
  have hw2 : w64 ((mp : Int) + 1) = ((mp + 1 : Nat) : Int) := by rw [w64_id (by omega) (by omega)]; omega
  unfold R_Once_v1
  rw [rledger_eq, ob_some, ledF_fine hz, if_pos (d_t rfl), h0]
  dsimp only [lt]
  rw [ob_some, if_neg (by decide), memoOf_eq (by omega) ma, ob_some, copyLed_eq _ (by omega) (by omega), hw1]
  dsimp only
  rw [called0_eq, called_eq hr c ra]
  have hpo : mf = true → mp < l.Memos.length := fun e => (ma.is.1 e).1
  cases hf : mf with
  | true =>
    have hp := hpo hf
    have hsn := (hm.num mp hp).2.1
    have hcn := (hm.num mp hp).1
    unfold numOk at hsn hcn
    have hs : (if true = true then (lget l.Memos (mp : Int)).Seq else 0) = (lget l.Memos (mp : Int)).Seq := if_pos rfl
    rw [if_pos (rfl : true = true)]
    by_cases c1 : c.Seq = (lget l.Memos (mp : Int)).Seq
    · rw [doneF_same rfl c1, if_pos (d_t c1), ob_some]
    · have h0 : ¬ (true = true ∧ c.Seq = (lget l.Memos (mp : Int)).Seq) := fun h => c1 h.2
      rw [if_neg (d_f c1)]
      by_cases c2 : c.Seq < (lget l.Memos (mp : Int)).Seq
      · rw [doneF_stale hs h0 c2, if_pos (d_t c2)]; rfl
      · rw [if_neg (d_f c2)]
        by_cases c3 : (lget l.Memos (mp : Int)).Seq + 1 < c.Seq
        · rw [doneF_state hs h0 c2 c3, if_pos (d_t (by omega))]; rfl
        · have e : ltake l.Memos (mp : Int) ++ [(⟨c.Client, c.Seq, (calledF l.Rows c rp rf).2⟩ : Memo)] ++ ldrop l.Memos ((mp + 1 : Nat) : Int) = withM l.Memos ⟨c.Client, c.Seq, (calledF l.Rows c rp rf).2⟩ mp true := by
            rw [ltake_nat, ldrop_nat]; rfl
          have hwl := withM_len (l := l.Memos) ⟨c.Client, c.Seq, (calledF l.Rows c rp rf).2⟩ mp true
          rw [if_neg (d_f (by omega)), ob_some, asrt_pos (by omega), asrt_pos (by rw [ltake_nat, List.length_take]; omega), asrt_pos (by rw [ltake_nat, List.length_append, List.length_take]; simp; omega), if_pos (d_t (by omega)), ob_some, hw2, asrt_pos (by omega), e, asrt_pos (by omega)]
          by_cases c4 : 1000 < (calledF l.Rows c rp rf).1.length ∨ 1000 < (withM l.Memos ⟨c.Client, c.Seq, (calledF l.Rows c rp rf).2⟩ mp true).length
          · rw [doneF_much hs h0 c2 c3 c4, if_pos (or_t (by omega))]; rfl
          · rw [doneF_done hs h0 c2 c3 c4, if_neg (or_f (by omega))]
  | false =>
    have hs : (if false = true then (lget l.Memos (mp : Int)).Seq else 0) = 0 := if_neg (by decide)
    have h0 : ¬ (false = true ∧ c.Seq = (lget l.Memos (mp : Int)).Seq) := fun h => by cases h.1
    have c2 : ¬ c.Seq < 0 := by omega
    rw [if_neg (by decide : ¬ false = true), if_neg (d_f (show ¬ c.Seq = mE.Seq by show ¬ c.Seq = 0; omega)), if_neg (d_f (show ¬ c.Seq < mE.Seq from c2))]
    by_cases c3 : (0 : Int) + 1 < c.Seq
    · rw [doneF_state hs h0 c2 c3, if_pos (d_t (show mE.Seq < c.Seq - 1 by show (0 : Int) < _; omega))]; rfl
    · have e : ltake l.Memos (mp : Int) ++ [(⟨c.Client, c.Seq, (calledF l.Rows c rp rf).2⟩ : Memo)] ++ ldrop l.Memos (mp : Int) = withM l.Memos ⟨c.Client, c.Seq, (calledF l.Rows c rp rf).2⟩ mp false := by
        rw [ltake_nat, ldrop_nat]; rfl
      have hwl := withM_len (l := l.Memos) ⟨c.Client, c.Seq, (calledF l.Rows c rp rf).2⟩ mp false
      rw [if_neg (d_f (show ¬ mE.Seq < c.Seq - 1 by show ¬ (0 : Int) < _; omega)), ob_some, asrt_pos (by omega), asrt_pos (by rw [ltake_nat, List.length_take]; omega), asrt_pos (by rw [ltake_nat, List.length_append, List.length_take]; simp; omega), if_neg (d_f (show ¬ 0 < mE.Client by decide)), ob_some, asrt_pos (by omega), e, asrt_pos (by omega)]
      by_cases c4 : 1000 < (calledF l.Rows c rp rf).1.length ∨ 1000 < (withM l.Memos ⟨c.Client, c.Seq, (calledF l.Rows c rp rf).2⟩ mp false).length
      · rw [doneF_much hs h0 c2 c3 c4, if_pos (or_t (by omega))]; rfl
      · rw [doneF_done hs h0 c2 c3 c4, if_neg (or_f (by omega))]
theorem once_bad1 {l : Ledger} (c : Call) (h : (ledF l).Code ≠ 0) : R_Once_v1 l c = some (lE, [], ledF l) := by
  unfold R_Once_v1
  rw [rledger_eq, ob_some, if_neg (d_f h), ob_some, if_pos (n_t h)]; rfl
theorem once_bad2 {l : Ledger} {c : Call} (h : (ledF l).Code = 0) (h2 : (R_CallFault c).Code ≠ 0) : R_Once_v1 l c = some (lE, [], R_CallFault c) := by
  unfold R_Once_v1
  rw [rledger_eq, ob_some, if_pos (d_t h)]
  dsimp only [lt]
  rw [ob_some, if_pos (n_t h2)]; rfl
theorem withR_len (l : List Pair) (r v : List UInt8) (p : Nat) (f is : Bool) : (withR l r v p f is).length ≤ l.length + 1 := by
  unfold withR; cases is <;> simp <;> omega
theorem calledF_len (l : List Pair) (c : Call) (p : Nat) (f : Bool) : (calledF l c p f).1.length ≤ l.length + 1 := by
  unfold calledF
  repeat' split
  all_goals first | exact withR_len _ _ _ _ _ _ | exact Nat.le_succ _
theorem doneF_small (l : Ledger) (c : Call) (mp : Nat) (mf : Bool) (rp : Nat) (rf : Bool) : (doneF l c mp mf rp rf).1.Rows.length ≤ l.Rows.length + 1 ∧ (doneF l c mp mf rp rf).1.Memos.length ≤ l.Memos.length + 1 := by
  unfold doneF
  repeat' split
  all_goals first | exact ⟨Nat.le_succ _, Nat.le_succ _⟩ | exact ⟨Nat.zero_le _, Nat.zero_le _⟩ | exact ⟨calledF_len _ _ _ _, withM_len _ _ _⟩
/-- what Plain comes to -/
theorem plainX (l : List Pair) (c : Call) (hl : l.length ≤ 100000) : ∃ rows said f, once_Plain_v1 l c = some (rows, said, f) ∧ rows.length ≤ 100001 ∧
    (ob (if (decide ((rowsF l).Code = 0)) = true then lt (R_CallFault c) fun x10 => some x10 else some (rowsF l)) fun (v : Fault) =>
      ob (if (decide (v.Code = 0)) = true then
            ob (R_Called_v1 l c) fun x11 =>
            if (decide (1000 < (x11.1.length : Int))) = true then
              lt (R_F 9 0) fun x12 =>
              some (x12, ([] : List Pair), ([] : List UInt8))
            else
              some (v, x11.1, x11.2)
          else
            some (v, ([] : List Pair), ([] : List UInt8))) fun (v1 : Fault × List Pair × List UInt8) => some v1) = some (f, rows, said) := by
  unfold once_Plain_v1
  rw [crows_eq, ob_some]
  by_cases h1 : (rowsF l).Code = 0
  · have hr := rowsF_zero.1 h1
    rw [if_pos (d_t h1), if_pos (d_t h1), ocalled_eq]
    dsimp only [lt]
    rw [ob_some, ob_some]
    by_cases h2 : (R_CallFault c).Code = 0
    · obtain ⟨hc, e⟩ := callF_zero h2
      obtain ⟨rp, rf, ra⟩ := At.ex hr c.Row
      rw [if_neg (n_f h2), if_pos (d_t h2), plain_eq hr c hc.1.1 ra, called_eq hr c ra, ob_some, ob_some]
      have hlen := calledF_len l c rp rf
      by_cases c4 : 1000 < (calledF l c rp rf).1.length
      · rw [if_pos (d_t (by omega)), if_pos (d_t (by omega))]
        exact ⟨_, _, _, rfl, by simp, rfl⟩
      · rw [if_neg (d_f (by omega)), if_neg (d_f (by omega))]
        exact ⟨_, _, _, rfl, by omega, rfl⟩
    · rw [if_pos (n_t h2), if_neg (d_f h2)]
      exact ⟨_, _, _, rfl, by simp, rfl⟩
  · rw [if_neg (d_f h1), if_neg (d_f h1), ob_some, ob_some, if_pos (n_t h1), if_neg (d_f h1)]
    exact ⟨_, _, _, rfl, by simp, rfl⟩
/-- Do and Once come to the same -/
theorem doX (l : Ledger) (c : Call) (h1 : l.Rows.length ≤ 100000) (h2 : l.Memos.length ≤ 100000) : ∃ m s f, once_Do_v1 l c = some (m, s, f) ∧ R_Once_v1 l c = some (m, s, f) ∧ m.Rows.length ≤ 100001 ∧ m.Memos.length ≤ 100001 := by
  by_cases c0 : (ledF l).Code = 0
  · obtain ⟨hr, hm⟩ := ledF_zero.1 c0
    by_cases c1 : (R_CallFault c).Code = 0
    · obtain ⟨hc, e⟩ := callF_zero c1
      obtain ⟨rp, rf, ra⟩ := At.ex hr c.Row
      obtain ⟨mp, mf, ma⟩ := MAt.ex hm c.Client
      have hs := doneF_small l c mp mf rp rf
      have g1 := do_eq hr hm hc e ma ra
      have g2 := once_eq hr hm hc e ma ra
      generalize doneF l c mp mf rp rf = D at hs g1 g2
      obtain ⟨m, s, f⟩ := D
      simp only at hs
      exact ⟨m, s, f, g1, g2, by omega, by omega⟩
    · exact ⟨_, _, _, do_bad2 c0 c1, once_bad2 c0 c1, by simp [lE], by simp [lE]⟩
  · exact ⟨_, _, _, do_bad1 c c0, once_bad1 c c0, by simp [lE], by simp [lE]⟩
theorem sameF (f : Fault) : (decide (f.Code = f.Code) && (decide (f.At = f.At) && true)) = true := by simp
theorem OnceDoes_eq (l : Ledger) (c : Call) : law_OnceDoes l c = some true := by
  unfold law_OnceDoes
  rw [onceBegun_eq, ob_some, if_neg (by decide)]
  dsimp only [lt]
  by_cases cm : (law_many (l.Rows.length : Int) || law_many (l.Memos.length : Int)) = true
  · rw [if_pos cm]
  · have hs : l.Rows.length ≤ 2000 ∧ l.Memos.length ≤ 2000 := by
      unfold law_many at cm
      dsimp only [lt] at cm
      simp only [Bool.or_eq_true, Bool.and_eq_true, decide_eq_true_eq, not_or, not_and] at cm
      omega
    rw [if_neg cm, copyLed1_eq _ (by omega) (by omega), ob_some, ocheck_eq, ob_some]
    obtain ⟨rows, said, f, hp1, hp2, hp3⟩ := plainX l.Rows c (by omega)
    obtain ⟨m, s, g, hd1, hd2, hd3, hd4⟩ := doX l c (by omega) (by omega)
    rw [hp1, ob_some, hd1, ob_some, led_self l (by omega) (by omega), ob_some, if_pos (by decide), rledger_eq, ob_some, sameF, if_neg (by decide), rrows_eq, ob_some]
    dsimp only [lt] at hp3
    have key : ∀ {β : Type} (k : Fault × List Pair × List UInt8 → Option β), (ob (if (decide ((rowsF l.Rows).Code = 0)) = true then some (R_CallFault c) else some (rowsF l.Rows)) fun (v : Fault) =>
      ob (if (decide (v.Code = 0)) = true then
            ob (R_Called_v1 l.Rows c) fun x11 =>
            if (decide (1000 < (x11.1.length : Int))) = true then
              some (R_F 9 0, ([] : List Pair), ([] : List UInt8))
            else
              some (v, x11.1, x11.2)
          else
            some (v, ([] : List Pair), ([] : List UInt8))) k) = k (f, rows, said) := by
      intro β k
      obtain ⟨v, hv, h2⟩ := ob_elim hp3
      obtain ⟨v1, hv1, h3⟩ := ob_elim h2
      have := some_elim h3
      rw [hv, ob_some, hv1, ob_some, this]
    rw [key]
    dsimp only
    rw [sameF, d_t (rfl : said = said), if_pos (by decide), prow_self _ (by omega), ob_some, if_neg (by decide), hd2, ob_some]
    dsimp only
    rw [sameF, d_t (rfl : s = s), if_pos (by decide), led_self _ (by omega) (by omega), ob_some]
    rfl
end G
end Go.Proofs.Ytipeimcdjijkgaa
