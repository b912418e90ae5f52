/- Do and Once are one deed. What is the same. -/
import Derived.Test.YtipeimcdjijkgaaPOnceC
namespace Go.Proofs.Ytipeimcdjijkgaa
open Go Go.Dm
set_option linter.unusedVariables false
set_option linter.unusedSimpArgs false
namespace G
def lE : Ledger := ⟨[], []⟩
def withM (l : List Memo) (m : Memo) (pos : Nat) (f : Bool) : List Memo := l.take pos ++ [m] ++ l.drop (pos + f.toNat)
/-- what a call that is fine does to a ledger that is -/
def doneF (l : Ledger) (c : Call) (mp : Nat) (mf : Bool) (rp : Nat) (rf : Bool) : Ledger × List UInt8 × Fault :=
  if mf = true ∧ c.Seq = (lget l.Memos (mp : Int)).Seq then (l, (lget l.Memos (mp : Int)).Said, ⟨0, 0⟩)
  else if c.Seq < (if mf = true then (lget l.Memos (mp : Int)).Seq else 0) then (lE, [], ⟨12, 0⟩)
  else if (if mf = true then (lget l.Memos (mp : Int)).Seq else 0) + 1 < c.Seq then (lE, [], ⟨11, 0⟩)
  else if 1000 < (calledF l.Rows c rp rf).1.length ∨ 1000 < (withM l.Memos ⟨c.Client, c.Seq, (calledF l.Rows c rp rf).2⟩ mp mf).length then (lE, [], ⟨9, 0⟩)
  else (⟨(calledF l.Rows c rp rf).1, withM l.Memos ⟨c.Client, c.Seq, (calledF l.Rows c rp rf).2⟩ mp mf⟩, (calledF l.Rows c rp rf).2, ⟨0, 0⟩)
theorem led_eta (l : Ledger) : (⟨l.Rows, l.Memos⟩ : Ledger) = l := rfl
theorem withM_len {l : List Memo} (m : Memo) (p : Nat) (f : Bool) : (withM l m p f).length ≤ l.length + 1 := by
  unfold withM; simp; omega
section
variable {l : Ledger} {c : Call} {mp rp : Nat} {mf rf : Bool} {s : Int}
theorem doneF_same (hf : mf = true) (h : c.Seq = (lget l.Memos (mp : Int)).Seq) : doneF l c mp mf rp rf = (l, (lget l.Memos (mp : Int)).Said, ⟨0, 0⟩) := by
  unfold doneF; rw [if_pos ⟨hf, h⟩]
theorem doneF_stale (hs : (if mf = true then (lget l.Memos (mp : Int)).Seq else 0) = s) (h0 : ¬ (mf = true ∧ c.Seq = (lget l.Memos (mp : Int)).Seq)) (h : c.Seq < s) : doneF l c mp mf rp rf = (lE, [], ⟨12, 0⟩) := by
  unfold doneF; rw [if_neg h0, hs, if_pos h]
theorem doneF_state (hs : (if mf = true then (lget l.Memos (mp : Int)).Seq else 0) = s) (h0 : ¬ (mf = true ∧ c.Seq = (lget l.Memos (mp : Int)).Seq)) (h : ¬ c.Seq < s) (h2 : s + 1 < c.Seq) : doneF l c mp mf rp rf = (lE, [], ⟨11, 0⟩) := by
  unfold doneF; rw [if_neg h0, hs, if_neg h, if_pos h2]
theorem doneF_much (hs : (if mf = true then (lget l.Memos (mp : Int)).Seq else 0) = s) (h0 : ¬ (mf = true ∧ c.Seq = (lget l.Memos (mp : Int)).Seq)) (h : ¬ c.Seq < s) (h2 : ¬ s + 1 < c.Seq) (h3 : 1000 < (calledF l.Rows c rp rf).1.length ∨ 1000 < (withM l.Memos ⟨c.Client, c.Seq, (calledF l.Rows c rp rf).2⟩ mp mf).length) : doneF l c mp mf rp rf = (lE, [], ⟨9, 0⟩) := by
  unfold doneF; rw [if_neg h0, hs, if_neg h, if_neg h2, if_pos h3]
theorem doneF_done (hs : (if mf = true then (lget l.Memos (mp : Int)).Seq else 0) = s) (h0 : ¬ (mf = true ∧ c.Seq = (lget l.Memos (mp : Int)).Seq)) (h : ¬ c.Seq < s) (h2 : ¬ s + 1 < c.Seq) (h3 : ¬ (1000 < (calledF l.Rows c rp rf).1.length ∨ 1000 < (withM l.Memos ⟨c.Client, c.Seq, (calledF l.Rows c rp rf).2⟩ mp mf).length)) : doneF l c mp mf rp rf = (⟨(calledF l.Rows c rp rf).1, withM l.Memos ⟨c.Client, c.Seq, (calledF l.Rows c rp rf).2⟩ mp mf⟩, (calledF l.Rows c rp rf).2, ⟨0, 0⟩) := by
  unfold doneF; rw [if_neg h0, hs, if_neg h, if_neg h2, if_neg h3]
end
theorem do_eq {l : Ledger} (hr : RS l.Rows) (hm : MS l.Memos) {c : Call} (hc : callOk c) (h0 : (R_CallFault c) = ⟨0, 0⟩) {mp rp : Nat} {mf rf : Bool} (ma : MAt l.Memos c.Client mp mf) (ra : At l.Rows c.Row rp rf) :
    once_Do_v1 l c = some (doneF l c mp mf rp rf) := by
  have hl := hm.len
  have hle := ma.le
  have hsq := hc.1.2.2
  unfold numOk at hsq
  have hz := ledF_zero.2 ⟨hr, hm⟩
  unfold once_Do_v1
  rw [ocheck_eq, ob_some, ledF_fine hz, if_pos (d_t rfl), ocalled_eq, h0]
  dsimp only [lt]
  rw [ob_some, if_neg (by decide), mclone_eq _ (by omega), ob_some, msearch_eq (by omega) ma, ob_some, pclone_eq _ (by have := hr.len; omega), plain_eq hr c hc.1.1 ra]
  dsimp only
  have hpo : mf = true → mp < l.Memos.length := fun e => (ma.is.1 e).1
  cases hf : mf with
  | true =>
    have hp := hpo hf
    have hsn := (hm.num mp hp).2.1
    unfold numOk at hsn
    have hw : w64 ((lget l.Memos (mp : Int)).Seq + 1) = (lget l.Memos (mp : Int)).Seq + 1 := w64_id (by omega) (by omega)
    have hset : ∀ x : Memo, lset l.Memos (mp : Int) x = withM l.Memos x mp true := fun x => by
      unfold lset withM; rw [Int.toNat_natCast]; exact take_set _ _ _ hp
    rw [if_pos rfl, asrt_pos (by omega), asrt_pos (by omega), ob_some, Bool.true_and]
    have hs : (if true = true then (lget l.Memos (mp : Int)).Seq else 0) = (lget l.Memos (mp : Int)).Seq := if_pos rfl
    by_cases c1 : c.Seq = (lget l.Memos (mp : Int)).Seq
    · rw [doneF_same rfl c1, if_pos (d_t c1), ob_some, asrt_pos (by omega), asrt_pos (by omega)]
    · have h0 : ¬ (true = true ∧ c.Seq = (lget l.Memos (mp : Int)).Seq) := fun h => c1 h.2
      rw [if_neg (d_f c1), hw]
      by_cases c2 : c.Seq < (lget l.Memos (mp : Int)).Seq
      · rw [doneF_stale hs h0 c2, if_pos (d_t c2)]; rfl
      · rw [if_neg (d_f c2)]
        by_cases c3 : (lget l.Memos (mp : Int)).Seq + 1 < c.Seq
        · rw [doneF_state hs h0 c2 c3, if_pos (d_t c3)]; rfl
        · rw [if_neg (d_f c3), ob_some, if_pos rfl, asrt_pos (by omega), asrt_pos (by omega), ob_some, hset]
          by_cases c4 : 1000 < (calledF l.Rows c rp rf).1.length ∨ 1000 < (withM l.Memos ⟨c.Client, c.Seq, (calledF l.Rows c rp rf).2⟩ mp true).length
          · rw [doneF_much hs h0 c2 c3 c4, if_pos (or_t (by omega))]; rfl
          · rw [doneF_done hs h0 c2 c3 c4, if_neg (or_f (by omega))]
  | false =>
    have hw : w64 (0 + 1) = 0 + 1 := by decide
    have hs : (if false = true then (lget l.Memos (mp : Int)).Seq else 0) = 0 := if_neg (by decide)
    have h0 : ¬ (false = true ∧ c.Seq = (lget l.Memos (mp : Int)).Seq) := fun h => by cases h.1
    rw [if_neg (by decide), ob_some, Bool.false_and, if_neg (by decide), hw]
    have c2 : ¬ c.Seq < 0 := by omega
    rw [if_neg (d_f c2)]
    by_cases c3 : (0 : Int) + 1 < c.Seq
    · rw [doneF_state hs h0 c2 c3, if_pos (d_t c3)]; rfl
    · rw [if_neg (d_f c3), ob_some, if_neg (by decide)]
      unfold slices_Insert_api_Memo_api_Memo
      rw [asrt_pos (by omega), asrt_pos (by simp), asrt_pos (by simp; omega), ob_some, ob_some]
      have e : l.Memos.take (mp : Int).toNat ++ [(⟨c.Client, c.Seq, (calledF l.Rows c rp rf).2⟩ : Memo)] ++ l.Memos.drop (mp : Int).toNat = withM l.Memos ⟨c.Client, c.Seq, (calledF l.Rows c rp rf).2⟩ mp false := by
        unfold withM; rw [Int.toNat_natCast]; simp
      rw [e]
      by_cases c4 : 1000 < (calledF l.Rows c rp rf).1.length ∨ 1000 < (withM l.Memos ⟨c.Client, c.Seq, (calledF l.Rows c rp rf).2⟩ mp false).length
      · rw [doneF_much hs h0 c2 c3 c4, if_pos (or_t (by omega))]; rfl
      · rw [doneF_done hs h0 c2 c3 c4, if_neg (or_f (by omega))]
theorem do_bad1 {l : Ledger} (c : Call) (h : (ledF l).Code ≠ 0) : once_Do_v1 l c = some (lE, [], ledF l) := by
  unfold once_Do_v1
  rw [ocheck_eq, ob_some, if_neg (d_f h), ob_some, if_pos (n_t h)]; rfl
theorem do_bad2 {l : Ledger} {c : Call} (h : (ledF l).Code = 0) (h2 : (R_CallFault c).Code ≠ 0) : once_Do_v1 l c = some (lE, [], R_CallFault c) := by
  unfold once_Do_v1
  rw [ocheck_eq, ob_some, if_pos (d_t h), ocalled_eq]
  dsimp only [lt]
  rw [ob_some, if_pos (n_t h2)]; rfl
theorem prow_self (l : List Pair) (h : l.length ≤ 1000000) : R_SameRows l l = some true := by
  unfold R_SameRows
  rw [if_neg (by simp)]
  refine loop_run (step := fun y => R_SameRows_B1 l l y) l.length (fun k => (k : Int)) (fun k hk => ?_) ?_
  · have hw : w64 ((k : Int) + 1) = ((k + 1 : Nat) : Int) := by rw [w64_id (by omega) (by omega)]; omega
    show R_SameRows_B1 l l (k : Int) = _
    unfold R_SameRows_B1
    rw [if_pos (d_t (by omega)), asrt_pos (by omega), asrt_pos (by omega), if_neg (by simp), hw]
  · show R_SameRows_B1 l l (l.length : Int) = _
    unfold R_SameRows_B1
    rw [if_neg (d_f (by omega))]; rfl
theorem led_self (l : Ledger) (h1 : l.Rows.length ≤ 1000000) (h2 : l.Memos.length ≤ 1000000) : R_SameLedger l l = some true := by
  unfold R_SameLedger
  rw [prow_self _ h1, ob_some, if_neg (by simp)]
  refine loop_run (step := fun y => R_SameLedger_B1 l l y) l.Memos.length (fun k => (k : Int)) (fun k hk => ?_) ?_
  · have hw : w64 ((k : Int) + 1) = ((k + 1 : Nat) : Int) := by rw [w64_id (by omega) (by omega)]; omega
    show R_SameLedger_B1 l l (k : Int) = _
    unfold R_SameLedger_B1
    rw [if_pos (d_t (by omega)), asrt_pos (by omega), asrt_pos (by omega), if_neg (by simp), hw]
  · show R_SameLedger_B1 l l (l.Memos.length : Int) = _
    unfold R_SameLedger_B1
    rw [if_neg (d_f (by omega))]; rfl
/-- the document's example -/
def c5 : Call := ⟨5, 1, 1, [114], [97], []⟩
theorem c5_ok : callOk c5 := by
  refine ⟨⟨by decide, by decide, by decide⟩, ⟨by decide, by decide⟩, by decide, by decide⟩
theorem c5_zero : R_CallFault c5 = ⟨0, 0⟩ := by
  unfold R_CallFault R_One R_Num R_RowFine
  rfl
theorem begun1 : once_Do_v1 lE c5 = some (⟨[⟨[114], [97]⟩], [⟨5, 1, [111, 107]⟩]⟩, [111, 107], ⟨0, 0⟩) := by
  have hr : RS [] := ⟨by decide, fun k hk => by simp at hk, fun k hk => by simp at hk⟩
  have hm : MS [] := ⟨by decide, fun k hk => by simp at hk, fun k hk => by simp at hk⟩
  rw [do_eq (l := lE) hr hm c5_ok c5_zero (mp := 0) (mf := false) (rp := 0) (rf := false) ⟨by simp, fun k h => by omega, fun k _ h => by simp [lE] at h, by simp [lE]⟩ ⟨by simp, fun k h => by omega, fun k _ h => by simp [lE] at h, by simp [lE], fun k _ h => by simp [lE] at h⟩]
  decide
theorem begun2 : once_Do_v1 ⟨[⟨[114], [97]⟩], [⟨5, 1, [111, 107]⟩]⟩ c5 = some (⟨[⟨[114], [97]⟩], [⟨5, 1, [111, 107]⟩]⟩, [111, 107], ⟨0, 0⟩) := by
  have one : ∀ k : Nat, k < 1 → k = 0 := fun k h => by omega
  have hr : RS [⟨[114], [97]⟩] := ⟨by decide, fun k hk => by rw [one k hk]; exact ⟨⟨by decide, by decide⟩, by decide⟩, fun k hk => by simp at hk⟩
  have hm : MS [⟨5, 1, [111, 107]⟩] := ⟨by decide, fun k hk => by rw [one k hk]; exact ⟨by decide, by decide, by decide⟩, fun k hk => by simp at hk⟩
  rw [do_eq (l := ⟨[⟨[114], [97]⟩], [⟨5, 1, [111, 107]⟩]⟩) hr hm c5_ok c5_zero (mp := 0) (mf := true) (rp := 0) (rf := true)
    ⟨by simp, fun k h => by omega, fun k _ h => by rw [one k h]; decide, by decide⟩ ⟨by simp, fun k h => by omega, fun k _ h => by rw [one k h]; decide, by decide, fun k h1 h2 => by
      have := one k h2; subst this; simp at h1⟩]
  decide
theorem onceBegun_eq : law_onceBegun = some true := by
  unfold law_onceBegun law_putCall
  dsimp only [lt]
  have b1 := begun1
  unfold lE c5 at b1
  have b2 := begun2
  unfold c5 at b2
  rw [b1, ob_some]
  dsimp only
  rw [b2, ob_some]
  dsimp only
  rw [if_pos (by decide), led_self _ (by decide) (by decide), ob_some, if_pos (by decide), prow_self _ (by decide), ob_some]
  rfl
end G
end Go.Proofs.Ytipeimcdjijkgaa
