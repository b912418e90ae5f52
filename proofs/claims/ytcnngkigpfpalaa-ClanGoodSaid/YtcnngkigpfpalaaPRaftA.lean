/- Nodes: what Check says, both ways. -/
import Derived.Test.YtcnngkigpfpalaaPEntryN
namespace Go.Proofs.Ytcnngkigpfpalaa
open Go Go.Dm
set_option linter.unusedVariables false
set_option linter.unusedSimpArgs false
namespace G
def inW (lo hi v : Int) : Bool := decide (lo ≤ v) && decide (v ≤ hi)
theorem within_eq (v lo hi : Int) : raft_within v lo hi = inW lo hi v := rfl
theorem inW_iff {lo hi v : Int} : inW lo hi v = true ↔ lo ≤ v ∧ v ≤ hi := by simp [inW]
def voteB (x : Node) : Bool := decide ((∀ v ∈ x.Votes, inW 0 (x.N - 1) v = true) ∧ x.Votes.Nodup)
/-- is what hangs on its role as it must be? -/
def formB (x : Node) : Bool :=
  (if x.Role = 1 then voteB x && decide (x.ID ∈ x.Votes) && !decide (x.N < 2 * (x.Votes.length : Int)) else decide (x.Votes.length = 0)) &&
  (if x.Role = 2 then decide ((x.Next.length : Int) = x.N) && decide ((x.Have.length : Int) = x.N) && x.Next.all (inW 1 ((x.Log.length : Int) + 1)) && x.Have.all (inW 0 (x.Log.length : Int)) else decide (x.Next.length = 0) && decide (x.Have.length = 0))
def nodeF (x : Node) : Fault :=
  if ¬ ((1 ≤ x.N ∧ x.N ≤ 7) ∧ 0 ≤ x.ID ∧ x.ID < x.N) then ⟨3, -1⟩
  else if ¬ ((0 ≤ x.Term ∧ x.Term ≤ 1000000000) ∧ (0 ≤ x.Vote ∧ x.Vote ≤ x.N) ∧ (0 ≤ x.Role ∧ x.Role ≤ 2) ∧ 0 ≤ x.Commit ∧ x.Commit ≤ (x.Log.length : Int)) then ⟨3, -2⟩
  else if ¬ (fof x.Log).Code = 0 then fof x.Log
  else if x.Term < tat x.Log (x.Log.length : Int) then ⟨11, -3⟩
  else if formB x = true then ⟨0, 0⟩ else ⟨5, -3⟩
/- the program's -/
def ending (b : Bool) : Option Fault := some (if b = true then ⟨0, 0⟩ else ⟨5, -3⟩)
theorem cJ2_eq (b : Bool) : raft_Check_J2 b = ending b := by cases b <;> rfl
theorem cL1_eq (x : Node) (hh : x.Have.length ≤ 1000) (b : Bool) : raft_Check_L1 x (b, 0) = ending (b && x.Have.all (inW 0 (x.Log.length : Int))) := by
  have := loop_run (step := fun y => raft_Check_B1 x y) x.Have.length (fun k => (b && (x.Have.take k).all (inW 0 (x.Log.length : Int)), (k : Int)))
    (fun k hk => by
      have hw : w64 ((k : Int) + 1) = ((k + 1 : Nat) : Int) := by rw [w64_id (by omega) (by omega)]; omega
      simp only [raft_Check_B1]
      rw [if_pos (d_t (by omega)), asrt_pos (by omega), take_all _ _ _ hk, within_eq, hw]
      dsimp only [lt]
      rw [Bool.and_assoc])
    (r := if (b && x.Have.all (inW 0 (x.Log.length : Int))) = true then ⟨0, 0⟩ else ⟨5, -3⟩)
    (by
      simp only [raft_Check_B1]
      rw [if_neg (d_f (by omega)), List.take_length]
      simp only [raft_Check_J4, cJ2_eq, ending, inrO])
  simpa [raft_Check_L1, ending] using this
theorem cL2_eq (x : Node) (hn : x.Next.length ≤ 1000) (hh : x.Have.length ≤ 1000) (hl : x.Log.length ≤ 1000) (b : Bool) : raft_Check_L2 x (b, 0) = ending (b && x.Next.all (inW 1 ((x.Log.length : Int) + 1)) && x.Have.all (inW 0 (x.Log.length : Int))) := by
  have hwl : w64 ((x.Log.length : Int) + 1) = (x.Log.length : Int) + 1 := w64_id (by omega) (by omega)
  have := loop_run (step := fun y => raft_Check_B2 x y) x.Next.length (fun k => (b && (x.Next.take k).all (inW 1 ((x.Log.length : Int) + 1)), (k : Int)))
    (fun k hk => by
      have hw : w64 ((k : Int) + 1) = ((k + 1 : Nat) : Int) := by rw [w64_id (by omega) (by omega)]; omega
      simp only [raft_Check_B2]
      rw [if_pos (d_t (by omega)), asrt_pos (by omega), take_all _ _ _ hk, within_eq, hw, hwl]
      dsimp only [lt]
      rw [Bool.and_assoc])
    (r := if (b && x.Next.all (inW 1 ((x.Log.length : Int) + 1)) && x.Have.all (inW 0 (x.Log.length : Int))) = true then ⟨0, 0⟩ else ⟨5, -3⟩)
    (by
      simp only [raft_Check_B2]
      rw [if_neg (d_f (by omega)), List.take_length]
      simp only [raft_Check_J3, cL1_eq x hh, ending, inrO])
  simpa [raft_Check_L2, ending] using this
theorem cJ1_eq (x : Node) (hn : x.Next.length ≤ 1000) (hh : x.Have.length ≤ 1000) (hl : x.Log.length ≤ 1000) (b : Bool) : raft_Check_J1 x b = ending (b &&
    (if x.Role = 2 then decide ((x.Next.length : Int) = x.N) && decide ((x.Have.length : Int) = x.N) && x.Next.all (inW 1 ((x.Log.length : Int) + 1)) && x.Have.all (inW 0 (x.Log.length : Int)) else decide (x.Next.length = 0) && decide (x.Have.length = 0))) := by
  unfold raft_Check_J1
  by_cases c : x.Role = 2
  · rw [if_pos (d_t c), if_pos c]
    dsimp only [lt]
    rw [cL2_eq x hn hh hl]
    simp only [Bool.and_assoc]
  · have e1 : ((x.Next.length : Int) = 0) ↔ x.Next.length = 0 := by omega
    have e2 : ((x.Have.length : Int) = 0) ↔ x.Have.length = 0 := by omega
    rw [if_neg (d_f c), if_neg c]
    dsimp only [lt]
    rw [cJ2_eq]
    simp only [Bool.and_assoc, e1, e2]
def voteN (n : Int) (l : List Int) : Bool := decide ((∀ v ∈ l, inW 0 (n - 1) v = true) ∧ l.Nodup)
theorem voteN_snoc (n : Int) (l : List Int) (v : Int) : voteN n (l ++ [v]) = (voteN n l && inW 0 (n - 1) v && decide (v ∉ l)) := by
  have e : ((∀ w ∈ l ++ [v], inW 0 (n - 1) w = true) ∧ (l ++ [v]).Nodup) ↔ (((∀ w ∈ l, inW 0 (n - 1) w = true) ∧ l.Nodup) ∧ inW 0 (n - 1) v = true) ∧ v ∉ l := by
    rw [nodup_snoc]
    constructor
    · rintro ⟨h1, h2, h3⟩
      exact ⟨⟨⟨fun w hw => h1 w (by simp [hw]), h2⟩, h1 v (by simp)⟩, h3⟩
    · rintro ⟨⟨⟨h1, h2⟩, h3⟩, h4⟩
      refine ⟨fun w hw => ?_, h2, h4⟩
      rw [List.mem_append, List.mem_singleton] at hw
      rcases hw with hw | rfl
      · exact h1 w hw
      · exact h3
  unfold voteN
  simp only [e, Bool.decide_and, Bool.decide_eq_true]
theorem cL3_eq (x : Node) (h1 : 1 ≤ x.N) (h7 : x.N ≤ 7) (hv : x.Votes.length ≤ 1000) (hn : x.Next.length ≤ 1000) (hh : x.Have.length ≤ 1000) (hl : x.Log.length ≤ 1000) : raft_Check_L3 x (true, [], 0) = raft_Check_J5 x (voteB x, seenM x.Votes) := by
  have hwN : w64 (x.N - 1) = x.N - 1 := w64_id (by omega) (by omega)
  obtain ⟨r, hr⟩ : ∃ r, raft_Check_J5 x (voteB x, seenM x.Votes) = some r := by
    unfold raft_Check_J5
    dsimp only [lt]
    rw [cJ1_eq x hn hh hl]
    exact ⟨_, rfl⟩
  rw [hr]
  have := loop_run (step := fun y => raft_Check_B3 x y) x.Votes.length (fun k => (voteN x.N (x.Votes.take k), seenM (x.Votes.take k), (k : Int)))
    (fun k hk => by
      have hw : w64 ((k : Int) + 1) = ((k + 1 : Nat) : Int) := by rw [w64_id (by omega) (by omega)]; omega
      have hz : decide ((if lget x.Votes (k : Int) ∈ x.Votes.take k then (1 : Int) else 0) = 0) = decide (lget x.Votes (k : Int) ∉ x.Votes.take k) := by
        by_cases c : lget x.Votes (k : Int) ∈ x.Votes.take k <;> simp [c]
      simp only [raft_Check_B3]
      rw [if_pos (d_t (by omega)), asrt_pos (by omega)]
      dsimp only [lt]
      rw [within_eq, hw, hwN, lget_take _ _ hk, voteN_snoc, seenM_snoc, seenM_get, hz])
    (r := r)
    (by
      simp only [raft_Check_B3]
      rw [if_neg (d_f (by omega)), List.take_length]
      have : voteN x.N x.Votes = voteB x := rfl
      rw [this, hr]; rfl)
  simpa [raft_Check_L3, voteN, seenM] using this
theorem ncheck_eq (x : Node) (hv : x.Votes.length ≤ 1000) (hn : x.Next.length ≤ 1000) (hh : x.Have.length ≤ 1000) (hl : x.Log.length ≤ 1000) : raft_Check x = some (nodeF x) := by
  unfold raft_Check nodeF
  dsimp only [lt]
  by_cases c1 : (1 ≤ x.N ∧ x.N ≤ 7) ∧ 0 ≤ x.ID ∧ x.ID < x.N
  · have hwN : w64 (x.N - 1) = x.N - 1 := w64_id (by omega) (by omega)
    have e1 : raft_within x.N 1 7 = true := inW_iff.2 c1.1
    have e2 : raft_within x.ID 0 (w64 (x.N - 1)) = true := by rw [hwN]; exact inW_iff.2 ⟨c1.2.1, by omega⟩
    rw [e1, e2, if_neg (by decide), if_neg (not_not_intro c1)]
    by_cases c2 : (0 ≤ x.Term ∧ x.Term ≤ 1000000000) ∧ (0 ≤ x.Vote ∧ x.Vote ≤ x.N) ∧ (0 ≤ x.Role ∧ x.Role ≤ 2) ∧ 0 ≤ x.Commit ∧ x.Commit ≤ (x.Log.length : Int)
    · have f1 : raft_within x.Term 0 1000000000 = true := inW_iff.2 c2.1
      have f2 : raft_within x.Vote 0 x.N = true := inW_iff.2 c2.2.1
      have f3 : raft_within x.Role 0 2 = true := inW_iff.2 c2.2.2.1
      have f4 : raft_within x.Commit 0 (x.Log.length : Int) = true := inW_iff.2 c2.2.2.2
      rw [f1, f2, f3, f4, if_neg (by decide), if_neg (not_not_intro c2), echeck_eq, ob_some]
      by_cases c3 : (fof x.Log).Code = 0
      · rw [if_neg (n_f c3), if_neg (not_not_intro c3), tat_eq _ (by omega), ob_some]
        by_cases c4 : x.Term < tat x.Log (x.Log.length : Int)
        · rw [if_pos (d_t c4), if_pos c4]; rfl
        · rw [if_neg (d_f c4), if_neg c4]
          by_cases c5 : x.Role = 1
          · rw [if_pos (d_t c5), cL3_eq x c1.1.1 c1.1.2 hv hn hh hl]
            have hm : raft_most (x.Votes.length : Int) x.N = decide (x.N < 2 * (x.Votes.length : Int)) := by
              unfold raft_most; rw [w64_id (by omega) (by omega)]
            have hz : decide ((if x.ID ∈ x.Votes then (1 : Int) else 0) = 1) = decide (x.ID ∈ x.Votes) := by
              by_cases c : x.ID ∈ x.Votes <;> simp [c]
            unfold raft_Check_J5
            dsimp only [lt]
            rw [cJ1_eq x hn hh hl, hm, seenM_get, hz]
            unfold ending formB
            rw [if_pos c5]
          · have e0 : ((x.Votes.length : Int) = 0) ↔ x.Votes.length = 0 := by omega
            rw [if_neg (d_f c5), cJ1_eq x hn hh hl]
            unfold ending formB
            rw [if_neg c5]
            simp only [e0]
      · rw [if_pos (n_t c3), if_pos c3]
    · have : ((((!raft_within x.Term 0 1000000000) || (!raft_within x.Vote 0 x.N)) || (!raft_within x.Role 0 2)) || (!raft_within x.Commit 0 (x.Log.length : Int))) = true := by
        unfold raft_within
        simp
        omega
      rw [if_pos this, if_pos c2]; rfl
  · have : ((!raft_within x.N 1 7) || (!raft_within x.ID 0 (w64 (x.N - 1)))) = true := by
      by_cases cN : 1 ≤ x.N ∧ x.N ≤ 7
      · have hwN : w64 (x.N - 1) = x.N - 1 := w64_id (by omega) (by omega)
        rw [hwN]; unfold raft_within; simp; omega
      · unfold raft_within; simp; omega
    rw [if_pos this, if_pos c1]; rfl
/- the document's -/
theorem has_eq (l : List Int) (hl : l.length ≤ 1000000) (v : Int) : R_Has l v = some (decide (v ∈ l)) := by
  rcases loop_any (step := fun y => R_Has_B1 l v y) l.length (fun k => (k : Int)) (fun k => lget l (k : Int) = v) (rb := true) (r := false)
    (fun k hk hb => by
      have hw : w64 ((k : Int) + 1) = ((k + 1 : Nat) : Int) := by rw [w64_id (by omega) (by omega)]; omega
      simp only [R_Has_B1]
      rw [if_pos (d_t (by omega)), asrt_pos (by omega), if_neg (d_f hb), hw])
    (fun k hk hb => by
      simp only [R_Has_B1]
      rw [if_pos (d_t (by omega)), asrt_pos (by omega), if_pos (d_t hb)])
    (by
      simp only [R_Has_B1]
      rw [if_neg (d_f (by omega))]; rfl) with ⟨h1, h2⟩ | ⟨h1, h2⟩
  · have : v ∈ l := mem_lget.2 h1
    rw [decide_eq_true this]; exact h2
  · have : ¬ v ∈ l := fun h => by obtain ⟨k, hk, e⟩ := mem_lget.1 h; exact h1 k hk e
    rw [decide_eq_false this]; exact h2
theorem fL1_eq (x : Node) (h1 : 1 ≤ x.N) (h7 : x.N ≤ 7) (hl : x.Log.length ≤ 1000) (hn : (x.Next.length : Int) = x.N) (hh : (x.Have.length : Int) = x.N) : R_NodeFault_L1 x ⟨5, -3⟩ 0 = ending (x.Next.all (inW 1 ((x.Log.length : Int) + 1)) && x.Have.all (inW 0 (x.Log.length : Int))) := by
  have hwl : w64 ((x.Log.length : Int) + 1) = (x.Log.length : Int) + 1 := w64_id (by omega) (by omega)
  have hc : ∀ k : Nat, ((((decide ((lget x.Next (k : Int)) < 1)) || (decide ((w64 ((x.Log.length : Int) + 1)) < (lget x.Next (k : Int))))) || (decide ((lget x.Have (k : Int)) < 0))) || (decide ((x.Log.length : Int) < (lget x.Have (k : Int))))) = true ↔ ¬ (inW 1 ((x.Log.length : Int) + 1) (lget x.Next (k : Int)) = true ∧ inW 0 (x.Log.length : Int) (lget x.Have (k : Int)) = true) := by
    intro k; rw [hwl]; unfold inW; simp; omega
  rcases loop_any (step := fun y => R_NodeFault_B1 x ⟨5, -3⟩ y) x.Next.length (fun k => (k : Int)) (fun k => ¬ (inW 1 ((x.Log.length : Int) + 1) (lget x.Next (k : Int)) = true ∧ inW 0 (x.Log.length : Int) (lget x.Have (k : Int)) = true)) (rb := ⟨5, -3⟩) (r := ⟨0, 0⟩)
    (fun k hk hb => by
      have hw : w64 ((k : Int) + 1) = ((k + 1 : Nat) : Int) := by rw [w64_id (by omega) (by omega)]; omega
      simp only [R_NodeFault_B1]
      rw [if_pos (d_t (by omega)), asrt_pos (by omega), asrt_pos (fun _ => by omega), asrt_pos (fun _ => by omega), asrt_pos (fun _ => by omega), if_neg (fun h => hb ((hc k).1 h)), hw])
    (fun k hk hb => by
      simp only [R_NodeFault_B1]
      rw [if_pos (d_t (by omega)), asrt_pos (by omega), asrt_pos (fun _ => by omega), asrt_pos (fun _ => by omega), asrt_pos (fun _ => by omega), if_pos ((hc k).2 hb)])
    (by
      simp only [R_NodeFault_B1]
      rw [if_neg (d_f (by omega))]; rfl) with ⟨⟨k, hk, hb⟩, h2⟩ | ⟨g1, h2⟩
  · have : (x.Next.all (inW 1 ((x.Log.length : Int) + 1)) && x.Have.all (inW 0 (x.Log.length : Int))) = false := by
      rw [Bool.eq_false_iff]
      intro h
      rw [Bool.and_eq_true, List.all_eq_true, List.all_eq_true] at h
      exact hb ⟨h.1 _ (lget_mem x.Next (k : Int) (by omega)), h.2 _ (lget_mem x.Have (k : Int) (by omega))⟩
    rw [this]; exact h2
  · have : (x.Next.all (inW 1 ((x.Log.length : Int) + 1)) && x.Have.all (inW 0 (x.Log.length : Int))) = true := by
      rw [Bool.and_eq_true, List.all_eq_true, List.all_eq_true, all_lget, all_lget]
      have g2 : ∀ k : Nat, k < x.Next.length → inW 1 ((x.Log.length : Int) + 1) (lget x.Next (k : Int)) = true ∧ inW 0 (x.Log.length : Int) (lget x.Have (k : Int)) = true := fun k hk => Decidable.not_not.1 (g1 k hk)
      exact ⟨fun k hk => (g2 k hk).1, fun k hk => (g2 k (by omega)).2⟩
    rw [this]; exact h2
theorem fJ1_eq (x : Node) (h1 : 1 ≤ x.N) (h7 : x.N ≤ 7) (hl : x.Log.length ≤ 1000) (hz : x.Role ≠ 2 → x.Next.length = 0 ∧ x.Have.length = 0) : R_NodeFault_J1 x ⟨5, -3⟩ () = ending
    (if x.Role = 2 then decide ((x.Next.length : Int) = x.N) && decide ((x.Have.length : Int) = x.N) && x.Next.all (inW 1 ((x.Log.length : Int) + 1)) && x.Have.all (inW 0 (x.Log.length : Int)) else decide (x.Next.length = 0) && decide (x.Have.length = 0)) := by
  unfold R_NodeFault_J1
  by_cases c : x.Role = 2
  · rw [if_pos (d_t c), if_pos c]
    by_cases c1 : (x.Next.length : Int) = x.N ∧ (x.Have.length : Int) = x.N
    · rw [if_neg (by simp [c1.1, c1.2]), fL1_eq x h1 h7 hl c1.1 c1.2, decide_eq_true c1.1, decide_eq_true c1.2]; rfl
    · have e : (decide ((x.Next.length : Int) = x.N) && decide ((x.Have.length : Int) = x.N)) = false := by rw [Bool.eq_false_iff]; simpa using c1
      have e2 : ((!decide ((x.Next.length : Int) = x.N)) || (!decide ((x.Have.length : Int) = x.N))) = true := by rw [← Bool.not_and, e]; rfl
      rw [if_pos e2, e]; rfl
  · rw [if_neg (d_f c), if_neg c, decide_eq_true (hz c).1, decide_eq_true (hz c).2]; rfl
theorem fL2_eq (x : Node) (h1 : 1 ≤ x.N) (h7 : x.N ≤ 7) (hl : x.Log.length ≤ 1000) (hv : x.Votes.length ≤ 1000) (hr : x.Role = 1) (hz : x.Next.length = 0 ∧ x.Have.length = 0) : R_NodeFault_L2 x ⟨5, -3⟩ 0 = ending (voteB x) := by
  have hJ : R_NodeFault_J4 x ⟨5, -3⟩ () = some ⟨0, 0⟩ := by
    unfold R_NodeFault_J4
    rw [fJ1_eq x h1 h7 hl (fun _ => hz), if_neg (by omega), decide_eq_true hz.1, decide_eq_true hz.2]; rfl
  have hh : ∀ k : Nat, k < x.Votes.length → ob (if (!((decide ((lget x.Votes (k : Int)) < 0)) || (decide (x.N ≤ (lget x.Votes (k : Int)))))) = true then (R_Has (ltake x.Votes (k : Int)) (lget x.Votes (k : Int))) else some default) (fun x10 => some (((decide ((lget x.Votes (k : Int)) < 0)) || (decide (x.N ≤ (lget x.Votes (k : Int))))) || x10)) = some (!(inW 0 (x.N - 1) (lget x.Votes (k : Int)) && decide (lget x.Votes (k : Int) ∉ x.Votes.take k))) := by
    intro k hk
    by_cases c : lget x.Votes (k : Int) < 0 ∨ x.N ≤ lget x.Votes (k : Int)
    · have e : inW 0 (x.N - 1) (lget x.Votes (k : Int)) = false := by unfold inW; simp; omega
      rw [or_t c, if_neg (by decide), ob_some, e]; rfl
    · have e : inW 0 (x.N - 1) (lget x.Votes (k : Int)) = true := inW_iff.2 (by omega)
      rw [or_b c, if_pos (by decide), ltake_nat, has_eq _ (by simp; omega), ob_some, e]
      by_cases c2 : lget x.Votes (k : Int) ∈ x.Votes.take k <;> simp [c2]
  have key : ∀ k : Nat, k < x.Votes.length → R_NodeFault_B2 x ⟨5, -3⟩ (k : Int) = if (!(inW 0 (x.N - 1) (lget x.Votes (k : Int)) && decide (lget x.Votes (k : Int) ∉ x.Votes.take k))) = true then some (.inr ⟨5, -3⟩) else some (.inl ((k + 1 : Nat) : Int)) := by
    intro k hk
    have hw : w64 ((k : Int) + 1) = ((k + 1 : Nat) : Int) := by rw [w64_id (by omega) (by omega)]; omega
    have h3 := hh k hk
    simp only [R_NodeFault_B2]
    rw [if_pos (d_t (by omega)), asrt_pos (by omega), asrt_pos (fun _ => by omega), asrt_pos (fun _ => by omega), asrt_pos (fun _ => by omega), hw]
    generalize (if (!((decide ((lget x.Votes (k : Int)) < 0)) || (decide (x.N ≤ (lget x.Votes (k : Int)))))) = true then (R_Has (ltake x.Votes (k : Int)) (lget x.Votes (k : Int))) else some default) = o at h3 ⊢
    cases o with
    | none => cases h3
    | some b =>
      rw [ob_some] at h3
      rw [ob_some, ← Option.some.inj h3]
  rcases loop_any (step := fun y => R_NodeFault_B2 x ⟨5, -3⟩ y) x.Votes.length (fun k => (k : Int)) (fun k => (!(inW 0 (x.N - 1) (lget x.Votes (k : Int)) && decide (lget x.Votes (k : Int) ∉ x.Votes.take k))) = true) (rb := ⟨5, -3⟩) (r := ⟨0, 0⟩)
    (fun k hk hb => (key k hk).trans (if_neg hb)) (fun k hk hb => (key k hk).trans (if_pos hb))
    (by
      simp only [R_NodeFault_B2]
      rw [if_neg (d_f (by omega)), hJ]; rfl) with ⟨⟨k, hk, hb⟩, h2⟩ | ⟨g1, h2⟩
  · have : voteB x = false := by
      unfold voteB
      rw [decide_eq_false_iff_not]
      rintro ⟨g1, g2⟩
      have e1 := g1 _ (lget_mem x.Votes (k : Int) (by omega))
      have e2 := nodup_lget.1 g2 k hk
      simp [e1, e2] at hb
    rw [this]; exact h2
  · have g2 : ∀ k : Nat, k < x.Votes.length → inW 0 (x.N - 1) (lget x.Votes (k : Int)) = true ∧ lget x.Votes (k : Int) ∉ x.Votes.take k := fun k hk => by have := g1 k hk; simpa using this
    have : voteB x = true := by
      unfold voteB
      rw [decide_eq_true_eq]
      exact ⟨all_lget.2 fun k hk => (g2 k hk).1, nodup_lget.2 fun k hk => (g2 k hk).2⟩
    rw [this]; exact h2
theorem maj_eq (k : Nat) (n : Int) (h1 : 1 ≤ n) (h7 : n ≤ 7) : R_Majority (k : Int) n = decide (n < 2 * (k : Int)) := by
  obtain ⟨m, rfl⟩ : ∃ m : Nat, n = (m : Int) := ⟨n.toNat, by omega⟩
  have e : Int.tdiv (m : Int) 2 = ((m / 2 : Nat) : Int) := rfl
  unfold R_Majority
  rw [e, w64_id (by omega) (by omega)]
  have : (((m / 2 : Nat) : Int) < (k : Int)) ↔ ((m : Int) < 2 * (k : Int)) := by omega
  simp only [this]
theorem rnode_eq (x : Node) (hv : x.Votes.length ≤ 1000) (hl : x.Log.length ≤ 1000) : R_NodeFault x = some (nodeF x) := by
  unfold R_NodeFault nodeF
  by_cases c1 : (1 ≤ x.N ∧ x.N ≤ 7) ∧ 0 ≤ x.ID ∧ x.ID < x.N
  · have e1 : ((((decide (x.N < 1)) || (decide (7 < x.N))) || (decide (x.ID < 0))) || (decide (x.N ≤ x.ID))) = false := by simp; omega
    rw [e1, if_neg (by decide), if_neg (not_not_intro c1)]
    dsimp only [lt]
    by_cases c2 : (0 ≤ x.Term ∧ x.Term ≤ 1000000000) ∧ (0 ≤ x.Vote ∧ x.Vote ≤ x.N) ∧ (0 ≤ x.Role ∧ x.Role ≤ 2) ∧ 0 ≤ x.Commit ∧ x.Commit ≤ (x.Log.length : Int)
    · have e2 : (((((((!R_Num x.Term) || (decide (x.Vote < 0))) || (decide (x.N < x.Vote))) || (decide (x.Role < 0))) || (decide (2 < x.Role))) || (decide (x.Commit < 0))) || (decide ((x.Log.length : Int) < x.Commit))) = false := by
        unfold R_Num; simp; omega
      rw [e2, if_neg (by decide), if_neg (not_not_intro c2), rlog_eq, ob_some]
      by_cases c3 : (fof x.Log).Code = 0
      · rw [if_neg (n_f c3), if_neg (not_not_intro c3), last_eq _ (by omega), ob_some]
        by_cases c4 : x.Term < tat x.Log (x.Log.length : Int)
        · rw [if_pos (d_t c4), if_pos c4]; rfl
        · rw [if_neg (d_f c4), if_neg c4]
          have e5 : R_F 5 (-3) = ⟨5, -3⟩ := rfl
          rw [e5]
          by_cases c5 : (x.Role ≠ 1 ∧ 0 < x.Votes.length) ∨ (x.Role ≠ 2 ∧ (0 < x.Next.length ∨ 0 < x.Have.length))
          · have e6 : (((!decide (x.Role = 1)) && (decide (0 < (x.Votes.length : Int)))) || ((!decide (x.Role = 2)) && ((decide (0 < (x.Next.length : Int))) || (decide (0 < (x.Have.length : Int)))))) = true := by simpa using c5
            have e7 : formB x = false := by
              unfold formB
              rcases c5 with ⟨g1, g2⟩ | ⟨g1, g2⟩
              · have : decide (x.Votes.length = 0) = false := decide_eq_false (by omega)
                rw [if_neg g1, this]; rfl
              · have : (decide (x.Next.length = 0) && decide (x.Have.length = 0)) = false := by
                  rw [Bool.eq_false_iff]
                  intro h
                  simp only [Bool.and_eq_true, decide_eq_true_eq] at h
                  omega
                rw [if_neg g1, this, Bool.and_false]
            rw [if_pos e6, e7]; rfl
          · have e6 : (((!decide (x.Role = 1)) && (decide (0 < (x.Votes.length : Int)))) || ((!decide (x.Role = 2)) && ((decide (0 < (x.Next.length : Int))) || (decide (0 < (x.Have.length : Int)))))) = false := by rw [Bool.eq_false_iff]; simpa using c5
            rw [e6, if_neg (by decide)]
            have hz : x.Role ≠ 2 → x.Next.length = 0 ∧ x.Have.length = 0 := fun h => by
              have := fun h2 => c5 (.inr ⟨h, h2⟩)
              omega
            unfold formB
            by_cases c6 : x.Role = 1
            · have hz' := hz (by omega)
              rw [if_pos (d_t c6), if_pos c6, if_neg (show ¬ x.Role = 2 by omega), has_eq _ (by omega), ob_some, maj_eq _ _ c1.1.1 c1.1.2, decide_eq_true hz'.1, decide_eq_true hz'.2]
              by_cases c7 : x.ID ∈ x.Votes ∧ ¬ x.N < 2 * (x.Votes.length : Int)
              · rw [decide_eq_true c7.1, decide_eq_false c7.2, if_neg (by decide), fL2_eq x c1.1.1 c1.1.2 hl hv c6 hz']
                simp [ending]
              · have e8 : ((!decide (x.ID ∈ x.Votes)) || decide (x.N < 2 * (x.Votes.length : Int))) = true := by
                  by_cases g : x.ID ∈ x.Votes
                  · have : x.N < 2 * (x.Votes.length : Int) := Decidable.not_not.1 fun h => c7 ⟨g, h⟩
                    simp [this]
                  · simp [g]
                have e9 : (decide (x.ID ∈ x.Votes) && !decide (x.N < 2 * (x.Votes.length : Int))) = false := by
                  have := congrArg Bool.not e8
                  simpa using this
                have e10 : (voteB x && decide (x.ID ∈ x.Votes) && !decide (x.N < 2 * (x.Votes.length : Int))) = false := by rw [Bool.and_assoc, e9, Bool.and_false]
                rw [if_pos e8, e10]; rfl
            · have hv0 : x.Votes.length = 0 := by
                have := fun h2 => c5 (.inl ⟨c6, h2⟩)
                omega
              rw [if_neg (d_f c6), if_neg c6, fJ1_eq x c1.1.1 c1.1.2 hl hz, decide_eq_true hv0, Bool.true_and]; rfl
      · rw [if_pos (n_t c3), if_pos c3]
    · have e2 : (((((((!R_Num x.Term) || (decide (x.Vote < 0))) || (decide (x.N < x.Vote))) || (decide (x.Role < 0))) || (decide (2 < x.Role))) || (decide (x.Commit < 0))) || (decide ((x.Log.length : Int) < x.Commit))) = true := by
        unfold R_Num; simp; omega
      rw [if_pos e2, if_pos c2]; rfl
  · have e1 : ((((decide (x.N < 1)) || (decide (7 < x.N))) || (decide (x.ID < 0))) || (decide (x.N ≤ x.ID))) = true := by simp; omega
    rw [if_pos e1, if_pos c1]; rfl
end G
end Go.Proofs.Ytcnngkigpfpalaa
