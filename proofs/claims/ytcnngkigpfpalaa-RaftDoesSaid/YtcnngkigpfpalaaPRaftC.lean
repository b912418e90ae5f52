/- Nodes: Stand, Propose, Beat and Restart, both ways; what is the same. -/
import Derived.Test.YtcnngkigpfpalaaPRaftB
namespace Go.Proofs.Ytcnngkigpfpalaa
open Go Go.Dm
set_option linter.unusedVariables false
set_option linter.unusedSimpArgs false
namespace G
def nE : Node := ⟨0, 0, 0, 0, [], 0, 0, [], [], []⟩
structure Small (x : Node) : Prop where
  l : x.Log.length ≤ 1000
  v : x.Votes.length ≤ 1000
  n : x.Next.length ≤ 1000
  h : x.Have.length ≤ 1000
theorem Small.check {x : Node} (h : Small x) : raft_Check x = some (nodeF x) := ncheck_eq x h.v h.n h.h h.l
theorem Small.rcheck {x : Node} (h : Small x) : R_NodeFault x = some (nodeF x) := rnode_eq x h.v h.l
theorem own_eq {x : Node} (h : Small x) : raft_own x = some (x.N, x.ID, x.Term, x.Vote, x.Log, x.Role, x.Commit, x.Votes, x.Next, x.Have) := by
  have h1 := h.l
  have h2 := h.v
  have h3 := h.n
  have h4 := h.h
  unfold raft_own
  rw [eclone_eq _ (by omega), ob_some, iclone_eq _ (by omega), ob_some, iclone_eq _ (by omega), ob_some, iclone_eq _ (by omega), ob_some]
theorem follower_eq {x : Node} (h : Small x) : R_Follower x = some (x.N, x.ID, x.Term, x.Vote, x.Log, 0, x.Commit) := by
  have h1 := h.l
  unfold R_Follower
  rw [copyLog_eq _ (by omega), ob_some]
def stX (x : Node) : Node := ⟨x.N, x.ID, x.Term + 1, x.ID + 1, x.Log, 1, x.Commit, [x.ID], [], []⟩
def standS (x : Node) : Node × List Mail × Fault :=
  if ¬ (nodeF x).Code = 0 then (nE, [], nodeF x)
  else if x.Role = 2 then (nE, [], ⟨11, 0⟩)
  else if x.Term = 1000000000 then (nE, [], ⟨9, 0⟩)
  else (if x.N = 1 then leaderN (stX x) else stX x, mls x.ID (askM x.ID (x.Term + 1) x.Log) x.N.toNat, ⟨0, 0⟩)
theorem stand_eq {x : Node} (h : Small x) : raft_Stand_v1 x = some (standS x) := by
  unfold raft_Stand_v1 standS
  rw [h.check, ob_some]
  by_cases c0 : (nodeF x).Code = 0
  · have hg := nodeF_good.1 c0
    have hl := hg.len
    rw [if_neg (n_f c0), if_neg (not_not_intro c0), nodeF_zero hg]
    by_cases c1 : x.Role = 2
    · rw [if_pos (d_t c1), if_pos c1]; rfl
    · rw [if_neg (d_f c1), if_neg c1]
      by_cases c2 : x.Term = 1000000000
      · rw [if_pos (d_t c2), if_pos c2]; rfl
      · have hw1 : w64 (x.Term + 1) = x.Term + 1 := by have := hg.t0; have := hg.t1; exact w64_id (by omega) (by omega)
        have hw2 : w64 (x.ID + 1) = x.ID + 1 := by have := hg.i0; have := hg.iN; have := hg.n7; exact w64_id (by omega) (by omega)
        rw [if_neg (d_f c2), if_neg c2, ob_some, if_neg (by decide), own_eq h, ob_some]
        dsimp only [lt, raft_follow]
        rw [hw1, hw2, others_eq _ _ _ _ _ _ _ _ hg.n1 hg.n7 (by omega), ob_some]
        have hm : raft_most 1 x.N = decide (x.N = 1) := by
          have := most_eq 1 (by omega) x.N
          have e : ((1 : Nat) : Int) = 1 := rfl
          rw [e] at this
          rw [this]
          have h1 := hg.n1
          have : (x.N < 2 * 1) ↔ x.N = 1 := by omega
          simp only [this]
        rw [hm]
        by_cases c3 : x.N = 1
        · rw [if_pos (d_t c3), if_pos c3, lead_eq _ _ _ _ _ _ _ _ hg.n1 hg.n7 hg.i0 hg.iN (by omega) hg.c0, ob_some, ob_some]
          rfl
        · rw [if_neg (d_f c3), if_neg c3, ob_some]
          rfl
  · rw [if_pos (n_t c0), if_pos c0, ob_some, if_pos (n_t c0)]; rfl
theorem rstand_eq {x : Node} (h : Small x) : R_StandNode_v1 x = some (standS x) := by
  unfold R_StandNode_v1 standS
  rw [h.rcheck, ob_some]
  by_cases c0 : (nodeF x).Code = 0
  · have hg := nodeF_good.1 c0
    have hl := hg.len
    rw [if_neg (not_not_intro c0), nodeF_zero hg]
    by_cases c1 : x.Role = 2
    · rw [if_pos (by simp [c1]), if_pos c1]
      dsimp only [lt, R_F]
      rw [ob_some, if_neg (by simp), ob_some, if_pos (by simp)]; rfl
    · rw [if_neg (by simp [c1]), if_neg c1, ob_some]
      by_cases c2 : x.Term = 1000000000
      · rw [if_pos (by simp; omega), if_pos c2]
        dsimp only [lt, R_F]
        rw [ob_some, if_pos (by simp)]; rfl
      · have h0 := hg.t0
        have ht1 := hg.t1
        have hw1 : w64 (x.Term + 1) = x.Term + 1 := w64_id (by omega) (by omega)
        have hw2 : w64 (x.ID + 1) = x.ID + 1 := by have := hg.i0; have := hg.iN; have := hg.n7; exact w64_id (by omega) (by omega)
        rw [if_neg (by simp; omega), if_neg c2, ob_some, if_neg (by simp), follower_eq h, ob_some]
        have n1 := hg.n1
        have n7 := hg.n7
        have := loop_run (step := fun y => R_StandNode_v1_B1 x ⟨0, 0⟩ (x.N, x.ID, x.Term, x.Vote, x.Log, 0, x.Commit) y) x.N.toNat (fun k => (mls x.ID (askM x.ID (x.Term + 1) x.Log) k, (k : Int)))
          (fun k hk => by
            have hwk : w64 ((k : Int) + 1) = ((k + 1 : Nat) : Int) := by rw [w64_id (by omega) (by omega)]; omega
            have hml := mls_len x.ID (askM x.ID (x.Term + 1) x.Log) k
            simp only [R_StandNode_v1_B1]
            rw [if_pos (d_t (by omega)), hwk, mls, hw1]
            by_cases g : (k : Int) = x.ID
            · rw [if_neg (n_f g), ob_some, if_pos g]
            · rw [if_pos (n_t g), if_neg g, last_eq _ (by omega), ob_some, asrt_pos (by simp; omega)]
              rfl)
          (r := (if x.N = 1 then leaderN (stX x) else stX x, mls x.ID (askM x.ID (x.Term + 1) x.Log) x.N.toNat, ⟨0, 0⟩))
          (by
            simp only [R_StandNode_v1_B1]
            rw [if_neg (d_f (by omega))]
            simp only [R_StandNode_v1_J1]
            rw [hw1, hw2]
            by_cases c3 : x.N = 1
            · rw [if_pos (d_t c3), if_pos c3, leader_eq (⟨x.N, x.ID, x.Term + 1, x.ID + 1, x.Log, 1, x.Commit, [x.ID], [], []⟩ : Node) n1 n7 hg.i0 hg.iN (by show x.Log.length ≤ 1000; omega) hg.c0 hg.cl, ob_some, ob_some]
              rfl
            · rw [if_neg (d_f c3), if_neg c3, ob_some]
              rfl)
        simpa [R_StandNode_v1_L1, mls] using this
  · have e : ∀ b : Bool, (decide ((nodeF x).Code = 0) && b) = false := fun b => by rw [decide_eq_false c0]; rfl
    rw [if_pos c0, e, if_neg (by decide), ob_some, e, if_neg (by decide), ob_some, if_pos (n_t c0)]; rfl
def proX (x : Node) (text : List UInt8) : Node :=
  ⟨x.N, x.ID, x.Term, x.Vote, x.Log ++ [⟨x.Term, text⟩], x.Role, ((cntD (gd x.N x.Term (x.Log ++ [⟨x.Term, text⟩]) (lset x.Have x.ID ((x.Log.length : Int) + 1))) x.Commit.toNat (x.Log.length + 1) : Nat) : Int), x.Votes, lset x.Next x.ID ((x.Log.length : Int) + 2), lset x.Have x.ID ((x.Log.length : Int) + 1)⟩
def propS (x : Node) (text : List UInt8) : Node × Fault :=
  if ¬ (nodeF x).Code = 0 then (nE, nodeF x)
  else if ¬ x.Role = 2 then (nE, ⟨11, 0⟩)
  else if 200 < text.length then (nE, ⟨8, 0⟩)
  else if x.Log.length = 100 then (nE, ⟨2, 0⟩)
  else (proX x text, ⟨0, 0⟩)
theorem propose_eq {x : Node} (h : Small x) (text : List UInt8) : raft_Propose_v1 x text = some (propS x text) := by
  unfold raft_Propose_v1 propS
  rw [h.check, ob_some]
  by_cases c0 : (nodeF x).Code = 0
  · have hg := nodeF_good.1 c0
    have hl := hg.len
    rw [if_neg (n_f c0), if_neg (not_not_intro c0), nodeF_zero hg]
    by_cases c1 : x.Role = 2
    · rw [if_neg (n_f c1), if_neg (not_not_intro c1)]
      by_cases c2 : 200 < text.length
      · rw [if_pos (d_t (by omega)), if_pos c2]; rfl
      · rw [if_neg (d_f (by omega)), if_neg c2]
        by_cases c3 : x.Log.length = 100
        · rw [if_pos (d_t (by omega)), if_pos c3]; rfl
        · obtain ⟨l1, l2, l3, l4, l5⟩ := hg.lead c1
          have i0 := hg.i0
          have iN := hg.iN
          have hap : ((x.Log ++ [(⟨x.Term, text⟩ : Entry)]).length : Int) = (x.Log.length : Int) + 1 := by simp
          have hw : w64 ((x.Log.length : Int) + 1 + 1) = (x.Log.length : Int) + 2 := by rw [w64_id (by omega) (by omega)]; omega
          have hsm := hg.small
          obtain ⟨c, hc⟩ : ∃ c : Nat, x.Commit = (c : Int) := ⟨x.Commit.toNat, by have := hg.c0; omega⟩
          rw [if_neg (d_f (by omega)), if_neg c3, ob_some, if_neg (by decide), own_eq h, ob_some]
          dsimp only [lt]
          rw [asrt_pos (by omega), asrt_pos (by omega), asrt_pos (by omega), asrt_pos (by omega), asrt_pos (by omega), hap, hw, hc, rcount1_eq _ _ _ _ _ _ _ _ _ _ (by simp; omega) (by rw [lset_len]; omega), ob_some]
          unfold proX
          rw [hc, Int.toNat_natCast]
          simp
    · rw [if_pos (n_t c1), if_pos c1]; rfl
  · rw [if_pos (n_t c0), if_pos c0, ob_some, if_pos (n_t c0)]; rfl
theorem rcopy_eq {x : Node} (h : Small x) : R_CopyNode x = some (x.N, x.ID, x.Term, x.Vote, x.Log, x.Role, x.Commit, x.Votes, x.Next, x.Have) := by
  have h1 := h.l
  have h2 := h.v
  have h3 := h.n
  have h4 := h.h
  unfold R_CopyNode
  rw [copyLog_eq _ (by omega), ob_some, asrt_pos (by omega), asrt_pos (by omega), asrt_pos (by omega)]
theorem rpropose_eq {x : Node} (h : Small x) (text : List UInt8) : R_ProposeNode x text = some (propS x text) := by
  unfold R_ProposeNode propS
  rw [h.rcheck, ob_some]
  by_cases c0 : (nodeF x).Code = 0
  · have hg := nodeF_good.1 c0
    have hl := hg.len
    rw [if_neg (not_not_intro c0), nodeF_zero hg]
    by_cases c1 : x.Role = 2
    · rw [if_neg (by simp [c1]), if_neg (not_not_intro c1), ob_some]
      by_cases c2 : 200 < text.length
      · rw [if_pos (by simp; omega), if_pos c2]
        dsimp only [lt, R_F]
        rw [ob_some, if_neg (by simp), ob_some, if_pos (by simp)]; rfl
      · rw [if_neg (by simp; omega), if_neg c2, ob_some]
        by_cases c3 : x.Log.length = 100
        · rw [if_pos (by simp; omega), if_pos c3]
          dsimp only [lt, R_F]
          rw [ob_some, if_pos (by simp)]; rfl
        · obtain ⟨l1, l2, l3, l4, l5⟩ := hg.lead c1
          have i0 := hg.i0
          have iN := hg.iN
          have hap : ((x.Log ++ [(⟨x.Term, text⟩ : Entry)]).length : Int) = (x.Log.length : Int) + 1 := by simp
          have hw : w64 ((x.Log.length : Int) + 1 + 1) = (x.Log.length : Int) + 2 := by rw [w64_id (by omega) (by omega)]; omega
          have hsm := hg.small
          rw [if_neg (by simp; omega), if_neg c3, ob_some, if_neg (by simp), rcopy_eq h, ob_some]
          dsimp only [lt]
          rw [asrt_pos (by omega), asrt_pos (by omega), asrt_pos (by omega), asrt_pos (by omega), asrt_pos (by omega), hap, hw]
          rw [counted_eq (⟨x.N, x.ID, x.Term, x.Vote, x.Log ++ [(⟨x.Term, text⟩ : Entry)], x.Role, x.Commit, x.Votes, lset x.Next x.ID ((x.Log.length : Int) + 2), lset x.Have x.ID ((x.Log.length : Int) + 1)⟩ : Node) hg.n1 hg.n7 (by show (x.Log ++ [(⟨x.Term, text⟩ : Entry)]).length ≤ 1000; simp; omega) (by show (lset x.Have x.ID ((x.Log.length : Int) + 1)).length ≤ 1000; rw [lset_len]; omega) hg.c0 (by show x.Commit ≤ ((x.Log ++ [(⟨x.Term, text⟩ : Entry)]).length : Int); have := hg.cl; omega), ob_some]
          unfold proX
          simp
    · rw [if_pos (by simp [c1]), if_pos c1]
      dsimp only [lt, R_F]
      rw [ob_some, if_neg (by simp), ob_some, if_neg (by simp), ob_some, if_pos (by simp)]; rfl
  · have e : ∀ b : Bool, (decide ((nodeF x).Code = 0) && b) = false := fun b => by rw [decide_eq_false c0]; rfl
    rw [if_pos c0, e, if_neg (by decide), ob_some, e, if_neg (by decide), ob_some, e, if_neg (by decide), ob_some, if_pos (n_t c0)]; rfl
def beatS (x : Node) : List Mail × Fault :=
  if ¬ (nodeF x).Code = 0 then ([], nodeF x) else if ¬ x.Role = 2 then ([], ⟨11, 0⟩) else (mls x.ID (bringM x) x.N.toNat, ⟨0, 0⟩)
theorem beat_eq {x : Node} (h : Small x) : raft_Beat_v1 x = some (beatS x) := by
  unfold raft_Beat_v1 beatS
  rw [h.check, ob_some]
  by_cases c0 : (nodeF x).Code = 0
  · have hg := nodeF_good.1 c0
    rw [if_neg (not_not_intro c0), nodeF_zero hg]
    by_cases c1 : x.Role = 2
    · obtain ⟨l1, l2, l3, l4, l5⟩ := hg.lead c1
      rw [if_neg (by simp [c1]), if_neg (not_not_intro c1), ob_some, if_neg (by simp), beats_eq x hg.n1 hg.n7 h.l l1 l3, ob_some]
    · rw [if_pos (by simp [c1]), if_pos c1]; rfl
  · have e : ∀ b : Bool, (decide ((nodeF x).Code = 0) && b) = false := fun b => by rw [decide_eq_false c0]; rfl
    rw [if_pos c0, e, if_neg (by decide), ob_some, if_pos (n_t c0)]
theorem rbeat_eq {x : Node} (h : Small x) : R_BeatNode_v1 x = some (beatS x) := by
  unfold R_BeatNode_v1 beatS
  rw [h.rcheck, ob_some]
  by_cases c0 : (nodeF x).Code = 0
  · have hg := nodeF_good.1 c0
    rw [if_neg (not_not_intro c0), nodeF_zero hg]
    by_cases c1 : x.Role = 2
    · obtain ⟨l1, l2, l3, l4, l5⟩ := hg.lead c1
      rw [if_neg (by simp [c1]), if_neg (not_not_intro c1), ob_some, if_neg (by simp), rbeats_eq x hg.n1 hg.n7 h.l l1 l3, ob_some]
    · rw [if_pos (by simp [c1]), if_pos c1]; rfl
  · have e : ∀ b : Bool, (decide ((nodeF x).Code = 0) && b) = false := fun b => by rw [decide_eq_false c0]; rfl
    rw [if_pos c0, e, if_neg (by decide), ob_some, if_pos (n_t c0)]
def restS (x : Node) : Node × Fault :=
  if ¬ (nodeF x).Code = 0 then (nE, nodeF x) else (⟨x.N, x.ID, x.Term, x.Vote, x.Log, 0, 0, [], [], []⟩, nodeF x)
theorem rest_eq {x : Node} (h : Small x) : raft_Restart_v1 x = some (restS x) := by
  unfold raft_Restart_v1 restS
  rw [h.check, ob_some]
  by_cases c0 : (nodeF x).Code = 0
  · rw [if_neg (n_f c0), if_neg (not_not_intro c0), own_eq h, ob_some]; rfl
  · rw [if_pos (n_t c0), if_pos c0]; rfl
theorem rrest_eq {x : Node} (h : Small x) : R_RestartNode_v1 x = some (restS x) := by
  unfold R_RestartNode_v1 restS
  rw [h.rcheck, ob_some]
  by_cases c0 : (nodeF x).Code = 0
  · rw [if_neg (n_f c0), if_neg (not_not_intro c0), follower_eq h, ob_some]
  · rw [if_pos (n_t c0), if_pos c0]; rfl
/- what is the same -/
theorem slog_self (a : List Entry) (h : a.length ≤ 1000000) : R_SameLog a a = some true := by
  unfold R_SameLog
  rw [if_neg (by simp)]
  exact loop_run (step := fun y => R_SameLog_B1 a a y) a.length (fun k => (k : Int)) (fun k hk => by
    have hw : w64 ((k : Int) + 1) = ((k + 1 : Nat) : Int) := by rw [w64_id (by omega) (by omega)]; omega
    simp only [R_SameLog_B1]
    rw [if_pos (d_t (by omega)), asrt_pos (by omega), asrt_pos (by omega), if_neg (by simp), hw]) (by
    simp only [R_SameLog_B1]
    rw [if_neg (d_f (by omega))]; rfl)
theorem ints_self (a : List Int) (h : a.length ≤ 1000000) : R_Ints a a = some true := by
  unfold R_Ints
  rw [if_neg (by simp)]
  exact loop_run (step := fun y => R_Ints_B1 a a y) a.length (fun k => (k : Int)) (fun k hk => by
    have hw : w64 ((k : Int) + 1) = ((k + 1 : Nat) : Int) := by rw [w64_id (by omega) (by omega)]; omega
    simp only [R_Ints_B1]
    rw [if_pos (d_t (by omega)), asrt_pos (by omega), asrt_pos (by omega), if_neg (by simp), hw]) (by
    simp only [R_Ints_B1]
    rw [if_neg (d_f (by omega))]; rfl)
theorem snode_self {x : Node} (h : Small x) : R_SameNode x x = some true := by
  have h1 := h.l
  have h2 := h.v
  have h3 := h.n
  have h4 := h.h
  unfold R_SameNode
  rw [if_pos (by simp), slog_self _ (by omega), ob_some, if_pos (by simp), ints_self _ (by omega), ob_some, if_pos (by simp), ints_self _ (by omega), ob_some, if_pos (by simp), ints_self _ (by omega), ob_some]
  simp [lt]
theorem smails_self (a : List Mail) (h : a.length ≤ 1000000) (he : ∀ m ∈ a, m.Entries.length ≤ 1000000) : R_SameMails a a = some true := by
  unfold R_SameMails
  rw [if_neg (by simp)]
  exact loop_run (step := fun y => R_SameMails_B1 a a y) a.length (fun k => (k : Int)) (fun k hk => by
    have hw : w64 ((k : Int) + 1) = ((k + 1 : Nat) : Int) := by rw [w64_id (by omega) (by omega)]; omega
    simp only [R_SameMails_B1]
    rw [if_pos (d_t (by omega)), asrt_pos (by omega), asrt_pos (by omega), if_pos (by simp), slog_self _ (he _ (lget_mem a (k : Int) (by omega))), ob_some, if_neg (by simp), hw]) (by
    simp only [R_SameMails_B1]
    rw [if_neg (d_f (by omega))]; rfl)
theorem raftBegun_eq : law_raftBegun = some true := by
  have hs : Small ⟨1, 0, 0, 0, [], 0, 0, [], [], []⟩ := ⟨by simp, by simp, by simp, by simp⟩
  have f1 : nodeF ⟨1, 0, 0, 0, [], 0, 0, [], [], []⟩ = ⟨0, 0⟩ := by decide
  have e1 : standS ⟨1, 0, 0, 0, [], 0, 0, [], [], []⟩ = (⟨1, 0, 1, 1, [], 2, 0, [], [1], [0]⟩, [], ⟨0, 0⟩) := by
    unfold standS
    rw [f1, if_neg (by decide), if_neg (by decide), if_neg (by decide), if_pos rfl]; rfl
  have hs2 : Small ⟨1, 0, 1, 1, [], 2, 0, [], [1], [0]⟩ := ⟨by simp, by simp, by simp, by simp⟩
  have f2 : nodeF ⟨1, 0, 1, 1, [], 2, 0, [], [1], [0]⟩ = ⟨0, 0⟩ := by decide
  have e2 : propS ⟨1, 0, 1, 1, [], 2, 0, [], [1], [0]⟩ [97] = (⟨1, 0, 1, 1, [⟨1, [97]⟩], 2, 1, [], [2], [1]⟩, ⟨0, 0⟩) := by
    unfold propS
    rw [f2, if_neg (by decide), if_neg (by decide), if_neg (by decide), if_neg (by decide)]; rfl
  unfold law_raftBegun
  rw [stand_eq hs, ob_some, e1, propose_eq hs2, ob_some, e2]
  rfl
end G
end Go.Proofs.Ytcnngkigpfpalaa
