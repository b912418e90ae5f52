/- Nodes: Stand, Propose, Beat and Restart as the program has them in a game; what is the same. -/
import Derived.Test.YtcnngkigpfpalaaPRaftBG
namespace Go.Proofs.Ytcnngkigpfpalaa
open Go Go.Dm
set_option linter.unusedVariables false
set_option linter.unusedSimpArgs false
namespace G
def nE : Node := ⟨0, 0, 0, 0, [], 0, 0, [], [], []⟩
structure Small (x : Node) : Prop where
  l : x.Log.length ≤ 1000
  v : x.Votes.length ≤ 1000
  n : x.Next.length ≤ 1000
  h : x.Have.length ≤ 1000
theorem Small.check {x : Node} (h : Small x) : raft_Check x = some (nodeF x) := ncheck_eq x h.v h.n h.h h.l
theorem Small.rcheck {x : Node} (h : Small x) : R_NodeFault x = some (nodeF x) := rnode_eq x h.v h.l
theorem own_eq {x : Node} (h : Small x) : raft_own x = some (x.N, x.ID, x.Term, x.Vote, x.Log, x.Role, x.Commit, x.Votes, x.Next, x.Have) := by
  have h1 := h.l
  have h2 := h.v
  have h3 := h.n
  have h4 := h.h
  unfold raft_own
  rw [eclone_eq _ (by omega), ob_some, iclone_eq _ (by omega), ob_some, iclone_eq _ (by omega), ob_some, iclone_eq _ (by omega), ob_some]
def n12 (y : Node) (ms : List Mail) (f : Fault) : Int × Int × Int × Int × List Entry × Int × Int × List Int × List Int × List Int × List Mail × Fault := (y.N, y.ID, y.Term, y.Vote, y.Log, y.Role, y.Commit, y.Votes, y.Next, y.Have, ms, f)
def n11 (y : Node) (f : Fault) : Int × Int × Int × Int × List Entry × Int × Int × List Int × List Int × List Int × Fault := (y.N, y.ID, y.Term, y.Vote, y.Log, y.Role, y.Commit, y.Votes, y.Next, y.Have, f)
def n8 (y : Node) (f : Fault) : Int × Int × Int × Int × List Entry × Int × Int × Fault := (y.N, y.ID, y.Term, y.Vote, y.Log, y.Role, y.Commit, f)
def stX (x : Node) : Node := ⟨x.N, x.ID, x.Term + 1, x.ID + 1, x.Log, 1, x.Commit, [x.ID], [], []⟩
def standS (x : Node) : Node × List Mail × Fault :=
  if ¬ (nodeF x).Code = 0 then (nE, [], nodeF x)
  else if x.Role = 2 then (nE, [], ⟨11, 0⟩)
  else if x.Term = 1000000000 then (nE, [], ⟨9, 0⟩)
  else (if x.N = 1 then leaderN (stX x) else stX x, mls x.ID (askM x.ID (x.Term + 1) x.Log) x.N.toNat, ⟨0, 0⟩)
theorem stand_eq {x : Node} (h : Small x) : raft_Stand x = some (n12 (standS x).1 (standS x).2.1 (standS x).2.2) := by
  unfold raft_Stand standS
  rw [h.check, ob_some]
  by_cases c0 : (nodeF x).Code = 0
  · have hg := nodeF_good.1 c0
    have hl := hg.len
    rw [if_neg (n_f c0), if_neg (not_not_intro c0), nodeF_zero hg]
    by_cases c1 : x.Role = 2
    · rw [if_pos (d_t c1), if_pos c1]; rfl
    · rw [if_neg (d_f c1), if_neg c1]
      by_cases c2 : x.Term = 1000000000
      · rw [if_pos (d_t c2), if_pos c2]; rfl
      · have hw1 : w64 (x.Term + 1) = x.Term + 1 := by have := hg.t0; have := hg.t1; exact w64_id (by omega) (by omega)
        have hw2 : w64 (x.ID + 1) = x.ID + 1 := by have := hg.i0; have := hg.iN; have := hg.n7; exact w64_id (by omega) (by omega)
        rw [if_neg (d_f c2), if_neg c2, ob_some, if_neg (by decide), own_eq h, ob_some]
        dsimp only [lt, raft_follow]
        rw [hw1, hw2, others_eq _ _ _ _ _ _ _ _ hg.n1 hg.n7 (by omega), ob_some]
        have hm : raft_most 1 x.N = decide (x.N = 1) := by
          have := most_eq 1 (by omega) x.N
          have e : ((1 : Nat) : Int) = 1 := rfl
          rw [e] at this
          rw [this]
          have h1 := hg.n1
          have : (x.N < 2 * 1) ↔ x.N = 1 := by omega
          simp only [this]
        rw [hm]
        by_cases c3 : x.N = 1
        · rw [if_pos (d_t c3), if_pos c3, lead_eq _ _ _ _ _ _ _ _ hg.n1 hg.n7 hg.i0 hg.iN (by omega) hg.c0, ob_some, ob_some]
          rfl
        · rw [if_neg (d_f c3), if_neg c3, ob_some]
          rfl
  · rw [if_pos (n_t c0), if_pos c0, ob_some, if_pos (n_t c0)]; rfl
def proX (x : Node) (text : List UInt8) : Node :=
  ⟨x.N, x.ID, x.Term, x.Vote, x.Log ++ [⟨x.Term, text⟩], x.Role, ((cntD (gd x.N x.Term (x.Log ++ [⟨x.Term, text⟩]) (lset x.Have x.ID ((x.Log.length : Int) + 1))) x.Commit.toNat (x.Log.length + 1) : Nat) : Int), x.Votes, lset x.Next x.ID ((x.Log.length : Int) + 2), lset x.Have x.ID ((x.Log.length : Int) + 1)⟩
def propS (x : Node) (text : List UInt8) : Node × Fault :=
  if ¬ (nodeF x).Code = 0 then (nE, nodeF x)
  else if ¬ x.Role = 2 then (nE, ⟨11, 0⟩)
  else if 200 < text.length then (nE, ⟨8, 0⟩)
  else if x.Log.length = 100 then (nE, ⟨2, 0⟩)
  else (proX x text, ⟨0, 0⟩)
theorem propose_eq {x : Node} (h : Small x) (text : List UInt8) : raft_Propose x text = some (n11 (propS x text).1 (propS x text).2) := by
  unfold raft_Propose propS
  rw [h.check, ob_some]
  by_cases c0 : (nodeF x).Code = 0
  · have hg := nodeF_good.1 c0
    have hl := hg.len
    rw [if_neg (n_f c0), if_neg (not_not_intro c0), nodeF_zero hg]
    by_cases c1 : x.Role = 2
    · rw [if_neg (n_f c1), if_neg (not_not_intro c1)]
      by_cases c2 : 200 < text.length
      · rw [if_pos (d_t (by omega)), if_pos c2]; rfl
      · rw [if_neg (d_f (by omega)), if_neg c2]
        by_cases c3 : x.Log.length = 100
        · rw [if_pos (d_t (by omega)), if_pos c3]; rfl
        · obtain ⟨l1, l2, l3, l4, l5⟩ := hg.lead c1
          have i0 := hg.i0
          have iN := hg.iN
          have hap : ((x.Log ++ [(⟨x.Term, text⟩ : Entry)]).length : Int) = (x.Log.length : Int) + 1 := by simp
          have hw : w64 ((x.Log.length : Int) + 1 + 1) = (x.Log.length : Int) + 2 := by rw [w64_id (by omega) (by omega)]; omega
          have hsm := hg.small
          obtain ⟨c, hc⟩ : ∃ c : Nat, x.Commit = (c : Int) := ⟨x.Commit.toNat, by have := hg.c0; omega⟩
          rw [if_neg (d_f (by omega)), if_neg c3, ob_some, if_neg (by decide), own_eq h, ob_some]
          dsimp only [lt]
          rw [asrt_pos (by omega), asrt_pos (by omega), asrt_pos (by omega), asrt_pos (by omega), asrt_pos (by omega), hap, hw, hc, rcount1_eq _ _ _ _ _ _ _ _ _ _ (by simp; omega) (by rw [lset_len]; omega), ob_some]
          unfold proX
          rw [hc, Int.toNat_natCast]
          simp [n11]
    · rw [if_pos (n_t c1), if_pos c1]; rfl
  · rw [if_pos (n_t c0), if_pos c0, ob_some, if_pos (n_t c0)]; rfl
def beatS (x : Node) : List Mail × Fault :=
  if ¬ (nodeF x).Code = 0 then ([], nodeF x) else if ¬ x.Role = 2 then ([], ⟨11, 0⟩) else (mls x.ID (bringM x) x.N.toNat, ⟨0, 0⟩)
theorem beat_eq {x : Node} (h : Small x) : raft_Beat x = some (beatS x) := by
  unfold raft_Beat beatS
  rw [h.check, ob_some]
  by_cases c0 : (nodeF x).Code = 0
  · have hg := nodeF_good.1 c0
    rw [if_neg (not_not_intro c0), nodeF_zero hg]
    by_cases c1 : x.Role = 2
    · obtain ⟨l1, l2, l3, l4, l5⟩ := hg.lead c1
      rw [if_neg (by simp [c1]), if_neg (not_not_intro c1), ob_some, if_neg (by simp), beats_eq x hg.n1 hg.n7 h.l l1 l3, ob_some]
    · rw [if_pos (by simp [c1]), if_pos c1]; rfl
  · have e : ∀ b : Bool, (decide ((nodeF x).Code = 0) && b) = false := fun b => by rw [decide_eq_false c0]; rfl
    rw [if_pos c0, e, if_neg (by decide), ob_some, if_pos (n_t c0)]
def restS (x : Node) : Node × Fault :=
  if ¬ (nodeF x).Code = 0 then (nE, nodeF x) else (⟨x.N, x.ID, x.Term, x.Vote, x.Log, 0, 0, [], [], []⟩, nodeF x)
theorem rest_eq {x : Node} (h : Small x) : raft_Restart x = some (n8 (restS x).1 (restS x).2) := by
  unfold raft_Restart restS
  rw [h.check, ob_some]
  by_cases c0 : (nodeF x).Code = 0
  · rw [if_neg (n_f c0), if_neg (not_not_intro c0), own_eq h, ob_some]; rfl
  · rw [if_pos (n_t c0), if_pos c0]; rfl
end G
end Go.Proofs.Ytcnngkigpfpalaa
