/- Every Check, Stand, Propose, Beat and Restart is as the document says. -/
import Derived.Test.YtcnngkigpfpalaaPRaftC
namespace Go.Proofs.Ytcnngkigpfpalaa
open Go Go.Dm
set_option linter.unusedVariables false
set_option linter.unusedSimpArgs false
namespace G
theorem small_nE : Small nE := ⟨by simp [nE], by simp [nE], by simp [nE], by simp [nE]⟩
theorem small_leader {x : Node} (h : x.Log.length ≤ 1000) (h7 : x.N ≤ 7) : Small (leaderN x) :=
  ⟨h, by simp [leaderN], by simp [leaderN]; omega, by simp [leaderN]; omega⟩
theorem standS_small {x : Node} (h : Small x) : Small (standS x).1 := by
  unfold standS
  split
  · exact small_nE
  · rename_i c0
    have hg := nodeF_good.1 (Decidable.not_not.1 c0)
    split
    · exact small_nE
    · split
      · exact small_nE
      · simp only
        split
        · exact small_leader h.l hg.n7
        · exact ⟨h.l, by simp [stX], by simp [stX], by simp [stX]⟩
theorem standS_mails {x : Node} (h : Small x) : R_SameMails (standS x).2.1 (standS x).2.1 = some true := by
  unfold standS
  split
  · exact smails_self [] (by simp) (by simp)
  · rename_i c0
    have hg := nodeF_good.1 (Decidable.not_not.1 c0)
    split
    · exact smails_self [] (by simp) (by simp)
    · split
      · exact smails_self [] (by simp) (by simp)
      · have := mls_len x.ID (askM x.ID (x.Term + 1) x.Log) x.N.toNat
        have h7 := hg.n7
        refine smails_self _ (by simp only; omega) (fun m hm => ?_)
        obtain ⟨j, _, _, e⟩ := mls_mem hm
        rw [e]; simp [askM]
theorem beatS_mails {x : Node} (h : Small x) : R_SameMails (beatS x).1 (beatS x).1 = some true := by
  unfold beatS
  split
  · exact smails_self [] (by simp) (by simp)
  · rename_i c0
    have hg := nodeF_good.1 (Decidable.not_not.1 c0)
    split
    · exact smails_self [] (by simp) (by simp)
    · have := mls_len x.ID (bringM x) x.N.toNat
      have h7 := hg.n7
      have hl := h.l
      refine smails_self _ (by simp only; omega) (fun m hm => ?_)
      obtain ⟨j, _, _, e⟩ := mls_mem hm
      rw [e]; simp [bringM]; omega
theorem propS_small {x : Node} (h : Small x) (text : List UInt8) : Small (propS x text).1 := by
  unfold propS
  split
  · exact small_nE
  · rename_i c0
    have hg := nodeF_good.1 (Decidable.not_not.1 c0)
    have hl := hg.len
    have hv := h.v
    have hsm := hg.small
    split
    · exact small_nE
    · split
      · exact small_nE
      · split
        · exact small_nE
        · exact ⟨by simp [proX]; omega, hv, by simp [proX, lset_len]; omega, by simp [proX, lset_len]; omega⟩
theorem restS_small {x : Node} (h : Small x) : Small (restS x).1 := by
  unfold restS
  split
  · exact small_nE
  · exact ⟨h.l, by simp, by simp, by simp⟩
theorem sameF (f : Fault) : (decide (f.Code = f.Code) && (decide (f.At = f.At) && true)) = true := by simp
theorem RaftDoes_eq (x : Node) (text : List UInt8) : law_RaftDoes x text = some true := by
  unfold law_RaftDoes
  rw [raftBegun_eq, ob_some, if_neg (by decide)]
  by_cases c : law_vastNode x = true
  · dsimp only [lt]
    rw [if_pos c]
  · have hs : Small x := by
      unfold law_vastNode law_vastLog at c
      dsimp only [lt] at c
      simp only [Bool.or_eq_true, decide_eq_true_eq, not_or] at c
      exact ⟨by omega, by omega, by omega, by omega⟩
    have h1 := hs.l
    have h2 := hs.v
    have h3 := hs.n
    have h4 := hs.h
    have hc : R_CopyNode_v1 x = some x := by
      unfold R_CopyNode_v1
      rw [copyLog_eq _ (by omega), ob_some, asrt_pos (by omega), asrt_pos (by omega), asrt_pos (by omega)]
    dsimp only [lt]
    rw [if_neg c, hc, ob_some, hs.check, ob_some, stand_eq hs, ob_some, propose_eq hs, ob_some, beat_eq hs, ob_some, rest_eq hs, ob_some, snode_self hs, ob_some, if_pos (by decide), hs.rcheck, ob_some, sameF, if_neg (by decide)]
    rw [rstand_eq hs, ob_some, rpropose_eq hs, ob_some, rbeat_eq hs, ob_some, rrest_eq hs, ob_some]
    simp [snode_self (standS_small hs), standS_mails hs, snode_self (propS_small hs text), beatS_mails hs, snode_self (restS_small hs), ob_some]
end G
end Go.Proofs.Ytcnngkigpfpalaa
