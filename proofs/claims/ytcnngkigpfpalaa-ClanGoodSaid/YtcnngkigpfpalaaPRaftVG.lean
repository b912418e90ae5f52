/- Nodes: the program's Take as a whole. -/
import Derived.Test.YtcnngkigpfpalaaPRaftUG
namespace Go.Proofs.Ytcnngkigpfpalaa
open Go Go.Dm
set_option linter.unusedVariables false
set_option linter.unusedSimpArgs false
namespace G
theorem votes_small {x : Node} (h : NGood x) : x.Votes.length ≤ 7 := by
  have hf := h.form
  have h7 := h.n7
  unfold formB at hf
  simp only [Bool.and_eq_true] at hf
  have h1 := hf.1
  by_cases c : x.Role = 1
  · rw [if_pos c] at h1
    simp only [Bool.and_eq_true, Bool.not_eq_true', decide_eq_false_iff_not] at h1
    omega
  · rw [if_neg c] at h1
    have := of_decide_eq_true h1
    omega
theorem bas_fit {x : Node} {m : Mail} (hg : NGood x) (hf : finM x m) : Fit (bas x m) m := by
  obtain ⟨_, _, _, f4, _, f6, _, _, f9, _, _, _⟩ := hf
  have h1 := hg.n1
  have h2 := hg.n7
  have h3 := hg.i0
  have h4 := hg.iN
  have h5 := hg.vN
  have h6 := hg.c0
  have h7 := hg.cl
  have h8 := hg.len
  have h9 := votes_small hg
  unfold bas
  split
  · exact ⟨⟨h1, h2⟩, ⟨h3, h4⟩, by show (0 : Int) ≤ 7; omega, by show (0 : Int) ≤ 0; omega, ⟨h6, h7⟩, h8, by show ([] : List Int).length ≤ 100; simp, f4, f6, f9, fun h => absurd (show (0 : Int) = 2 from h) (by omega)⟩
  · refine ⟨⟨h1, h2⟩, ⟨h3, h4⟩, by omega, hg.v0, ⟨h6, h7⟩, h8, by omega, f4, f6, f9, fun h => ?_⟩
    obtain ⟨l1, l2, l3, l4, _⟩ := hg.lead h
    exact ⟨l1, l2, l3, l4⟩
theorem takF_zero {x : Node} {m : Mail} (h : (takF x m).Code = 0) : NGood x ∧ finM x m ∧ takF x m = ⟨0, 0⟩ := by
  unfold takF at h ⊢
  by_cases c : (nodeF x).Code = 0
  · rw [if_pos c] at h ⊢
    by_cases f : finM x m
    · rw [if_pos f]; exact ⟨nodeF_good.1 c, f, rfl⟩
    · rw [if_neg f] at h; cases h
  · rw [if_neg c] at h; exact absurd h c
theorem take_eq {x : Node} (hx : Small x) (m : Mail) (hm : m.Entries.length ≤ 1000000) : raft_Take x m = some (takeS x m) := by
  unfold raft_Take
  rw [hx.check, ob_some]
  have e1 : (ob (if (decide ((nodeF x).Code = 0)) = true then (raft_fine m x) else some default) fun x2 =>
      ob (
        if ((decide ((nodeF x).Code = 0)) && (!x2)) = true then
          lt (raft_fault 5 0) fun x3 =>
          some x3
        else
          some (nodeF x)) fun (v : Fault) => some v) = some (takF x m) := by
    unfold takF
    by_cases c : (nodeF x).Code = 0
    · have hg := nodeF_good.1 c
      rw [if_pos (d_t c), fine_eq x ⟨hg.n1, hg.n7⟩ m hm, ob_some, if_pos c]
      by_cases f : finM x m
      · rw [decide_eq_true f, if_neg (by simp), if_pos f, ob_some, nodeF_zero hg]
      · rw [decide_eq_false f, if_pos (by simp [c]), if_neg f]; rfl
    · rw [if_neg (d_f c), ob_some, if_neg (by simp [c]), if_neg c, ob_some]
  -- the fault first
  have e2 : ∀ (k : Fault → Option (Node × List Mail × Fault)), (ob (if (decide ((nodeF x).Code = 0)) = true then (raft_fine m x) else some default) fun x2 =>
      ob (
        if ((decide ((nodeF x).Code = 0)) && (!x2)) = true then
          lt (raft_fault 5 0) fun x3 =>
          some x3
        else
          some (nodeF x)) k) = k (takF x m) := by
    intro k
    obtain ⟨b, hb, e⟩ := ob_elim e1
    obtain ⟨v, hv, e⟩ := ob_elim e
    rw [hb, ob_some, hv, ob_some, ← some_elim e]
  rw [e2]
  unfold takeS
  by_cases c : (takF x m).Code = 0
  · obtain ⟨hg, hf, hz⟩ := takF_zero c
    rw [if_neg (n_f c), if_pos c, own_eq hx, ob_some, hz]
    have hfit := bas_fit hg hf
    obtain ⟨f1, _, _, _, _, _, _, f8, _⟩ := hf
    have hb : (if (decide (x.Term < m.Term)) = true then
        lt (raft_follow x.N x.ID m.Term 0 x.Role x.Commit x.Log x.Votes x.Next x.Have) fun x5 =>
        some (x5.1, x5.2.1, x5.2.2.1, x5.2.2.2.1, x5.2.2.2.2.1, x5.2.2.2.2.2, ([] : List Int), ([] : List Int), ([] : List Int))
      else
        some (x.N, x.ID, x.Term, x.Vote, x.Role, x.Commit, x.Votes, x.Next, x.Have)) = some ((bas x m).N, (bas x m).ID, (bas x m).Term, (bas x m).Vote, (bas x m).Role, (bas x m).Commit, (bas x m).Votes, (bas x m).Next, (bas x m).Have) := by
      unfold bas
      by_cases g : x.Term < m.Term
      · rw [if_pos (d_t g), if_pos g]; rfl
      · rw [if_neg (d_f g), if_neg g]
    have hlog : x.Log = (bas x m).Log := by unfold bas; split <;> rfl
    dsimp only
    rw [hb, ob_some, hlog]
    generalize bas x m = y at *
    dsimp only
    unfold takeK
    by_cases k1 : m.Kind = 1
    · rw [if_pos (d_t k1), if_pos k1, asked_eq hfit, ob_some, ob_some]; rfl
    · rw [if_neg (d_f k1), if_neg k1]
      by_cases k2 : m.Kind = 2
      · obtain ⟨a, b, q⟩ := given_eq hfit
        rw [if_pos (d_t k2), if_pos k2, q, ob_some, ob_some]
      · rw [if_neg (d_f k2), if_neg k2]
        by_cases k3 : m.Kind = 3
        · obtain ⟨a, q⟩ := bringing_eq hfit ⟨f8.2, f8.1⟩
          rw [if_pos (d_t k3), if_pos k3, q, ob_some, ob_some]
        · obtain ⟨q1, q2, q3, q4⟩ := answered_eq hfit
          rw [if_neg (d_f k3), if_neg k3, if_pos (d_t (by omega)), q1, ob_some, ob_some]
          dsimp only
          rw [← q2, ← q3, q4]
  · rw [if_pos (n_t c), if_neg c]; rfl
end G
end Go.Proofs.Ytcnngkigpfpalaa
