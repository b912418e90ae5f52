/- The law ClanGood: its example, and the law. -/
import Derived.Test.YtcnngkigpfpalaaPClanGoodL
namespace Go.Proofs.Ytcnngkigpfpalaa
open Go Go.Dm
set_option linter.unusedVariables false
set_option linter.unusedSimpArgs false
namespace G
def cb0 : Node := ⟨1, 0, 0, 0, [], 0, 0, [], [], []⟩
def cb1 : Node := ⟨1, 0, 1, 1, [], 2, 0, [], [1], [0]⟩
def cb2 : Node := ⟨1, 0, 1, 1, [⟨1, [97]⟩], 2, 1, [], [2], [1]⟩
theorem ubO_self {α : Type} (b : Bool) (x : Option α) : ubO b x x = x := by
  unfold ubO
  rw [asrt_pos (fun _ => rfl)]
  simp
theorem loop_upto {σ ρ : Type} {step : σ → Option (σ ⊕ ρ)} (n : Nat) (st : Nat → σ) (h : ∀ k, k < n → step (st k) = some (.inl (st (k + 1)))) : loopO step (st 0) = loopO step (st n) := by
  induction n with
  | zero => rfl
  | succ n ih => rw [ih (fun k hk => h k (by omega)), loopO_inl (h n (by omega))]
theorem mclone_nil : slices_Clone_api_Mail_api_Mail [] = some [] := by
  unfold slices_Clone_api_Mail_api_Mail
  rw [asrt_pos (by simp)]
  exact ubO_self _ _
theorem own_nil : clan_own [] = some [] := by
  unfold clan_own
  rw [mclone_nil, ob_some]
  refine loopO_inr ?_
  unfold clan_own_B1
  rw [if_neg (d_f (by simp))]; rfl
theorem does0 (bx : List (List UInt8)) : clan_game_does_v1 ⟨0, 0, 0⟩ bx [cb0] [] = some (0, [cb1], [], bx) := by
  have hs : Small ⟨1, 0, 0, 0, [], 0, 0, [], [], []⟩ := ⟨by simp, by simp, by simp, by simp⟩
  have f1 : nodeF ⟨1, 0, 0, 0, [], 0, 0, [], [], []⟩ = ⟨0, 0⟩ := by decide
  have e1 : standS ⟨1, 0, 0, 0, [], 0, 0, [], [], []⟩ = (⟨1, 0, 1, 1, [], 2, 0, [], [1], [0]⟩, [], ⟨0, 0⟩) := by
    unfold standS
    rw [f1, if_neg (by decide), if_neg (by decide), if_neg (by decide), if_pos rfl]; rfl
  have hn : clan_game_node_v5 0 bx [cb0] [] = some (true, [cb1], [], bx) := by
    unfold clan_game_node_v5
    rw [asrt_pos (by decide), asrt_pos (by decide)]
    have := stand_eq hs
    show ob (raft_Stand ⟨1, 0, 0, 0, [], 0, 0, [], [], []⟩) _ = _
    rw [this, ob_some, e1, if_neg (by decide), asrt_pos (by decide), asrt_pos (by decide), asrt_pos (by decide)]
    rfl
  unfold clan_game_does_v1
  show clan_game_does_v1_J1 ⟨0, 0, 0⟩ bx [cb0] [] () = _
  unfold clan_game_does_v1_J1
  rw [if_pos (by decide), hn, ob_some]
  rfl
theorem does1 : clan_game_does_v1 ⟨1, 0, 0⟩ [[97]] [cb1] [] = some (0, [cb2], [], []) := by
  have hs2 : Small ⟨1, 0, 1, 1, [], 2, 0, [], [1], [0]⟩ := ⟨by simp, by simp, by simp, by simp⟩
  have f2 : nodeF ⟨1, 0, 1, 1, [], 2, 0, [], [1], [0]⟩ = ⟨0, 0⟩ := by decide
  have e2 : propS ⟨1, 0, 1, 1, [], 2, 0, [], [1], [0]⟩ [97] = (⟨1, 0, 1, 1, [⟨1, [97]⟩], 2, 1, [], [2], [1]⟩, ⟨0, 0⟩) := by
    unfold propS
    rw [f2, if_neg (by decide), if_neg (by decide), if_neg (by decide), if_neg (by decide)]; rfl
  have hd : clan_game_does_1_v1 ⟨1, 0, 1, 1, [], 2, 0, [], [1], [0]⟩ [[97]] [cb1] [] = some (1, 0, 1, 1, [⟨1, [97]⟩], 2, 1, [], [2], [1], [], ⟨0, 0⟩) := by
    unfold clan_game_does_1_v1
    rw [asrt_pos (by decide)]
    show ob (raft_Propose _ [97]) _ = _
    rw [propose_eq hs2, ob_some, e2]
    rfl
  have hn : clan_game_node_v6 0 [[97]] [cb1] [] = some (true, [cb2], [], [[97]]) := by
    unfold clan_game_node_v6
    rw [asrt_pos (by decide), asrt_pos (by decide)]
    show ob (clan_game_does_1_v1 ⟨1, 0, 1, 1, [], 2, 0, [], [1], [0]⟩ _ _ _) _ = _
    rw [hd, ob_some, if_neg (by decide), asrt_pos (by decide), asrt_pos (by decide), asrt_pos (by decide)]
    rfl
  unfold clan_game_does_v1
  show clan_game_does_v1_J1 ⟨1, 0, 0⟩ [[97]] [cb1] [] () = _
  unfold clan_game_does_v1_J1
  rw [if_neg (by decide), if_pos (by decide), if_neg (by decide), hn, ob_some, if_pos rfl, asrt_pos (by decide)]
  rfl
theorem play_L1 : clan_Play_v1_L1 [⟨0, 0, 0⟩, ⟨1, 0, 0⟩] ([cb0], [], [[97]], 0) = some (⟨[cb2], []⟩, ⟨0, 0⟩) := by
  refine (loopO_inl (y := ([cb1], [], [[97]], 1)) ?_).trans ?_
  · unfold clan_Play_v1_B1
    rw [if_pos (by decide), asrt_pos (by decide)]
    show ob (clan_game_does_v1 ⟨0, 0, 0⟩ [[97]] [cb0] []) _ = _
    rw [does0, ob_some]; rfl
  refine (loopO_inl (y := ([cb2], [], [], 2)) ?_).trans ?_
  · unfold clan_Play_v1_B1
    rw [if_pos (by decide), asrt_pos (by decide)]
    show ob (clan_game_does_v1 ⟨1, 0, 0⟩ [[97]] [cb1] []) _ = _
    rw [does1, ob_some]; rfl
  refine loopO_inr ?_
  unfold clan_Play_v1_B1
  rw [if_neg (by decide)]
  show inrO (clan_Play_v1_J2 ([cb2], [], [])) = _
  unfold clan_Play_v1_J2
  show inrO (ob (clan_own []) _) = _
  rw [own_nil]
  rfl
theorem play_eq : clan_Play_v1 1 [[97]] [⟨0, 0, 0⟩, ⟨1, 0, 0⟩] = some (⟨[cb2], []⟩, ⟨0, 0⟩) := by
  unfold clan_Play_v1
  rw [if_neg (by decide), if_neg (by decide), if_neg (by decide)]
  refine (loopO_inl (y := ([cb0], 1)) ?_).trans ?_
  · unfold clan_Play_v1_B2
    rw [if_pos (by decide), asrt_pos (by decide)]
    rfl
  refine loopO_inr ?_
  unfold clan_Play_v1_B2
  rw [if_neg (by decide)]
  show inrO (clan_Play_v1_J1 [[97]] [⟨0, 0, 0⟩, ⟨1, 0, 0⟩] [cb0]) = _
  unfold clan_Play_v1_J1
  rw [play_L1]; rfl
theorem clanBegun_eq : law_clanBegun = some true := by
  unfold law_clanBegun
  rw [play_eq, ob_some]
  have hs : ∀ n ∈ [cb2], Small n := by
    intro n hn
    rw [List.mem_singleton.1 hn]
    exact ⟨by decide, by decide, by decide, by decide⟩
  have f3 : (nodeF cb2).Code = 0 := by decide
  rcases good_eq ⟨[cb2], []⟩ (by decide) hs with ⟨j, h1, h2, _, _⟩ | ⟨_, h⟩
  · exfalso
    have : j = 0 := by simp at h1; exact h1
    subst this
    exact h2 f3
  · show ob (clan_Good_v1 ⟨[cb2], []⟩) _ = _
    rw [h, ob_some]
    have ht : tx (best [cb2] 1) = [[97]] := by decide
    show ob (if _ then R_SameTexts (tx (best [cb2] 1)) [[97]] else _) _ = _
    rw [if_pos (by decide), ht, texts_self _ (by decide)]
    rfl
theorem vast_small {x : Node} (c : ¬ law_vastNode x = true) : Small x := by
  unfold law_vastNode law_vastLog at c
  dsimp only [lt] at c
  simp only [Bool.or_eq_true, decide_eq_true_eq, not_or] at c
  exact ⟨by omega, by omega, by omega, by omega⟩
theorem J1_eq (c : Clan) (hs : ∀ n ∈ c.Nodes, Small n) : law_ClanGood_J1 c () = some true := by
  unfold law_ClanGood_J1
  by_cases h7 : 7 < c.Nodes.length
  · have hg : clan_Good_v1 c = some ([], ⟨2, -1⟩) := by
      unfold clan_Good_v1
      rw [if_pos (d_t (by omega))]; rfl
    rw [hg, ob_some, if_pos (d_t (by omega))]
    show law_ClanGood_L3 c ([], ⟨2, -1⟩) (⟨2, -1⟩, 0) = _
    exact L3_end c _ _ _ (by rintro ⟨_, h⟩; revert h; decide) (J2_bad c _ rfl (by decide))
  · have hg := good_eq c (by omega) hs
    have hd : decide (7 < (c.Nodes.length : Int)) = false := decide_eq_false (by omega)
    rcases hg with ⟨j, h1, h2, h3, hg⟩ | ⟨h1, hg⟩
    · rw [hg, ob_some, hd]
      show law_ClanGood_L3 c _ (⟨0, 0⟩, 0) = _
      refine (loop_upto (step := fun y => law_ClanGood_B3 c _ y) (j + 1) (fun k => ((if k ≤ j then ⟨0, 0⟩ else ⟨(nodeF (lget c.Nodes (j : Int))).Code, j⟩ : Fault), (k : Int))) (fun k hk => ?_)).trans ?_
      · show law_ClanGood_B3 c _ ((if k ≤ j then ⟨0, 0⟩ else _ : Fault), (k : Int)) = some (.inl ((if k + 1 ≤ j then ⟨0, 0⟩ else _ : Fault), _))
        rw [if_pos (by omega), L3_step c _ hs (by omega) k (by omega)]
        by_cases e : k = j
        · subst e
          rw [if_neg h2, if_neg (by omega)]
        · rw [if_pos (h3 k (by omega)), if_pos (by omega)]
      · show law_ClanGood_L3 c _ ((if j + 1 ≤ j then ⟨0, 0⟩ else _ : Fault), ((j + 1 : Nat) : Int)) = _
        rw [if_neg (by omega)]
        exact L3_end c _ _ _ (fun h => h2 h.2) (J2_bad c ([], _) rfl h2)
    · rw [hg, ob_some, hd]
      show law_ClanGood_L3 c _ (⟨0, 0⟩, 0) = _
      refine (loop_upto (step := fun y => law_ClanGood_B3 c _ y) c.Nodes.length (fun k => (⟨0, 0⟩, (k : Int))) (fun k hk => ?_)).trans ?_
      · rw [L3_step c _ hs (by omega) k hk, if_pos (h1 k hk)]
      · refine L3_end c _ _ _ (by omega) ?_
        exact L2_ok c (tx _, ⟨0, 0⟩) (by omega) rfl (fun n hn => by
          obtain ⟨k, hk, e⟩ := mem_lget.1 hn
          rw [← e]; exact nodeF_good.1 (h1 k hk)) rfl
theorem ClanGood_eq (c : Clan) (hl : c.Nodes.length ≤ 1000000000000) : law_ClanGood c = some true := by
  unfold law_ClanGood
  rw [clanBegun_eq, ob_some, if_neg (by decide)]
  by_cases hall : ∀ k : Nat, k < c.Nodes.length → ¬ law_vastNode (lget c.Nodes (k : Int)) = true
  · have hs : ∀ n ∈ c.Nodes, Small n := fun n hn => by
      obtain ⟨k, hk, e⟩ := mem_lget.1 hn
      rw [← e]; exact vast_small (hall k hk)
    refine loop_run (step := fun y => law_ClanGood_B4 c y) c.Nodes.length (fun k => (k : Int)) (fun k hk => ?_) ?_
    · have hw : w64 ((k : Int) + 1) = ((k + 1 : Nat) : Int) := by rw [w64_id (by omega) (by omega)]; omega
      show law_ClanGood_B4 c (k : Int) = _
      unfold law_ClanGood_B4
      rw [if_pos (d_t (by omega)), asrt_pos (by omega)]
      dsimp only [lt]
      rw [node_eta, if_neg (hall k hk), hw]
    · show law_ClanGood_B4 c (c.Nodes.length : Int) = _
      unfold law_ClanGood_B4
      rw [if_neg (d_f (by omega)), J1_eq c hs]; rfl
  · obtain ⟨j, h1, h2, h3⟩ := first_bad _ _ hall
    refine loop_run (step := fun y => law_ClanGood_B4 c y) j (fun k => (k : Int)) (fun k hk => ?_) ?_
    · have hw : w64 ((k : Int) + 1) = ((k + 1 : Nat) : Int) := by rw [w64_id (by omega) (by omega)]; omega
      show law_ClanGood_B4 c (k : Int) = _
      unfold law_ClanGood_B4
      rw [if_pos (d_t (by omega)), asrt_pos (by omega)]
      dsimp only [lt]
      rw [node_eta, if_neg (h3 k hk), hw]
    · show law_ClanGood_B4 c (j : Int) = _
      unfold law_ClanGood_B4
      rw [if_pos (d_t (by omega)), asrt_pos (by omega)]
      dsimp only [lt]
      rw [node_eta, if_pos (Decidable.not_not.1 h2)]
end G
end Go.Proofs.Ytcnngkigpfpalaa
