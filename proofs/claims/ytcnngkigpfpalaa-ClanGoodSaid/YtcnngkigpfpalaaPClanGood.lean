/- Good refuses what is no clan (ClanGood's print, NEW=1). -/
import Derived.Test.YtcnngkigpfpalaaPRaftVG
namespace Go.Proofs.Ytcnngkigpfpalaa
open Go Go.Dm
set_option linter.unusedVariables false
set_option linter.unusedSimpArgs false
namespace G
theorem node_eta (x : Node) : (⟨x.N, x.ID, x.Term, x.Vote, x.Log, x.Role, x.Commit, x.Votes, x.Next, x.Have⟩ : Node) = x := rfl
def tx (n : Node) : List (List UInt8) := (n.Log.take n.Commit.toNat).map (fun e => e.Text)
/-- the program's best of the first ones -/
def best (l : List Node) : Nat → Node
  | 0 => nE
  | k + 1 => if (best l k).Commit < (lget l (k : Int)).Commit then lget l (k : Int) else best l k
/-- the document's -/
def bestI (l : List Node) : Nat → Int
  | 0 => -1
  | k + 1 => if bestI l k < 0 ∨ (lget l (bestI l k)).Commit < (lget l (k : Int)).Commit then (k : Int) else bestI l k
theorem best_rel (l : List Node) (hg : ∀ n ∈ l, 0 ≤ n.Commit) : ∀ k, k ≤ l.length → (bestI l k < 0 ∧ best l k = nE) ∨ (0 ≤ bestI l k ∧ bestI l k < (k : Int) ∧ (best l k = lget l (bestI l k) ∨ (best l k = nE ∧ (lget l (bestI l k)).Commit = 0)))
  | 0, _ => .inl ⟨by show (-1 : Int) < 0; omega, rfl⟩
  | k + 1, hk => by
    have ih := best_rel l hg k (by omega)
    have hc := hg _ (lget_mem l (k : Int) (by omega))
    have hnE : nE.Commit = 0 := rfl
    rw [best, bestI]
    rcases ih with ⟨h1, h2⟩ | ⟨h1, h2, h3⟩
    · rw [if_pos (.inl h1), h2, hnE]
      right
      refine ⟨by omega, by omega, ?_⟩
      by_cases c : 0 < (lget l (k : Int)).Commit
      · rw [if_pos c]; exact .inl rfl
      · rw [if_neg c]; exact .inr ⟨rfl, by omega⟩
    · have hcm : (best l k).Commit = (lget l (bestI l k)).Commit := by
        rcases h3 with h3 | ⟨h3, h4⟩
        · rw [h3]
        · rw [h3, h4]; rfl
      right
      by_cases c : (lget l (bestI l k)).Commit < (lget l (k : Int)).Commit
      · rw [if_pos (.inr c), if_pos (by rw [hcm]; exact c)]
        exact ⟨by omega, by omega, .inl rfl⟩
      · rw [if_neg (by rintro (g | g); omega; exact c g), if_neg (by rw [hcm]; exact c)]
        exact ⟨h1, by omega, h3⟩
theorem tx_len (n : Node) : (tx n).length ≤ n.Log.length := by unfold tx; rw [List.length_map, List.length_take]; omega
theorem goodJ1_eq (v : Node) (hc : 0 ≤ v.Commit ∧ v.Commit ≤ (v.Log.length : Int)) (hl : v.Log.length ≤ 1000) : clan_Good_v1_J1 v = some (tx v, ⟨0, 0⟩) := by
  unfold clan_Good_v1_J1
  rw [asrt_pos hc]
  have hL : (ltake v.Log v.Commit).length = v.Commit.toNat := by unfold ltake; rw [List.length_take]; omega
  have := loop_run (step := fun y => clan_Good_v1_B1 v y) v.Commit.toNat (fun k => (((v.Log.take k).map (fun e => e.Text)), (k : Int))) (r := (tx v, ⟨0, 0⟩))
    (fun k hk => by
      have hw : w64 ((k : Int) + 1) = ((k + 1 : Nat) : Int) := by rw [w64_id (by omega) (by omega)]; omega
      have hg := lget_ltake v.Log v.Commit (k : Int) (by omega)
      show clan_Good_v1_B1 v (_, (k : Int)) = _
      unfold clan_Good_v1_B1
      dsimp only
      rw [hL, if_pos (d_t (by omega)), asrt_pos (by omega), hg, asrt_pos (by rw [List.length_append, List.length_singleton, List.length_map, List.length_take]; omega), hw, lget_take v.Log k (by omega), List.map_append]
      rfl)
    (by
      show clan_Good_v1_B1 v (_, ((v.Commit.toNat : Nat) : Int)) = _
      unfold clan_Good_v1_B1
      dsimp only
      rw [hL, if_neg (d_f (by omega))]; rfl)
  exact this
theorem best_good (l : List Node) (k : Nat) (hk : k ≤ l.length) : best l k = nE ∨ best l k ∈ l := by
  induction k with
  | zero => exact .inl rfl
  | succ k ih =>
    rw [best]
    split
    · exact .inr (lget_mem l (k : Int) (by omega))
    · exact ih (by omega)
theorem first_bad (p : Nat → Prop) : ∀ n, (¬ ∀ j, j < n → p j) → ∃ j, j < n ∧ ¬ p j ∧ ∀ i, i < j → p i
  | 0, h => absurd (fun j hj => by omega) h
  | n + 1, h => by
    by_cases c : ∀ j, j < n → p j
    · refine ⟨n, by omega, fun hp => h (fun j hj => ?_), c⟩
      by_cases e : j = n
      · rw [e]; exact hp
      · exact c j (by omega)
    · obtain ⟨j, h1, h2, h3⟩ := first_bad p n c
      exact ⟨j, by omega, h2, h3⟩
theorem good_eq (c : Clan) (h7 : c.Nodes.length ≤ 7) (hs : ∀ n ∈ c.Nodes, Small n) :
    (∃ j, j < c.Nodes.length ∧ ¬ (nodeF (lget c.Nodes (j : Int))).Code = 0 ∧ (∀ i, i < j → (nodeF (lget c.Nodes (i : Int))).Code = 0) ∧ clan_Good_v1 c = some ([], ⟨(nodeF (lget c.Nodes (j : Int))).Code, j⟩)) ∨
    ((∀ j, j < c.Nodes.length → (nodeF (lget c.Nodes (j : Int))).Code = 0) ∧ clan_Good_v1 c = some (tx (best c.Nodes c.Nodes.length), ⟨0, 0⟩)) := by
  have hchk : ∀ k : Nat, k < c.Nodes.length → raft_Check (lget c.Nodes (k : Int)) = some (nodeF (lget c.Nodes (k : Int))) := fun k hk => (hs _ (lget_mem c.Nodes (k : Int) (by omega))).check
  have stp : ∀ k : Nat, k < c.Nodes.length → (nodeF (lget c.Nodes (k : Int))).Code = 0 → clan_Good_v1_B2 c (best c.Nodes k, (k : Int)) = some (.inl (best c.Nodes (k + 1), ((k + 1 : Nat) : Int))) := by
    intro k hk hz
    have hw : w64 ((k : Int) + 1) = ((k + 1 : Nat) : Int) := by rw [w64_id (by omega) (by omega)]; omega
    unfold clan_Good_v1_B2
    dsimp only
    rw [if_pos (d_t (by omega)), asrt_pos (by omega), node_eta, hchk k hk, ob_some, if_neg (n_f hz), best, hw]
    by_cases g : (best c.Nodes k).Commit < (lget c.Nodes (k : Int)).Commit
    · rw [if_pos (d_t g), ob_some, if_pos g]
    · rw [if_neg (d_f g), ob_some, if_neg g]
  by_cases hall : ∀ j, j < c.Nodes.length → (nodeF (lget c.Nodes (j : Int))).Code = 0
  · refine .inr ⟨hall, ?_⟩
    unfold clan_Good_v1
    rw [if_neg (d_f (by omega))]
    refine loop_run (step := fun y => clan_Good_v1_B2 c y) c.Nodes.length (fun k => (best c.Nodes k, (k : Int))) (fun k hk => stp k hk (hall k hk)) ?_
    show clan_Good_v1_B2 c (best c.Nodes c.Nodes.length, (c.Nodes.length : Int)) = _
    unfold clan_Good_v1_B2
    dsimp only
    rw [if_neg (d_f (by omega))]
    have hb : clan_Good_v1_J1 (best c.Nodes c.Nodes.length) = some (tx (best c.Nodes c.Nodes.length), ⟨0, 0⟩) := by
      rcases best_good c.Nodes c.Nodes.length (Nat.le_refl _) with h | h
      · rw [h]; exact goodJ1_eq nE (by simp [nE]) (by simp [nE])
      · obtain ⟨k, hk, e⟩ := mem_lget.1 h
        have hg := nodeF_good.1 (hall k hk)
        rw [← e]
        exact goodJ1_eq _ ⟨hg.c0, hg.cl⟩ (by have := hg.len; omega)
    rw [hb]; rfl
  · obtain ⟨j, h1, h2, h3⟩ := first_bad _ _ hall
    refine .inl ⟨j, h1, h2, h3, ?_⟩
    unfold clan_Good_v1
    rw [if_neg (d_f (by omega))]
    refine loop_run (step := fun y => clan_Good_v1_B2 c y) j (fun k => (best c.Nodes k, (k : Int))) (fun k hk => stp k (by omega) (h3 k hk)) ?_
    show clan_Good_v1_B2 c (best c.Nodes j, (j : Int)) = _
    unfold clan_Good_v1_B2
    dsimp only
    rw [if_pos (d_t (by omega)), asrt_pos (by omega), node_eta, hchk j h1, ob_some, if_pos (n_t h2)]; rfl
end G
end Go.Proofs.Ytcnngkigpfpalaa
