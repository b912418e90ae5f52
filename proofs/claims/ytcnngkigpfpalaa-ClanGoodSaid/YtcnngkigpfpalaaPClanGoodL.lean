/- The law ClanGood. -/
import Derived.Test.YtcnngkigpfpalaaPClanGood
namespace Go.Proofs.Ytcnngkigpfpalaa
open Go Go.Dm
set_option linter.unusedVariables false
set_option linter.unusedSimpArgs false
namespace G
theorem texts_self (l : List (List UInt8)) (h : l.length ≤ 1000000) : R_SameTexts l l = some true := by
  unfold R_SameTexts
  rw [if_neg (by simp)]
  refine loop_run (step := fun y => R_SameTexts_B1 l l y) l.length (fun k => (k : Int)) (fun k hk => ?_) ?_
  · have hw : w64 ((k : Int) + 1) = ((k + 1 : Nat) : Int) := by rw [w64_id (by omega) (by omega)]; omega
    show R_SameTexts_B1 l l (k : Int) = _
    unfold R_SameTexts_B1
    rw [if_pos (d_t (by omega)), asrt_pos (by omega), asrt_pos (by omega), if_neg (by simp), hw]
  · show R_SameTexts_B1 l l (l.length : Int) = _
    unfold R_SameTexts_B1
    rw [if_neg (d_f (by omega))]; rfl
/-- nobody is best -/
theorem L1_none (c : Clan) (x1 : List (List UInt8) × Fault) (v3 : Int) (hv : v3 < 0) (hx : x1.1 = []) : law_ClanGood_L1 c x1 v3 ([], 0) = some true := by
  refine loopO_inr ?_
  unfold law_ClanGood_B1
  dsimp only
  have h0 : decide (0 ≤ v3) = false := decide_eq_false (by omega)
  rw [h0, asrt_pos (fun h => by cases h), Bool.false_and, if_neg (by decide)]
  unfold law_ClanGood_J4
  rw [hx, texts_self [] (by simp)]; rfl
theorem L1_some (c : Clan) (x1 : List (List UInt8) × Fault) (v3 : Int) (hv : 0 ≤ v3 ∧ v3 < (c.Nodes.length : Int)) (hc : 0 ≤ (lget c.Nodes v3).Commit ∧ (lget c.Nodes v3).Commit ≤ ((lget c.Nodes v3).Log.length : Int)) (hl : (lget c.Nodes v3).Log.length ≤ 1000) (hx : x1.1 = tx (lget c.Nodes v3)) : law_ClanGood_L1 c x1 v3 ([], 0) = some true := by
  have h0 : decide (0 ≤ v3) = true := d_t hv.1
  have := loop_run (step := fun y => law_ClanGood_B1 c x1 v3 y) (lget c.Nodes v3).Commit.toNat (fun k => ((((lget c.Nodes v3).Log.take k).map (fun e => e.Text)), (k : Int))) (r := true)
    (fun k hk => by
      have hw : w64 ((k : Int) + 1) = ((k + 1 : Nat) : Int) := by rw [w64_id (by omega) (by omega)]; omega
      show law_ClanGood_B1 c x1 v3 (_, (k : Int)) = _
      unfold law_ClanGood_B1
      dsimp only
      rw [h0, asrt_pos (fun _ => hv), Bool.true_and, if_pos (d_t (by omega)), asrt_pos hv, asrt_pos (by omega), asrt_pos (by rw [List.length_append, List.length_singleton, List.length_map, List.length_take]; omega), hw, lget_take (lget c.Nodes v3).Log k (by omega), List.map_append]
      rfl)
    (by
      show law_ClanGood_B1 c x1 v3 (_, (((lget c.Nodes v3).Commit.toNat : Nat) : Int)) = _
      unfold law_ClanGood_B1
      dsimp only
      rw [h0, asrt_pos (fun _ => hv), Bool.true_and, if_neg (d_f (by omega))]
      unfold law_ClanGood_J4
      have e : ((lget c.Nodes v3).Log.take (lget c.Nodes v3).Commit.toNat).map (fun e => e.Text) = tx (lget c.Nodes v3) := rfl
      rw [hx, e, texts_self _ (by have := tx_len (lget c.Nodes v3); omega)]; rfl)
  exact this
theorem J2_bad (c : Clan) (x1 : List (List UInt8) × Fault) (hx : x1.1 = []) (hz : x1.2.Code ≠ 0) : law_ClanGood_J2 c x1 x1.2 = some true := by
  unfold law_ClanGood_J2
  rw [if_neg (by simp)]
  refine loopO_inr ?_
  unfold law_ClanGood_B2
  dsimp only
  have h0 : decide (x1.2.Code = 0) = false := decide_eq_false hz
  rw [h0, Bool.and_false, if_neg (by decide)]
  unfold law_ClanGood_J3
  rw [L1_none c x1 (-1) (by omega) hx]; rfl
theorem L2_ok (c : Clan) (x1 : List (List UInt8) × Fault) (hl : c.Nodes.length ≤ 7) (hz : x1.2 = ⟨0, 0⟩) (hg : ∀ n ∈ c.Nodes, NGood n) (hx : x1.1 = tx (best c.Nodes c.Nodes.length)) : law_ClanGood_J2 c x1 x1.2 = some true := by
  have hcm : ∀ n ∈ c.Nodes, 0 ≤ n.Commit := fun n hn => (hg n hn).c0
  unfold law_ClanGood_J2
  rw [if_neg (by simp), hz]
  refine loop_run (step := fun y => law_ClanGood_B2 c x1 ⟨0, 0⟩ y) c.Nodes.length (fun k => (bestI c.Nodes k, (k : Int))) (fun k hk => ?_) ?_
  · have hw : w64 ((k : Int) + 1) = ((k + 1 : Nat) : Int) := by rw [w64_id (by omega) (by omega)]; omega
    have hr := best_rel c.Nodes hcm k (by omega)
    have hb : bestI c.Nodes k < (c.Nodes.length : Int) := by rcases hr with h | h <;> omega
    show law_ClanGood_B2 c x1 ⟨0, 0⟩ (bestI c.Nodes k, (k : Int)) = _
    unfold law_ClanGood_B2
    dsimp only
    rw [if_pos (an_t ⟨by omega, rfl⟩), asrt_pos (fun _ => by omega), asrt_pos (fun h => by
      simp only [Bool.not_eq_true', decide_eq_false_iff_not] at h; omega), bestI, hw]
    by_cases g : bestI c.Nodes k < 0 ∨ (lget c.Nodes (bestI c.Nodes k)).Commit < (lget c.Nodes (k : Int)).Commit
    · rw [if_pos (or_t g), ob_some, if_pos g]
    · rw [if_neg (or_f g), ob_some, if_neg g]
  · show law_ClanGood_B2 c x1 ⟨0, 0⟩ (bestI c.Nodes c.Nodes.length, (c.Nodes.length : Int)) = _
    unfold law_ClanGood_B2
    dsimp only
    rw [if_neg (an_f (fun h => by omega))]
    unfold law_ClanGood_J3
    have hr := best_rel c.Nodes hcm c.Nodes.length (Nat.le_refl _)
    rcases hr with ⟨h1, h2⟩ | ⟨h1, h2, h3⟩
    · rw [L1_none c x1 _ h1 (by rw [hx, h2]; rfl)]; rfl
    · have hn := hg _ (lget_mem c.Nodes (bestI c.Nodes c.Nodes.length) (by omega))
      rw [L1_some c x1 _ ⟨h1, h2⟩ ⟨hn.c0, hn.cl⟩ (by have := hn.len; omega) (by
        rcases h3 with h3 | ⟨h3, h4⟩
        · rw [hx, h3]
        · rw [hx, h3]; unfold tx; rw [h4]; rfl)]; rfl
theorem L3_end (c : Clan) (x1 : List (List UInt8) × Fault) (f : Fault) (k : Int) (h : ¬ (k < (c.Nodes.length : Int) ∧ f.Code = 0)) (hJ : law_ClanGood_J2 c x1 f = some true) : law_ClanGood_L3 c x1 (f, k) = some true := by
  refine loopO_inr ?_
  unfold law_ClanGood_B3
  dsimp only
  rw [if_neg (an_f h), hJ]; rfl
theorem L3_step (c : Clan) (x1 : List (List UInt8) × Fault) (hs : ∀ n ∈ c.Nodes, Small n) (hl : c.Nodes.length ≤ 7) (k : Nat) (hk : k < c.Nodes.length) : law_ClanGood_B3 c x1 (⟨0, 0⟩, (k : Int)) = some (.inl ((if (nodeF (lget c.Nodes (k : Int))).Code = 0 then ⟨0, 0⟩ else ⟨(nodeF (lget c.Nodes (k : Int))).Code, k⟩), ((k + 1 : Nat) : Int))) := by
  have hw : w64 ((k : Int) + 1) = ((k + 1 : Nat) : Int) := by rw [w64_id (by omega) (by omega)]; omega
  have hc := (hs _ (lget_mem c.Nodes (k : Int) (by omega)))
  have hr := rnode_eq _ hc.v hc.l
  unfold law_ClanGood_B3
  dsimp only
  rw [if_pos (an_t ⟨by omega, rfl⟩), asrt_pos (by omega), node_eta, hr, ob_some, hw]
  by_cases g : (nodeF (lget c.Nodes (k : Int))).Code = 0
  · rw [if_neg (n_f g), ob_some, if_pos g]
  · rw [if_pos (n_t g), asrt_pos (by omega), ob_some, if_neg g]; rfl
end G
end Go.Proofs.Ytcnngkigpfpalaa
