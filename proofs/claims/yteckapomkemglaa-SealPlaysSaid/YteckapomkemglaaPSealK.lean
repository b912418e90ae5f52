/- The document's play is the program's; a vault is as it is itself. -/
import Derived.Test.YteckapomkemglaaPSealJ
import Derived.Test.YteckapomkemglaaPSealAgrees
import Derived.Test.YteckapomkemglaaPSealDoes
namespace Go.Proofs.Yteckapomkemglaa
open Go Go.Dm
set_option linter.unusedVariables false
set_option linter.unusedSimpArgs false
set_option linter.unusedSectionVars false
namespace G
theorem h20_step {recs : List (List UInt8)} {v : Vault} {d : Deed} (h : v.Heals.length ≤ 20) : (stepS recs v d).2.Heals.length ≤ 20 := by
  unfold stepS
  split
  · exact h
  split
  · exact h
  split
  · exact h
  split
  · unfold st0; split <;> exact h
  split
  · unfold st1; split
    · exact h
    · split <;> exact h
  split
  · unfold st2; split
    · exact h
    · split
      · exact h
      · split
        · exact h
        · show (v.Heals ++ [_]).length ≤ 20
          rw [List.length_append, List.length_singleton]; omega
  split
  · unfold st3; dsimp only; split
    · show (if _ then _ else _ : List Heal).length ≤ 20
      split
      · rw [lset_length]; exact h
      · exact h
    · exact h
  split
  · unfold st4; dsimp only; split
    · show (lset _ _ _).length ≤ 20
      rw [lset_length]; exact h
    · exact h
  · unfold st5; dsimp only; split
    · exact h
    · split
      · show (lset _ _ _).length ≤ 20
        rw [lset_length]; exact h
      · exact h
theorem h20_all {recs : List (List UInt8)} {deeds : List Deed} {n : Int} : ∀ k : Nat, (vS recs deeds (vN n) k).Heals.length ≤ 20
  | 0 => Nat.zero_le _
  | k + 1 => h20_step (h20_all k)
theorem vaults_eq (n : Int) (recs : List (List UInt8)) (deeds : List Deed) (hr : recs.length ≤ 1000000) : R_Vaults n recs deeds = some (playS n recs deeds) := by
  unfold R_Vaults playS
  simp only [lt, R_F]
  rw [tooLong_eq _ hr, ob_some]
  by_cases h1 : n < 1 ∨ 7 < n
  · rw [if_pos (by simpa using h1), if_pos h1]; rfl
  rw [if_neg (by simpa using h1), if_neg h1]
  by_cases h2 : 2000 < (deeds.length : Int)
  · rw [if_pos (d_t h2), if_pos h2]; rfl
  rw [if_neg (d_f h2), if_neg h2]
  by_cases h3 : 100 < (recs.length : Int)
  · rw [if_pos (d_t h3), if_pos h3]; rfl
  rw [if_neg (d_f h3), if_neg h3]
  by_cases h4 : 0 ≤ longS recs
  · rw [if_pos (d_t h4), if_pos h4]; rfl
  rw [if_neg (d_f h4), if_neg h4, asrt_pos (by omega)]
  unfold R_Vaults_L1
  refine loop_firstG (step := fun y => R_Vaults_B1 recs deeds y) (fun k => ((vS recs deeds (vN n) k).Copies, (vS recs deeds (vN n) k).Wrote, (vS recs deeds (vN n) k).Took, (vS recs deeds (vN n) k).Heals, (k : Int))) (pbad recs deeds (vN n)) (vS recs deeds (vN n) deeds.length, F0) deeds.length (fun k hk => ?_) ?_
  · have hw : w64 ((k : Int) + 1) = ((k + 1 : Nat) : Int) := by rw [w64_id (by omega) (by omega)]; omega
    obtain ⟨hv, hwr⟩ := vb_all (recs := recs) (deeds := deeds) (vb_0 (n := n) (by omega)) (by simp [vN]) k
    show R_Vaults_B1 recs deeds _ = _
    unfold R_Vaults_B1 pbad
    dsimp only
    rw [if_pos (d_t (by omega)), asrt_pos (by omega), show (⟨(lget deeds (k : Int)).Kind, (lget deeds (k : Int)).Who, (lget deeds (k : Int)).N⟩ : Deed) = lget deeds (k : Int) from rfl,
      show (⟨(vS recs deeds (vN n) k).Copies, (vS recs deeds (vN n) k).Wrote, (vS recs deeds (vN n) k).Took, (vS recs deeds (vN n) k).Heals⟩ : Vault) = vS recs deeds (vN n) k from rfl,
      vstep_eq hv (by omega) (by omega) hwr (h20_all k)]
    unfold sw
    rw [ob_some]
    dsimp only [lt, R_F]
    by_cases c : (stepS recs (vS recs deeds (vN n) k) (lget deeds (k : Int))).1 = 0
    · simp [c, nx, hw, vS]
    · simp [c, nx, V0]
  · show R_Vaults_B1 recs deeds _ = _
    unfold R_Vaults_B1
    dsimp only
    rw [if_neg (d_f (by omega))]; rfl
/-- a play's answer as it is handed back -/
def tup (p : Vault × Fault) : List Copy × List (List UInt8) × List (List Int) × List Heal × Fault := (p.1.Copies, p.1.Wrote, p.1.Took, p.1.Heals, p.2)
theorem firstFrom_map {ρ σ : Type} (g : ρ → σ) (f : Nat → Option ρ) (r : ρ) : ∀ m k : Nat, firstFrom (fun k => (f k).map g) (g r) k m = g (firstFrom f r k m)
  | 0, _ => rfl
  | m + 1, k => by
    rw [firstFrom, firstFrom, firstFrom_map g f r m (k + 1)]
    cases f k <;> rfl
theorem play_eq (n : Int) (recs : List (List UInt8)) (deeds : List Deed) (hr : recs.length ≤ 1000000) : seal_Play n recs deeds = some (tup (playS n recs deeds)) := by
  unfold seal_Play playS
  simp only [lt, seal_fault]
  rw [long_eq _ hr, ob_some]
  by_cases h1 : n < 1 ∨ 7 < n
  · rw [if_pos (by simpa using h1), if_pos h1]; rfl
  rw [if_neg (by simpa using h1), if_neg h1]
  by_cases h2 : 2000 < (deeds.length : Int)
  · rw [if_pos (d_t h2), if_pos h2]; rfl
  rw [if_neg (d_f h2), if_neg h2]
  by_cases h3 : 100 < (recs.length : Int)
  · rw [if_pos (d_t h3), if_pos h3]; rfl
  rw [if_neg (d_f h3), if_neg h3]
  by_cases h4 : 0 ≤ longS recs
  · rw [if_pos (d_t h4), if_pos h4]; rfl
  rw [if_neg (d_f h4), if_neg h4, asrt_pos (by omega)]
  unfold seal_Play_L1
  rw [← firstFrom_map tup]
  refine loop_firstG (step := fun y => seal_Play_B1 deeds y) (fun k => ((vS recs deeds (vN n) k).Copies, (vS recs deeds (vN n) k).Wrote, (vS recs deeds (vN n) k).Took, (vS recs deeds (vN n) k).Heals, recs, (k : Int))) _ _ deeds.length (fun k hk => ?_) ?_
  · have hw : w64 ((k : Int) + 1) = ((k + 1 : Nat) : Int) := by rw [w64_id (by omega) (by omega)]; omega
    obtain ⟨hv, hwr⟩ := vb_all (recs := recs) (deeds := deeds) (vb_0 (n := n) (by omega)) (by simp [vN]) k
    show seal_Play_B1 deeds _ = _
    unfold seal_Play_B1 pbad
    dsimp only
    rw [if_pos (d_t (by omega)), asrt_pos (by omega), show (⟨(lget deeds (k : Int)).Kind, (lget deeds (k : Int)).Who, (lget deeds (k : Int)).N⟩ : Deed) = lget deeds (k : Int) from rfl,
      does1_eq hv (by omega) (by omega) hwr]
    unfold out
    rw [ob_some]
    dsimp only [lt, seal_fault]
    by_cases c : (stepS recs (vS recs deeds (vN n) k) (lget deeds (k : Int))).1 = 0
    · simp [c, nx, hw, vS]
    · simp [c, nx, V0, tup]
  · show seal_Play_B1 deeds _ = _
    unfold seal_Play_B1
    dsimp only
    rw [if_neg (d_f (by omega))]; rfl
theorem vb_V0 (m : Nat) : VB V0 m := ⟨rfl, Nat.zero_le _, fun t ht => (by cases ht), by decide, fun t ht => (by cases ht), Nat.zero_le _, fun t ht => (by cases ht)⟩
theorem VB.upto {v : Vault} {k m : Nat} (h : VB v k) (hk : k ≤ m) : VB v m := by
  have : ∀ j : Nat, VB v (k + j) := fun j => by
    induction j with
    | zero => exact h
    | succ j ih => exact ih.up
  have := this (m - k)
  rwa [show k + (m - k) = m by omega] at this
theorem play_vb (n : Int) (recs : List (List UInt8)) (deeds : List Deed) : VB (playS n recs deeds).1 2000 := by
  unfold playS
  split
  · exact vb_V0 _
  split
  · exact vb_V0 _
  split
  · exact vb_V0 _
  split
  · exact vb_V0 _
  · rename_i h1 h2 h3 h4
    rcases firstFrom_cases (pbad recs deeds (vN n)) (vS recs deeds (vN n) deeds.length, F0) deeds.length 0 with ⟨g1, g2⟩ | ⟨j, x, g1, g2, g3, g4, g5⟩
    · rw [g2]
      exact (vb_all (recs := recs) (deeds := deeds) (vb_0 (n := n) (by omega)) (by simp [vN]) deeds.length).1.upto (by omega)
    · rw [g5]
      unfold pbad at g3
      split at g3
      · cases g3; exact vb_V0 _
      · cases g3
theorem ints_self (l : List Int) (h : l.length ≤ 1000000) : R_Ints l l = some true := by
  unfold R_Ints R_Ints_L1
  rw [if_neg (by simp)]
  refine loop_count (step := fun y => R_Ints_B1 l l y) (fun k => (k : Int)) true l.length (fun k hk => ?_) ?_
  · have hw : w64 ((k : Int) + 1) = ((k + 1 : Nat) : Int) := by rw [w64_id (by omega) (by omega)]; omega
    show R_Ints_B1 l l (k : Int) = _
    unfold R_Ints_B1
    rw [if_pos (d_t (by omega)), asrt_pos (by omega), asrt_pos (by omega), if_neg (by simp), hw]
  · show R_Ints_B1 l l (l.length : Int) = _
    unfold R_Ints_B1
    rw [if_neg (d_f (by omega))]; rfl
section
variable {v : Vault} {m : Nat}
theorem sv_2 (hv : VB v m) (hm : m ≤ 100000) (i : Nat) (hi : i < v.Heals.length) : R_SameVault_L2 v v (i : Int) 0 = some (.inl ((i + 1 : Nat) : Int)) := by
  obtain ⟨g1, g2, g3, g4, g5⟩ := hv.hh _ (mem_at (l := v.Heals) (n := (i : Int)) (by omega))
  have h1 := hv.hl
  unfold R_SameVault_L2
  refine loop_count (step := fun y => R_SameVault_B2 v v (i : Int) y) (fun k => (k : Int)) _ (lget v.Heals (i : Int)).Said.length (fun k hk => ?_) ?_
  · have hw : w64 ((k : Int) + 1) = ((k + 1 : Nat) : Int) := by rw [w64_id (by omega) (by omega)]; omega
    have g6 := g5 _ (lget_mem hk)
    show R_SameVault_B2 v v (i : Int) (k : Int) = _
    unfold R_SameVault_B2
    rw [if_pos (d_t (by omega)), asrt_pos (by omega), asrt_pos (by omega), sameCopy_self _ (by show (lget (lget v.Heals (i : Int)).Said (k : Int)).Recs.length ≤ _; omega), ob_some, if_neg (by simp), hw]
  · show R_SameVault_B2 v v (i : Int) ((lget v.Heals (i : Int)).Said.length : Int) = _
    unfold R_SameVault_B2
    rw [if_neg (d_f (by omega))]
    unfold R_SameVault_J4
    rw [w64_id (by omega) (by omega)]; rfl
theorem sv_1 (hv : VB v m) (hm : m ≤ 100000) : R_SameVault_L1 v v 0 = some true := by
  have h1 := hv.hl
  unfold R_SameVault_L1
  refine loop_count (step := fun y => R_SameVault_B1 v v y) (fun k => (k : Int)) true v.Heals.length (fun k hk => ?_) ?_
  · obtain ⟨g1, g2, g3, g4, g5⟩ := hv.hh _ (mem_at (l := v.Heals) (n := (k : Int)) (by omega))
    show R_SameVault_B1 v v (k : Int) = _
    unfold R_SameVault_B1
    rw [if_pos (d_t (by omega)), asrt_pos (by omega), asrt_pos (by omega), if_pos (by simp), ints_self _ (by omega), ob_some, if_pos (by simp), ints_self _ (by omega), ob_some, if_pos (by simp), sameTexts_self _ (by omega), ob_some, if_neg (by simp)]
    exact sv_2 hv hm k hk
  · show R_SameVault_B1 v v (v.Heals.length : Int) = _
    unfold R_SameVault_B1
    rw [if_neg (d_f (by omega))]; rfl
theorem sv_3 (hv : VB v m) (hm : m ≤ 100000) : R_SameVault_L3 v v 0 = some true := by
  have h1 := hv.wr
  have h2 := hv.tk
  unfold R_SameVault_L3
  refine loop_count (step := fun y => R_SameVault_B3 v v y) (fun k => (k : Int)) true v.Took.length (fun k hk => ?_) ?_
  · have hw : w64 ((k : Int) + 1) = ((k + 1 : Nat) : Int) := by rw [w64_id (by omega) (by omega)]; omega
    have g1 := hv.tl _ (mem_at (l := v.Took) (n := (k : Int)) (by omega))
    show R_SameVault_B3 v v (k : Int) = _
    unfold R_SameVault_B3
    rw [if_pos (d_t (by omega)), asrt_pos (by omega), asrt_pos (by omega), ints_self _ (by omega), ob_some, if_neg (by simp), hw]
  · show R_SameVault_B3 v v (v.Took.length : Int) = _
    unfold R_SameVault_B3
    rw [if_neg (d_f (by omega))]
    unfold R_SameVault_J2
    rw [sv_1 hv hm]; rfl
theorem sameVault_self (hv : VB v m) (hm : m ≤ 100000) : R_SameVault v v = some true := by
  have h1 := hv.cn
  have h2 := hv.wr
  unfold R_SameVault R_SameVault_L4
  rw [if_pos (by simp), sameTexts_self _ (by omega), ob_some, if_neg (by simp)]
  refine loop_count (step := fun y => R_SameVault_B4 v v y) (fun k => (k : Int)) true v.Copies.length (fun k hk => ?_) ?_
  · have hw : w64 ((k : Int) + 1) = ((k + 1 : Nat) : Int) := by rw [w64_id (by omega) (by omega)]; omega
    have g1 := hv.cp _ (lget_mem hk)
    show R_SameVault_B4 v v (k : Int) = _
    unfold R_SameVault_B4
    rw [if_pos (d_t (by omega)), asrt_pos (by omega), asrt_pos (by omega), sameCopy_self _ (by show (lget v.Copies (k : Int)).Recs.length ≤ _; omega), ob_some, if_neg (by simp), hw]
  · show R_SameVault_B4 v v (v.Copies.length : Int) = _
    unfold R_SameVault_B4
    rw [if_neg (d_f (by omega))]
    unfold R_SameVault_J1
    rw [sv_3 hv hm]; rfl
end
end G
end Go.Proofs.Yteckapomkemglaa
