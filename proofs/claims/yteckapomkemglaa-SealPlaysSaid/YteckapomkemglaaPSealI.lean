/- A vault's play; what is sure; the example. -/
import Derived.Test.YteckapomkemglaaPSealH
namespace Go.Proofs.Yteckapomkemglaa
open Go Go.Dm
set_option linter.unusedVariables false
set_option linter.unusedSimpArgs false
namespace G
theorem sameTexts_loop (a b : List (List UInt8)) (hl : a.length = b.length) (hb : a.length ≤ 1000000) : ∀ (m k : Nat), a.length - k = m → k ≤ a.length → R_SameTexts_L1 a b (k : Int) = some (decide (a.drop k = b.drop k))
  | 0, k, e, hk => by
    have : k = a.length := by omega
    refine loopO_inr ?_
    simp only [R_SameTexts_B1]
    rw [if_neg (d_f (by omega))]
    have e1 : a.drop k = [] := List.drop_eq_nil_of_le (by omega)
    have e2 : b.drop k = [] := List.drop_eq_nil_of_le (by omega)
    simp [inrO, R_SameTexts_J1, e1, e2]
  | m + 1, k, e, hk => by
    have hw : w64 ((k : Int) + 1) = ((k + 1 : Nat) : Int) := by rw [w64_id (by omega) (by omega)]; omega
    have ih := sameTexts_loop a b hl hb m (k + 1) (by omega) (by omega)
    rw [lget_drop a k (by omega), lget_drop b k (by omega)]
    by_cases c : lget a (k : Int) = lget b (k : Int)
    · refine (loopO_inl (y := ((k + 1 : Nat) : Int)) ?_).trans (ih.trans (by simp [c]))
      simp only [R_SameTexts_B1]
      rw [if_pos (d_t (by omega)), asrt_pos (by omega), asrt_pos (by omega), if_neg (by simp [c]), hw]
    · refine loopO_inr ?_
      simp only [R_SameTexts_B1]
      rw [if_pos (d_t (by omega)), asrt_pos (by omega), asrt_pos (by omega), if_pos (by simp [c])]
      simp [c]
theorem sameTexts_eq (a b : List (List UInt8)) (hb : a.length ≤ 1000000) : R_SameTexts a b = some (decide (a = b)) := by
  unfold R_SameTexts
  by_cases c : a.length = b.length
  · rw [if_neg (by simp [c])]
    have := sameTexts_loop a b c hb a.length 0 (by omega) (by omega)
    simpa using this
  · rw [if_pos (by simp; omega)]
    have : a ≠ b := fun h => c (by rw [h])
    simp [this]
def V0 : Vault := ⟨[], [], [], []⟩
def vN (n : Int) : Vault := ⟨List.replicate n.toNat ⟨0, false, [], 0⟩, [], [], []⟩
/-- the vault behind the first so many deeds -/
def vS (recs : List (List UInt8)) (deeds : List Deed) (v0 : Vault) : Nat → Vault
  | 0 => v0
  | k + 1 => (stepS recs (vS recs deeds v0 k) (lget deeds (k : Int))).2
def pbad (recs : List (List UInt8)) (deeds : List Deed) (v0 : Vault) (k : Nat) : Option (Vault × Fault) :=
  if (stepS recs (vS recs deeds v0 k) (lget deeds (k : Int))).1 ≠ 0 then some (V0, ⟨(stepS recs (vS recs deeds v0 k) (lget deeds (k : Int))).1, (k : Int)⟩) else none
def playS (n : Int) (recs : List (List UInt8)) (deeds : List Deed) : Vault × Fault :=
  if n < 1 ∨ 7 < n then (V0, ⟨3, -1⟩)
  else if 2000 < (deeds.length : Int) then (V0, ⟨2, -1⟩)
  else if 100 < (recs.length : Int) then (V0, ⟨2, -2⟩)
  else if 0 ≤ longS recs then (V0, ⟨8, -2⟩)
  else firstFrom (pbad recs deeds (vN n)) (vS recs deeds (vN n) deeds.length, F0) 0 deeds.length
theorem vb_0 {n : Int} (h : n ≤ 7) : VB (vN n) 0 := by
  refine ⟨rfl, Nat.le_refl _, fun t ht => by simp [vN] at ht, by simp [vN]; omega, fun c hc => ?_, Nat.le_refl _, fun h hh => by simp [vN] at hh⟩
  have := (List.mem_replicate.1 hc).2
  subst this; simp
theorem vb_all {recs : List (List UInt8)} {deeds : List Deed} {v0 : Vault} (h : VB v0 0) (hw : v0.Wrote.length ≤ recs.length) : ∀ k : Nat, VB (vS recs deeds v0 k) k ∧ (vS recs deeds v0 k).Wrote.length ≤ recs.length
  | 0 => ⟨h, hw⟩
  | k + 1 => by
    obtain ⟨h1, h2⟩ := vb_all h hw k
    exact ⟨vb_step h1 (fun _ _ => trivial), wrote_step h2⟩
theorem play1_eq (n : Int) (recs : List (List UInt8)) (deeds : List Deed) (hr : recs.length ≤ 1000000) : seal_Play_v1 n recs deeds = some (playS n recs deeds) := by
  unfold seal_Play_v1 playS
  simp only [lt, seal_fault]
  rw [long_eq _ hr, ob_some]
  by_cases h1 : n < 1 ∨ 7 < n
  · rw [if_pos (by simpa using h1), if_pos h1]; rfl
  rw [if_neg (by simpa using h1), if_neg h1]
  by_cases h2 : 2000 < (deeds.length : Int)
  · rw [if_pos (d_t h2), if_pos h2]; rfl
  rw [if_neg (d_f h2), if_neg h2]
  by_cases h3 : 100 < (recs.length : Int)
  · rw [if_pos (d_t h3), if_pos h3]; rfl
  rw [if_neg (d_f h3), if_neg h3]
  by_cases h4 : 0 ≤ longS recs
  · rw [if_pos (d_t h4), if_pos h4]; rfl
  rw [if_neg (d_f h4), if_neg h4, asrt_pos (by omega)]
  unfold seal_Play_v1_L1
  refine loop_firstG (step := fun y => seal_Play_v1_B1 deeds y) (fun k => ((vS recs deeds (vN n) k).Copies, (vS recs deeds (vN n) k).Wrote, (vS recs deeds (vN n) k).Took, (vS recs deeds (vN n) k).Heals, recs, (k : Int))) (pbad recs deeds (vN n)) (vS recs deeds (vN n) deeds.length, F0) deeds.length (fun k hk => ?_) ?_
  · have hw : w64 ((k : Int) + 1) = ((k + 1 : Nat) : Int) := by rw [w64_id (by omega) (by omega)]; omega
    obtain ⟨hv, hwr⟩ := vb_all (recs := recs) (deeds := deeds) (vb_0 (n := n) (by omega)) (by simp [vN]) k
    show seal_Play_v1_B1 deeds _ = _
    unfold seal_Play_v1_B1 pbad
    dsimp only
    rw [if_pos (d_t (by omega)), asrt_pos (by omega), show (⟨(lget deeds (k : Int)).Kind, (lget deeds (k : Int)).Who, (lget deeds (k : Int)).N⟩ : Deed) = lget deeds (k : Int) from rfl,
      does1_eq hv (by omega) (by omega) hwr]
    unfold out
    rw [ob_some]
    dsimp only [lt, seal_fault]
    by_cases c : (stepS recs (vS recs deeds (vN n) k) (lget deeds (k : Int))).1 = 0
    · simp [c, nx, hw, vS]
    · simp [c, nx, V0]
  · show seal_Play_v1_B1 deeds _ = _
    unfold seal_Play_v1_B1
    dsimp only
    rw [if_neg (d_f (by omega))]; rfl
def sureF (v : Vault) (k : Nat) : Option (Int × Fault) := if 2 * ((lget v.Took (k : Int)).length : Int) ≤ (v.Copies.length : Int) then some ((k : Int), F0) else none
def sureS (v : Vault) : Int × Fault := if v.Wrote.length ≠ v.Took.length then (0, ⟨5, 0⟩) else firstFrom (sureF v) ((v.Took.length : Int), F0) 0 v.Took.length
theorem sure_eq (v : Vault) (h1 : v.Took.length ≤ 1000000) (h2 : ∀ t ∈ v.Took, t.length ≤ 1000000) : seal_Sure v = some (sureS v) := by
  unfold seal_Sure sureS
  simp only [lt, seal_fault]
  by_cases c : v.Wrote.length = v.Took.length
  · rw [if_neg (by simp [c]), if_neg (by simp [c])]
    unfold seal_Sure_L1
    refine loop_firstF (step := fun y => seal_Sure_B1 v y) (sureF v) ((v.Took.length : Int), F0) v.Took.length (fun k hk => ?_) ?_
    · have hw : w64 ((k : Int) + 1) = ((k + 1 : Nat) : Int) := by rw [w64_id (by omega) (by omega)]; omega
      have ht := h2 _ (mem_at (l := v.Took) (n := (k : Int)) (by omega))
      show seal_Sure_B1 v (k : Int) = _
      unfold seal_Sure_B1 sureF
      rw [if_pos (d_t (by omega)), asrt_pos (by omega), w64_id (by omega) (by omega), hw]
      by_cases c2 : 2 * ((lget v.Took (k : Int)).length : Int) ≤ (v.Copies.length : Int)
      · rw [if_pos (d_t c2), if_pos c2]
      · rw [if_neg (d_f c2), if_neg c2]
    · show seal_Sure_B1 v (v.Took.length : Int) = _
      unfold seal_Sure_B1
      rw [if_neg (d_f (by omega))]; rfl
  · rw [if_pos (by simp; omega), if_pos c]
theorem begun_eq : law_sealBegun = some true := by
  unfold law_sealBegun
  rw [play1_eq _ _ _ (by decide), ob_some, sure_eq _ (by decide) (by decide), ob_some, asrt_pos (fun _ => by decide), asrt_pos (fun _ => by decide), if_pos (by decide), sameTexts_eq _ _ (by decide), ob_some]
  rfl
end G
end Go.Proofs.Yteckapomkemglaa
