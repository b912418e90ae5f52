/- SealAgrees. -/
import Derived.Test.YteckapomkemglaaPSealT
namespace Go.Proofs.Yteckapomkemglaa
open Go Go.Dm
set_option linter.unusedVariables false
set_option linter.unusedSimpArgs false
set_option linter.unusedSectionVars false
namespace G
theorem play1_all (n : Int) (recs : List (List UInt8)) (deeds : List Deed) : seal_Play_v1 n recs deeds = some (playS n recs deeds) := by
  by_cases hr : recs.length ≤ 1000000
  · exact play1_eq n recs deeds hr
  unfold seal_Play_v1 playS
  simp only [lt, seal_fault]
  by_cases h1 : n < 1 ∨ 7 < n
  · rw [if_pos (by simpa using h1), if_pos h1]; rfl
  rw [if_neg (by simpa using h1), if_neg h1]
  by_cases h2 : 2000 < (deeds.length : Int)
  · rw [if_pos (d_t h2), if_pos h2]; rfl
  rw [if_neg (d_f h2), if_neg h2, if_pos (d_t (by omega)), if_pos (by omega)]; rfl
theorem play_ok {n : Int} {recs : List (List UInt8)} {deeds : List Deed} (h : (playS n recs deeds).2.Code = 0) : (1 ≤ n ∧ n ≤ 7) ∧ deeds.length ≤ 2000 ∧ recs.length ≤ 100 ∧ longS recs < 0 ∧ playS n recs deeds = (vS recs deeds (vN n) deeds.length, F0) ∧
    ∀ k : Nat, k < deeds.length → (stepS recs (vS recs deeds (vN n) k) (lget deeds (k : Int))).1 = 0 := by
  unfold playS at h ⊢
  by_cases h1 : n < 1 ∨ 7 < n
  · rw [if_pos h1] at h; cases h
  rw [if_neg h1] at h ⊢
  by_cases h2 : 2000 < (deeds.length : Int)
  · rw [if_pos h2] at h; cases h
  rw [if_neg h2] at h ⊢
  by_cases h3 : 100 < (recs.length : Int)
  · rw [if_pos h3] at h; cases h
  rw [if_neg h3] at h ⊢
  by_cases h4 : 0 ≤ longS recs
  · rw [if_pos h4] at h; cases h
  rw [if_neg h4] at h ⊢
  refine ⟨by omega, by omega, by omega, by omega, ?_⟩
  rcases firstFrom_cases (pbad recs deeds (vN n)) (vS recs deeds (vN n) deeds.length, F0) deeds.length 0 with ⟨g1, g2⟩ | ⟨j, x, g1, g2, g3, g4, g5⟩
  · refine ⟨g2, fun k hk => ?_⟩
    have := g1 k (Nat.zero_le _) (by omega)
    unfold pbad at this
    split at this
    · cases this
    · rename_i q; simpa using q
  · exfalso
    rw [g5] at h
    unfold pbad at g3
    split at g3
    · rename_i q; cases g3; exact q h
    · cases g3
theorem lget_ltake {α : Type} [Inhabited α] {l : List α} {i k : Nat} (h : k < i) : lget (l.take i) (k : Int) = lget l (k : Int) := by
  simp [lget, List.getD, List.getElem?_take, h]
theorem vS_take {recs : List (List UInt8)} {deeds : List Deed} {v0 : Vault} {i : Nat} : ∀ k : Nat, k ≤ i → vS recs (deeds.take i) v0 k = vS recs deeds v0 k
  | 0, _ => rfl
  | k + 1, h => by
    show (stepS recs (vS recs (deeds.take i) v0 k) (lget (deeds.take i) (k : Int))).2 = (stepS recs (vS recs deeds v0 k) (lget deeds (k : Int))).2
    rw [vS_take k (by omega), lget_ltake (by omega)]
theorem play_take {n : Int} {recs : List (List UInt8)} {deeds : List Deed} (h : (playS n recs deeds).2.Code = 0) {i : Nat} (hi : i ≤ deeds.length) : playS n recs (deeds.take i) = (vS recs deeds (vN n) i, F0) := by
  obtain ⟨h1, h2, h3, h4, -, h6⟩ := play_ok h
  have hlen : (deeds.take i).length = i := by rw [List.length_take]; omega
  unfold playS
  rw [if_neg (by omega), if_neg (by omega), if_neg (by omega), if_neg (by omega), hlen]
  rcases firstFrom_cases (pbad recs (deeds.take i) (vN n)) (vS recs (deeds.take i) (vN n) i, F0) i 0 with ⟨g1, g2⟩ | ⟨j, x, g1, g2, g3, g4, g5⟩
  · rw [g2, vS_take i (Nat.le_refl _)]
  · exfalso
    unfold pbad at g3
    rw [vS_take j (by omega), lget_ltake (by omega), if_neg (by have := h6 j (by omega); simp [this])] at g3
    cases g3
theorem sure_ok (v : Vault) (h : v.Took.length = v.Wrote.length) : ∃ s : Nat, s ≤ v.Wrote.length ∧ sureS v = ((s : Int), F0) ∧ ∀ p : Nat, p < s → v.Copies.length < 2 * (lget v.Took (p : Int)).length := by
  unfold sureS
  rw [if_neg (by simp [h])]
  have key : ∀ p : Nat, sureF v p = none → v.Copies.length < 2 * (lget v.Took (p : Int)).length := fun p hp => by
    unfold sureF at hp
    split at hp
    · cases hp
    · omega
  rcases firstFrom_cases (sureF v) ((v.Took.length : Int), F0) v.Took.length 0 with ⟨g1, g2⟩ | ⟨j, x, g1, g2, g3, g4, g5⟩
  · exact ⟨v.Took.length, by omega, g2, fun p hp => key p (g1 p (Nat.zero_le _) (by omega))⟩
  · refine ⟨j, by omega, ?_, fun p hp => key p (g4 p (Nat.zero_le _) hp)⟩
    rw [g5]
    unfold sureF at g3
    split at g3
    · cases g3; rfl
    · cases g3
theorem begins_eq {l w : List (List UInt8)} (h : w <+: l) (hb : w.length ≤ 1000000) : law_begins l w = some true := by
  have hl := h.length_le
  unfold law_begins
  rw [asrt_pos (fun _ => by omega), if_pos (d_t (by omega))]
  have e : ltake l (w.length : Int) = w := by
    have := List.prefix_iff_eq_take.1 h
    simp [ltake, ← this]
  rw [e, sameTexts_eq _ _ hb, ob_some]
  simp; omega
section
variable {num : Int} {recs : List (List UInt8)} {deeds : List Deed}
/-- what the law keeps: what most have ended with -/
def Kept (w : Vault) (st : List (List UInt8) × Bool) : Prop := st.2 = true → ∃ e, Fin w e st.1
theorem agrees_in (hn : 1 ≤ num ∧ num ≤ 7) (s : Nat) (w v : Vault) (hw : SI w) (hv : SI v) (hvb : VB v 200) (hev : Ev v w) (hcn : (v.Copies.length : Int) = num) (hs : s ≤ w.Wrote.length) (hs2 : ∀ p : Nat, p < s → w.Copies.length < 2 * (lget w.Took (p : Int)).length)
    (v1 : List (List UInt8) × Bool × Int) (hv1 : 0 ≤ v1.2.2 ∧ v1.2.2 ≤ 1000) : ∀ (m k : Nat), k + m = v.Heals.length → ∀ st : List (List UInt8) × Bool, Kept w st →
    ∃ st' : List (List UInt8) × Bool, Kept w st' ∧ law_SealAgrees_L2 num (w, F0) ((s : Int), F0) v1 (v, F0) (st.1, st.2, (k : Int)) = some (.inl (st'.1, st'.2, v1.2.2 + 1))
  | 0, k, e, st, hk => by
    refine ⟨st, hk, loopO_inr ?_⟩
    show law_SealAgrees_B2 num (w, F0) ((s : Int), F0) v1 (v, F0) (st.1, st.2, (k : Int)) = _
    unfold law_SealAgrees_B2
    dsimp only
    rw [if_neg (d_f (by omega))]
    unfold law_SealAgrees_J2
    rw [w64_id (by omega) (by omega)]; rfl
  | m + 1, k, e, st, hk => by
    have hin : In v.Heals (k : Int) := ⟨by omega, by omega⟩
    have hb := hvb.hl
    have hw64 : w64 ((k : Int) + 1) = ((k + 1 : Nat) : Int) := by rw [w64_id (by omega) (by omega)]; omega
    have go : ∀ st' : List (List UInt8) × Bool, Kept w st' → law_SealAgrees_B2 num (w, F0) ((s : Int), F0) v1 (v, F0) (st.1, st.2, (k : Int)) = some (.inl (st'.1, st'.2, ((k + 1 : Nat) : Int))) →
        ∃ st' : List (List UInt8) × Bool, Kept w st' ∧ law_SealAgrees_L2 num (w, F0) ((s : Int), F0) v1 (v, F0) (st.1, st.2, (k : Int)) = some (.inl (st'.1, st'.2, v1.2.2 + 1)) := fun st' hk' he => by
      obtain ⟨st2, h1, h2⟩ := agrees_in hn s w v hw hv hvb hev hcn hs hs2 v1 hv1 m (k + 1) (by omega) st' hk'
      exact ⟨st2, h1, (loopO_inl (y := (st'.1, st'.2, ((k + 1 : Nat) : Int))) he).trans h2⟩
    have hh := hv.hl _ hin.mem
    obtain ⟨b1, b2, b3, b4, b5⟩ := hvb.hh _ hin.mem
    generalize hx : lget v.Heals (k : Int) = h at hh b1 b2 b3 b4 b5
    have hmem : h ∈ v.Heals := hx ▸ hin.mem
    by_cases c : h.Has = true
    case neg =>
      refine go st hk ?_
      unfold law_SealAgrees_B2
      dsimp only
      rw [if_pos (d_t (by omega)), asrt_pos (by omega), hx, if_pos (by simpa using c)]
      unfold law_SealAgrees_J3
      dsimp only
      rw [hw64]
    -- it is there at last
    obtain ⟨g, g1, g2, g3, g4⟩ := hev.vl h.Epoch h.Recs ⟨h, hmem, rfl, c, rfl⟩
    have hpr := hh.pr c
    have hlast : (ltake w.Wrote (s : Int)) <+: h.Recs := by
      have hp1 : h.Recs <+: w.Wrote := g4 ▸ (hw.hl g g1).pr g3
      have hsl : s ≤ h.Recs.length := by
        rcases Nat.eq_zero_or_pos s with h0 | h0
        · omega
        · have htk := hw.tk
          have := sure_in hw g1 g3 (p := ((s - 1 : Nat) : Int)) ⟨by omega, by omega⟩ (hs2 (s - 1) (by omega))
          rw [g4] at this
          omega
      have e1 := List.prefix_iff_eq_take.1 hp1
      have e2 : ltake w.Wrote (s : Int) = h.Recs.take s := by
        rw [e1, List.take_take, Nat.min_eq_left hsl]; rfl
      rw [e2]; exact List.take_prefix _ _
    have hlen : (ltake w.Wrote (s : Int)).length ≤ 1000000 := by have := hlast.length_le; omega
    have hw2 : w64 (2 * (h.Ends.length : Int)) = 2 * (h.Ends.length : Int) := w64_id (by omega) (by omega)
    by_cases cm : num < 2 * (h.Ends.length : Int)
    · have hfin : Fin w h.Epoch h.Recs := hev.fn _ _ ⟨h, hmem, rfl, c, rfl, by omega⟩
      refine go (h.Recs, true) (fun _ => ⟨_, hfin⟩) ?_
      unfold law_SealAgrees_B2
      dsimp only
      rw [if_pos (d_t (by omega)), asrt_pos (by omega), hx, if_neg (by simp [c]), begins_eq hpr (by omega), ob_some, asrt_pos (fun _ => by omega), if_pos (by simp), begins_eq hlast hlen, ob_some, if_neg (by simp), hw2, if_pos (d_t cm)]
      unfold law_SealAgrees_J3
      dsimp only
      rw [hw64]
      cases hst : st.2 with
      | false => rw [if_neg (by simp), ob_some, if_neg (by simp)]
      | true =>
        obtain ⟨e0, a, a1, a2, a3, a4, a5⟩ := hk hst
        obtain ⟨b, b1, b2, b3, b4, b5⟩ := hfin
        have := fin_same hw a1 b1 a3 b3 a5 b5
        have he : st.1 = h.Recs := by rw [← a4, ← b4, this]
        rw [if_pos rfl, he, sameTexts_eq _ _ (by omega), ob_some, if_neg (by simp)]
    · refine go st hk ?_
      unfold law_SealAgrees_B2
      dsimp only
      rw [if_pos (d_t (by omega)), asrt_pos (by omega), hx, if_neg (by simp [c]), begins_eq hpr (by omega), ob_some, asrt_pos (fun _ => by omega), if_pos (by simp), begins_eq hlast hlen, ob_some, if_neg (by simp), hw2, if_neg (d_f cm)]
      unfold law_SealAgrees_J3
      dsimp only
      rw [hw64]
theorem agrees_all (hd : deeds.length ≤ 120) (hok : (playS num recs deeds).2.Code = 0) (s : Nat) (hs : s ≤ (vS recs deeds (vN num) deeds.length).Wrote.length)
    (hs2 : ∀ p : Nat, p < s → (vS recs deeds (vN num) deeds.length).Copies.length < 2 * (lget (vS recs deeds (vN num) deeds.length).Took (p : Int)).length) :
    ∀ (m k : Nat), k + m = deeds.length + 1 → ∀ st : List (List UInt8) × Bool, Kept (vS recs deeds (vN num) deeds.length) st → law_SealAgrees_L1 num recs deeds (vS recs deeds (vN num) deeds.length, F0) ((s : Int), F0) (st.1, st.2, (k : Int)) = some true
  | 0, k, e, st, hk => by
    refine loopO_inr ?_
    show law_SealAgrees_B1 num recs deeds (vS recs deeds (vN num) deeds.length, F0) ((s : Int), F0) (st.1, st.2, (k : Int)) = _
    unfold law_SealAgrees_B1
    dsimp only
    rw [if_neg (d_f (by omega))]; rfl
  | m + 1, k, e, st, hk => by
    obtain ⟨h1, h2, h3, h4, h5, h6⟩ := play_ok hok
    have hkl : k ≤ deeds.length := by omega
    have s0 := si_vN (n := num)
    have hev := ev_all (recs := recs) (deeds := deeds) s0 k (deeds.length - k)
    rw [show k + (deeds.length - k) = deeds.length by omega] at hev
    have hev0 := ev_all (recs := recs) (deeds := deeds) s0 0 k
    rw [Nat.zero_add] at hev0
    have hcn : ((vS recs deeds (vN num) k).Copies.length : Int) = num := by
      rw [hev0.cn]
      show ((List.replicate num.toNat (⟨0, false, [], 0⟩ : Copy)).length : Int) = num
      rw [List.length_replicate]; omega
    obtain ⟨hvb, -⟩ := vb_all (recs := recs) (deeds := deeds) (vb_0 (n := num) (by omega)) (by simp [vN]) k
    have hvb2 : VB (vS recs deeds (vN num) k) 200 := by
      have : ∀ j : Nat, VB (vS recs deeds (vN num) k) (k + j) := fun j => by
        induction j with
        | zero => exact hvb
        | succ j ih => exact ih.up
      have := this (200 - k)
      rwa [show k + (200 - k) = 200 by omega] at this
    obtain ⟨st', g1, g2⟩ := agrees_in h1 s _ _ (si_all s0 deeds.length) (si_all s0 k) hvb2 hev hcn hs hs2 (st.1, st.2, (k : Int)) ⟨by show (0 : Int) ≤ (k : Int); omega, by show (k : Int) ≤ 1000; omega⟩ (vS recs deeds (vN num) k).Heals.length 0 (by omega) st hk
    have ih := agrees_all hd hok s hs hs2 m (k + 1) (by omega) st' g1
    refine (loopO_inl (y := (st'.1, st'.2, ((k + 1 : Nat) : Int))) ?_).trans ih
    show law_SealAgrees_B1 num recs deeds (vS recs deeds (vN num) deeds.length, F0) ((s : Int), F0) (st.1, st.2, (k : Int)) = _
    unfold law_SealAgrees_B1
    dsimp only
    rw [if_pos (d_t (by omega)), asrt_pos (by omega), play1_all, ob_some]
    have e1 : playS num recs (ltake deeds (k : Int)) = (vS recs deeds (vN num) k, F0) := play_take hok hkl
    rw [e1, if_neg (by simp [F0])]
    refine g2.trans ?_
    show some (Sum.inl (st'.1, st'.2, (k : Int) + 1)) = some (Sum.inl (st'.1, st'.2, ((k + 1 : Nat) : Int)))
    rw [show (k : Int) + 1 = ((k + 1 : Nat) : Int) by omega]
end
theorem SealAgrees_eq (num : Int) (recs : List (List UInt8)) (deeds : List Deed) : law_SealAgrees num recs deeds = some true := by
  unfold law_SealAgrees
  rw [begun_eq, ob_some, if_neg (by simp)]
  by_cases h : 120 < (deeds.length : Int)
  · rw [if_pos (d_t h)]
  rw [if_neg (d_f h), play1_all, ob_some]
  by_cases hok : (playS num recs deeds).2.Code = 0
  case neg => rw [if_pos (by simp [hok])]
  rw [if_neg (by simp [hok])]
  obtain ⟨h1, h2, h3, h4, h5, h6⟩ := play_ok hok
  obtain ⟨hvb, -⟩ := vb_all (recs := recs) (deeds := deeds) (vb_0 (n := num) (by omega)) (by simp [vN]) deeds.length
  have a1 := hvb.tk
  have a2 := hvb.wr
  rw [h5]
  dsimp only
  rw [sure_eq _ (by omega) (fun t ht => by have := hvb.tl t ht; omega), ob_some]
  obtain ⟨s, s1, s2, s3⟩ := sure_ok _ a1
  rw [s2, if_neg (by simp [F0]; omega)]
  exact agrees_all (by omega) hok s s1 s3 (deeds.length + 1) 0 (by omega) ([], false) (fun q => by cases q)
end G
end Go.Proofs.Yteckapomkemglaa
