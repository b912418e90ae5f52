/- What the document says of a deed in a vault: the same step. -/
import Derived.Test.YteckapomkemglaaPSealT
namespace Go.Proofs.Yteckapomkemglaa
open Go Go.Dm
set_option linter.unusedVariables false
set_option linter.unusedSimpArgs false
set_option linter.unusedSectionVars false
namespace G
abbrev Vt : Type := List Copy × List (List UInt8) × List (List Int) × List Heal
def vt (v : Vault) : Vt := (v.Copies, v.Wrote, v.Took, v.Heals)
section
variable {v : Vault} {m : Nat}
theorem cv_3 (hv : VB v m) (hm : m ≤ 100000) : R_CopyVault_L1 v v.Copies v.Took ([], 0) = some (vt v) := by
  unfold R_CopyVault_L1
  have h1 := hv.hl
  refine loop_count (step := fun y => R_CopyVault_B1 v v.Copies v.Took y) (fun k => (v.Heals.take k, (k : Int))) _ v.Heals.length (fun k hk => ?_) ?_
  · have hw : w64 ((k : Int) + 1) = ((k + 1 : Nat) : Int) := by rw [w64_id (by omega) (by omega)]; omega
    obtain ⟨g1, g2, g3, g4, g5⟩ := hv.hh _ (mem_at (l := v.Heals) (n := (k : Int)) (by omega))
    show R_CopyVault_B1 v v.Copies v.Took (v.Heals.take k, (k : Int)) = _
    unfold R_CopyVault_B1
    dsimp only
    rw [if_pos (d_t (by omega)), asrt_pos (by omega), asrt_pos (by omega), asrt_pos (by omega), asrt_pos (by omega), asrt_pos (by simp; omega), hw]
    show some (Sum.inl (v.Heals.take k ++ [lget v.Heals (k : Int)], _)) = _
    rw [lget_take hk]
  · show R_CopyVault_B1 v v.Copies v.Took (v.Heals.take v.Heals.length, (v.Heals.length : Int)) = _
    unfold R_CopyVault_B1
    dsimp only
    rw [if_neg (d_f (by omega)), List.take_length]; rfl
theorem cv_2 (hv : VB v m) (hm : m ≤ 100000) : R_CopyVault_L2 v v.Copies ([], 0) = some (vt v) := by
  unfold R_CopyVault_L2
  have h1 := hv.wr
  have h2 := hv.tk
  refine loop_count (step := fun y => R_CopyVault_B2 v v.Copies y) (fun k => (v.Took.take k, (k : Int))) _ v.Took.length (fun k hk => ?_) ?_
  · have hw : w64 ((k : Int) + 1) = ((k + 1 : Nat) : Int) := by rw [w64_id (by omega) (by omega)]; omega
    have g1 := hv.tl _ (mem_at (l := v.Took) (n := (k : Int)) (by omega))
    show R_CopyVault_B2 v v.Copies (v.Took.take k, (k : Int)) = _
    unfold R_CopyVault_B2
    dsimp only
    rw [if_pos (d_t (by omega)), asrt_pos (by omega), asrt_pos (by omega), asrt_pos (by simp; omega), hw, lget_take hk]
  · show R_CopyVault_B2 v v.Copies (v.Took.take v.Took.length, (v.Took.length : Int)) = _
    unfold R_CopyVault_B2
    dsimp only
    rw [if_neg (d_f (by omega)), List.take_length]
    unfold R_CopyVault_J2
    rw [cv_3 hv hm]; rfl
theorem copyVault_eq (hv : VB v m) (hm : m ≤ 100000) : R_CopyVault v = some (vt v) := by
  unfold R_CopyVault R_CopyVault_L3
  have h1 := hv.cn
  have h2 := hv.wr
  refine loop_count (step := fun y => R_CopyVault_B3 v y) (fun k => (v.Copies.take k, (k : Int))) _ v.Copies.length (fun k hk => ?_) ?_
  · have hw : w64 ((k : Int) + 1) = ((k + 1 : Nat) : Int) := by rw [w64_id (by omega) (by omega)]; omega
    have g1 := hv.cp _ (mem_at (l := v.Copies) (n := (k : Int)) (by omega))
    show R_CopyVault_B3 v (v.Copies.take k, (k : Int)) = _
    unfold R_CopyVault_B3
    dsimp only
    rw [if_pos (d_t (by omega)), asrt_pos (by omega), asrt_pos (by omega), asrt_pos (by simp; omega), hw]
    show some (Sum.inl (v.Copies.take k ++ [lget v.Copies (k : Int)], _)) = _
    rw [lget_take hk]
  · show R_CopyVault_B3 v (v.Copies.take v.Copies.length, (v.Copies.length : Int)) = _
    unfold R_CopyVault_B3
    dsimp only
    rw [if_neg (d_f (by omega)), List.take_length]
    unfold R_CopyVault_J1
    rw [asrt_pos (by omega), cv_2 hv hm]; rfl
end
section
variable {recs : List (List UInt8)} {v : Vault} {m : Nat} {d : Deed}
def sw (p : Int × Vault) : Option (Vault × Int) := some (p.2, p.1)
theorem lset_same {α : Type} [Inhabited α] {l : List α} {n : Int} (h : In l n) : lset l n (lget l n) = l := by
  obtain ⟨a, rfl⟩ : ∃ k : Nat, n = (k : Int) := ⟨n.toNat, by have := h.1; omega⟩
  have ha : a < l.length := by have := h.2; omega
  unfold lset lget
  simp [List.getD, ha]
theorem lset_lset {α : Type} [Inhabited α] {l : List α} {n : Int} (h : In l n) (x y : α) : lget (lset l n x) n = x ∧ lset (lset l n x) n y = lset l n y := by
  refine ⟨by rw [lget_lset h h, if_pos rfl], by simp [lset]⟩
theorem vstep_2 (hv : VB v m) (hm : m ≤ 100000) (h20 : v.Heals.length ≤ 20) (h : ¬ (d.N < 2 ∨ 1000000000 < d.N)) : R_VaultStep_v1_L1 d (vt v) 0 = sw (st2 v d) := by
  have h1 := hv.hl
  unfold R_VaultStep_v1_L1 st2
  rw [if_neg h]
  have := loop_firstF (step := fun y => R_VaultStep_v1_B1 d (vt v) y) (fun k => if decide ((lget v.Heals (k : Int)).Epoch = d.N) = true then some (v, (10 : Int)) else none) (if v.Heals.length = 20 then (v, (9 : Int)) else (⟨v.Copies, v.Wrote, v.Took, v.Heals ++ [⟨d.N, [], [], false, [], []⟩]⟩, 0)) v.Heals.length (fun k hk => by
    have hw : w64 ((k : Int) + 1) = ((k + 1 : Nat) : Int) := by rw [w64_id (by omega) (by omega)]; omega
    show R_VaultStep_v1_B1 d (vt v) (k : Int) = _
    unfold R_VaultStep_v1_B1 vt
    dsimp only
    rw [if_pos (d_t (by omega)), asrt_pos (by omega), asrt_pos (by omega), hw]
    by_cases c : (lget v.Heals (k : Int)).Epoch = d.N
    · simp [c, nx]
    · simp [c, nx]) (by
    show R_VaultStep_v1_B1 d (vt v) (v.Heals.length : Int) = _
    unfold R_VaultStep_v1_B1 vt R_VaultStep_v1_J2
    dsimp only
    rw [if_neg (d_f (by omega))]
    by_cases c : v.Heals.length = 20
    · rw [if_pos (d_t (by omega)), if_pos c]; rfl
    · rw [if_neg (d_f (by omega)), if_neg c, asrt_pos (by simp; omega)]; rfl)
  rw [this]
  have ha := lget_any v.Heals (fun h => decide (h.Epoch = d.N))
  rcases firstFrom_cases (fun k => if decide ((lget v.Heals ((k : Nat) : Int)).Epoch = d.N) = true then some (v, (10 : Int)) else none) (if v.Heals.length = 20 then (v, (9 : Int)) else (⟨v.Copies, v.Wrote, v.Took, v.Heals ++ [⟨d.N, [], [], false, [], []⟩]⟩, 0)) v.Heals.length 0 with ⟨g1, g2⟩ | ⟨j, x, g1, g2, g3, g4, g5⟩
  · rw [g2]
    have hn : ¬ anyE v.Heals d.N = true := by
      show ¬ (v.Heals.any fun h => decide (h.Epoch = d.N)) = true
      rw [← ha, List.any_eq_true]
      rintro ⟨k, hk, e⟩
      have := g1 k (Nat.zero_le _) (by have := List.mem_range.1 hk; omega)
      rw [if_pos e] at this; cases this
    rw [if_neg hn]
    unfold sw
    split <;> rfl
  · rw [g5]
    split at g3
    · rename_i e
      cases g3
      have hy : anyE v.Heals d.N = true := by
        show (v.Heals.any fun h => decide (h.Epoch = d.N)) = true
        rw [← ha, List.any_eq_true]
        exact ⟨j, List.mem_range.2 (by omega), e⟩
      rw [if_pos hy]; rfl
    · cases g3
theorem once_if {α : Type} (l : List Int) (n : Int) (f : List Int → α) (b : Bool) (hb : b = decide (n ∈ l)) (x y : α) (hx : x = f (l ++ [n])) (hy : y = f l) : (if (!b) = true then x else y) = f (onceS l n) := by
  subst hb; subst hx; subst hy
  unfold onceS
  by_cases c : n ∈ l
  · rw [if_neg (by simp [c]), if_pos c]
  · rw [if_pos (by simp [c]), if_neg c]
theorem vstep_eq (hv : VB v m) (hm : m ≤ 100000) (hr : recs.length ≤ 1000) (hw : v.Wrote.length ≤ recs.length) (h20 : v.Heals.length ≤ 20) : R_VaultStep_v1 v recs d = sw (stepS recs v d) := by
  have h1 := hv.wr
  have h2 := hv.tk
  have h3 := hv.hl
  unfold R_VaultStep_v1 stepS
  rw [copyVault_eq hv hm, ob_some]
  unfold vt
  dsimp only [lt]
  by_cases h0 : d.Kind < 0 ∨ 5 < d.Kind
  · rw [if_pos (by simpa using h0), if_pos h0]; rfl
  rw [if_neg (by simpa using h0), if_neg h0]
  by_cases hwho : (d.Kind = 1 ∨ d.Kind = 3 ∨ d.Kind = 5) ∧ (d.Who < 0 ∨ (v.Copies.length : Int) ≤ d.Who)
  · rw [if_pos (by simp; omega), if_pos hwho]; rfl
  rw [if_neg (by simp; omega), if_neg hwho]
  have hwc : (d.Kind = 1 ∨ d.Kind = 3 ∨ d.Kind = 5) → 0 ≤ d.Who ∧ d.Who < (v.Copies.length : Int) := fun q => by have := fun w => hwho ⟨q, w⟩; omega
  by_cases hn : 2 < d.Kind ∧ (d.N < 0 ∨ (v.Heals.length : Int) ≤ d.N)
  · rw [if_pos (by simp; omega), if_pos hn]; rfl
  rw [if_neg hn]
  have hcs : d.Kind = 0 ∨ d.Kind = 1 ∨ d.Kind = 2 ∨ d.Kind = 3 ∨ d.Kind = 4 ∨ d.Kind = 5 := by omega
  rcases hcs with hk | hk | hk | hk | hk | hk
  · rw [if_neg (by simp; omega), if_pos (d_t hk), if_pos hk]
    unfold st0
    by_cases h : v.Wrote.length = recs.length
    · rw [if_pos (d_t (by omega)), if_pos h]; rfl
    · rw [if_neg (d_f (by omega)), if_neg h, asrt_pos (by omega), asrt_pos (by simp; omega), asrt_pos (by simp; omega)]; rfl
  · rw [if_neg (show ¬ d.Kind = 0 by omega), if_pos hk]
    unfold st1
    by_cases hN : d.N < 0 ∨ (v.Wrote.length : Int) ≤ d.N
    · rw [if_pos (by simp; omega), if_pos hN]; rfl
    have hc := hwc (by omega)
    rw [if_neg (by simp; omega), if_neg (d_f (by omega)), if_pos (d_t hk), if_neg hN, asrt_pos hc, asrt_pos hc, asrt_pos (by omega), asrt_pos (by omega)]
    rw [show (⟨(lget v.Copies d.Who).Epoch, (lget v.Copies d.Who).Closed, (lget v.Copies d.Who).Recs, (lget v.Copies d.Who).Ended⟩ : Copy) = lget v.Copies d.Who from rfl,
      appended_eq _ _ _ _ (by have := hv.cp _ (mem_at hc); omega), ob_some]
    dsimp only
    by_cases hf : (apF (lget v.Copies d.Who) 1 d.N (lget v.Wrote d.N)).Code = 0
    · have hl := hv.tl _ (mem_at (l := v.Took) (n := d.N) (by omega))
      rw [if_pos (d_t hf), if_pos hf, asrt_pos hc, asrt_pos hc, asrt_pos (by omega), asrt_pos (by omega), has_eq _ _ (by omega), ob_some]
      refine once_if (lget v.Took d.N) d.Who (fun l => sw (0, ⟨lset v.Copies d.Who (apC (lget v.Copies d.Who) 1 d.N (lget v.Wrote d.N)), v.Wrote, lset v.Took d.N l, v.Heals⟩)) _ rfl _ _ ?_ ?_
      · rw [asrt_pos (by omega), asrt_pos (by omega), asrt_pos (by simp; omega), asrt_pos (by omega), asrt_pos (by omega)]; rfl
      · show some ((⟨_, _, v.Took, _⟩ : Vault), (0 : Int)) = some ((⟨_, _, lset v.Took d.N (lget v.Took d.N), _⟩ : Vault), (0 : Int))
        rw [lset_same ⟨by omega, by omega⟩]
    · rw [if_neg (d_f hf), if_neg hf]; rfl
  · rw [if_neg (show ¬ d.Kind = 0 by omega), if_neg (show ¬ d.Kind = 1 by omega), if_pos hk]
    by_cases hN : d.N < 2 ∨ 1000000000 < d.N
    · rw [if_pos (by simp; omega)]
      unfold st2
      rw [if_pos hN]; rfl
    rw [if_neg (by simp; omega), if_neg (d_f (by omega)), if_neg (d_f (by omega)), if_pos (d_t hk)]
    exact vstep_2 hv hm h20 hN
  · have hc := hwc (by omega)
    have hN : 0 ≤ d.N ∧ d.N < (v.Heals.length : Int) := by have := fun w => hn ⟨by omega, w⟩; omega
    obtain ⟨g1, g2, g3, g4, g5⟩ := hv.hh _ (mem_at hN)
    have g6 := hv.cp _ (mem_at hc)
    rw [if_neg (by simp; omega), if_neg (d_f (by omega)), if_neg (d_f (by omega)), if_neg (d_f (by omega)), if_pos (d_t hk), if_neg (show ¬ d.Kind = 0 by omega), if_neg (show ¬ d.Kind = 1 by omega), if_neg (show ¬ d.Kind = 2 by omega), if_pos hk,
      asrt_pos hc, asrt_pos hc, asrt_pos hN, asrt_pos hN]
    unfold st3
    rw [show (⟨(lget v.Copies d.Who).Epoch, (lget v.Copies d.Who).Closed, (lget v.Copies d.Who).Recs, (lget v.Copies d.Who).Ended⟩ : Copy) = lget v.Copies d.Who from rfl, closed_eq _ _ (by omega), ob_some]
    dsimp only
    by_cases hf : (askS (lget v.Copies d.Who) (lget v.Heals d.N).Epoch F0).Code = 0
    · rw [if_pos (d_t hf), if_pos hf, asrt_pos hc, asrt_pos hc, asrt_pos hN, asrt_pos hN, asrt_pos (fun _ => hN), asrt_pos (fun _ => hN)]
      rw [has_eq _ _ (by omega)]
      cases hH : (lget v.Heals d.N).Has with
      | true => rw [if_neg (by simp), ob_some, if_neg (by simp), if_neg (by simp)]; rfl
      | false =>
        rw [if_pos (by simp), ob_some]
        by_cases hm2 : d.Who ∈ (lget v.Heals d.N).Heard
        · rw [if_neg (by simp [hm2]), if_neg (by simp [hm2])]; rfl
        · have hN2 : ∀ x : Heal, 0 ≤ d.N ∧ d.N < ((lset v.Heals d.N x).length : Int) := fun x => by rw [lset_length]; exact hN
          rw [if_pos (by simp [hm2]), if_pos ⟨rfl, hm2⟩, asrt_pos hN, asrt_pos hN, asrt_pos (by simp; omega), asrt_pos hN, asrt_pos hN, asrt_pos (hN2 _), asrt_pos (hN2 _)]
          simp only [(lset_lset hN _ default).1, (lset_lset hN _ _).2]
          rw [asrt_pos (by simp; omega), asrt_pos (hN2 _), asrt_pos (hN2 _)]; rfl
    · rw [if_neg (d_f hf), if_neg hf]; rfl
  · have hN : 0 ≤ d.N ∧ d.N < (v.Heals.length : Int) := by have := fun w => hn ⟨by omega, w⟩; omega
    obtain ⟨g1, g2, g3, g4, g5⟩ := hv.hh _ (mem_at hN)
    have hN2 : ∀ x : Heal, 0 ≤ d.N ∧ d.N < ((lset v.Heals d.N x).length : Int) := fun x => by rw [lset_length]; exact hN
    rw [if_neg (by simp; omega), if_neg (d_f (by omega)), if_neg (d_f (by omega)), if_neg (d_f (by omega)), if_neg (d_f (by omega)), if_pos (d_t hk), if_neg (show ¬ d.Kind = 0 by omega), if_neg (show ¬ d.Kind = 1 by omega), if_neg (show ¬ d.Kind = 2 by omega), if_neg (show ¬ d.Kind = 3 by omega), if_pos hk,
      asrt_pos hN, asrt_pos hN, chosen_eq _ _ (fun c hc => by have := g5 c hc; omega), ob_some, asrt_pos (fun _ => hN), asrt_pos (fun _ => hN)]
    unfold st4
    dsimp only
    by_cases hf : (chS (v.Copies.length : Int) (lget v.Heals d.N).Said).2.Code = 0 ∧ (lget v.Heals d.N).Has = false
    · rw [if_pos (by simpa using hf), if_pos hf, asrt_pos hN, asrt_pos hN, asrt_pos (hN2 _), asrt_pos (hN2 _)]
      simp only [(lset_lset hN _ default).1, (lset_lset hN _ _).2]; rfl
    · rw [if_neg (by simpa using hf), if_neg hf]; rfl
  · have hc := hwc (by omega)
    have hN : 0 ≤ d.N ∧ d.N < (v.Heals.length : Int) := by have := fun w => hn ⟨by omega, w⟩; omega
    obtain ⟨g1, g2, g3, g4, g5⟩ := hv.hh _ (mem_at hN)
    have g6 := hv.cp _ (mem_at hc)
    rw [if_neg (by simp; omega), if_neg (d_f (by omega)), if_neg (d_f (by omega)), if_neg (d_f (by omega)), if_neg (d_f (by omega)), if_neg (d_f (by omega)), if_pos (d_t hk), if_neg (show ¬ d.Kind = 0 by omega), if_neg (show ¬ d.Kind = 1 by omega), if_neg (show ¬ d.Kind = 2 by omega), if_neg (show ¬ d.Kind = 3 by omega), if_neg (show ¬ d.Kind = 4 by omega),
      asrt_pos hN, asrt_pos hN]
    unfold st5
    dsimp only
    cases hH : (lget v.Heals d.N).Has with
    | false => rw [if_pos (by simp), if_pos rfl]; rfl
    | true =>
      rw [if_neg (by simp), if_neg (by simp), asrt_pos hc, asrt_pos hc, asrt_pos hN, asrt_pos hN, asrt_pos hN, asrt_pos hN]
      rw [show (⟨(lget v.Copies d.Who).Epoch, (lget v.Copies d.Who).Closed, (lget v.Copies d.Who).Recs, (lget v.Copies d.Who).Ended⟩ : Copy) = lget v.Copies d.Who from rfl, ended_eq _ _ _ (by omega) (by omega), ob_some]
      dsimp only
      by_cases hf : (askS (lget v.Copies d.Who) (lget v.Heals d.N).Epoch (recF (lget v.Heals d.N).Recs)).Code = 0
      · rw [if_pos (d_t hf), if_pos hf, asrt_pos hc, asrt_pos hc, asrt_pos hN, asrt_pos hN, has_eq _ _ (by omega), ob_some]
        refine once_if (lget v.Heals d.N).Ends d.Who (fun l => sw (0, ⟨lset v.Copies d.Who (enC (lget v.Copies d.Who) (lget v.Heals d.N).Epoch (lget v.Heals d.N).Recs), v.Wrote, v.Took, lset v.Heals d.N ⟨(lget v.Heals d.N).Epoch, (lget v.Heals d.N).Heard, (lget v.Heals d.N).Said, true, (lget v.Heals d.N).Recs, l⟩⟩)) _ rfl _ _ ?_ ?_
        · rw [asrt_pos hN, asrt_pos hN, asrt_pos (by simp; omega), asrt_pos hN, asrt_pos hN]; rfl
        · show some ((⟨_, _, _, v.Heals⟩ : Vault), (0 : Int)) = some ((⟨_, _, _, lset v.Heals d.N ⟨(lget v.Heals d.N).Epoch, (lget v.Heals d.N).Heard, (lget v.Heals d.N).Said, true, (lget v.Heals d.N).Recs, (lget v.Heals d.N).Ends⟩⟩ : Vault), (0 : Int))
          rw [show (⟨(lget v.Heals d.N).Epoch, (lget v.Heals d.N).Heard, (lget v.Heals d.N).Said, true, (lget v.Heals d.N).Recs, (lget v.Heals d.N).Ends⟩ : Heal) = lget v.Heals d.N by rw [← hH], lset_same hN]
      · rw [if_neg (d_f hf), if_neg hf]; rfl
end
end G
end Go.Proofs.Yteckapomkemglaa
