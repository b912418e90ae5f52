/- Deeds in a vault, one behind the other. -/
import Derived.Test.YteckapomkemglaaPSealG
namespace Go.Proofs.Yteckapomkemglaa
open Go Go.Dm
set_option linter.unusedVariables false
set_option linter.unusedSimpArgs false
namespace G
section
variable {recs : List (List UInt8)} {v : Vault} {m : Nat} {d : Deed}
theorem does1_eq (hv : VB v m) (hm : m ≤ 100000) (hr : recs.length ≤ 1000) (hw : v.Wrote.length ≤ recs.length) : seal_vault_does_v1 d recs v.Copies v.Wrote v.Took v.Heals = out recs (stepS recs v d) := by
  unfold seal_vault_does_v1 stepS
  by_cases h0 : d.Kind < 0 ∨ 5 < d.Kind
  · rw [if_pos (by simpa using h0), if_pos h0]; rfl
  rw [if_neg (by simpa using h0), if_neg h0]
  have hcs : d.Kind = 0 ∨ d.Kind = 1 ∨ d.Kind = 2 ∨ d.Kind = 3 ∨ d.Kind = 4 ∨ d.Kind = 5 := by omega
  rcases hcs with hk | hk | hk | hk | hk | hk
  · have ht : decide (Int.tmod d.Kind 2 = 1) = false := by rw [hk]; rfl
    have h2 : decide (2 < d.Kind) = false := by rw [hk]; rfl
    simp only [ht, h2, Bool.false_and, Bool.false_eq_true, if_false, ob_some]
    rw [if_neg (by omega), if_neg (by omega), if_pos hk]
    exact does_0 hv hm hr hw hk
  · have ht : decide (Int.tmod d.Kind 2 = 1) = true := by rw [hk]; rfl
    have h2 : decide (2 < d.Kind) = false := by rw [hk]; rfl
    simp only [ht, h2, Bool.true_and, Bool.false_eq_true, if_false, if_true]
    by_cases hw1 : d.Who < 0 ∨ (v.Copies.length : Int) ≤ d.Who
    · rw [if_pos (by simpa using hw1), if_pos ⟨.inl hk, hw1⟩]; rfl
    · rw [if_neg (by simpa using hw1), if_neg (fun h => hw1 h.2), asrt_pos (by omega), ob_some, if_neg (by omega), if_neg (by omega), if_pos hk]
      exact does_1 hv hm hk (by omega) rfl rfl
  · have ht : decide (Int.tmod d.Kind 2 = 1) = false := by rw [hk]; rfl
    have h2 : decide (2 < d.Kind) = false := by rw [hk]; rfl
    simp only [ht, h2, Bool.false_and, Bool.false_eq_true, if_false, ob_some]
    rw [if_neg (by omega), if_neg (by omega), if_neg (by omega), if_neg (by omega), if_pos hk]
    exact does_2 hv hm hk
  · have ht : decide (Int.tmod d.Kind 2 = 1) = true := by rw [hk]; rfl
    have h2 : decide (2 < d.Kind) = true := by rw [hk]; rfl
    simp only [ht, h2, Bool.true_and, if_true]
    by_cases hw1 : d.Who < 0 ∨ (v.Copies.length : Int) ≤ d.Who
    · rw [if_pos (by simpa using hw1), if_pos ⟨.inr (.inl hk), hw1⟩]; rfl
    · rw [if_neg (by simpa using hw1), if_neg (fun h => hw1 h.2), asrt_pos (by omega), ob_some]
      by_cases hn : d.N < 0 ∨ (v.Heals.length : Int) ≤ d.N
      · rw [if_pos (by simpa using hn), if_pos ⟨by omega, hn⟩]; rfl
      · rw [if_neg (by simpa using hn), if_neg (fun h => hn h.2), asrt_pos (by omega), if_neg (by omega), if_neg (by omega), if_neg (by omega), if_pos hk]
        exact does_3 hv hm hk (by omega) (by omega) rfl rfl
  · have ht : decide (Int.tmod d.Kind 2 = 1) = false := by rw [hk]; rfl
    have h2 : decide (2 < d.Kind) = true := by rw [hk]; rfl
    simp only [ht, h2, Bool.false_and, Bool.false_eq_true, if_false, if_true, ob_some]
    rw [if_neg (show ¬ ((d.Kind = 1 ∨ d.Kind = 3 ∨ d.Kind = 5) ∧ (d.Who < 0 ∨ (v.Copies.length : Int) ≤ d.Who)) by omega)]
    by_cases hn : d.N < 0 ∨ (v.Heals.length : Int) ≤ d.N
    · rw [if_pos (by simpa using hn), if_pos ⟨by omega, hn⟩]; rfl
    · rw [if_neg (by simpa using hn), if_neg (fun h => hn h.2), asrt_pos (by omega), if_neg (by omega), if_neg (by omega), if_neg (by omega), if_neg (by omega), if_pos hk]
      exact does_4 hv hm hk (by omega) rfl
  · have ht : decide (Int.tmod d.Kind 2 = 1) = true := by rw [hk]; rfl
    have h2 : decide (2 < d.Kind) = true := by rw [hk]; rfl
    simp only [ht, h2, Bool.true_and, if_true]
    by_cases hw1 : d.Who < 0 ∨ (v.Copies.length : Int) ≤ d.Who
    · rw [if_pos (by simpa using hw1), if_pos ⟨.inr (.inr hk), hw1⟩]; rfl
    · rw [if_neg (by simpa using hw1), if_neg (fun h => hw1 h.2), asrt_pos (by omega), ob_some]
      by_cases hn : d.N < 0 ∨ (v.Heals.length : Int) ≤ d.N
      · rw [if_pos (by simpa using hn), if_pos ⟨by omega, hn⟩]; rfl
      · rw [if_neg (by simpa using hn), if_neg (fun h => hn h.2), asrt_pos (by omega), if_neg (by omega), if_neg (by omega), if_neg (by omega), if_neg (by omega), if_neg (by omega)]
        exact does_5 hv hm hk (by omega) (by omega) rfl rfl
theorem lset_mem {α : Type} {l : List α} {n : Int} {x y : α} (h : y ∈ lset l n x) : y ∈ l ∨ y = x := List.mem_or_eq_of_mem_set h
theorem lset_length {α : Type} (l : List α) (n : Int) (x : α) : (lset l n x).length = l.length := by simp [lset]
theorem VB.up (hv : VB v m) : VB v (m + 1) :=
  ⟨hv.tk, by have := hv.wr; omega, fun t ht => by have := hv.tl t ht; omega, hv.cn, hv.cp, by have := hv.hl; omega, fun h hh => by obtain ⟨a, b, c, d, e⟩ := hv.hh h hh; exact ⟨by omega, by omega, by omega, d, e⟩⟩
theorem onceS_len (l : List Int) (n : Int) : (onceS l n).length ≤ l.length + 1 := by unfold onceS; split <;> simp
theorem vb_step (hv : VB v m) (hr : ∀ r ∈ recs, True) : VB (stepS recs v d).2 (m + 1) := by
  have hup := hv.up
  unfold stepS
  split
  · exact hup
  rename_i h0
  split
  · exact hup
  rename_i h1
  split
  · exact hup
  rename_i h2
  split
  · unfold st0; split
    · exact hup
    · refine ⟨by simp [hv.tk], by have := hv.wr; simp; omega, fun t ht => ?_, hup.cn, hup.cp, hup.hl, hup.hh⟩
      rcases List.mem_append.1 ht with h | h
      · exact hup.tl t h
      · simp at h; subst h; simp
  split
  · rename_i hk; unfold st1; split
    · exact hup
    · rename_i hn; split
      · rename_i hf
        refine ⟨by simp [lset_length, hv.tk], hup.wr, fun t ht => ?_, by simp only [lset_length]; exact hup.cn, fun c hc => ?_, hup.hl, hup.hh⟩
        · rcases lset_mem ht with h | h
          · exact hup.tl t h
          · subst h
            have := hv.tl _ (mem_at (l := v.Took) (n := d.N) (by have := hv.tk; omega))
            have := onceS_len (lget v.Took d.N) d.Who
            omega
        · rcases lset_mem hc with h | h
          · exact hup.cp c h
          · subst h
            have hl := chk_len (apF_0 hf).1
            have := apR_len (lget v.Copies d.Who) d.N (lget v.Wrote d.N)
            unfold apC; rw [if_neg (by simp [hf])]
            show (apR _ _ _).length ≤ 1000
            omega
      · exact hup
  split
  · unfold st2; split
    · exact hup
    · split
      · exact hup
      · split
        · exact hup
        · refine ⟨hup.tk, hup.wr, hup.tl, hup.cn, hup.cp, by have := hv.hl; simp; omega, fun h hh => ?_⟩
          rcases List.mem_append.1 hh with q | q
          · exact hup.hh h q
          · simp at q; subst q; simp
  split
  · rename_i hk
    obtain ⟨g1, g2, g3, g4, g5⟩ := hv.hh _ (mem_at (l := v.Heals) (n := d.N) (by omega))
    have g6 := hv.cp _ (mem_at (l := v.Copies) (n := d.Who) (by omega))
    unfold st3
    dsimp only
    split
    · rename_i hf
      have hcl : (clC (lget v.Copies d.Who) (lget v.Heals d.N).Epoch).Recs.length ≤ 1000 := by unfold clC; rw [if_neg (by simp [hf])]; exact g6
      refine ⟨hup.tk, hup.wr, hup.tl, by simp only [lset_length]; exact hup.cn, fun c hc => ?_, ?_, fun h hh => ?_⟩
      · rcases lset_mem hc with h | h
        · exact hup.cp c h
        · subst h; exact hcl
      · show (if _ then _ else _ : List Heal).length ≤ m + 1
        split
        · rw [lset_length]; exact hup.hl
        · exact hup.hl
      · have hh : h ∈ (if (lget v.Heals d.N).Has = false ∧ d.Who ∉ (lget v.Heals d.N).Heard then lset v.Heals d.N _ else v.Heals) := hh
        split at hh
        · rcases lset_mem hh with q | q
          · exact hup.hh h q
          · subst q
            refine ⟨by simp; omega, by simp; omega, by show (lget v.Heals d.N).Ends.length ≤ m + 1; omega, g4, fun c hc => ?_⟩
            rcases List.mem_append.1 hc with q | q
            · exact g5 c q
            · simp at q; subst q; exact hcl
        · exact hup.hh h hh
    · exact hup
  split
  · rename_i hk
    obtain ⟨g1, g2, g3, g4, g5⟩ := hv.hh _ (mem_at (l := v.Heals) (n := d.N) (by omega))
    unfold st4
    dsimp only
    split
    · refine ⟨hup.tk, hup.wr, hup.tl, hup.cn, hup.cp, by rw [lset_length]; exact hup.hl, fun h hh => ?_⟩
      rcases lset_mem hh with q | q
      · exact hup.hh h q
      · subst q
        exact ⟨by show (lget v.Heals d.N).Heard.length ≤ m + 1; omega, by show (lget v.Heals d.N).Said.length ≤ m + 1; omega, by show (lget v.Heals d.N).Ends.length ≤ m + 1; omega, chS_recs g5, g5⟩
    · exact hup
  · have hk : d.Kind = 5 := by omega
    obtain ⟨g1, g2, g3, g4, g5⟩ := hv.hh _ (mem_at (l := v.Heals) (n := d.N) (by omega))
    unfold st5
    dsimp only
    split
    · exact hup
    · split
      · rename_i hf
        refine ⟨hup.tk, hup.wr, hup.tl, by simp only [lset_length]; exact hup.cn, fun c hc => ?_, by rw [lset_length]; exact hup.hl, fun h hh => ?_⟩
        · rcases lset_mem hc with h | h
          · exact hup.cp c h
          · subst h
            unfold enC; rw [if_neg (by simp [hf])]; exact g4
        · rcases lset_mem hh with q | q
          · exact hup.hh h q
          · subst q
            have := onceS_len (lget v.Heals d.N).Ends d.Who
            exact ⟨by show (lget v.Heals d.N).Heard.length ≤ m + 1; omega, by show (lget v.Heals d.N).Said.length ≤ m + 1; omega, by show (onceS _ _).length ≤ m + 1; omega, g4, g5⟩
      · exact hup
theorem w1 : (st1 v d).2.Wrote = v.Wrote := by
  unfold st1; split
  · rfl
  · split <;> rfl
theorem w2 : (st2 v d).2.Wrote = v.Wrote := by
  unfold st2; split
  · rfl
  · split
    · rfl
    · split <;> rfl
theorem w3 : (st3 v d).2.Wrote = v.Wrote := by
  unfold st3; dsimp only; split <;> rfl
theorem w4 : (st4 v d).2.Wrote = v.Wrote := by
  unfold st4; dsimp only; split <;> rfl
theorem w5 : (st5 v d).2.Wrote = v.Wrote := by
  unfold st5; dsimp only; split
  · rfl
  · split <;> rfl
theorem wrote_step (hw : v.Wrote.length ≤ recs.length) : (stepS recs v d).2.Wrote.length ≤ recs.length := by
  unfold stepS
  split
  · exact hw
  split
  · exact hw
  split
  · exact hw
  split
  · unfold st0; split
    · exact hw
    · simp; omega
  split
  · rw [w1]; exact hw
  split
  · rw [w2]; exact hw
  split
  · rw [w3]; exact hw
  split
  · rw [w4]; exact hw
  · rw [w5]; exact hw
end
end G
end Go.Proofs.Yteckapomkemglaa
