/- SealChooses. -/
import Derived.Test.YteckapomkemglaaPSealDoes
namespace Go.Proofs.Yteckapomkemglaa
open Go Go.Dm
set_option linter.unusedVariables false
set_option linter.unusedSimpArgs false
namespace G
theorem chS_len (n : Int) (said : List Copy) (h : ∀ c ∈ said, c.Recs.length ≤ 1000) : (chS n said).1.length ≤ 1000000 := by have := chS_recs (n := n) h; omega
theorem chooses_J1 (n : Int) (said : List Copy) (hs : said.length ≤ 20) (h : ∀ c ∈ said, c.Recs.length ≤ 1000) : law_SealChooses_J1 n said said = some true := by
  have hb : ∀ c ∈ said, c.Recs.length ≤ 1000000 := fun c hc => by have := h c hc; omega
  unfold law_SealChooses_J1
  rw [choose1_eq _ _ hb, ob_some]
  unfold law_SealChooses_L1
  refine loop_count (step := fun y => law_SealChooses_B1 n said said (chS n said) y) (fun k => (k : Int)) true said.length (fun k hk => ?_) ?_
  · have hw : w64 ((k : Int) + 1) = ((k + 1 : Nat) : Int) := by rw [w64_id (by omega) (by omega)]; omega
    show law_SealChooses_B1 n said said (chS n said) (k : Int) = _
    unfold law_SealChooses_B1
    rw [if_pos (d_t (by omega)), asrt_pos (by omega), asrt_pos (by omega), asrt_pos (by omega)]
    rw [show (⟨(lget said (k : Int)).Epoch, (lget said (k : Int)).Closed, (lget said (k : Int)).Recs, (lget said (k : Int)).Ended⟩ : Copy) = lget said (k : Int) from rfl, sameCopy_self _ (hb _ (lget_mem hk)), ob_some, if_neg (by simp), hw]
  · show law_SealChooses_B1 n said said (chS n said) (said.length : Int) = _
    unfold law_SealChooses_B1
    rw [if_neg (d_f (by omega))]
    suffices hh : law_SealChooses_J2 n said (chS n said) () = some true by rw [hh]; rfl
    unfold law_SealChooses_J2
    rw [chosen1_eq _ _ hb, ob_some, if_pos (by simp), sameTexts_self _ (chS_len n said h), ob_some]
    simp [lt]
theorem SealChooses_eq (n : Int) (said : List Copy) : law_SealChooses n said = some true := by
  unfold law_SealChooses
  rw [begun_eq, ob_some, if_neg (by simp)]
  by_cases h : 20 < (said.length : Int)
  · rw [if_pos (d_t h)]
  · rw [if_neg (d_f h)]
    unfold law_SealChooses_L2
    by_cases hall : ∀ k : Nat, k < said.length → (lget said (k : Int)).Recs.length ≤ 300
    · have hh : ∀ c ∈ said, c.Recs.length ≤ 1000 := fun c hc => by
        obtain ⟨k, hk, rfl⟩ := mem_lget.1 hc
        have := hall k hk; omega
      refine loop_count (step := fun y => law_SealChooses_B2 n said y) (fun k => (said.take k, (k : Int))) true said.length (fun k hk => ?_) ?_
      · have hw : w64 ((k : Int) + 1) = ((k + 1 : Nat) : Int) := by rw [w64_id (by omega) (by omega)]; omega
        have hk2 := hall k hk
        show law_SealChooses_B2 n said (said.take k, (k : Int)) = _
        unfold law_SealChooses_B2
        dsimp only
        rw [if_pos (d_t (by omega)), asrt_pos (by omega), if_neg (d_f (by omega)), asrt_pos (by omega)]
        rw [show (⟨(lget said (k : Int)).Epoch, (lget said (k : Int)).Closed, (lget said (k : Int)).Recs, (lget said (k : Int)).Ended⟩ : Copy) = lget said (k : Int) from rfl, ownCopy_eq _ (by omega), ob_some, asrt_pos (by simp; omega), hw]
        have : said.take k ++ [lget said (k : Int)] = said.take (k + 1) := by
          rw [List.take_add_one]
          simp [lget, List.getD, List.getElem?_eq_getElem hk]
        rw [this]
      · show law_SealChooses_B2 n said (said.take said.length, (said.length : Int)) = _
        unfold law_SealChooses_B2
        dsimp only
        rw [if_neg (d_f (by omega)), List.take_length, chooses_J1 n said (by omega) hh]; rfl
    · -- one of them is too long: the law says nothing
      have hf := loop_firstG (step := fun y => law_SealChooses_B2 n said y) (fun k => (said.take k, (k : Int))) (fun k => if 300 < (lget said (k : Int)).Recs.length then some true else none)
      obtain ⟨k0, hk0⟩ := Classical.not_forall.1 hall
      have hk0l : k0 < said.length := Classical.byContradiction fun hn => hk0 fun h => absurd h hn
      have hk0r : 300 < (lget said (k0 : Int)).Recs.length := by
        have : ¬ (lget said (k0 : Int)).Recs.length ≤ 300 := fun h2 => hk0 fun _ => h2
        omega
      -- walk up to the first that is too long
      have key : ∀ m k : Nat, k + m = k0 → ∀ acc : List Copy, acc.length = k → loopO (fun y => law_SealChooses_B2 n said y) (acc, (k : Int)) = some true := by
        intro m
        induction m with
        | zero =>
          intro k e acc ha
          have : k = k0 := by omega
          subst this
          refine loopO_inr ?_
          show law_SealChooses_B2 n said (acc, (k : Int)) = _
          unfold law_SealChooses_B2
          dsimp only
          rw [if_pos (d_t (by omega)), asrt_pos (by omega), if_pos (d_t (by omega))]
        | succ m ih =>
          intro k e acc ha
          have hw : w64 ((k : Int) + 1) = ((k + 1 : Nat) : Int) := by rw [w64_id (by omega) (by omega)]; omega
          by_cases c : 300 < (lget said (k : Int)).Recs.length
          · refine loopO_inr ?_
            show law_SealChooses_B2 n said (acc, (k : Int)) = _
            unfold law_SealChooses_B2
            dsimp only
            rw [if_pos (d_t (by omega)), asrt_pos (by omega), if_pos (d_t (by omega))]
          · refine (loopO_inl (y := (acc ++ [lget said (k : Int)], ((k + 1 : Nat) : Int))) ?_).trans (ih (k + 1) (by omega) _ (by simp [ha]))
            show law_SealChooses_B2 n said (acc, (k : Int)) = _
            unfold law_SealChooses_B2
            dsimp only
            rw [if_pos (d_t (by omega)), asrt_pos (by omega), if_neg (d_f (by omega)), asrt_pos (by omega)]
            rw [show (⟨(lget said (k : Int)).Epoch, (lget said (k : Int)).Closed, (lget said (k : Int)).Recs, (lget said (k : Int)).Ended⟩ : Copy) = lget said (k : Int) from rfl, ownCopy_eq _ (by omega), ob_some, asrt_pos (by simp; omega), hw]
      exact key k0 0 (by omega) [] rfl
end G
end Go.Proofs.Yteckapomkemglaa
