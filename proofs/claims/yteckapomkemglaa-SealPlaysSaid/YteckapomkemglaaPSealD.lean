/- Which records are chosen. -/
import Derived.Test.YteckapomkemglaaPSealC
namespace Go.Proofs.Yteckapomkemglaa
open Go Go.Dm
set_option linter.unusedVariables false
set_option linter.unusedSimpArgs false
namespace G
abbrev Ans : Type := List (List UInt8) × Fault
def badF (said : List Copy) (k : Nat) : Option Ans := if (chkS (lget said (k : Int))).Code ≠ 0 then some ([], ⟨(chkS (lget said (k : Int))).Code, (k : Int)⟩) else if (lget said (k : Int)).Closed = false then some ([], ⟨11, (k : Int)⟩) else none
def bet (b c : Copy) : Copy := if b.Ended < c.Ended ∨ (b.Ended = 0 ∧ c.Ended = 0) ∧ (b.Recs.length : Int) < (c.Recs.length : Int) then c else b
def bE (said : List Copy) : Nat → Int
  | 0 => 0
  | k + 1 => max (bE said k) (lget said (k : Int)).Ended
def bL (said : List Copy) : Nat → Int
  | 0 => 0
  | k + 1 => max (bL said k) ((lget said (k : Int)).Recs.length : Int)
def bB (said : List Copy) : Nat → Copy
  | 0 => lget said 0
  | k + 1 => bet (bB said k) (lget said ((k + 1 : Nat) : Int))
def chR (n : Int) (said : List Copy) : Ans := if 2 * (said.length : Int) ≤ n then ([], ⟨6, -1⟩) else ((bB said (said.length - 1)).Recs, F0)
def chS (n : Int) (said : List Copy) : Ans := if n < 1 ∨ 7 < n then ([], ⟨3, -1⟩) else if n < (said.length : Int) then ([], ⟨2, -1⟩) else firstFrom (badF said) (chR n said) 0 said.length
theorem firstFrom_none {ρ : Type} (r : ρ) : ∀ m k : Nat, firstFrom (fun _ => none) r k m = r
  | 0, _ => rfl
  | m + 1, k => by rw [firstFrom]; exact firstFrom_none r m (k + 1)
theorem loop_count {σ ρ : Type} {step : σ → Option (σ ⊕ ρ)} (st : Nat → σ) (r : ρ) (n : Nat) (h : ∀ k : Nat, k < n → step (st k) = some (.inl (st (k + 1)))) (he : step (st n) = some (.inr r)) : loopO step (st 0) = some r := by
  rw [loop_firstG st (fun _ => none) r n h he, firstFrom_none]
theorem lget_mem {l : List Copy} {k : Nat} (h : k < l.length) : lget l (k : Int) ∈ l := by
  have := lget_drop l k h
  have h2 : lget l (k : Int) ∈ l.drop k := by rw [this]; simp
  exact List.mem_of_mem_drop h2
theorem lget_tl (l : List Copy) (k : Nat) (h : k + 1 < l.length) : lget (ldrop l 1) (k : Int) = lget l ((k + 1 : Nat) : Int) := by
  simp only [lget, ldrop]
  simp [List.getD, List.getElem?_drop, Nat.add_comm]
theorem bB_mem (said : List Copy) : ∀ k : Nat, k < said.length → bB said k ∈ said
  | 0, h => lget_mem (k := 0) h
  | k + 1, h => by
    rw [bB]; unfold bet
    split
    · exact lget_mem h
    · exact bB_mem said k (by omega)
theorem choose_eq (n : Int) (said : List Copy) (hb : ∀ c ∈ said, c.Recs.length ≤ 1000000) : seal_Choose n said = some (chS n said) := by
  unfold seal_Choose chS
  simp only [lt, seal_fault]
  by_cases h1 : n < 1 ∨ 7 < n
  · rw [if_pos (by simpa using h1), if_pos h1]
  · rw [if_neg (by simpa using h1), if_neg h1]
    by_cases h2 : n < (said.length : Int)
    · rw [if_pos (d_t h2), if_pos h2]
    · rw [if_neg (d_f h2), if_neg h2]
      unfold seal_Choose_L2
      refine loop_firstF (step := fun y => seal_Choose_B2 n said y) (badF said) (chR n said) said.length (fun k hk => ?_) ?_
      · have hw : w64 ((k : Int) + 1) = ((k + 1 : Nat) : Int) := by rw [w64_id (by omega) (by omega)]; omega
        show seal_Choose_B2 n said (k : Int) = _
        unfold seal_Choose_B2 badF
        rw [if_pos (d_t (by omega)), asrt_pos (by omega)]
        have hc := check_eq (lget said (k : Int)) (hb _ (lget_mem hk))
        rw [show (⟨(lget said (k : Int)).Epoch, (lget said (k : Int)).Closed, (lget said (k : Int)).Recs, (lget said (k : Int)).Ended⟩ : Copy) = lget said (k : Int) from rfl, hc, ob_some, hw]
        simp only [lt, seal_fault]
        by_cases c1 : (chkS (lget said (k : Int))).Code = 0
        · cases c2 : (lget said (k : Int)).Closed <;> simp [c1, nx]
        · simp [c1, nx]
      · show seal_Choose_B2 n said (said.length : Int) = _
        unfold seal_Choose_B2
        rw [if_neg (d_f (by omega))]
        suffices h : seal_Choose_J1 n said () = some (chR n said) by rw [h]; rfl
        unfold seal_Choose_J1 chR
        rw [w64_id (by omega) (by omega)]
        simp only [lt, seal_fault]
        by_cases h3 : 2 * (said.length : Int) ≤ n
        · rw [if_pos (d_t h3), if_pos h3]
        · rw [if_neg (d_f h3), if_neg h3, asrt_pos (by omega), asrt_pos (by omega)]
          unfold seal_Choose_L1
          have hdl : (ldrop said 1).length = said.length - 1 := by simp [ldrop]
          refine loop_count (step := fun y => seal_Choose_B1 said y) (fun k => (bB said k, (k : Int))) _ (said.length - 1) (fun k hk => ?_) ?_
          · have hw : w64 ((k : Int) + 1) = ((k + 1 : Nat) : Int) := by rw [w64_id (by omega) (by omega)]; omega
            show seal_Choose_B1 said (bB said k, (k : Int)) = _
            unfold seal_Choose_B1
            dsimp only
            rw [if_pos (d_t (by omega)), asrt_pos (by omega), hw, lget_tl said k (by omega), bB]
            unfold bet
            by_cases c : (bB said k).Ended < (lget said ((k + 1 : Nat) : Int)).Ended ∨ ((bB said k).Ended = 0 ∧ (lget said ((k + 1 : Nat) : Int)).Ended = 0) ∧ ((bB said k).Recs.length : Int) < ((lget said ((k + 1 : Nat) : Int)).Recs.length : Int)
            · rw [if_pos (by simp only [Bool.or_eq_true, Bool.and_eq_true, decide_eq_true_eq]; exact c), if_pos c]; rfl
            · rw [if_neg (by simp only [Bool.or_eq_true, Bool.and_eq_true, decide_eq_true_eq]; exact c), if_neg c]; rfl
          · show seal_Choose_B1 said (bB said (said.length - 1), ((said.length - 1 : Nat) : Int)) = _
            unfold seal_Choose_B1
            dsimp only
            rw [if_neg (d_f (by omega))]
            unfold seal_Choose_J2
            rw [clone_eq _ (hb _ (bB_mem said _ (by omega)))]; rfl
theorem choose1_eq (n : Int) (said : List Copy) (hb : ∀ c ∈ said, c.Recs.length ≤ 1000000) : seal_Choose_v1 n said = some (chS n said) := choose_eq n said hb
end G
end Go.Proofs.Yteckapomkemglaa
