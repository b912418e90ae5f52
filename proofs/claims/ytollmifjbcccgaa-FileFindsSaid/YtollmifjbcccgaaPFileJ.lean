/- Any bytes opened, and the document's index. -/
import Derived.Test.YtollmifjbcccgaaPFileI
namespace Go.Proofs.Ytollmifjbcccgaa
open Go Go.Dm
set_option linter.unusedVariables false
set_option linter.unusedSectionVars false
set_option linter.unusedSimpArgs false
namespace G
def badO (b : List UInt8) : Prop := (opn b.length b [] 0).2 ≠ b.length ∨ (opn b.length b [] 0).1.length < 2 ∨ (lget (opn b.length b [] 0).1 (((opn b.length b [] 0).1.length : Int) - 1)).length = 0
instance (b : List UInt8) : Decidable (badO b) := inferInstanceAs (Decidable (_ ∨ _))
def idxO (L : List (List UInt8)) : Option (List (List UInt8)) := idxP L (L.length - 2) 0 (lget L ((L.length : Int) - 2)) []
def openS (b : List UInt8) : Bool × opened × Fault :=
  if 60000 < b.length then (false, default, ⟨8, 0⟩)
  else if badO b then (false, default, ⟨5, 0⟩)
  else opI (opn b.length b [] 0).1 (idxO (opn b.length b [] 0).1)
theorem open_all (b : List UInt8) : file_open b = some (openS b) := by
  unfold file_open openS
  by_cases c : 60000 < b.length
  · rw [if_pos (d_t (by omega)), if_pos c]; rfl
  · have hlen := opn_len b.length b [] 0
    have hmem := fun s h => opn_mem b.length b [] 0 s h
    obtain ⟨L, n, hop⟩ : ∃ L n, opn b.length b [] 0 = (L, n) := ⟨_, _, rfl⟩
    have hb : badO b ↔ (n ≠ b.length ∨ L.length < 2 ∨ (lget L ((L.length : Int) - 1)).length = 0) := by unfold badO; rw [hop]
    rw [if_neg (d_f (by omega)), if_neg c, opened_eq _ (by omega), ob_some, hop]
    rw [hop] at hlen hmem
    dsimp only at hlen hmem ⊢
    unfold idxO
    have hL : L.length ≤ 60000 := by have := hlen.1; simp at this; omega
    have hw1 : w64 ((L.length : Int) - 2) = (L.length : Int) - 2 := w64_id (by omega) (by omega)
    have hw2 : w64 ((L.length : Int) - 2 + 1) = (L.length : Int) - 1 := by rw [w64_id (by omega) (by omega)]; omega
    rw [hw1, hw2]
    have hcond : (((!decide ((n : Int) = (b.length : Int))) || (decide ((L.length : Int) - 2 < 0))) || (decide (((lget L ((L.length : Int) - 1)).length : Int) = 0))) = decide (n ≠ b.length ∨ L.length < 2 ∨ (lget L ((L.length : Int) - 1)).length = 0) := by
      rw [Bool.eq_iff_iff]
      simp only [Bool.or_eq_true, decide_eq_true_eq, Bool.not_eq_true', decide_eq_false_iff_not]
      omega
    rw [hcond, asrt_pos (fun q => by
      simp only [Bool.not_eq_true', Bool.or_eq_false_iff, decide_eq_false_iff_not, Bool.not_eq_false'] at q
      omega)]
    by_cases cb : n ≠ b.length ∨ L.length < 2 ∨ (lget L ((L.length : Int) - 1)).length = 0
    · rw [if_pos (d_t cb), if_pos (hb.2 cb)]; rfl
    · rw [if_neg (d_f cb), if_neg (fun q => cb (hb.1 q)), asrt_pos (by omega), asrt_pos (by omega), asrt_pos (by omega)]
      dsimp only [lt, wire_Read_v1]
      have hs : ∀ s ∈ L, s.length ≤ 100000 := fun s h => by
        rcases hmem s h with q | q
        · cases q
        · omega
      exact open_idx (by omega) (by omega) hs (n : Int) (L.length - 2) 0 _ [] (by omega) (by omega) (by simp) (hs _ (lget_mem L _ (by omega)))
section
variable {L : List (List UInt8)} (h2 : 2 ≤ L.length) (hL : L.length ≤ 100000) (hs : ∀ s ∈ L, s.length ≤ 100000) (z : Int) (f : Fault)
include h2 hL hs
theorem ridx : ∀ (m k : Nat) (x : List UInt8) (rows : List (List UInt8)), L.length - 2 - k = m → k ≤ L.length - 2 → rows.length ≤ k → x.length ≤ 100000 → R_OpenedFile_v1_L2 (L, z) (f, x, rows, (k : Int)) = match idxP L m k x rows with
    | some rs => R_OpenedFile_v1_L1 (L, z) (f, [], rs) (f, [], [], 0)
    | none => some ([], [], ⟨5, 1⟩)
  | 0, k, x, rows, e, hk, hr, hx => by
    have hw1 : w64 ((L.length : Int) - 2) = (L.length : Int) - 2 := w64_id (by omega) (by omega)
    have hB : R_OpenedFile_v1_B2 (L, z) (f, x, rows, (k : Int)) = inrO (R_OpenedFile_v1_J1 (L, z) (f, x, rows)) := by
      unfold R_OpenedFile_v1_B2
      dsimp only
      rw [hw1, if_neg (d_f (by omega))]
    unfold R_OpenedFile_v1_L2
    rw [loopO_eq, hB, idxP]
    unfold R_OpenedFile_v1_J1
    dsimp only
    by_cases c : x = []
    · subst c
      rw [if_pos rfl, if_neg (by simp)]
      dsimp only
      cases R_OpenedFile_v1_L1 (L, z) (f, [], rows) (f, [], [], 0) <;> rfl
    · have : 0 < (x.length : Int) := by have := List.length_pos_iff.2 c; omega
      rw [if_neg c, if_pos (d_t this)]; rfl
  | m + 1, k, x, rows, e, hk, hr, hx => by
    have hw1 : w64 ((L.length : Int) - 2) = (L.length : Int) - 2 := w64_id (by omega) (by omega)
    have hw : w64 ((k : Int) + 1) = ((k + 1 : Nat) : Int) := by rw [w64_id (by omega) (by omega)]; omega
    rw [idxP]
    cases hn : rdN x with
    | none =>
      have ht : rdT x = none := by unfold rdT; rw [hn]
      have ha : rnat x = (0, 0) := by unfold rnat; rw [hn]
      rw [ht]
      refine loopO_inr ?_
      unfold R_OpenedFile_v1_B2
      dsimp only
      rw [hw1, if_pos (d_t (by omega)), numAt_eq x (by omega), ob_some, ha, if_pos (by simp)]; rfl
    | some q =>
      obtain ⟨n, r⟩ := q
      obtain ⟨ex, hn9⟩ := rdN_some hn
      have hlx : x.length = (num n).length + r.length := by rw [ex, List.length_append]
      have hnp : 0 < (num n).length := num_pos n
      have ha : rnat x = ((n : Int), ((num n).length : Int)) := by unfold rnat; rw [hn]
      have hwr : w64 ((x.length : Int) - ((num n).length : Int)) = (r.length : Int) := by rw [w64_id (by omega) (by omega)]; omega
      by_cases cn : n ≤ r.length
      · have ht : rdT x = some (r.take n, r.drop n) := by unfold rdT; rw [hn]; dsimp only; rw [if_pos cn]
        have hwc : w64 (((num n).length : Int) + (n : Int)) = (((num n).length + n : Nat) : Int) := by rw [w64_id (by omega) (by omega)]; omega
        have hd1 : ldrop (ltake x (((num n).length + n : Nat) : Int)) ((num n).length : Int) = r.take n := by
          rw [ltake_nat, ldrop_nat, ex, List.take_append, List.drop_append]
          simp
        have hd2 : ldrop x (((num n).length + n : Nat) : Int) = r.drop n := by rw [ldrop_nat, ex, List.drop_append]; simp
        rw [ht]
        dsimp only
        have hrd : (r.drop n).length ≤ 100000 := by rw [List.length_drop]; omega
        have hrl : (rows ++ [r.take n]).length ≤ k + 1 := by rw [List.length_append, List.length_singleton]; omega
        have pre : ∀ y, (ob (R_NumberAt (r.drop n)) fun x13 =>
              asrt ((!(decide (x13.2 = 0))) = true → 0 ≤ (k : Int) ∧ (k : Int) < (L.length : Int)) <|
              asrt ((!(decide (x13.2 = 0))) = true → 0 ≤ (k : Int) ∧ (k : Int) < (L.length : Int)) <|
              if ((decide (x13.2 = 0)) || (!decide (x13.1 = ((lget L (k : Int)).length : Int)))) = true then
                lt (R_F 5 1) fun x14 =>
                some (Sum.inr (([] : List Cell), ([] : List Int), x14))
              else
                asrt (0 ≤ x13.2 ∧ x13.2 ≤ ((r.drop n).length : Int)) <|
                some (Sum.inl (f, (ldrop (r.drop n) x13.2), rows ++ [r.take n], w64 ((k : Int) + 1)))) = y → R_OpenedFile_v1_B2 (L, z) (f, x, rows, (k : Int)) = y := by
          intro y hy
          unfold R_OpenedFile_v1_B2
          dsimp only
          have hcond : ((decide (((num n).length : Int) = 0)) || (decide ((r.length : Int) < (n : Int)))) = false := by
            rw [Bool.or_eq_false_iff]; exact ⟨decide_eq_false (by omega), decide_eq_false (by omega)⟩
          rw [hw1, if_pos (d_t (by omega)), numAt_eq x (by omega), ob_some, ha]
          dsimp only
          rw [hwr, hcond, if_neg (by decide), hwc, asrt_pos (by omega), hd1, asrt_pos (by omega)]
          dsimp only [lt]
          rw [asrt_pos (by omega), hd2]
          exact hy
        cases hm : rdN (r.drop n) with
        | none =>
          have ha2 : rnat (r.drop n) = (0, 0) := by unfold rnat; rw [hm]
          refine loopO_inr (pre _ ?_)
          rw [numAt_eq _ (by omega), ob_some, ha2, asrt_pos (fun q => by simp at q), asrt_pos (fun q => by simp at q), if_pos (by simp)]; rfl
        | some q =>
          obtain ⟨v, r'⟩ := q
          obtain ⟨er, _⟩ := rdN_some hm
          have hlr : (r.drop n).length = (num v).length + r'.length := by rw [er, List.length_append]
          have hvp : 0 < (num v).length := num_pos v
          have ha2 : rnat (r.drop n) = ((v : Int), ((num v).length : Int)) := by unfold rnat; rw [hm]
          have hd3 : ldrop (r.drop n) ((num v).length : Int) = r' := by rw [ldrop_nat, er, List.drop_left]
          dsimp only
          by_cases c : v = (lget L (k : Int)).length
          · rw [if_pos c]
            refine (loopO_inl (pre _ ?_)).trans (ridx m (k + 1) r' (rows ++ [r.take n]) (by omega) (by omega) hrl (by omega))
            have hc2 : ((decide (((num v).length : Int) = 0)) || (!decide ((v : Int) = ((lget L (k : Int)).length : Int)))) = false := by
              rw [Bool.or_eq_false_iff]; exact ⟨decide_eq_false (by omega), by rw [d_t (by omega)]; rfl⟩
            rw [numAt_eq _ (by omega), ob_some, ha2, asrt_pos (fun _ => by omega), asrt_pos (fun _ => by omega)]
            dsimp only
            rw [hc2, if_neg (by decide), asrt_pos (by omega), hd3, hw]
          · rw [if_neg c]
            refine loopO_inr (pre _ ?_)
            have hc2 : ((decide (((num v).length : Int) = 0)) || (!decide ((v : Int) = ((lget L (k : Int)).length : Int)))) = true := by
              have : decide ((v : Int) = ((lget L (k : Int)).length : Int)) = false := decide_eq_false (by omega)
              rw [this]; simp
            rw [numAt_eq _ (by omega), ob_some, ha2, asrt_pos (fun _ => by omega), asrt_pos (fun _ => by omega)]
            dsimp only
            rw [hc2, if_pos rfl]; rfl
      · have ht : rdT x = none := by unfold rdT; rw [hn]; dsimp only; rw [if_neg cn]
        rw [ht]
        refine loopO_inr ?_
        unfold R_OpenedFile_v1_B2
        dsimp only
        rw [hw1, if_pos (d_t (by omega)), numAt_eq x (by omega), ob_some, ha]
        dsimp only
        rw [hwr, if_pos (by simp only [Bool.or_eq_true, decide_eq_true_eq]; right; omega)]; rfl
end
end G
end Go.Proofs.Ytollmifjbcccgaa
