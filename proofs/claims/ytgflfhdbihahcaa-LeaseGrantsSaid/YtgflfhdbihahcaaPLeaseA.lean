/- Leases: the program's answers are the document's. -/
import Derived.Test.YtgflfhdbihahcaaGf1
namespace Go.Proofs.Ytgflfhdbihahcaa
open Go Go.Dm
set_option linter.unusedVariables false
set_option linter.unusedSimpArgs false
namespace G
theorem w64_id {x : Int} (h1 : -9223372036854775808 ≤ x) (h2 : x ≤ 9223372036854775807) : w64 x = x := by
  unfold w64 IntKind.wrap
  simp only [IntKind.signed, IntKind.bits]
  simp
  split <;> omega
theorem asked_eq (l : Lease) (who now span : Int) : lease_asked l who now span = R_Wished l who now span := by
  simp only [lease_asked, R_Wished, lease_Check, lease_number, R_Num, lease_fault, R_F, lease_spanned, R_Spanned, lt]
  grind
theorem wished_c (l : Lease) (who now span : Int) : (R_Wished l who now span).Code = 0 → R_Wished l who now span = ⟨0, 0⟩ ∧ 0 ≤ l.Holder ∧ l.Holder ≤ 1000000000 ∧ 0 ≤ l.Epoch ∧ l.Epoch ≤ 1000000000 ∧ 0 ≤ l.Until ∧ l.Until ≤ 1000000000 ∧ 1 ≤ who ∧ who ≤ 1000000000 ∧ 0 ≤ now ∧ now ≤ 1000000000 ∧ 4 ≤ span ∧ span ≤ 1000000 := by
  simp only [R_Wished, R_Num, R_F, R_Spanned, lt, Bool.or_eq_true, Bool.and_eq_true, Bool.not_eq_true', decide_eq_true_eq, Bool.and_eq_false_imp, decide_eq_false_iff_not]
  repeat' split
  all_goals (simp; try omega)
theorem grant_eq (l : Lease) (who now span : Int) : lease_Grant l who now span = R_Granted l who now span := by
  simp only [lease_Grant, R_Granted, asked_eq, lt]
  have h := wished_c l who now span
  have w1 := @w64_id (l.Epoch + 1)
  have w2 := @w64_id (now + span)
  generalize R_Wished l who now span = f at *
  by_cases hc : f.Code = 0
  · obtain ⟨rfl, h⟩ := h hc
    rw [w1 (by omega) (by omega), w2 (by omega) (by omega)]
    simp only [lease_held, lease_Check, lease_number, lease_fault, R_F, lt]
    grind
  · grind
theorem renew_eq (l : Lease) (who epoch now span : Int) : lease_Renew l who epoch now span = R_Renewed l who epoch now span := by
  simp only [lease_Renew, R_Renewed, asked_eq, lt]
  have h := wished_c l who now span
  have w2 := @w64_id (now + span)
  generalize R_Wished l who now span = f at *
  by_cases hc : f.Code = 0
  · obtain ⟨rfl, h⟩ := h hc
    rw [w2 (by omega) (by omega)]
    obtain ⟨lh, le, lu⟩ := l
    simp only [lease_held, lease_Check, lease_number, lease_fault, R_F, lt]
    have h : 0 ≤ lh ∧ lh ≤ 1000000000 ∧ 0 ≤ le ∧ le ≤ 1000000000 ∧ 0 ≤ lu ∧ lu ≤ 1000000000 ∧ 1 ≤ who ∧ who ≤ 1000000000 ∧ 0 ≤ now ∧ now ≤ 1000000000 ∧ 4 ≤ span ∧ span ≤ 1000000 := (h rfl).2
    have hns : now + span ≥ 4 := by omega
    clear w2
    generalize now + span = ns at *
    by_cases h1 : lh = who
    · by_cases h2 : le = epoch
      · by_cases h3 : lu ≤ now
        · have h3' : ¬ now < lu := by omega
          simp [h1, h2, h3, h3']
        · have h3' : now < lu := by omega
          have h4 : ¬ lh = 0 := by omega
          have h4' : ¬ who = 0 := by omega
          have h5 : 0 ≤ who ∧ who ≤ 1000000000 ∧ 0 ≤ epoch ∧ epoch ≤ 1000000000 := by omega
          have h6 : max lu ns = if lu < ns then ns else lu := by
            rw [Int.max_def]; split <;> split <;> omega
          rw [h6]
          subst h1; subst h2
          simp [h3, h3', h4, h5]
          grind
      · have h2' : ¬ epoch = le := fun h => h2 h.symm
        simp [h1, h2]
    · simp [h1]
  · grind
theorem check_eq (l : Lease) : lease_Check l = if R_Num l.Holder && R_Num l.Epoch && R_Num l.Until then ⟨0, 0⟩ else ⟨3, 0⟩ := by
  simp only [lease_Check, lease_number, R_Num, lease_fault, lt]
  grind
theorem trust_eq (now span : Int) : lease_Trust now span = if R_Num now then (if (R_Spanned span).Code = 0 then (w64 (w64 (now + span) - w64 (Int.tdiv span 4)), ⟨0, 0⟩) else (0, R_Spanned span)) else (0, ⟨3, 0⟩) := by
  simp only [lease_Trust, lease_number, R_Num, lease_fault, lt, lease_spanned, lease_sure, R_Spanned, R_F]
  have w1 := @w64_id (now + span)
  have w2 := @w64_id (Int.tdiv span 4)
  have w3 := @w64_id (span - Int.tdiv span 4)
  have w4 := @w64_id (now + (span - Int.tdiv span 4))
  have w5 := @w64_id (now + span - Int.tdiv span 4)
  have t1 : 0 ≤ span → Int.tdiv span 4 = span / 4 := fun h => by rw [Int.tdiv_eq_ediv_of_nonneg h]
  by_cases h1 : 0 ≤ now ∧ now ≤ 1000000000
  · by_cases h2 : 4 ≤ span ∧ span ≤ 1000000
    · have t2 := t1 (by omega)
      simp only [t2] at w2 w3 w4 w5 ⊢
      rw [w2 (by omega) (by omega), w3 (by omega) (by omega), w4 (by omega) (by omega), w1 (by omega) (by omega), w5 (by omega) (by omega)]
      have h3 : ¬ span < 4 := by omega
      have h4 : ¬ 1000000 < span := by omega
      have h5 : now + (span - span / 4) = now + span - span / 4 := by omega
      simp [h1, h3, h4, h5]
    · have h3 : span < 4 ∨ 1000000 < span := by omega
      rcases h3 with h3 | h3 <;> simp [h1, h3]
  · by_cases h2 : 0 ≤ now
    · have h3 : ¬ now ≤ 1000000000 := by omega
      simp [h2, h3]
    · simp [h2]
theorem admit_eq (a e : Int) : lease_Admit a e = if R_Num a && R_Num e then (if e < a then (0, ⟨12, 0⟩) else (e, ⟨0, 0⟩)) else (0, ⟨3, 0⟩) := by
  simp only [lease_Admit, lease_number, R_Num, lease_fault, lt]
  grind
theorem spanned_c (s : Int) : (R_Spanned s).Code = 0 → (R_Spanned s).At = 0 := by
  simp only [R_Spanned, R_F, lt]
  split <;> simp
theorem grants_true (l : Lease) (who epoch now span : Int) : law_LeaseGrants l who epoch now span = true := by
  have hb : law_leaseBegun = true := by decide +kernel
  simp only [law_LeaseGrants, hb, grant_eq, renew_eq, check_eq, trust_eq, admit_eq, lt, R_F, Bool.not_true, Bool.false_eq_true, if_false]
  generalize R_Granted l who now span = g
  generalize R_Renewed l who epoch now span = r
  have hp := spanned_c span
  generalize R_Spanned span = p at *
  generalize R_Num l.Holder = b1
  generalize R_Num l.Epoch = b2
  generalize R_Num l.Until = b3
  generalize R_Num now = b4
  generalize R_Num epoch = b5
  obtain ⟨pc, pa⟩ := p
  generalize l.Epoch = ep
  rcases Classical.em (epoch < ep) with h2 | h2 <;> simp only [h2, if_true, if_false] <;> clear h2 <;> by_cases h1 : pc = 0 <;> cases b1 <;> cases b2 <;> cases b3 <;> cases b4 <;> cases b5 <;> simp_all
end G
end Go.Proofs.Ytgflfhdbihahcaa
