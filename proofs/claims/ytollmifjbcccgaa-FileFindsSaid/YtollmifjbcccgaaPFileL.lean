/- Open tells of any bytes what the document says. -/
import Derived.Test.YtollmifjbcccgaaPFileK
namespace Go.Proofs.Ytollmifjbcccgaa
open Go Go.Dm
set_option linter.unusedVariables false
set_option linter.unusedSectionVars false
set_option linter.unusedSimpArgs false
namespace G
/-- what is behind the blocks -/
noncomputable def endO (flt : List UInt8) : Option (List Cell × List Int) → List Cell × List Int × Fault
  | none => ([], [], ⟨5, 2⟩)
  | some q => if ¬ (cellF q.1).Code = 0 ∨ 500 < q.1.length then ([], [], ⟨5, 2⟩) else if filF q.1 = flt then (q.1, q.2, ⟨0, 0⟩) else ([], [], ⟨5, 3⟩)
noncomputable def fileO (b : List UInt8) : List Cell × List Int × Fault :=
  if 60000 < b.length then ([], [], ⟨8, 0⟩)
  else if badO b then ([], [], ⟨5, 0⟩)
  else match idxO (opn b.length b [] 0).1 with
    | none => ([], [], ⟨5, 1⟩)
    | some rows => endO (lget (opn b.length b [] 0).1 (((opn b.length b [] 0).1.length : Int) - 1)) (celP (opn b.length b [] 0).1 rows ((opn b.length b [] 0).1.length - 2) 0 [] [])
theorem idxP_len (L : List (List UInt8)) : ∀ (m k : Nat) (x : List UInt8) (rows rs : List (List UInt8)), idxP L m k x rows = some rs → rs.length = rows.length + m
  | 0, k, x, rows, rs, h => by
    rw [idxP] at h
    split at h
    · cases h; rfl
    · cases h
  | m + 1, k, x, rows, rs, h => by
    rw [idxP] at h
    split at h
    · cases h
    · split at h
      · cases h
      · split at h
        · have := idxP_len L m _ _ _ _ h
          rw [List.length_append, List.length_singleton] at this; omega
        · cases h
theorem celP_take (L rows : List (List UInt8)) (n : Nat) (hn : n ≤ L.length) : ∀ (m k : Nat) (acc : List Cell) (es : List Int), k + m = n → celP (L.take n) rows m k acc es = celP L rows m k acc es
  | 0, k, acc, es, _ => rfl
  | m + 1, k, acc, es, e => by
    have hg : lget (L.take n) (k : Int) = lget L (k : Int) := by
      have := lget_ltake L (n : Int) (k : Int) (by omega)
      rwa [ltake_nat] at this
    rw [celP, celP, hg]
    split
    · rfl
    · exact celP_take L rows n hn m (k + 1) _ _ (by omega)
theorem rfil_small {l : List Cell} (h : (cellF l).Code = 0) : R_FilterOf l = some (filF l) ∧ file_filter l = some (filF l) := by
  have hG := cellF_good h
  have hl := hG.len
  have hr : ∀ c ∈ l, c.Row.length ≤ 140737488351232 := fun c hc => by have := (code_len (hG.code c hc)).1; omega
  exact ⟨rfilter_eq l (by omega) hr, filter_eq l (by omega) hr⟩
theorem ropen_eq (b : List UInt8) : R_OpenedFile_v1 b = some (fileO b) := by
  unfold R_OpenedFile_v1 fileO
  by_cases c : 60000 < b.length
  · rw [if_pos (d_t (by omega)), if_pos c]; rfl
  · have hlen := opn_len b.length b [] 0
    have hmem := fun s h => opn_mem b.length b [] 0 s h
    obtain ⟨L, n, hop⟩ : ∃ L n, opn b.length b [] 0 = (L, n) := ⟨_, _, rfl⟩
    have hb : badO b ↔ (n ≠ b.length ∨ L.length < 2 ∨ (lget L ((L.length : Int) - 1)).length = 0) := by unfold badO; rw [hop]
    rw [if_neg (d_f (by omega)), if_neg c, unframed_eq _ (by omega), ob_some, hop]
    rw [hop] at hlen hmem
    dsimp only at hlen hmem ⊢
    have hL : L.length ≤ 60000 := by have := hlen.1; simp at this; omega
    have hw1 : w64 ((L.length : Int) - 2) = (L.length : Int) - 2 := w64_id (by omega) (by omega)
    have hw2 : w64 ((L.length : Int) - 2 + 1) = (L.length : Int) - 1 := by rw [w64_id (by omega) (by omega)]; omega
    rw [hw1, hw2]
    have hcond : (((!decide ((n : Int) = (b.length : Int))) || (decide ((L.length : Int) - 2 < 0))) || (decide (((lget L ((L.length : Int) - 1)).length : Int) = 0))) = decide (n ≠ b.length ∨ L.length < 2 ∨ (lget L ((L.length : Int) - 1)).length = 0) := by
      rw [Bool.eq_iff_iff]
      simp only [Bool.or_eq_true, decide_eq_true_eq, Bool.not_eq_true', decide_eq_false_iff_not]
      omega
    have ha : (!((!decide ((n : Int) = (b.length : Int))) || (decide ((L.length : Int) - 2 < 0)))) = true → 0 ≤ (L.length : Int) - 1 ∧ (L.length : Int) - 1 < (L.length : Int) := fun q => by
      simp only [Bool.not_eq_true', Bool.or_eq_false_iff, decide_eq_false_iff_not, Bool.not_eq_false'] at q
      omega
    rw [hcond, asrt_pos ha, asrt_pos ha]
    by_cases cb : n ≠ b.length ∨ L.length < 2 ∨ (lget L ((L.length : Int) - 1)).length = 0
    · rw [if_pos (d_t cb), if_pos (hb.2 cb)]; rfl
    · rw [if_neg (d_f cb), if_neg (fun q => cb (hb.1 q)), asrt_pos (by omega), asrt_pos (by omega)]
      have hs : ∀ s ∈ L, s.length ≤ 100000 := fun s h => by
        rcases hmem s h with q | q
        · cases q
        · omega
      have h0 := ridx (L := L) (by omega) (by omega) hs (n : Int) ⟨0, 0⟩ (L.length - 2) 0 (lget L ((L.length : Int) - 2)) [] (by omega) (by omega) (by simp) (hs _ (lget_mem L _ (by omega)))
      refine h0.trans ?_
      unfold idxO
      cases hi : idxP L (L.length - 2) 0 (lget L ((L.length : Int) - 2)) [] with
      | none => rfl
      | some rows =>
        have hrl := idxP_len L _ _ _ _ _ hi
        dsimp only
        refine (rcells_loop L rows (n : Int) ⟨0, 0⟩ [] (by omega) (by simp at hrl; omega) (by omega) (L.length - 2) 0 [] [] (by omega) (by omega) (by simp) (by simp)).trans ?_
        cases celP L rows (L.length - 2) 0 [] [] with
        | none => rfl
        | some q =>
          dsimp only
          unfold R_OpenedFile_v1_J2 endO
          dsimp only
          rw [rcheck_eq, ob_some, hw1, hw2]
          by_cases cc : ¬ (cellF q.1).Code = 0 ∨ 500 < q.1.length
          · rw [if_pos (by simp only [Bool.or_eq_true, decide_eq_true_eq, Bool.not_eq_true', decide_eq_false_iff_not]; omega), if_pos cc]; rfl
          · have hz : (cellF q.1).Code = 0 := Decidable.not_not.1 (fun x => cc (.inl x))
            rw [if_neg (by simp only [Bool.or_eq_true, decide_eq_true_eq, Bool.not_eq_true', decide_eq_false_iff_not]; omega), if_neg cc, (rfil_small hz).1, ob_some, asrt_pos (by omega), asrt_pos (by omega)]
            dsimp only [lt, R_Same]
            by_cases cf : filF q.1 = lget L ((L.length : Int) - 1)
            · rw [if_neg (by simp [cf]), if_pos cf]
            · rw [if_pos (by simp [cf]), if_neg cf]; rfl
end G
end Go.Proofs.Ytollmifjbcccgaa
