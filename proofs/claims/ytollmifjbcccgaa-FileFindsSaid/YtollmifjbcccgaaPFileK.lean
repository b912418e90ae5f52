/- The blocks of opened bytes, one behind the other. -/
import Derived.Test.YtollmifjbcccgaaPFileJ
namespace Go.Proofs.Ytollmifjbcccgaa
open Go Go.Dm
set_option linter.unusedVariables false
set_option linter.unusedSectionVars false
set_option linter.unusedSimpArgs false
namespace G
def badC (x : List Cell × Fault) (row : List UInt8) : Prop := ¬ x.2.Code = 0 ∨ x.1.length = 0 ∨ ¬ (lget x.1 0).Row = row
instance (x : List Cell × Fault) (row : List UInt8) : Decidable (badC x row) := inferInstanceAs (Decidable (_ ∨ _))
/-- the cells of some blocks, and how many each has -/
noncomputable def celP (L rows : List (List UInt8)) : Nat → Nat → List Cell → List Int → Option (List Cell × List Int)
  | 0, _, acc, es => some (acc, es)
  | m + 1, k, acc, es => if badC (readS (lget L (k : Int))) (lget rows (k : Int)) then none else celP L rows m (k + 1) (acc ++ (readS (lget L (k : Int))).1) (es ++ [((readS (lget L (k : Int))).1.length : Int)])
theorem badC_iff (x : List Cell × Fault) (row : List UInt8) : (((!decide (x.2.Code = 0)) || (decide ((x.1.length : Int) = 0))) || (!decide (((lget x.1 0).Row) = row))) = decide (badC x row) := by
  rw [Bool.eq_iff_iff, decide_eq_true_iff]
  unfold badC
  simp only [Bool.or_eq_true, decide_eq_true_eq, Bool.not_eq_true', decide_eq_false_iff_not]
  constructor
  · rintro ((q | q) | q)
    · exact .inl q
    · exact .inr (.inl (by omega))
    · exact .inr (.inr q)
  · rintro (q | q | q)
    · exact .inl (.inl q)
    · exact .inl (.inr (by omega))
    · exact .inr q
theorem goodC {x : List Cell × Fault} (q : (!((!decide (x.2.Code = 0)) || (decide ((x.1.length : Int) = 0)))) = true) : 0 < x.1.length := by
  simp only [Bool.not_eq_true', Bool.or_eq_false_iff, decide_eq_false_iff_not, Bool.not_eq_false'] at q
  omega
noncomputable def cellsO : Option (List Cell × List Int) → List Cell × Bool
  | some q => (q.1, decide ((cellF q.1).Code = 0))
  | none => ([], false)
theorem cells_loop (L rows : List (List UInt8)) (o2 : List UInt8) (to : Nat) (ht : to ≤ L.length) (hr : to ≤ rows.length) (hL : to ≤ 100000) : ∀ (m k : Nat) (acc : List Cell) (es : List Int), to - k = m → k ≤ to → acc.length ≤ 60000 * k →
    file_opened_cells_L1 (to : Int) (⟨L, rows, o2⟩, acc, (k : Int)) = some (cellsO (celP L rows m k acc es))
  | 0, k, acc, es, e, hk, ha => by
    refine loopO_inr ?_
    unfold file_opened_cells_B1
    dsimp only
    rw [if_neg (d_f (by omega))]
    unfold file_opened_cells_J1
    rw [check_eq, ob_some, celP]; rfl
  | m + 1, k, acc, es, e, hk, ha => by
    have hw : w64 ((k : Int) + 1) = ((k + 1 : Nat) : Int) := by rw [w64_id (by omega) (by omega)]; omega
    have hl := readS_len (lget L (k : Int))
    rw [celP]
    by_cases c : badC (readS (lget L (k : Int))) (lget rows (k : Int))
    · rw [if_pos c]
      refine loopO_inr ?_
      unfold file_opened_cells_B1
      dsimp only
      rw [if_pos (d_t (by omega)), asrt_pos (by omega), read_eq, ob_some, asrt_pos (fun q => by have := goodC q; omega), asrt_pos (fun q => by have := goodC q; omega), asrt_pos (fun q => by omega), badC_iff, if_pos (d_t c)]
      rfl
    · rw [if_neg c]
      refine (loopO_inl ?_).trans (cells_loop L rows o2 to ht hr hL m (k + 1) (acc ++ (readS (lget L (k : Int))).1) (es ++ [((readS (lget L (k : Int))).1.length : Int)]) (by omega) (by omega) (by rw [List.length_append]; omega))
      unfold file_opened_cells_B1
      dsimp only
      rw [if_pos (d_t (by omega)), asrt_pos (by omega), read_eq, ob_some, asrt_pos (fun q => by have := goodC q; omega), asrt_pos (fun q => by have := goodC q; omega), asrt_pos (fun q => by omega), badC_iff, if_neg (d_f c), asrt_pos (by rw [List.length_append]; omega), hw]
theorem rcells_loop (L rows : List (List UInt8)) (z : Int) (f : Fault) (x : List UInt8) (h2 : 2 ≤ L.length) (hr : L.length - 2 ≤ rows.length) (hL : L.length ≤ 100000) : ∀ (m k : Nat) (acc : List Cell) (es : List Int), L.length - 2 - k = m → k ≤ L.length - 2 → acc.length ≤ 60000 * k → es.length ≤ k →
    R_OpenedFile_v1_L1 (L, z) (f, x, rows) (f, acc, es, (k : Int)) = match celP L rows m k acc es with
      | some q => R_OpenedFile_v1_J2 (L, z) (f, q.1, q.2)
      | none => some ([], [], ⟨5, 2⟩)
  | 0, k, acc, es, e, hk, ha, he => by
    have hw1 : w64 ((L.length : Int) - 2) = (L.length : Int) - 2 := w64_id (by omega) (by omega)
    have hB : R_OpenedFile_v1_B1 (L, z) (f, x, rows) (f, acc, es, (k : Int)) = inrO (R_OpenedFile_v1_J2 (L, z) (f, acc, es)) := by
      unfold R_OpenedFile_v1_B1
      dsimp only
      rw [hw1, if_neg (d_f (by omega))]
    unfold R_OpenedFile_v1_L1
    rw [loopO_eq, hB, celP]
    dsimp only
    cases R_OpenedFile_v1_J2 (L, z) (f, acc, es) <;> rfl
  | m + 1, k, acc, es, e, hk, ha, he => by
    have hw1 : w64 ((L.length : Int) - 2) = (L.length : Int) - 2 := w64_id (by omega) (by omega)
    have hw : w64 ((k : Int) + 1) = ((k + 1 : Nat) : Int) := by rw [w64_id (by omega) (by omega)]; omega
    have hl := readS_len (lget L (k : Int))
    rw [celP]
    by_cases c : badC (readS (lget L (k : Int))) (lget rows (k : Int))
    · rw [if_pos c]
      refine loopO_inr ?_
      unfold R_OpenedFile_v1_B1
      dsimp only
      rw [hw1, if_pos (d_t (by omega)), asrt_pos (by omega), asrt_pos (by omega), cellsOf_eq, ob_some, asrt_pos (fun q => by have := goodC q; omega), asrt_pos (fun q => by have := goodC q; omega), asrt_pos (fun q => by omega), asrt_pos (fun q => by omega), badC_iff, if_pos (d_t c)]
      rfl
    · rw [if_neg c]
      refine (loopO_inl ?_).trans (rcells_loop L rows z f x h2 hr hL m (k + 1) (acc ++ (readS (lget L (k : Int))).1) (es ++ [((readS (lget L (k : Int))).1.length : Int)]) (by omega) (by omega) (by rw [List.length_append]; omega) (by rw [List.length_append, List.length_singleton]; omega))
      unfold R_OpenedFile_v1_B1
      dsimp only
      rw [hw1, if_pos (d_t (by omega)), asrt_pos (by omega), asrt_pos (by omega), cellsOf_eq, ob_some, asrt_pos (fun q => by have := goodC q; omega), asrt_pos (fun q => by have := goodC q; omega), asrt_pos (fun q => by omega), asrt_pos (fun q => by omega), badC_iff, if_neg (d_f c), asrt_pos (by rw [List.length_append]; omega), asrt_pos (by rw [List.length_append, List.length_singleton]; omega), hw]
end G
end Go.Proofs.Ytollmifjbcccgaa
