/- Compacting; the example of the document. -/
import Derived.Test.YtkbgkkbinnclmaaPMergeD
namespace Go.Proofs.Ytkbgkkbinnclmaa
open Go Go.Dm
set_option linter.unusedVariables false
set_option linter.unusedSectionVars false
set_option linter.unusedSimpArgs false
namespace G
/-- does a cell stay? -/
def keepC (since : Int) (whole : Bool) (p : Option Cell) (c : Cell) : Bool :=
  decide (since < c.Time) || !((match p with | some q => decide (q.Row = c.Row) && decide (q.Col = c.Col) && decide (q.Time ≤ since) | none => false) || (c.Gone && whole))
/-- what stays -/
def cmpL (since : Int) (whole : Bool) : Option Cell → List Cell → List Cell
  | _, [] => []
  | p, c :: l => if keepC since whole p c = true then c :: cmpL since whole (some c) l else cmpL since whole (some c) l
theorem cmpL_sub (since : Int) (whole : Bool) : ∀ (l : List Cell) (p : Option Cell), (cmpL since whole p l).Sublist l
  | [], _ => .slnil
  | c :: l, p => by
    rw [cmpL]
    split
    · exact (cmpL_sub since whole l _).cons_cons c
    · exact (cmpL_sub since whole l _).cons c
theorem compact_loop (since : Int) (whole : Bool) (l : List Cell) (hl : l.length ≤ 100000) (f1 f2 f3 : Fault) : ∀ (m k : Nat) (out : List Cell), l.length - k = m → k ≤ l.length → out.length ≤ k →
    merge_Compact_L1 since whole (l, f3) (f1, f2, out, (k : Int)) = some (out ++ cmpL since whole (prv l k) (l.drop k), f2) := by
  intro m
  induction m with
  | zero =>
    intro k out e hk ho
    have : k = l.length := by omega
    subst this
    refine loopO_inr ?_
    unfold merge_Compact_B1
    dsimp only
    rw [if_neg (d_f (by omega)), List.drop_length, cmpL, List.append_nil]; rfl
  | succ m ih =>
    intro k out e hk ho
    have hw : w64 ((k : Int) - 1) = (k : Int) - 1 := w64_id (by omega) (by omega)
    rw [lget_drop l k (by omega), cmpL]
    have hkeep : keepC since whole (prv l k) (lget l (k : Int)) = (decide (since < (lget l (k : Int)).Time) || !(((((decide (0 < (k : Int))) && (decide (((lget l ((k : Int) - 1)).Row) = ((lget l (k : Int)).Row)))) && (decide (((lget l ((k : Int) - 1)).Col) = ((lget l (k : Int)).Col)))) && (decide (((lget l ((k : Int) - 1)).Time) ≤ since))) || ((lget l (k : Int)).Gone && whole))) := by
      unfold keepC prv
      by_cases h0 : k = 0
      · subst h0; simp
      · rw [if_neg h0, d_t (show 0 < (k : Int) by omega)]
        simp only [Bool.true_and]
    have hB : merge_Compact_B1 since whole (l, f3) (f1, f2, out, (k : Int)) = some (.inl (f1, f2, (if keepC since whole (prv l k) (lget l (k : Int)) = true then out ++ [lget l (k : Int)] else out), ((k + 1 : Nat) : Int))) := by
      have hJ : merge_Compact_J2 (f1, f2, out, (k : Int)) (f1, f2, lget l (k : Int)) = some (f1, f2, out ++ [lget l (k : Int)]) := by
        unfold merge_Compact_J2
        dsimp only
        rw [asrt_pos (by simp; omega)]
      unfold merge_Compact_B1
      dsimp only
      rw [if_pos (d_t (by omega)), hw, asrt_pos (by omega), asrt_pos (by omega), asrt_pos (fun h => by have := of_decide_eq_true h; omega), asrt_pos (fun h => by have := of_decide_eq_true h; omega), asrt_pos (fun h => by simp at h; omega), asrt_pos (fun h => by simp at h; omega)]
      simp only [cell_eta, lt]
      rw [hJ]
      generalize hb1 : decide (since < (lget l (k : Int)).Time) = b1 at hkeep ⊢
      generalize hb2 : (((decide (0 < (k : Int))) && (decide (((lget l ((k : Int) - 1)).Row) = ((lget l (k : Int)).Row)))) && (decide (((lget l ((k : Int) - 1)).Col) = ((lget l (k : Int)).Col)))) = b2 at hkeep ⊢
      have hin : b2 = true → 0 ≤ (k : Int) - 1 ∧ (k : Int) - 1 < (l.length : Int) := fun h => by rw [← hb2] at h; simp at h; omega
      rw [asrt_pos hin, asrt_pos hin]
      generalize decide (((lget l ((k : Int) - 1)).Time) ≤ since) = b3 at hkeep ⊢
      generalize ((lget l (k : Int)).Gone && whole) = b4 at hkeep ⊢
      rw [hkeep, w64_id (by omega) (by omega)]
      cases b1 <;> cases b2 <;> cases b3 <;> cases b4 <;> rfl
    by_cases c : keepC since whole (prv l k) (lget l (k : Int)) = true
    · rw [if_pos c] at hB ⊢
      have := ih (k + 1) (out ++ [lget l (k : Int)]) (by omega) (by omega) (by simp; omega)
      rw [prv_succ] at this
      exact (loopO_inl hB).trans (this.trans (by simp))
    · rw [if_neg c] at hB ⊢
      have := ih (k + 1) out (by omega) (by omega) (by omega)
      rw [prv_succ] at this
      exact (loopO_inl hB).trans this
noncomputable def compS (l : List (List Cell)) (since : Int) (whole : Bool) : List Cell × Fault :=
  if ¬ (joinS l).2.Code = 0 then ([], (joinS l).2) else if since < 0 ∨ 1000000000 < since then ([], ⟨3, -1⟩) else (cmpL since whole none (firsts l.flatten), ⟨0, 0⟩)
theorem compact_eq (l : List (List Cell)) (since : Int) (whole : Bool) : merge_Compact l since whole = some (compS l since whole) := by
  unfold merge_Compact compS
  rw [join_eq, ob_some]
  by_cases c : (joinS l).2.Code = 0
  · obtain ⟨h1, h2, h3⟩ := joinS_ok c
    rw [if_neg (n_f c), if_neg (not_not_intro c)]
    by_cases c2 : since < 0 ∨ 1000000000 < since
    · rw [if_pos (or_t c2), if_pos c2]; rfl
    · rw [if_neg (or_f c2), if_neg c2, h3]
      have := compact_loop since whole (firsts l.flatten) (by omega) ⟨0, 0⟩ ⟨0, 0⟩ ⟨0, 0⟩ _ 0 [] rfl (Nat.zero_le _) (by simp)
      exact this
  · rw [if_pos (n_t c), if_pos c]
theorem compact1_eq (l : List (List Cell)) (since : Int) (whole : Bool) : merge_Compact_v1 l since whole = some (compS l since whole) := compact_eq l since whole
theorem compS_ok {l : List (List Cell)} {since : Int} {whole : Bool} (h : (compS l since whole).2.Code = 0) : GoodL l ∧ (firsts l.flatten).length ≤ 1000 ∧ ¬ (since < 0 ∨ 1000000000 < since) ∧ compS l since whole = (cmpL since whole none (firsts l.flatten), ⟨0, 0⟩) := by
  unfold compS at h ⊢
  by_cases c : (joinS l).2.Code = 0
  · obtain ⟨h1, h2, h3⟩ := joinS_ok c
    rw [if_neg (not_not_intro c)] at h ⊢
    by_cases c2 : since < 0 ∨ 1000000000 < since
    · rw [if_pos c2] at h; cases h
    · rw [if_neg c2]; exact ⟨h1, h2, c2, rfl⟩
  · rw [if_pos c] at h; exact absurd h c
theorem vers_eq : law_versions = [(⟨[114], [99], 2, false, [98]⟩ : Cell), ⟨[114], [99], 1, false, [97]⟩] := rfl
theorem mbegun : law_mergeBegun = some true := by
  have hg : Good law_versions := by
    refine cellF_good ?_
    rw [vers_eq]
    simp [cellF, ck, R_CellCode, okp, R_Ahead]
  have hL : GoodL [law_versions] := ⟨by simp, fun g h => by rw [List.mem_singleton.1 h]; exact hg⟩
  have hf : firsts [law_versions].flatten = law_versions := by
    have : [law_versions].flatten = law_versions := by simp
    rw [this, firsts_self hg.srt]
  have hj : joinS [law_versions] = (law_versions, ⟨0, 0⟩) := by
    rw [joinS_is hL (by rw [hf, vers_eq]; simp), hf]
  have hc : compS [law_versions] 2 false = ([(⟨[114], [99], 2, false, [98]⟩ : Cell)], ⟨0, 0⟩) := by
    unfold compS
    rw [hj, if_neg (by simp), if_neg (by omega), hf, vers_eq]
    simp [cmpL, keepC]
  unfold law_mergeBegun
  dsimp only [lt]
  rw [compact1_eq, ob_some, hc]
  dsimp only
  rw [asrt_pos (fun _ => by rw [vers_eq]; simp), if_pos (by simp)]
  have : ltake law_versions 1 = [(⟨[114], [99], 2, false, [98]⟩ : Cell)] := rfl
  rw [this, sameCells_self _ (by simp), ob_some]; rfl
end G
end Go.Proofs.Ytkbgkkbinnclmaa
