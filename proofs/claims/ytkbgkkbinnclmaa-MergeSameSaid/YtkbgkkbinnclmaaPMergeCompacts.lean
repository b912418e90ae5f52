/- Every Compact leaves what the document says. -/
import Derived.Test.YtkbgkkbinnclmaaPMergeE
namespace Go.Proofs.Ytkbgkkbinnclmaa
open Go Go.Dm
set_option linter.unusedVariables false
set_option linter.unusedSectionVars false
set_option linter.unusedSimpArgs false
namespace G
def samepl (x y : Cell) : Bool := decide (x.Row = y.Row) && decide (x.Col = y.Col)
/-- is an earlier one of the place not younger than that? -/
def oldB (since : Int) (l : List Cell) (x : Cell) : Bool := l.any fun y => samepl y x && decide (y.Time ≤ since)
theorem old_loop (box : List Cell) (since : Int) (whole : Bool) (hl : box.length ≤ 100000) (v1 : List Cell × Int) (i : Nat) (hv : v1.2 = (i : Int)) (hi : i < box.length) (x : Cell) : ∀ (m k : Nat), i - k = m → k ≤ i →
    law_MergeCompacts_1_v1_L2 box since whole v1 (x, oldB since (box.take k) x, (k : Int)) = law_MergeCompacts_1_v1_J3 since whole v1 (x, oldB since (box.take i) x) := by
  intro m
  induction m with
  | zero =>
    intro k e hk
    have : k = i := by omega
    subst this
    have hB : law_MergeCompacts_1_v1_B2 box since whole v1 (x, oldB since (box.take k) x, (k : Int)) = inrO (law_MergeCompacts_1_v1_J3 since whole v1 (x, oldB since (box.take k) x)) := by
      unfold law_MergeCompacts_1_v1_B2
      dsimp only
      rw [hv, if_neg (d_f (by omega))]
    unfold law_MergeCompacts_1_v1_L2
    rw [loopO_eq, hB]
    cases law_MergeCompacts_1_v1_J3 since whole v1 (x, oldB since (box.take k) x) <;> rfl
  | succ m ih =>
    intro k e hk
    refine (loopO_inl ?_).trans (ih (k + 1) (by omega) (by omega))
    unfold law_MergeCompacts_1_v1_B2
    dsimp only
    rw [hv, if_pos (d_t (by omega)), asrt_pos (fun _ => by omega), asrt_pos (fun _ _ => by omega), asrt_pos (fun _ _ => by omega)]
    dsimp only [lt]
    have : oldB since (box.take (k + 1)) x = (oldB since (box.take k) x || (((decide ((lget box (k : Int)).Row = x.Row)) && (decide ((lget box (k : Int)).Col = x.Col))) && (decide ((lget box (k : Int)).Time ≤ since)))) := by
      unfold oldB samepl
      rw [lget_take box k (by omega), List.any_append]; simp
    rw [this, w64_id (by omega) (by omega)]; rfl
/-- what the document leaves -/
def docL (since : Int) (whole : Bool) (box : List Cell) : Nat → List Cell → List Cell
  | _, [] => []
  | i, x :: l => if (decide (x.Time ≤ since) && (oldB since (box.take i) x || (x.Gone && whole))) = true then docL since whole box (i + 1) l else x :: docL since whole box (i + 1) l
theorem doc_loop (box : List Cell) (since : Int) (whole : Bool) (hl : box.length ≤ 100000) : ∀ (m i : Nat) (out : List Cell), box.length - i = m → i ≤ box.length → out.length ≤ i →
    law_MergeCompacts_1_v1_L1 box since whole (out, (i : Int)) = some (out ++ docL since whole box i (box.drop i)) := by
  intro m
  induction m with
  | zero =>
    intro i out e hi ho
    have : i = box.length := by omega
    subst this
    refine loopO_inr ?_
    unfold law_MergeCompacts_1_v1_B1
    dsimp only
    rw [if_neg (d_f (by omega)), List.drop_length, docL, List.append_nil]; rfl
  | succ m ih =>
    intro i out e hi ho
    rw [lget_drop box i (by omega), docL]
    have hB : law_MergeCompacts_1_v1_B1 box since whole (out, (i : Int)) = law_MergeCompacts_1_v1_J3 since whole (out, (i : Int)) (lget box (i : Int), oldB since (box.take i) (lget box (i : Int))) := by
      unfold law_MergeCompacts_1_v1_B1
      dsimp only
      rw [if_pos (d_t (by omega)), asrt_pos (by omega)]
      simp only [cell_eta]
      have := old_loop box since whole hl (out, (i : Int)) i rfl (by omega) (lget box (i : Int)) i 0 (by omega) (by omega)
      exact this
    by_cases c : (decide ((lget box (i : Int)).Time ≤ since) && (oldB since (box.take i) (lget box (i : Int)) || ((lget box (i : Int)).Gone && whole))) = true
    · rw [if_pos c]
      refine (loopO_inl ?_).trans (ih (i + 1) out (by omega) (by omega) (by omega))
      rw [hB]
      unfold law_MergeCompacts_1_v1_J3
      dsimp only
      rw [if_pos c]
      unfold law_MergeCompacts_1_v1_J2
      dsimp only
      rw [w64_id (by omega) (by omega)]; rfl
    · rw [if_neg c]
      refine (loopO_inl ?_).trans ((ih (i + 1) (out ++ [lget box (i : Int)]) (by omega) (by omega) (by simp; omega)).trans (by simp))
      rw [hB]
      unfold law_MergeCompacts_1_v1_J3
      dsimp only
      rw [if_neg c, asrt_pos (by simp; omega)]
      unfold law_MergeCompacts_1_v1_J2
      dsimp only
      rw [w64_id (by omega) (by omega)]; rfl
/-- of a list in order the one ahead is enough -/
theorem doc_cmp (since : Int) (whole : Bool) (box : List Cell) (hs : box.Pairwise ah) : ∀ (l d : List Cell), box = d ++ l → docL since whole box d.length l = cmpL since whole (if d = [] then none else some (lget d ((d.length : Int) - 1))) l
  | [], d, _ => by rw [docL, cmpL]
  | x :: l, d, h => by
    have ih := doc_cmp since whole box hs l (d ++ [x]) (by rw [h]; simp)
    have e1 : (d ++ [x]).length = d.length + 1 := by simp
    have e2 : (if d ++ [x] = [] then none else some (lget (d ++ [x]) (((d ++ [x]).length : Int) - 1))) = some x := by
      rw [if_neg (by simp)]
      have : (((d ++ [x]).length : Nat) : Int) - 1 = (d.length : Int) := by simp
      rw [this, lget_mid d x []]
    rw [e2, e1] at ih
    have hk : (decide (x.Time ≤ since) && (oldB since (box.take d.length) x || (x.Gone && whole))) = !keepC since whole (if d = [] then none else some (lget d ((d.length : Int) - 1))) x := by
      have htk : box.take d.length = d := by rw [h, List.take_left]
      rw [htk]
      have hold : x.Time ≤ since → (oldB since d x = match (if d = [] then none else some (lget d ((d.length : Int) - 1))) with | some q => decide (q.Row = x.Row) && decide (q.Col = x.Col) && decide (q.Time ≤ since) | none => false) := by
        intro hx
        rcases List.eq_nil_or_concat d with e | ⟨d', y, e⟩
        · subst e; rfl
        · rw [List.concat_eq_append] at e
          subst e
          have hy : lget (d' ++ [y]) (((d' ++ [y]).length : Int) - 1) = y := by
            have : (((d' ++ [y]).length : Nat) : Int) - 1 = (d'.length : Int) := by simp
            rw [this, lget_mid d' y []]
          rw [if_neg (by simp), hy]
          dsimp only
          unfold oldB
          rw [List.any_append, Bool.eq_iff_iff]
          simp only [List.any_cons, List.any_nil, Bool.or_false, Bool.or_eq_true, List.any_eq_true]
          constructor
          · rintro (⟨z, hz, hzz⟩ | q)
            · -- an earlier one: the last one is of the place too
              unfold samepl at hzz
              simp only [Bool.and_eq_true, decide_eq_true_eq] at hzz
              rw [h] at hs
              have s1 := List.pairwise_append.1 hs
              have hzy : ah z y := (List.pairwise_append.1 s1.1).2.2 z hz y (List.mem_singleton.2 rfl)
              have hyx : ah y x := s1.2.2 y (by simp) x (List.mem_cons_self ..)
              have hp : pl z y := pl_between hzy hyx hzz.1
              have ht : y.Time ≤ z.Time := by
                unfold ah at hzy
                rw [hp.1, hp.2] at hzy
                simp only [bl_irr] at hzy
                simp at hzy; omega
              simp only [Bool.and_eq_true, decide_eq_true_eq]
              exact ⟨⟨hp.1.symm.trans hzz.1.1, hp.2.symm.trans hzz.1.2⟩, by omega⟩
            · unfold samepl at q; exact q
          · intro q
            exact .inr (by unfold samepl; exact q)
      unfold keepC
      by_cases hx : x.Time ≤ since
      · rw [hold hx, decide_eq_true hx, decide_eq_false (by omega : ¬ since < x.Time)]
        simp only [Bool.true_and, Bool.false_or, Bool.not_not]
        generalize (if d = [] then none else some (lget d ((d.length : Int) - 1))) = p
        cases p <;> rfl
      · rw [decide_eq_false hx, decide_eq_true (by omega : since < x.Time)]; rfl
    rw [docL, cmpL, hk, ih]
    cases keepC since whole (if d = [] then none else some (lget d ((d.length : Int) - 1))) x <;> rfl
theorem doc_eq (box : List Cell) (since : Int) (whole : Bool) (hs : Gw box) : law_MergeCompacts_1_v1 box since whole = some (cmpL since whole none box) := by
  have h1 := doc_loop box since whole hs.len box.length 0 [] (by omega) (by omega) (by simp)
  have h2 := doc_cmp since whole box hs.srt box [] rfl
  have h1' : law_MergeCompacts_1_v1 box since whole = some ([] ++ docL since whole box 0 (box.drop 0)) := h1
  rw [h1', List.nil_append, List.drop_zero]
  exact congrArg some h2
theorem as0_bad {f : Fault} (hf : ¬ f.Code = 0) (x : List Cell) (s : Int) (w : Bool) : law_cellsAs [] f f x s w = some true := by
  unfold law_cellsAs
  rw [if_neg (by simp), if_pos (n_t hf)]; rfl
theorem as0_ok (l : List Cell) (hg : Gw l) (s : Int) (w : Bool) : law_cellsAs (cmpL s w none l) ⟨0, 0⟩ ⟨0, 0⟩ l s w = some true := by
  have hl := hg.len
  have := (cmpL_sub s w l none).length_le
  unfold law_cellsAs
  rw [if_neg (by simp), if_neg (n_f rfl), doc_eq l s w hg, ob_some, sameCells_self _ (by omega), ob_some]
theorem MergeCompacts_eq (l : List (List Cell)) (since : Int) (whole : Bool) (hl : l.length ≤ 140737488351232) (hg : ∀ g ∈ l, g.length ≤ 140737488351232) : law_MergeCompacts l since whole = some true := by
  obtain ⟨b, hb, hv⟩ := vast_eq l hl hg
  unfold law_MergeCompacts
  rw [mbegun, ob_some, if_neg (by decide), hb, ob_some]
  cases b with
  | true => rw [if_pos rfl]
  | false =>
    obtain ⟨v1, v2, v3⟩ := hv rfl
    rw [if_neg (by decide), own_eq l v1 v2, ob_some, compact1_eq, ob_some, listsFault_eq, ob_some]
    by_cases c : (listsS l).Code = 0
    · obtain ⟨h1, h2⟩ := listsS_good c
      rw [if_pos (d_t c), together_eq h2, ob_some]
      by_cases c4 : 1000 < (firsts l.flatten).length
      · have hj : joinS l = ([], ⟨9, -1⟩) := by unfold joinS; rw [if_neg (not_not_intro c), if_pos c4]
        have hc : compS l since whole = ([], ⟨9, -1⟩) := by unfold compS; rw [hj, if_pos (by simp)]
        rw [if_pos (d_t (by omega)), hc]
        dsimp only [lt]
        rw [ob_some]
        dsimp only
        have hn : ((decide ((R_F 9 (-1)).Code = 0)) && ((decide (since < 0)) || (decide (1000000000 < since)))) = false := by simp [R_F]
        rw [hn, if_neg (by decide), ob_some]
        exact (congrArg (fun q => ob q fun x8 => some x8) (as0_bad (f := R_F 9 (-1)) (by decide) _ since whole)).trans rfl
      · have hj : joinS l = (firsts l.flatten, ⟨0, 0⟩) := joinS_is h2 (by omega)
        rw [if_neg (d_f (by omega)), ob_some]
        dsimp only
        by_cases c5 : since < 0 ∨ 1000000000 < since
        · have hc : compS l since whole = ([], ⟨3, -1⟩) := by unfold compS; rw [hj, if_neg (by simp), if_pos c5]
          rw [if_pos (by rw [d_t c, or_t c5]; rfl), hc]
          dsimp only [lt]
          rw [ob_some]
          dsimp only [R_F]
          rw [as0_bad (by decide), ob_some]
        · have hc : compS l since whole = (cmpL since whole none (firsts l.flatten), ⟨0, 0⟩) := by unfold compS; rw [hj, if_neg (by simp), if_neg c5]
          rw [if_neg (by rw [d_t c, or_b c5]; simp), ob_some, hc]
          dsimp only
          rw [h1, as0_ok _ h2.gw, ob_some]
    · have hj : joinS l = ([], listsS l) := by unfold joinS; rw [if_pos c]
      have hc : compS l since whole = ([], listsS l) := by unfold compS; rw [hj, if_pos c]
      rw [if_neg (d_f c), ob_some, hc]
      dsimp only
      rw [if_neg (by simp [c]), ob_some]
      dsimp only
      rw [as0_bad c, ob_some]
end G
end Go.Proofs.Ytkbgkkbinnclmaa
