/- HistoryDecides: the plain law. -/
import Derived.Test.YtnibbgjoanbnmaaPHistL
namespace Go.Proofs.Ytnibbgjoanbnmaa
open Go Go.Dm
set_option linter.unusedVariables false
set_option linter.unusedSimpArgs false
set_option linter.unusedSectionVars false
namespace G
theorem counting1 (l : List Span) : R_Counting_v1 l = R_Counting l := rfl
theorem decides {l : List Span} (hg : Good l) {r : Int × Int × Bool} (h : ClS l (fun a b => has l a ∧ has l b) r) : (!r.2.2) = decide (Q l [] 0) := by
  refine Bool.eq_iff_iff.2 ?_
  rw [decide_eq_true_iff, Q_ord]
  rcases h with ⟨a1, _, _, a4⟩ | ⟨a1, a2, a3, _⟩
  · rw [a1]
    exact ⟨fun _ => noclash_ord hg fun a b ha hb => a4 a b ⟨ha, hb⟩, fun _ => rfl⟩
  · rw [a1]
    exact ⟨(fun h => by cases h), fun ⟨o, ho⟩ => absurd a3 (ord_noclash hg ho a2.1 a2.2)⟩
theorem HistoryDecides_eq (l : List Span) : law_HistoryDecides l = some true := by
  unfold law_HistoryDecides
  rw [begun_eq, ob_some, if_neg (by simp)]
  by_cases c : 14 < l.length
  · have e : decide (14 < (l.length : Int)) = true := decide_eq_true (by omega)
    rw [e, if_neg (by simp), ob_some]
    simp only [Bool.true_or, Bool.not_true]
    rw [if_neg (by simp), ob_some, if_pos trivial]
  have e : decide (14 < (l.length : Int)) = false := decide_eq_false (by omega)
  rw [e, if_pos (by rfl), spans_eq, ob_some]
  simp only [Bool.false_or]
  by_cases h : (chk l).Code = 0
  · rw [if_pos (by rw [decide_eq_true h]; rfl), counting1, counting_eq (by omega), ob_some]
    by_cases d : 7 < (cl l l.length).length
    · rw [if_pos (by rw [Bool.or_eq_true]; exact .inr (d_t (by omega)))]
    have e2 : ((!decide ((chk l).Code = 0)) || decide (7 < ((cl l l.length).length : Int))) = false := by
      rw [decide_eq_true h, decide_eq_false (by omega)]; rfl
    rw [e2, if_neg (by simp)]
    have hg := good_of h
    obtain ⟨r, h1, h2⟩ := clash_prog hg
    unfold history_Linear
    rw [h2, ob_some, ob_some]
    dsimp only
    rw [if_pos (by rfl), any_eq hg, ob_some, ← decides hg h1]
    simp
  · rw [if_neg (by rw [decide_eq_false h]; simp), ob_some, if_pos (by rw [decide_eq_false h]; rfl)]
end G
end Go.Proofs.Ytnibbgjoanbnmaa
