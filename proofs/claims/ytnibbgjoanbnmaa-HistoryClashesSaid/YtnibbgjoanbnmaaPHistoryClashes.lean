/- HistoryClashes: the plain law. -/
import Derived.Test.YtnibbgjoanbnmaaPHistI
namespace Go.Proofs.Ytnibbgjoanbnmaa
open Go Go.Dm
set_option linter.unusedVariables false
set_option linter.unusedSimpArgs false
set_option linter.unusedSectionVars false
namespace G
theorem HistoryClashes_eq (l : List Span) : law_HistoryClashes l = some true := by
  unfold law_HistoryClashes
  rw [begun_eq, ob_some, if_neg (by simp)]
  by_cases c : (60 < l.length ∧ l.length < 201) ∨ 400 < l.length
  · have e : (((decide (60 < (l.length : Int))) && (decide ((l.length : Int) < 201))) || (decide (400 < (l.length : Int)))) = true := by
      simp only [Bool.or_eq_true, Bool.and_eq_true, decide_eq_true_eq]; omega
    rw [if_pos e]
  have hl : l.length ≤ 400 := by omega
  have e : ¬ (((decide (60 < (l.length : Int))) && (decide ((l.length : Int) < 201))) || (decide (400 < (l.length : Int)))) = true := by
    simp only [Bool.or_eq_true, Bool.and_eq_true, decide_eq_true_eq]; omega
  rw [if_neg e]
  have e1 : law_ownSpans_v1 l = some l := by
    unfold law_ownSpans_v1
    exact asrt_pos (by omega) _
  rw [e1]
  simp only [ob_some]
  rw [check_eq, spans_eq, same_self hl]
  simp only [ob_some]
  by_cases h : (chk l).Code = 0
  · have hg := good_of h
    obtain ⟨r, h1, h2⟩ := clash_prog hg
    rw [h2, chk_zero h, clashing_eq hg]
    simp only [ob_some]
    have e3 := h1.uniq (clashing_spec hg)
    rw [← e3, if_neg (by simp), if_neg (by simp)]
    simp [lt]
  · rw [clash_bad h]
    simp only [ob_some]
    rw [if_neg (by simp), if_pos (n_t h)]; rfl
end G
end Go.Proofs.Ytnibbgjoanbnmaa
