/- Lists joined in any grouping are the same; a list joined with itself is itself. -/
import Derived.Test.YtkbgkkbinnclmaaPMergeE
namespace Go.Proofs.Ytkbgkkbinnclmaa
open Go Go.Dm
set_option linter.unusedVariables false
set_option linter.unusedSectionVars false
set_option linter.unusedSimpArgs false
namespace G
theorem MergeGroups_eq (l : List (List Cell)) (at0 : Int) (hl : l.length ≤ 140737488351232) (hg : ∀ g ∈ l, g.length ≤ 140737488351232) : law_MergeGroups l at0 = some true := by
  obtain ⟨b, hb, hv⟩ := vast_eq l hl hg
  unfold law_MergeGroups
  rw [mbegun, ob_some, if_neg (by decide), hb, ob_some]
  by_cases c : ((b || (decide (at0 < 0))) || (decide ((l.length : Int) < at0))) = true
  · rw [if_pos c]
  · rw [if_neg c, join1_eq, ob_some]
    simp only [Bool.or_eq_true, decide_eq_true_eq, not_or] at c
    obtain ⟨n, rfl⟩ : ∃ n : Nat, at0 = (n : Int) := ⟨at0.toNat, by omega⟩
    by_cases c2 : (joinS l).2.Code = 0
    · obtain ⟨hG, hn, hj⟩ := joinS_ok c2
      rw [hj]
      dsimp only
      rw [if_neg (n_f rfl), asrt_pos (by omega), join1_eq, ob_some, asrt_pos (by omega), join1_eq, ob_some, ltake_nat, ldrop_nat]
      have e : l.flatten = (l.take n).flatten ++ (l.drop n).flatten := by rw [← List.flatten_append, List.take_append_drop]
      have hG1 : GoodL (l.take n) := ⟨by have := hG.few; rw [List.length_take]; omega, fun g h => hG.good g (List.mem_of_mem_take h)⟩
      have hG2 : GoodL (l.drop n) := ⟨by have := hG.few; rw [List.length_drop]; omega, fun g h => hG.good g (List.mem_of_mem_drop h)⟩
      have n1 : (firsts (l.take n).flatten).length ≤ 1000 := by have := firsts_sub_len (a := (l.take n).flatten) (b := l.flatten) (fun x hx => by rw [e]; exact List.mem_append_left _ hx); omega
      have n2 : (firsts (l.drop n).flatten).length ≤ 1000 := by have := firsts_sub_len (a := (l.drop n).flatten) (b := l.flatten) (fun x hx => by rw [e]; exact List.mem_append_right _ hx); omega
      rw [joinS_is hG1 n1, joinS_is hG2 n2]
      dsimp only
      rw [if_neg (by simp), join1_eq, ob_some, join1_eq, ob_some]
      have g1 : Good (firsts (l.take n).flatten) := hG1.part (List.Sublist.refl _) n1
      have g2 : Good (firsts (l.drop n).flatten) := hG2.part (List.Sublist.refl _) n2
      have g3 : Good (firsts l.flatten) := hG.part (List.Sublist.refl _) hn
      have hA : GoodL [firsts (l.take n).flatten, firsts (l.drop n).flatten] := ⟨by simp, fun g h => by
        rcases List.mem_cons.1 h with q | q
        · rw [q]; exact g1
        · rw [List.mem_singleton.1 q]; exact g2⟩
      have hB : GoodL [firsts l.flatten, firsts l.flatten] := ⟨by simp, fun g h => by
        rcases List.mem_cons.1 h with q | q
        · rw [q]; exact g3
        · rw [List.mem_singleton.1 q]; exact g3⟩
      have fA : firsts [firsts (l.take n).flatten, firsts (l.drop n).flatten].flatten = firsts l.flatten := by
        have : [firsts (l.take n).flatten, firsts (l.drop n).flatten].flatten = firsts (l.take n).flatten ++ firsts (l.drop n).flatten := by simp
        rw [this, e]
        exact (Hd.app (hd_firsts _) (hd_firsts _)).firsts
      have fB : firsts [firsts l.flatten, firsts l.flatten].flatten = firsts l.flatten := by
        have : [firsts l.flatten, firsts l.flatten].flatten = firsts l.flatten ++ firsts l.flatten := by simp
        rw [this]
        refine Hd.firsts fun c => ?_
        rw [fk_app, List.head?_append, hd_firsts l.flatten c]
        cases (fk c l.flatten).head? <;> rfl
      rw [joinS_is hA (by rw [fA]; exact hn), joinS_is hB (by rw [fB]; exact hn), fA, fB]
      dsimp only
      rw [if_pos (by simp), sameCells_self _ (by omega), ob_some, if_pos (by simp), ob_some, if_pos (by simp), check_eq, ob_some, g3.f]
      simp [lt]
    · rw [if_pos (n_t c2)]
end G
end Go.Proofs.Ytkbgkkbinnclmaa
