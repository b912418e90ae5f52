/- Histories: the document's example; spans that are the same. -/
import Derived.Test.YtnibbgjoanbnmaaPHistH
namespace Go.Proofs.Ytnibbgjoanbnmaa
open Go Go.Dm
set_option linter.unusedVariables false
set_option linter.unusedSimpArgs false
set_option linter.unusedSectionVars false
namespace G
def exL (t : Int) : List Span := [⟨1, 1, 0, t⟩, ⟨2, 0, 3, 5⟩]
theorem two {P : Nat → Prop} (h0 : P 0) (h1 : P 1) : ∀ k, k < 2 → P k := fun k hk => by
  match k, hk with
  | 0, _ => exact h0
  | 1, _ => exact h1
theorem ex_good {t : Int} (ht : 0 ≤ t ∧ t ≤ 1000000000) : Good (exL t) := by
  refine ⟨by show 2 ≤ 200; decide, two (.inl rfl) (.inr rfl), two ?_ (by show ¬ rngBad ⟨2, 0, 3, 5⟩; decide), fun j k hj hk h1 h2 h3 => ?_⟩
  · unfold rngBad exL
    show ¬ ((1 : Int) < 0 ∨ 1000000000 < (1 : Int) ∨ ((1 : Int) = 1 ∧ (1 : Int) = 0) ∨ (0 : Int) < 0 ∨ 1000000000 < (0 : Int) ∨ (t ≠ -1 ∧ (t < 0 ∨ 1000000000 < t)))
    omega
  · have e : ∀ k : Nat, k < 2 → (lget (exL t) (k : Int)).Kind = 1 → k = 0 := two (fun _ => rfl) (fun h => by exact absurd h (by show ¬ (2 : Int) = 1; decide))
    rw [e j hj h1, e k hk h2]
section
variable {t : Int} (ht : 0 ≤ t ∧ t ≤ 1000000000)
theorem ex_cnt (ht : 0 ≤ t ∧ t ≤ 1000000000) (v : Int) (i : Nat) : cnt (exL t) v i ↔ (i = 0 ∧ v = 1) ∨ (i = 1 ∧ v = 0) := by
  rw [cnt_iff (ex_good ht)]
  constructor
  · rintro ⟨h1, h2, _⟩
    have : ∀ i, i < 2 → val (exL t) i = v → (i = 0 ∧ v = 1) ∨ (i = 1 ∧ v = 0) := two (fun h => .inl ⟨rfl, h.symm⟩) (fun h => .inr ⟨rfl, h.symm⟩)
    exact this i h1 h2
  · rintro (⟨rfl, rfl⟩ | ⟨rfl, rfl⟩)
    · exact ⟨by show 0 < 2; decide, rfl, .inl ht.1⟩
    · exact ⟨by show 1 < 2; decide, rfl, .inl (by show (0 : Int) ≤ 5; decide)⟩
theorem ex_has (ht : 0 ≤ t ∧ t ≤ 1000000000) (v : Int) : has (exL t) v ↔ v = 0 ∨ v = 1 := by
  unfold has
  simp only [ex_cnt ht]
  constructor
  · rintro ⟨i, ⟨_, h⟩ | ⟨_, h⟩⟩
    · exact .inr h
    · exact .inl h
  · rintro (h | h)
    · exact ⟨1, .inr ⟨rfl, h⟩⟩
    · exact ⟨0, .inl ⟨rfl, h⟩⟩
theorem ex_fe0 : feV (exL t) 0 = -1 := by unfold feV; rw [if_pos rfl]
theorem ex_fe1 (ht : 0 ≤ t ∧ t ≤ 1000000000) : feV (exL t) 1 = t := by
  obtain ⟨⟨i, ⟨h1, _⟩, h2⟩, _⟩ := fe_min (ex_good ht) (v := 1) (by decide) ((ex_has ht 1).2 (.inr rfl))
  rcases (ex_cnt ht 1 i).1 h1 with ⟨rfl, _⟩ | ⟨_, h⟩
  · exact h2
  · cases h
theorem ex_lb0 (ht : 0 ≤ t ∧ t ≤ 1000000000) : lbV (exL t) 0 = 3 := by
  obtain ⟨⟨i, h1, h2⟩, _⟩ := lb_max (ex_good ht) (v := 0) ((ex_has ht 0).2 (.inl rfl))
  rcases (ex_cnt ht 0 i).1 h1 with ⟨_, h⟩ | ⟨rfl, _⟩
  · cases h
  · exact h2
theorem ex_lb1 (ht : 0 ≤ t ∧ t ≤ 1000000000) : lbV (exL t) 1 = 0 := by
  obtain ⟨⟨i, h1, h2⟩, _⟩ := lb_max (ex_good ht) (v := 1) ((ex_has ht 1).2 (.inr rfl))
  rcases (ex_cnt ht 1 i).1 h1 with ⟨rfl, _⟩ | ⟨_, h⟩
  · exact h2
  · cases h
theorem ex_cl00 : ¬ CL (exL t) 0 0 := by
  unfold CL
  rw [if_pos rfl]
  exact fun h => h.1 rfl
theorem ex_cl11 : ¬ CL (exL t) 1 1 := by
  unfold CL
  rw [if_pos rfl]
  rintro ⟨_, h | ⟨w, i, _, _, h1, h2, _⟩⟩
  · exact h 0 (by show 0 < 2; decide) ⟨rfl, rfl⟩
  · have : ∀ i, i < 2 → ¬ rdK (exL t) 1 i := two (fun h => by exact absurd h.1 (by show ¬ (1 : Int) = 2; decide)) (fun h => by exact absurd h.2.1 (by show ¬ (0 : Int) = 1; decide))
    exact this i h1 h2
theorem ex_cl01 (ht : 0 ≤ t ∧ t ≤ 1000000000) : CL (exL t) 0 1 ↔ t < 3 := by
  unfold CL
  rw [if_neg (by decide), ex_fe0, ex_fe1 ht, ex_lb0 ht, ex_lb1 ht]
  omega
theorem ex_cl10 (ht : 0 ≤ t ∧ t ≤ 1000000000) : CL (exL t) 1 0 ↔ t < 3 := by
  unfold CL
  rw [if_neg (by decide), ex_fe0, ex_fe1 ht, ex_lb0 ht, ex_lb1 ht]
  omega
end
theorem ex_clash : history_Clash (exL 2) = some (0, 1, true, ⟨0, 0⟩) := by
  have ht : (0 : Int) ≤ 2 ∧ (2 : Int) ≤ 1000000000 := by decide
  obtain ⟨r, h1, h2⟩ := clash_prog (ex_good ht)
  have h3 : ClS (exL 2) (fun a b => has (exL 2) a ∧ has (exL 2) b) (0, 1, true) := by
    refine .inr ⟨rfl, ⟨(ex_has ht 0).2 (.inl rfl), (ex_has ht 1).2 (.inr rfl)⟩, (ex_cl01 ht).2 (by decide), fun a b ⟨ha, hb⟩ hc => ?_⟩
    show (0 : Int) < a ∨ ((0 : Int) = a ∧ (1 : Int) ≤ b)
    rcases (ex_has ht a).1 ha with rfl | rfl
    · rcases (ex_has ht b).1 hb with rfl | rfl
      · exact absurd hc ex_cl00
      · exact .inr ⟨rfl, by decide⟩
    · exact .inl (by decide)
  rw [h2, h1.uniq h3]
theorem ex_line : history_Clash (exL 9) = some (0, 0, false, ⟨0, 0⟩) := by
  have ht : (0 : Int) ≤ 9 ∧ (9 : Int) ≤ 1000000000 := by decide
  obtain ⟨r, h1, h2⟩ := clash_prog (ex_good ht)
  have h3 : ClS (exL 9) (fun a b => has (exL 9) a ∧ has (exL 9) b) (0, 0, false) := by
    refine .inl ⟨rfl, rfl, rfl, fun a b ⟨ha, hb⟩ => ?_⟩
    rcases (ex_has ht a).1 ha with rfl | rfl <;> rcases (ex_has ht b).1 hb with rfl | rfl
    · exact ex_cl00
    · rw [ex_cl01 ht]; decide
    · rw [ex_cl10 ht]; decide
    · exact ex_cl11
  rw [h2, h1.uniq h3]
theorem begun_eq : law_historyBegun = some true := by
  unfold law_historyBegun history_Linear
  have e1 : history_Clash [(⟨1, 1, 0, 2⟩ : Span), (⟨2, 0, 3, 5⟩ : Span)] = some (0, 1, true, ⟨0, 0⟩) := ex_clash
  have e2 : history_Clash [(⟨1, 1, 0, 9⟩ : Span), (⟨2, 0, 3, 5⟩ : Span)] = some (0, 0, false, ⟨0, 0⟩) := ex_line
  rw [e1, e2]; rfl
theorem clash_bad {l : List Span} (h : ¬ (chk l).Code = 0) : history_Clash l = some (0, 0, false, chk l) := by
  unfold history_Clash
  rw [check_eq, ob_some]
  exact if_pos (n_t h)
theorem same_self {l : List Span} (hl : l.length ≤ 400) : law_sameSpans l l = some true := by
  unfold law_sameSpans
  rw [if_neg (n_f rfl)]
  unfold law_sameSpans_L1
  refine loop_run (step := fun y => law_sameSpans_B1 l l y) l.length (fun k => (k : Int)) (fun k hk => ?_) ?_
  · have hw : w64 ((k : Int) + 1) = ((k + 1 : Nat) : Int) := by rw [w64_id (by omega) (by omega)]; omega
    show law_sameSpans_B1 l l (k : Int) = _
    unfold law_sameSpans_B1
    rw [if_pos (d_t (by omega)), asrt_pos (by omega), asrt_pos (by omega), if_neg (by simp), hw]
  · show law_sameSpans_B1 l l (l.length : Int) = _
    unfold law_sameSpans_B1
    rw [if_neg (d_f (by omega))]; rfl
end G
end Go.Proofs.Ytnibbgjoanbnmaa
