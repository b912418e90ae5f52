/- Histories: the program's first clash is the document's; the example. -/
import Derived.Test.YtnibbgjoanbnmaaPHistG
namespace Go.Proofs.Ytnibbgjoanbnmaa
open Go Go.Dm
set_option linter.unusedVariables false
set_option linter.unusedSimpArgs false
set_option linter.unusedSectionVars false
namespace G
theorem has_end {l : List Span} (hg : Good l) {v : Int} (h : has l v) : ∃ i, cnt l v i ∧ 0 ≤ too l i := by
  obtain ⟨i, hi⟩ := h
  obtain ⟨h1, h2, h3⟩ := (cnt_iff hg v i).1 hi
  rcases h3 with h3 | ⟨_, k, h4, h5⟩
  · exact ⟨i, hi, h3⟩
  · rw [h2] at h5
    exact ⟨k, (cnt_iff hg v k).2 ⟨h4, h5.2.1, .inl h5.2.2⟩, h5.2.2⟩
theorem fe_min {l : List Span} (hg : Good l) {v : Int} (hv : v ≠ 0) (h : has l v) : MinOf (fun i => cnt l v i ∧ 0 ≤ too l i) (too l) (feV l v) := by
  unfold feV
  rw [if_neg hv]
  obtain ⟨s1, s2⟩ := fe_spec (l := l) (v := v) (cl l l.length)
  refine ⟨?_, fun i hi => ?_⟩
  · rcases s1 with s1 | ⟨z, hz, a, c, d⟩
    · exfalso
      obtain ⟨i, hi, hi2⟩ := has_end hg h
      obtain ⟨q1, q2⟩ := (mem_cnt hg (v := v)).2 ⟨i, hi, rfl⟩
      have := s2 _ q1 q2 hi2
      have := (good_rng hg (k := i) ((cnt_iff hg _ _).1 hi).1).2.1
      dsimp only [too] at this
      omega
    · obtain ⟨i, h3, rfl⟩ := (mem_cnt hg).1 ⟨hz, a⟩
      exact ⟨i, ⟨h3, c⟩, d⟩
  · obtain ⟨q1, q2⟩ := (mem_cnt hg (v := v)).2 ⟨i, hi.1, rfl⟩
    exact s2 _ q1 q2 hi.2
theorem lb_max {l : List Span} (hg : Good l) {v : Int} (h : has l v) : MaxOf (cnt l v) (frm0 l) (lbV l v) := by
  unfold lbV
  obtain ⟨s1, s2⟩ := lb_spec (l := l) (v := v) (cl l l.length)
  refine ⟨?_, fun i hi => ?_⟩
  · rcases s1 with s1 | ⟨z, hz, a, d⟩
    · exfalso
      obtain ⟨i, hi⟩ := h
      obtain ⟨q1, q2⟩ := (mem_cnt hg (v := v)).2 ⟨i, hi, rfl⟩
      have := s2 _ q1 q2
      have := (good_rng hg (k := i) ((cnt_iff hg _ _).1 hi).1).1
      dsimp only [frm0] at this
      omega
    · obtain ⟨i, h3, rfl⟩ := (mem_cnt hg).1 ⟨hz, a⟩
      exact ⟨i, h3, d⟩
  · obtain ⟨q1, q2⟩ := (mem_cnt hg (v := v)).2 ⟨i, hi, rfl⟩
    exact s2 _ q1 q2
/-- the first pair of two loops, one in the other, of which something is so -/
theorem clash_prog {l : List Span} (hg : Good l) : ∃ r, ClS l (fun a b => has l a ∧ has l b) r ∧ history_Clash l = some (r.1, r.2.1, r.2.2, ⟨0, 0⟩) := by
  have hl := hg.len
  have hc : chk l = ⟨0, 0⟩ := by
    unfold chk
    rw [if_neg (by omega)]
    rcases firstFrom_cases (fS l) (⟨0, 0⟩ : Fault) l.length 0 with ⟨_, h2⟩ | ⟨j, x, _, h2, h3, _, h5⟩
    · exact h2
    · exfalso
      unfold fS at h3
      rw [if_neg (fun q => q (hg.kind j (by omega))), if_neg (hg.rng j (by omega))] at h3
      split at h3
      · rename_i ht
        obtain ⟨a, i, b, c, d⟩ := ht
        have := hg.one i j (by omega) (by omega) c a d
        omega
      · cases h3
  have e0 : history_Clash l = ob (history_bunches l []) fun x1 => history_Clash_L1 l x1 0 := by
    unfold history_Clash
    rw [check_eq, hc, ob_some]
    exact if_neg (by simp)
  rw [e0]
  obtain ⟨zs, h1, h2, h3⟩ := bunches_eq hl
  have h3 : zs.Pairwise (fun x y : Nat => (lget (BB l) (x : Int)).value < (lget (BB l) (y : Int)).value) := h3
  have h2 : zs.Perm (List.range (BB l).length) := h2
  rw [h1, ob_some]
  have e1 : history_Clash_L1 l (zs, zero1 (sW l l.length)) 0 = loopO (fun y => history_Clash_B1 l (zs, BB l) y) 0 := rfl
  rw [e1]
  have hb4 : (BB l).length ≤ 400 := by
    have h5 := sW_len l l.length
    have : (BB l).length = (sW l l.length).2.length := by
      unfold BB zero1
      split
      · exact lset_len _ _ _
      · rfl
    omega
  have hzl : zs.length ≤ 400 := by
    have := h2.length_eq
    rw [List.length_range] at this
    omega
  have hlt : ∀ k : Nat, k < zs.length → lget zs (k : Int) < (BB l).length := fun k hk => List.mem_range.1 (h2.mem_iff.1 (lget_mem zs (k : Int) (by omega)))
  have hup : ∀ i j : Nat, i < j → j < zs.length → (lget (BB l) ((lget zs (i : Int) : Nat) : Int)).value < (lget (BB l) ((lget zs (j : Int) : Nat) : Int)).value := fun i j hij hj => by
    have := List.pairwise_iff_getElem.1 h3 i j (by omega) hj hij
    rw [lget_nat zs i (by omega), lget_nat zs j hj]; exact this
  have heq : ∀ i j : Nat, i < zs.length → j < zs.length → (lget zs (i : Int) = lget zs (j : Int) ↔ (lget (BB l) ((lget zs (i : Int) : Nat) : Int)).value = (lget (BB l) ((lget zs (j : Int) : Nat) : Int)).value) := fun i j hi hj =>
    ⟨fun e => by rw [e], fun e => bb_inj (hlt i hi) (hlt j hj) e⟩
  generalize hP : (fun k : Nat => (lget (BB l) ((lget zs (k : Int) : Nat) : Int)).value) = P at *
  have hPk : ∀ k : Nat, (lget (BB l) ((lget zs (k : Int) : Nat) : Int)).value = P k := fun k => by rw [← hP]
  have hV : ∀ v, has l v ↔ ∃ k : Nat, k < zs.length ∧ P k = v := fun v => by
    show (∃ i, cnt l v i) ↔ _
    rw [bb_has hg]
    constructor
    · rintro ⟨k, hk, e⟩
      obtain ⟨j, hj, e2⟩ := mem_lget.1 (h2.mem_iff.2 (List.mem_range.2 hk))
      exact ⟨j, hj, by rw [← hPk, e2]; exact e⟩
    · rintro ⟨k, hk, e⟩
      exact ⟨_, hlt k hk, by rw [hPk]; exact e⟩
  -- the inner loop
  have inner : ∀ i : Nat, i < zs.length → ∀ j : Nat, j < zs.length → history_Clash_B2 l (zs, BB l) (i : Int) (j : Int) = if CL l (P i) (P j) then some (.inr (.inr (P i, P j, true, ⟨0, 0⟩))) else some (.inl ((j + 1 : Nat) : Int)) := fun i hi j hj => by
    have hw2 : w64 ((j : Int) + 1) = ((j + 1 : Nat) : Int) := by rw [w64_id (by omega) (by omega)]; omega
    have g1 := hlt i hi
    have g2 := hlt j hj
    have hq := heq i j hi hj
    have f1 := hPk i
    have f2 := hPk j
    unfold history_Clash_B2
    dsimp only
    generalize lget zs (i : Int) = a at *
    generalize lget zs (j : Int) = b at *
    rw [if_pos (d_t (by omega)), asrt_pos (by omega), asrt_pos (by omega), asrt_pos ⟨g1, g2⟩]
    by_cases c : a = b
    · subst c
      have e : decide (a = a) = true := decide_eq_true rfl
      rw [e, if_pos rfl, alone_eq hg g1]
      have e2 : P i = P j := by rw [← f1, ← f2]
      rw [show (decide (SC l (lget (BB l) (a : Int)).value)) = decide (CL l (P i) (P j)) from by
        refine Bool.eq_iff_iff.2 ?_
        rw [decide_eq_true_iff, decide_eq_true_iff, f1]
        unfold CL
        rw [if_pos e2]]
      simp only [ob_some]
      rw [asrt_pos (fun _ => ⟨g1, g1⟩), if_neg (by simp)]
      simp only [ob_some]
      rw [asrt_pos (by omega), asrt_pos (by omega), hw2]
      by_cases q : CL l (P i) (P j)
      · rw [decide_eq_true q, if_pos (by rfl), if_pos q, f1, ← e2]
      · rw [decide_eq_false q, if_neg (by simp), if_neg q]
    · have e : decide (a = b) = false := decide_eq_false c
      rw [e, if_neg (by simp)]
      simp only [ob_some]
      rw [asrt_pos (fun _ => ⟨g1, g2⟩), if_pos (by rfl), if_pos (by rfl), clash_eq hg g1 g2]
      simp only [ob_some]
      rw [asrt_pos (by omega), asrt_pos (by omega), hw2, f1, f2]
      have hne : ¬ P i = P j := fun h => c (hq.2 (by rw [f1, f2]; exact h))
      have e3 : ((false && (default : Bool)) || ((!false) && decide (feV l (P i) < lbV l (P j) ∧ feV l (P j) < lbV l (P i)))) = decide (CL l (P i) (P j)) := by
        refine Bool.eq_iff_iff.2 ?_
        rw [decide_eq_true_iff]
        unfold CL
        rw [if_neg hne]
        simp
      rw [e3]
      by_cases q : CL l (P i) (P j)
      · rw [if_pos (d_t q), if_pos q]
      · rw [if_neg (d_f q), if_neg q]
  have outer : ∀ i : Nat, i < zs.length → (∃ j, j < zs.length ∧ CL l (P i) (P j) ∧ (∀ j', j' < j → ¬ CL l (P i) (P j')) ∧ history_Clash_B1 l (zs, BB l) (i : Int) = some (.inr (P i, P j, true, ⟨0, 0⟩))) ∨ ((∀ j, j < zs.length → ¬ CL l (P i) (P j)) ∧ history_Clash_B1 l (zs, BB l) (i : Int) = some (.inl ((i + 1 : Nat) : Int))) := fun i hi => by
    have hw2 : w64 ((i : Int) + 1) = ((i + 1 : Nat) : Int) := by rw [w64_id (by omega) (by omega)]; omega
    have he : history_Clash_B2 l (zs, BB l) (i : Int) (zs.length : Int) = some (.inr (.inl ((i + 1 : Nat) : Int))) := by
      unfold history_Clash_B2
      rw [if_neg (d_f (by show ¬ (zs.length : Int) < (zs.length : Int); omega))]
      show some (Sum.inr (Sum.inl (w64 ((i : Int) + 1)))) = _
      rw [hw2]
    have hB : history_Clash_B1 l (zs, BB l) (i : Int) = loopO (fun y => history_Clash_B2 l (zs, BB l) (i : Int) y) 0 := by
      unfold history_Clash_B1
      dsimp only
      rw [if_pos (d_t (by omega)), asrt_pos (by omega), asrt_pos (by omega)]; rfl
    rw [hB]
    rcases loop_first (step := fun y => history_Clash_B2 l (zs, BB l) (i : Int) y) zs.length (fun k => (k : Int)) (fun j => CL l (P i) (P j)) (fun j => .inr (P i, P j, true, ⟨0, 0⟩)) (fun j hj hn => by rw [inner i hi j hj, if_neg hn]) (fun j hj hn => by rw [inner i hi j hj, if_pos hn]) he with ⟨j, a, b, c, d⟩ | ⟨a, d⟩
    · exact .inl ⟨j, a, b, c, d⟩
    · exact .inr ⟨a, d⟩
  have hend : history_Clash_B1 l (zs, BB l) (zs.length : Int) = some (.inr (0, 0, false, ⟨0, 0⟩)) := by
    unfold history_Clash_B1
    rw [if_neg (d_f (by show ¬ (zs.length : Int) < (zs.length : Int); omega))]; rfl
  have hmono : ∀ i j : Nat, i < zs.length → j < zs.length → (i < j ↔ P i < P j) := fun i j hi hj => by
    constructor
    · intro h; have := hup i j h hj; rw [hPk, hPk] at this; exact this
    · intro h
      rcases Nat.lt_trichotomy i j with q | q | q
      · exact q
      · subst q; omega
      · have := hup j i q hi; rw [hPk, hPk] at this; omega
  have hbad : ∀ i : Nat, i < zs.length → (∃ j, j < zs.length ∧ CL l (P i) (P j)) → ∃ j, j < zs.length ∧ CL l (P i) (P j) ∧ (∀ j', j' < j → ¬ CL l (P i) (P j')) ∧ history_Clash_B1 l (zs, BB l) (i : Int) = some (.inr (P i, P j, true, ⟨0, 0⟩)) := fun i hi ⟨j, a, b⟩ => by
    rcases outer i hi with h | ⟨h, _⟩
    · exact h
    · exact absurd b (h j a)
  have hfun : ∃ J : Nat → Nat, ∀ i : Nat, i < zs.length → (∃ j, j < zs.length ∧ CL l (P i) (P j)) → J i < zs.length ∧ CL l (P i) (P (J i)) ∧ (∀ j', j' < J i → ¬ CL l (P i) (P j')) ∧ history_Clash_B1 l (zs, BB l) (i : Int) = some (.inr (P i, P (J i), true, ⟨0, 0⟩)) := by
    refine Classical.axiomOfChoice (r := fun i j => i < zs.length → (∃ j, j < zs.length ∧ CL l (P i) (P j)) → j < zs.length ∧ CL l (P i) (P j) ∧ (∀ j', j' < j → ¬ CL l (P i) (P j')) ∧ history_Clash_B1 l (zs, BB l) (i : Int) = some (.inr (P i, P j, true, ⟨0, 0⟩))) fun i => ?_
    by_cases h : i < zs.length ∧ ∃ j, j < zs.length ∧ CL l (P i) (P j)
    · obtain ⟨j, hj⟩ := hbad i h.1 h.2
      exact ⟨j, fun _ _ => hj⟩
    · exact ⟨0, fun a b => absurd ⟨a, b⟩ h⟩
  obtain ⟨J, hJ⟩ := hfun
  rcases loop_first (step := fun y => history_Clash_B1 l (zs, BB l) y) zs.length (fun k => (k : Int)) (fun i => ∃ j, j < zs.length ∧ CL l (P i) (P j)) (fun i => (P i, P (J i), true, ⟨0, 0⟩))
    (fun i hi hn => by
      rcases outer i hi with ⟨j, a, b, _⟩ | ⟨_, h⟩
      · exact absurd ⟨j, a, b⟩ hn
      · exact h) (fun i hi hn => (hJ i hi hn).2.2.2) hend with ⟨i, a, b, c, d⟩ | ⟨a, d⟩
  · obtain ⟨g1, g2, g3, _⟩ := hJ i a b
    refine ⟨(P i, P (J i), true), .inr ⟨rfl, ⟨(hV _).2 ⟨i, a, rfl⟩, (hV _).2 ⟨J i, g1, rfl⟩⟩, g2, fun x y ⟨hx, hy⟩ hxy => ?_⟩, d⟩
    obtain ⟨m, m1, rfl⟩ := (hV _).1 hx
    obtain ⟨n, n1, rfl⟩ := (hV _).1 hy
    show P i < P m ∨ (P i = P m ∧ P (J i) ≤ P n)
    rcases Nat.lt_trichotomy m i with q | q | q
    · exact absurd ⟨n, n1, hxy⟩ (c m q)
    · subst q
      refine .inr ⟨rfl, ?_⟩
      by_cases q2 : n < J m
      · exact absurd hxy (g3 n q2)
      · by_cases q3 : n = J m
        · rw [q3]; exact Int.le_refl _
        · have := (hmono (J m) n g1 n1).1 (by omega)
          omega
    · exact .inl ((hmono i m a m1).1 q)
  · refine ⟨(0, 0, false), .inl ⟨rfl, rfl, rfl, fun x y ⟨hx, hy⟩ hxy => ?_⟩, d⟩
    obtain ⟨m, m1, rfl⟩ := (hV _).1 hx
    obtain ⟨n, n1, rfl⟩ := (hV _).1 hy
    exact a m m1 ⟨n, n1, hxy⟩
end G
end Go.Proofs.Ytnibbgjoanbnmaa
