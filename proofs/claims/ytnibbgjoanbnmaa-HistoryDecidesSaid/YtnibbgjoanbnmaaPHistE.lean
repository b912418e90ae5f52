/- Histories: the document's words: which spans count, first ends, last beginnings, numbers that clash with themselves. -/
import Derived.Test.YtnibbgjoanbnmaaPHistD
namespace Go.Proofs.Ytnibbgjoanbnmaa
open Go Go.Dm
set_option linter.unusedVariables false
set_option linter.unusedSimpArgs false
set_option linter.unusedSectionVars false
namespace G
/-- a read of a number that counts -/
def rdK (l : List Span) (v : Int) (k : Nat) : Prop := knd l k = 2 ∧ val l k = v ∧ 0 ≤ too l k
instance (l : List Span) (v : Int) (k : Nat) : Decidable (rdK l v k) := by unfold rdK; infer_instance
noncomputable def rdB (l : List Span) (v : Int) (n : Nat) : Bool := @decide (∃ j, j < n ∧ rdK l v j) (Classical.propDecidable _)
theorem rdB_iff (l : List Span) (v : Int) (n : Nat) : rdB l v n = true ↔ ∃ j, j < n ∧ rdK l v j := @decide_eq_true_iff _ (Classical.propDecidable _)
theorem rdK_iff {l : List Span} (hg : Good l) {k : Nat} (hk : k < l.length) (v : Int) : rdK l v k ↔ rdv l v k := by
  have := hg.kind k hk
  unfold rdK rdv isR
  dsimp only [knd, too, val]
  omega
/-- a span that counts -/
def cI (l : List Span) (i : Nat) : Prop := 0 ≤ too l i ∨ (knd l i = 1 ∧ ∃ k, k < l.length ∧ rdK l (val l i) k)
noncomputable instance (l : List Span) (i : Nat) : Decidable (cI l i) := Classical.propDecidable _
theorem cnt_iff {l : List Span} (hg : Good l) (v : Int) (i : Nat) : cnt l v i ↔ i < l.length ∧ val l i = v ∧ cI l i := by
  unfold cnt cn cI
  constructor
  · rintro ⟨h0, h | ⟨h1, h2, h3, h4⟩⟩
    · exact ⟨h0, h.2, .inl (rdv_too h)⟩
    · refine ⟨h0, h3, ?_⟩
      rcases h4 with h4 | ⟨k, h5, h6⟩
      · exact .inl h4
      · exact .inr ⟨h2, k, h5, by rw [h3]; exact (rdK_iff hg h5 v).2 h6⟩
  · rintro ⟨h0, h1, h2⟩
    refine ⟨h0, ?_⟩
    by_cases hk : knd l i = 1
    · refine .inr ⟨h0, hk, h1, ?_⟩
      rcases h2 with h2 | ⟨_, k, h5, h6⟩
      · exact .inl h2
      · exact .inr ⟨k, h5, by rw [h1] at h6; exact (rdK_iff hg h5 v).1 h6⟩
    · rcases h2 with h2 | h2
      · exact .inl ⟨⟨hk, h2⟩, h1⟩
      · exact absurd h2.1 hk
noncomputable def cl (l : List Span) (n : Nat) : List Int := ((List.range n).filter fun i => decide (cI l i)).map fun i : Nat => (i : Int)
theorem cl_succ (l : List Span) (n : Nat) : cl l (n + 1) = if cI l n then cl l n ++ [(n : Int)] else cl l n := by
  unfold cl
  rw [List.range_succ, List.filter_append, List.map_append]
  by_cases c : cI l n <;> simp [c]
theorem cl_len (l : List Span) (n : Nat) : (cl l n).length ≤ n := by
  unfold cl
  rw [List.length_map]
  have := List.length_filter_le (fun i => decide (cI l i)) (List.range n)
  simpa using this
theorem mem_cl {l : List Span} {n : Nat} {z : Int} : z ∈ cl l n ↔ ∃ i : Nat, i < n ∧ cI l i ∧ z = i := by
  unfold cl
  simp only [List.mem_map, List.mem_filter, List.mem_range, decide_eq_true_eq]
  exact ⟨fun ⟨i, ⟨a, b⟩, c⟩ => ⟨i, a, b, c.symm⟩, fun ⟨i, a, b, c⟩ => ⟨i, ⟨a, b⟩, c.symm⟩⟩
theorem counting_eq {l : List Span} (hl : l.length ≤ 400) : R_Counting l = some (cl l l.length) := by
  unfold R_Counting R_Counting_L1
  refine loop_run (step := fun y => R_Counting_B1 l y) l.length (fun k => (cl l k, (k : Int))) (fun k hk => ?_) ?_
  · have hw : w64 ((k : Int) + 1) = ((k + 1 : Nat) : Int) := by rw [w64_id (by omega) (by omega)]; omega
    show R_Counting_B1 l (cl l k, (k : Int)) = _
    unfold R_Counting_B1 R_Counting_L2
    rw [if_pos (d_t (by show (k : Int) < _; omega))]
    have h : loopO (fun y => R_Counting_B2 l (cl l k, (k : Int)) y) (rdB l (val l k) 0, ((0 : Nat) : Int)) = some (.inl (cl l (k + 1), ((k + 1 : Nat) : Int))) := by
      refine loop_run (step := fun y => R_Counting_B2 l (cl l k, (k : Int)) y) l.length (fun j => (rdB l (val l k) j, (j : Int))) (fun j hj => ?_) ?_
      · have hw2 : w64 ((j : Int) + 1) = ((j + 1 : Nat) : Int) := by rw [w64_id (by omega) (by omega)]; omega
        show R_Counting_B2 l (cl l k, (k : Int)) (_, (j : Int)) = _
        unfold R_Counting_B2
        dsimp only
        rw [if_pos (d_t (by omega)), asrt_pos (fun _ => by omega), asrt_pos (fun _ _ => by omega), asrt_pos (fun _ _ => by omega), asrt_pos (fun _ _ => by omega), hw2]
        show some (Sum.inl (_, _)) = _
        have e : (rdB l (val l k) j || (((decide ((lget l (j : Int)).Kind = 2)) && (decide ((lget l (j : Int)).Value = (lget l (k : Int)).Value))) && (decide (0 ≤ (lget l (j : Int)).To)))) = rdB l (val l k) (j + 1) := by
          refine Bool.eq_iff_iff.2 ?_
          rw [Bool.or_eq_true, Bool.and_eq_true, Bool.and_eq_true, rdB_iff, rdB_iff]
          simp only [decide_eq_true_eq]
          constructor
          · rintro (⟨i, h1, h2⟩ | ⟨⟨h1, h2⟩, h3⟩)
            · exact ⟨i, by omega, h2⟩
            · exact ⟨j, by omega, h1, h2, h3⟩
          · rintro ⟨i, h1, h2⟩
            by_cases q : i = j
            · subst q; exact .inr ⟨⟨h2.1, h2.2.1⟩, h2.2.2⟩
            · exact .inl ⟨i, by omega, h2⟩
        rw [e]
      · show R_Counting_B2 l (cl l k, (k : Int)) (_, (l.length : Int)) = _
        unfold R_Counting_B2 R_Counting_J2
        dsimp only
        have hcl := cl_len l k
        rw [if_neg (d_f (by omega)), asrt_pos (by omega), asrt_pos (fun _ => by omega), hw]
        have e : ((decide (0 ≤ (lget l (k : Int)).To)) || ((decide ((lget l (k : Int)).Kind = 1)) && (rdB l (val l k) l.length))) = decide (cI l k) := by
          refine Bool.eq_iff_iff.2 ?_
          rw [Bool.or_eq_true, Bool.and_eq_true, rdB_iff]
          simp only [decide_eq_true_eq]
          exact Iff.rfl
        rw [e, cl_succ]
        by_cases c : cI l k
        · rw [if_pos (d_t c), if_pos c, asrt_pos (by rw [List.length_append, List.length_singleton]; omega)]; rfl
        · rw [if_neg (d_f c), if_neg c]; rfl
    refine Eq.trans ?_ h
    show loopO _ _ = loopO _ _
    congr 1
    refine Prod.ext ?_ rfl
    show false = rdB l (val l k) 0
    cases hb : rdB l (val l k) 0 with
    | false => rfl
    | true => obtain ⟨i, hi, _⟩ := (rdB_iff _ _ _).1 hb; omega
  · show R_Counting_B1 l (cl l l.length, (l.length : Int)) = _
    unfold R_Counting_B1
    rw [if_neg (d_f (by show ¬ (l.length : Int) < _; omega))]; rfl
/-- a loop over numbers of spans that keeps one number -/
def keep1 (l : List Span) (p : Int → Int → Bool) (f : Int → Int) (b0 : Int) (xs : List Int) : Int := xs.foldl (fun b z => if p b z = true then f z else b) b0
theorem keep1_snoc (l : List Span) (p : Int → Int → Bool) (f : Int → Int) (b0 : Int) (xs : List Int) (z : Int) : keep1 l p f b0 (xs ++ [z]) = if p (keep1 l p f b0 xs) z = true then f z else keep1 l p f b0 xs := by
  unfold keep1
  rw [List.foldl_append]; rfl
def feP (l : List Span) (v : Int) (b z : Int) : Bool := ((decide ((lget l z).Value = v)) && (decide (0 ≤ (lget l z).To))) && (decide ((lget l z).To < b))
def lbP (l : List Span) (v : Int) (b z : Int) : Bool := (decide ((lget l z).Value = v)) && (decide (b < (lget l z).From))
noncomputable def feV (l : List Span) (v : Int) : Int := if v = 0 then -1 else keep1 l (feP l v) (fun z => (lget l z).To) 2000000000 (cl l l.length)
noncomputable def lbV (l : List Span) (v : Int) : Int := keep1 l (lbP l v) (fun z => (lget l z).From) (-1) (cl l l.length)
theorem in_cl {l : List Span} {k : Nat} (hk : k < (cl l l.length).length) : 0 ≤ lget (cl l l.length) (k : Int) ∧ lget (cl l l.length) (k : Int) < (l.length : Int) := by
  obtain ⟨i, h1, _, h2⟩ := mem_cl.1 (lget_mem (cl l l.length) (k : Int) (by omega))
  omega
theorem first_eq {l : List Span} (hl : l.length ≤ 400) (v : Int) : R_FirstEnd l v = some (feV l v) := by
  unfold R_FirstEnd feV
  by_cases c : v = 0
  · rw [if_pos (d_t c), if_pos c]
  rw [if_neg (d_f c), if_neg c, counting_eq hl]
  have hcl := cl_len l l.length
  show R_FirstEnd_L1 l v (cl l l.length) (2000000000, 0) = _
  unfold R_FirstEnd_L1
  refine (loop_run (step := fun y => R_FirstEnd_B1 l v (cl l l.length) y) (cl l l.length).length (fun k => (keep1 l (feP l v) (fun z => (lget l z).To) 2000000000 ((cl l l.length).take k), (k : Int))) (fun k hk => ?_) ?_ : _)
  · have hw : w64 ((k : Int) + 1) = ((k + 1 : Nat) : Int) := by rw [w64_id (by omega) (by omega)]; omega
    have hin := in_cl hk
    show R_FirstEnd_B1 l v (cl l l.length) (_, (k : Int)) = _
    unfold R_FirstEnd_B1
    dsimp only
    rw [if_pos (d_t (by omega)), asrt_pos (by omega), asrt_pos (by omega), asrt_pos hin, hw, lget_take _ k hk, keep1_snoc]
    show ob (if feP l v _ _ = true then _ else _) _ = _
    by_cases q : feP l v (keep1 l (feP l v) (fun z => (lget l z).To) 2000000000 ((cl l l.length).take k)) (lget (cl l l.length) (k : Int)) = true
    · rw [if_pos q, if_pos q]; rfl
    · rw [if_neg q, if_neg q]; rfl
  · show R_FirstEnd_B1 l v (cl l l.length) (_, ((cl l l.length).length : Int)) = _
    unfold R_FirstEnd_B1
    rw [if_neg (d_f (by show ¬ ((cl l l.length).length : Int) < _; omega)), List.take_length]; rfl
theorem last_eq {l : List Span} (hl : l.length ≤ 400) (v : Int) : R_LastBegin l v = some (lbV l v) := by
  unfold R_LastBegin lbV
  rw [counting_eq hl]
  have hcl := cl_len l l.length
  show R_LastBegin_L1 l v (cl l l.length) (-1, 0) = _
  unfold R_LastBegin_L1
  refine (loop_run (step := fun y => R_LastBegin_B1 l v (cl l l.length) y) (cl l l.length).length (fun k => (keep1 l (lbP l v) (fun z => (lget l z).From) (-1) ((cl l l.length).take k), (k : Int))) (fun k hk => ?_) ?_ : _)
  · have hw : w64 ((k : Int) + 1) = ((k + 1 : Nat) : Int) := by rw [w64_id (by omega) (by omega)]; omega
    have hin := in_cl hk
    show R_LastBegin_B1 l v (cl l l.length) (_, (k : Int)) = _
    unfold R_LastBegin_B1
    dsimp only
    rw [if_pos (d_t (by omega)), asrt_pos (by omega), asrt_pos (by omega), asrt_pos hin, hw, lget_take _ k hk, keep1_snoc]
    show ob (if lbP l v _ _ = true then _ else _) _ = _
    by_cases q : lbP l v (keep1 l (lbP l v) (fun z => (lget l z).From) (-1) ((cl l l.length).take k)) (lget (cl l l.length) (k : Int)) = true
    · rw [if_pos q, if_pos q]; rfl
    · rw [if_neg q, if_neg q]; rfl
  · show R_LastBegin_B1 l v (cl l l.length) (_, ((cl l l.length).length : Int)) = _
    unfold R_LastBegin_B1
    rw [if_neg (d_f (by show ¬ ((cl l l.length).length : Int) < _; omega)), List.take_length]; rfl
/-- what is kept is the least one -/
theorem fe_spec {l : List Span} {v : Int} : ∀ xs : List Int, (keep1 l (feP l v) (fun z => (lget l z).To) 2000000000 xs = 2000000000 ∨ ∃ z ∈ xs, (lget l z).Value = v ∧ 0 ≤ (lget l z).To ∧ keep1 l (feP l v) (fun z => (lget l z).To) 2000000000 xs = (lget l z).To) ∧
    ∀ z ∈ xs, (lget l z).Value = v → 0 ≤ (lget l z).To → keep1 l (feP l v) (fun z => (lget l z).To) 2000000000 xs ≤ (lget l z).To := by
  suffices h : ∀ xs : List Int, (keep1 l (feP l v) (fun z => (lget l z).To) 2000000000 xs.reverse = 2000000000 ∨ ∃ z ∈ xs.reverse, (lget l z).Value = v ∧ 0 ≤ (lget l z).To ∧ keep1 l (feP l v) (fun z => (lget l z).To) 2000000000 xs.reverse = (lget l z).To) ∧
      ∀ z ∈ xs.reverse, (lget l z).Value = v → 0 ≤ (lget l z).To → keep1 l (feP l v) (fun z => (lget l z).To) 2000000000 xs.reverse ≤ (lget l z).To by
    intro xs
    have := h xs.reverse
    rwa [List.reverse_reverse] at this
  intro xs
  induction xs with
  | nil => exact ⟨.inl rfl, fun z hz => by simp at hz⟩
  | cons x xs ih =>
    rw [List.reverse_cons, keep1_snoc]
    obtain ⟨h1, h2⟩ := ih
    by_cases q : feP l v (keep1 l (feP l v) (fun z => (lget l z).To) 2000000000 xs.reverse) x = true
    · rw [if_pos q]
      unfold feP at q
      simp only [Bool.and_eq_true, decide_eq_true_eq] at q
      refine ⟨.inr ⟨x, by simp, q.1.1, q.1.2, rfl⟩, fun z hz a b => ?_⟩
      rcases List.mem_append.1 hz with hz | hz
      · have := h2 z hz a b
        unfold feP at this
        exact Int.le_trans (Int.le_of_lt q.2) this
      · rw [List.mem_singleton.1 hz]; exact Int.le_refl _
    · rw [if_neg q]
      refine ⟨?_, fun z hz a b => ?_⟩
      · rcases h1 with h1 | ⟨z, a, b⟩
        · exact .inl h1
        · exact .inr ⟨z, List.mem_append_left _ a, b⟩
      · rcases List.mem_append.1 hz with hz | hz
        · exact h2 z hz a b
        · rw [List.mem_singleton.1 hz] at a b ⊢
          unfold feP at q
          simp only [Bool.and_eq_true, decide_eq_true_eq, not_and, Int.not_lt] at q
          exact q ⟨a, b⟩
theorem lb_spec {l : List Span} {v : Int} : ∀ xs : List Int, (keep1 l (lbP l v) (fun z => (lget l z).From) (-1) xs = -1 ∨ ∃ z ∈ xs, (lget l z).Value = v ∧ keep1 l (lbP l v) (fun z => (lget l z).From) (-1) xs = (lget l z).From) ∧
    ∀ z ∈ xs, (lget l z).Value = v → (lget l z).From ≤ keep1 l (lbP l v) (fun z => (lget l z).From) (-1) xs := by
  suffices h : ∀ xs : List Int, (keep1 l (lbP l v) (fun z => (lget l z).From) (-1) xs.reverse = -1 ∨ ∃ z ∈ xs.reverse, (lget l z).Value = v ∧ keep1 l (lbP l v) (fun z => (lget l z).From) (-1) xs.reverse = (lget l z).From) ∧
      ∀ z ∈ xs.reverse, (lget l z).Value = v → (lget l z).From ≤ keep1 l (lbP l v) (fun z => (lget l z).From) (-1) xs.reverse by
    intro xs
    have := h xs.reverse
    rwa [List.reverse_reverse] at this
  intro xs
  induction xs with
  | nil => exact ⟨.inl rfl, fun z hz => by simp at hz⟩
  | cons x xs ih =>
    rw [List.reverse_cons, keep1_snoc]
    obtain ⟨h1, h2⟩ := ih
    by_cases q : lbP l v (keep1 l (lbP l v) (fun z => (lget l z).From) (-1) xs.reverse) x = true
    · rw [if_pos q]
      unfold lbP at q
      simp only [Bool.and_eq_true, decide_eq_true_eq] at q
      refine ⟨.inr ⟨x, by simp, q.1, rfl⟩, fun z hz a => ?_⟩
      rcases List.mem_append.1 hz with hz | hz
      · have := h2 z hz a
        unfold lbP at this
        exact Int.le_trans this (Int.le_of_lt q.2)
      · rw [List.mem_singleton.1 hz]; exact Int.le_refl _
    · rw [if_neg q]
      refine ⟨?_, fun z hz a => ?_⟩
      · rcases h1 with h1 | ⟨z, a, b⟩
        · exact .inl h1
        · exact .inr ⟨z, List.mem_append_left _ a, b⟩
      · rcases List.mem_append.1 hz with hz | hz
        · exact h2 z hz a
        · rw [List.mem_singleton.1 hz] at a ⊢
          unfold lbP at q
          simp only [Bool.and_eq_true, decide_eq_true_eq, not_and, Int.not_lt] at q
          exact q a
theorem mem_cnt {l : List Span} (hg : Good l) {z : Int} {v : Int} : (z ∈ cl l l.length ∧ (lget l z).Value = v) ↔ ∃ i : Nat, cnt l v i ∧ z = i := by
  rw [mem_cl]
  constructor
  · rintro ⟨⟨i, h1, h2, rfl⟩, h3⟩
    exact ⟨i, (cnt_iff hg v i).2 ⟨h1, h3, h2⟩, rfl⟩
  · rintro ⟨i, h, rfl⟩
    obtain ⟨h1, h2, h3⟩ := (cnt_iff hg v i).1 h
    exact ⟨⟨i, h1, h3, rfl⟩, h2⟩
theorem fe_bunch {l : List Span} (hg : Good l) {b : bunch} (hb : BOk l b) : b.first = feV l b.value := by
  unfold feV
  rcases hb.fi with ⟨h1, h2⟩ | ⟨h1, h2⟩
  · rw [if_pos h1, h2]
  · rw [if_neg h1]
    refine h2.uniq ?_
    obtain ⟨s1, s2⟩ := fe_spec (l := l) (v := b.value) (cl l l.length)
    refine ⟨?_, fun i hi => ?_⟩
    · rcases s1 with s1 | ⟨z, hz, a, c, d⟩
      · exfalso
        obtain ⟨i, hi, _⟩ := h2.1
        obtain ⟨q1, q2⟩ := (mem_cnt hg (v := b.value)).2 ⟨i, hi.1, rfl⟩
        have := s2 _ q1 q2 hi.2
        have := (good_rng hg (k := i) ((cnt_iff hg _ _).1 hi.1).1).2.1
        dsimp only [too] at this
        omega
      · obtain ⟨i, h3, rfl⟩ := (mem_cnt hg).1 ⟨hz, a⟩
        exact ⟨i, ⟨h3, c⟩, d⟩
    · obtain ⟨q1, q2⟩ := (mem_cnt hg (v := b.value)).2 ⟨i, hi.1, rfl⟩
      exact s2 _ q1 q2 hi.2
theorem lb_bunch {l : List Span} (hg : Good l) {b : bunch} (hb : BOk l b) : b.last = lbV l b.value := by
  unfold lbV
  refine hb.la.uniq ?_
  obtain ⟨s1, s2⟩ := lb_spec (l := l) (v := b.value) (cl l l.length)
  refine ⟨?_, fun i hi => ?_⟩
  · rcases s1 with s1 | ⟨z, hz, a, d⟩
    · exfalso
      obtain ⟨i, hi, _⟩ := hb.la.1
      obtain ⟨q1, q2⟩ := (mem_cnt hg (v := b.value)).2 ⟨i, hi, rfl⟩
      have := s2 _ q1 q2
      have := (good_rng hg (k := i) ((cnt_iff hg _ _).1 hi).1).1
      dsimp only [frm0] at this
      omega
    · obtain ⟨i, h3, rfl⟩ := (mem_cnt hg).1 ⟨hz, a⟩
      exact ⟨i, h3, d⟩
  · obtain ⟨q1, q2⟩ := (mem_cnt hg (v := b.value)).2 ⟨i, hi, rfl⟩
    exact s2 _ q1 q2
end G
end Go.Proofs.Ytnibbgjoanbnmaa
