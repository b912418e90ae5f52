/- Histories: the first clash: the document's and the program's. -/
import Derived.Test.YtnibbgjoanbnmaaPHistF
namespace Go.Proofs.Ytnibbgjoanbnmaa
open Go Go.Dm
set_option linter.unusedVariables false
set_option linter.unusedSimpArgs false
set_option linter.unusedSectionVars false
namespace G
/-- the least of some pairs that clash -/
def ClS (l : List Span) (D : Int → Int → Prop) (r : Int × Int × Bool) : Prop :=
  (r.2.2 = false ∧ r.1 = 0 ∧ r.2.1 = 0 ∧ ∀ a b, D a b → ¬ CL l a b) ∨ (r.2.2 = true ∧ D r.1 r.2.1 ∧ CL l r.1 r.2.1 ∧ ∀ a b, D a b → CL l a b → r.1 < a ∨ (r.1 = a ∧ r.2.1 ≤ b))
theorem ClS.uniq {l : List Span} {D : Int → Int → Prop} {r s : Int × Int × Bool} (h1 : ClS l D r) (h2 : ClS l D s) : r = s := by
  obtain ⟨r1, r2, r3⟩ := r
  obtain ⟨s1, s2, s3⟩ := s
  rcases h1 with ⟨a1, a2, a3, a4⟩ | ⟨a1, a2, a3, a4⟩ <;> rcases h2 with ⟨b1, b2, b3, b4⟩ | ⟨b1, b2, b3, b4⟩
  · simp only at *; rw [a1, a2, a3, b1, b2, b3]
  · exact absurd b3 (a4 _ _ b2)
  · exact absurd a3 (b4 _ _ a2)
  · simp only at *
    have := a4 _ _ b2 b3
    have := b4 _ _ a2 a3
    rw [a1, b1, show r1 = s1 by omega, show r2 = s2 by omega]
theorem ClS.of {l : List Span} {D E : Int → Int → Prop} {r : Int × Int × Bool} (h : ClS l D r) (e : ∀ a b, E a b ↔ D a b) : ClS l E r := by
  rcases h with ⟨a1, a2, a3, a4⟩ | ⟨a1, a2, a3, a4⟩
  · exact .inl ⟨a1, a2, a3, fun a b h => a4 a b ((e a b).1 h)⟩
  · exact .inr ⟨a1, (e _ _).2 a2, a3, fun a b h => a4 a b ((e a b).1 h)⟩
noncomputable def upC (l : List Span) (s : Int × Int × Bool) (a b : Int) : Int × Int × Bool := if CL l a b ∧ (s.2.2 = false ∨ a < s.1 ∨ (a = s.1 ∧ b < s.2.1)) then (a, b, true) else s
theorem ClS.up {l : List Span} {D E : Int → Int → Prop} {s : Int × Int × Bool} (h : ClS l D s) (a b : Int) (e : ∀ x y, E x y ↔ D x y ∨ (x = a ∧ y = b)) : ClS l E (upC l s a b) := by
  unfold upC
  by_cases c : CL l a b ∧ (s.2.2 = false ∨ a < s.1 ∨ (a = s.1 ∧ b < s.2.1))
  · rw [if_pos c]
    refine .inr ⟨rfl, (e _ _).2 (.inr ⟨rfl, rfl⟩), c.1, fun x y hxy hc => ?_⟩
    show a < x ∨ a = x ∧ b ≤ y
    rcases (e x y).1 hxy with q | ⟨rfl, rfl⟩
    · rcases h with ⟨a1, a2, a3, a4⟩ | ⟨a1, a2, a3, a4⟩
      · exact absurd hc (a4 _ _ q)
      · have := a4 x y q hc
        rcases c.2 with c2 | c2
        · rw [a1] at c2; cases c2
        · omega
    · omega
  · rw [if_neg c]
    rcases h with ⟨a1, a2, a3, a4⟩ | ⟨a1, a2, a3, a4⟩
    · refine .inl ⟨a1, a2, a3, fun x y hxy hc => ?_⟩
      rcases (e x y).1 hxy with q | ⟨rfl, rfl⟩
      · exact a4 _ _ q hc
      · exact c ⟨hc, .inl a1⟩
    · refine .inr ⟨a1, (e _ _).2 (.inl a2), a3, fun x y hxy hc => ?_⟩
      rcases (e x y).1 hxy with q | ⟨rfl, rfl⟩
      · exact a4 _ _ q hc
      · have : ¬ (x < s.1 ∨ (x = s.1 ∧ y < s.2.1)) := fun q => c ⟨hc, .inr q⟩
        omega
abbrev vz (l : List Span) (z : Int) : Int := (lget l z).Value
noncomputable def inn (l : List Span) (xs : List Int) (a : Int) (s : Int × Int × Bool) : Int × Int × Bool := xs.foldl (fun s z => upC l s a (vz l z)) s
noncomputable def out (l : List Span) (xs ys : List Int) (s : Int × Int × Bool) : Int × Int × Bool := ys.foldl (fun s z => inn l xs (vz l z) s) s
theorem inn_snoc (l : List Span) (xs : List Int) (a : Int) (s : Int × Int × Bool) (z : Int) : inn l (xs ++ [z]) a s = upC l (inn l xs a s) a (vz l z) := by
  unfold inn
  rw [List.foldl_append]; rfl
theorem out_snoc (l : List Span) (xs ys : List Int) (s : Int × Int × Bool) (z : Int) : out l xs (ys ++ [z]) s = inn l xs (vz l z) (out l xs ys s) := by
  unfold out
  rw [List.foldl_append]; rfl
theorem inn_spec {l : List Span} {a : Int} : ∀ (xs : List Int) {D : Int → Int → Prop} {s : Int × Int × Bool}, ClS l D s → ClS l (fun x y => D x y ∨ (x = a ∧ ∃ z ∈ xs, vz l z = y)) (inn l xs a s)
  | [], D, s, h => h.of fun x y => by simp
  | z :: xs, D, s, h => by
    have h1 := h.up a (vz l z) (E := fun x y => D x y ∨ (x = a ∧ y = vz l z)) fun x y => Iff.rfl
    refine (inn_spec xs h1).of fun x y => ?_
    simp only [List.mem_cons]
    constructor
    · rintro (q | ⟨q, w, rfl | hw, e⟩)
      · exact .inl (.inl q)
      · exact .inl (.inr ⟨q, e.symm⟩)
      · exact .inr ⟨q, w, hw, e⟩
    · rintro ((q | ⟨q, e⟩) | ⟨q, w, hw, e⟩)
      · exact .inl q
      · exact .inr ⟨q, z, .inl rfl, e.symm⟩
      · exact .inr ⟨q, w, .inr hw, e⟩
theorem out_spec {l : List Span} {xs : List Int} : ∀ (ys : List Int) {D : Int → Int → Prop} {s : Int × Int × Bool}, ClS l D s → ClS l (fun x y => D x y ∨ ((∃ w ∈ ys, vz l w = x) ∧ ∃ z ∈ xs, vz l z = y)) (out l xs ys s)
  | [], D, s, h => h.of fun x y => by simp
  | w :: ys, D, s, h => by
    have h1 := inn_spec (a := vz l w) xs h
    refine (out_spec ys h1).of fun x y => ?_
    simp only [List.mem_cons]
    constructor
    · rintro (q | ⟨⟨u, rfl | hu, e⟩, hz⟩)
      · exact .inl (.inl q)
      · exact .inl (.inr ⟨e.symm, hz⟩)
      · exact .inr ⟨⟨u, hu, e⟩, hz⟩
    · rintro ((q | ⟨e, hz⟩) | ⟨⟨u, hu, e⟩, hz⟩)
      · exact .inl q
      · exact .inr ⟨⟨w, .inl rfl, e.symm⟩, hz⟩
      · exact .inr ⟨⟨u, .inr hu, e⟩, hz⟩
theorem clashing_eq {l : List Span} (hg : Good l) : R_Clashing l = some (out l (cl l l.length) (cl l l.length) (0, 0, false)) := by
  have hl := hg.len
  have hcl := cl_len l l.length
  unfold R_Clashing
  rw [counting_eq (by omega)]
  show R_Clashing_L1 l (cl l l.length) (0, 0, false, 0) = _
  unfold R_Clashing_L1
  refine loop_run (step := fun y => R_Clashing_B1 l (cl l l.length) y) (cl l l.length).length (fun k => ((out l (cl l l.length) ((cl l l.length).take k) (0, 0, false)).1, (out l (cl l l.length) ((cl l l.length).take k) (0, 0, false)).2.1, (out l (cl l l.length) ((cl l l.length).take k) (0, 0, false)).2.2, (k : Int))) (fun k hk => ?_) ?_
  · have hw : w64 ((k : Int) + 1) = ((k + 1 : Nat) : Int) := by rw [w64_id (by omega) (by omega)]; omega
    have hin := in_cl hk
    generalize hs : out l (cl l l.length) ((cl l l.length).take k) (0, 0, false) = s
    rw [lget_take _ k hk, out_snoc, hs]
    show R_Clashing_B1 l (cl l l.length) (s.1, s.2.1, s.2.2, (k : Int)) = _
    unfold R_Clashing_B1
    rw [if_pos (d_t (by show (k : Int) < _; omega))]
    show R_Clashing_L2 l (cl l l.length) (s.1, s.2.1, s.2.2, (k : Int)) (s.1, s.2.1, s.2.2, 0) = _
    unfold R_Clashing_L2
    generalize ha : lget (cl l l.length) (k : Int) = az at hin
    refine loop_run (step := fun y => R_Clashing_B2 l (cl l l.length) (s.1, s.2.1, s.2.2, (k : Int)) y) (cl l l.length).length (fun j => ((inn l ((cl l l.length).take j) (vz l az) s).1, (inn l ((cl l l.length).take j) (vz l az) s).2.1, (inn l ((cl l l.length).take j) (vz l az) s).2.2, (j : Int))) (fun j hj => ?_) ?_
    · have hw2 : w64 ((j : Int) + 1) = ((j + 1 : Nat) : Int) := by rw [w64_id (by omega) (by omega)]; omega
      have hin2 := in_cl hj
      generalize ht : inn l ((cl l l.length).take j) (vz l az) s = t
      rw [lget_take _ j hj, inn_snoc, ht]
      generalize hb : lget (cl l l.length) (j : Int) = bz at hin2
      show R_Clashing_B2 l (cl l l.length) (s.1, s.2.1, s.2.2, (k : Int)) (t.1, t.2.1, t.2.2, (j : Int)) = _
      unfold R_Clashing_B2
      dsimp only
      rw [if_pos (d_t (by omega)), asrt_pos (by omega), asrt_pos (by omega), ha, asrt_pos hin, asrt_pos (by omega), asrt_pos (by omega), hb, asrt_pos hin2, hw2]
      rw [first_eq (by omega), last_eq (by omega), first_eq (by omega), last_eq (by omega), self_eq hg]
      have fin : ∀ (v5 : Bool), v5 = decide (CL l (vz l az) (vz l bz)) → (ob (
          if (v5 && (((!t.2.2) || (decide (((lget l az).Value) < t.1))) || ((decide (((lget l az).Value) = t.1)) && (decide (((lget l bz).Value) < t.2.1))))) = true then
            some ((lget l az).Value, (lget l bz).Value, true)
          else
            some (t.1, t.2.1, t.2.2)) fun (v6 : Int × Int × Bool) => some (Sum.inl (v6.1, v6.2.1, v6.2.2, ((j + 1 : Nat) : Int)))) = (some (Sum.inl ((upC l t (vz l az) (vz l bz)).1, (upC l t (vz l az) (vz l bz)).2.1, (upC l t (vz l az) (vz l bz)).2.2, ((j + 1 : Nat) : Int))) : Option ((Int × Int × Bool × Int) ⊕ ((Int × Int × Bool × Int) ⊕ (Int × Int × Bool)))) := fun v5 h5 => by
        have e : (v5 && (((!t.2.2) || (decide (((lget l az).Value) < t.1))) || ((decide (((lget l az).Value) = t.1)) && (decide (((lget l bz).Value) < t.2.1))))) = decide (CL l (vz l az) (vz l bz) ∧ (t.2.2 = false ∨ vz l az < t.1 ∨ (vz l az = t.1 ∧ vz l bz < t.2.1))) := by
          rw [h5]
          refine b_iff ?_
          simp only [Bool.and_eq_true, Bool.or_eq_true, decide_eq_true_eq, Bool.not_eq_true', or_assoc]
        rw [e]
        unfold upC
        by_cases q : CL l (vz l az) (vz l bz) ∧ (t.2.2 = false ∨ vz l az < t.1 ∨ (vz l az = t.1 ∧ vz l bz < t.2.1))
        · rw [if_pos (d_t q), if_pos q]; rfl
        · rw [if_neg (d_f q), if_neg q]; rfl
      by_cases c : (lget l az).Value = (lget l bz).Value
      · rw [if_neg (n_f c), if_neg (n_f c)]
        have e1 : ∀ x : Bool, ((!decide ((lget l az).Value = (lget l bz).Value)) && x) = false := fun x => by rw [decide_eq_true c]; rfl
        simp only [ob_some, e1]
        rw [if_neg (by simp), if_neg (by simp)]
        simp only [ob_some, lt]
        rw [if_pos (d_t c)]
        simp only [ob_some]
        refine fin _ ?_
        refine Bool.eq_iff_iff.2 ?_
        rw [decide_eq_true_iff, decide_eq_true_iff]
        unfold CL
        rw [if_pos c]
      · rw [if_pos (n_t c), if_pos (n_t c)]
        have e1 : ∀ x : Bool, ((!decide ((lget l az).Value = (lget l bz).Value)) && x) = x := fun x => by rw [decide_eq_false c]; simp
        simp only [ob_some, e1]
        by_cases d : feV l (lget l az).Value < lbV l (lget l bz).Value
        · rw [if_pos (d_t d), if_pos (d_t d)]
          simp only [ob_some, lt]
          rw [if_neg (d_f c)]
          simp only [ob_some]
          refine fin _ ?_
          rw [decide_eq_true d]
          refine Bool.eq_iff_iff.2 ?_
          rw [Bool.true_and, decide_eq_true_iff, decide_eq_true_iff]
          unfold CL
          rw [if_neg c]
          exact ⟨fun h => ⟨d, h⟩, fun h => h.2⟩
        · rw [if_neg (d_f d), if_neg (d_f d)]
          simp only [ob_some, lt]
          rw [if_neg (d_f c)]
          simp only [ob_some]
          refine fin _ ?_
          rw [decide_eq_false d]
          refine Bool.eq_iff_iff.2 ?_
          rw [Bool.false_and, decide_eq_true_iff]
          unfold CL
          rw [if_neg c]
          exact ⟨(fun h => by cases h), fun h => absurd h.1 d⟩
    · generalize ht : inn l ((cl l l.length).take (cl l l.length).length) (vz l az) s = t
      rw [List.take_length] at ht
      rw [ht]
      show R_Clashing_B2 l (cl l l.length) (s.1, s.2.1, s.2.2, (k : Int)) (t.1, t.2.1, t.2.2, ((cl l l.length).length : Int)) = _
      unfold R_Clashing_B2
      rw [if_neg (d_f (by show ¬ ((cl l l.length).length : Int) < _; omega))]
      show some (Sum.inr (Sum.inl (t.1, t.2.1, t.2.2, w64 ((k : Int) + 1)))) = _
      rw [hw]
  · generalize hs : out l (cl l l.length) ((cl l l.length).take (cl l l.length).length) (0, 0, false) = s
    rw [List.take_length] at hs
    rw [hs]
    show R_Clashing_B1 l (cl l l.length) (s.1, s.2.1, s.2.2, ((cl l l.length).length : Int)) = _
    unfold R_Clashing_B1
    rw [if_neg (d_f (by show ¬ ((cl l l.length).length : Int) < _; omega))]; rfl
/-- numbers of which something counts -/
def has (l : List Span) (v : Int) : Prop := ∃ i, cnt l v i
theorem clashing_spec {l : List Span} (hg : Good l) : ClS l (fun a b => has l a ∧ has l b) (out l (cl l l.length) (cl l l.length) (0, 0, false)) := by
  refine (out_spec (l := l) (xs := cl l l.length) (D := fun _ _ => False) (s := (0, 0, false)) (cl l l.length) (.inl ⟨rfl, rfl, rfl, fun a b h => h.elim⟩)).of fun a b => ?_
  have key : ∀ v, has l v ↔ ∃ z ∈ cl l l.length, vz l z = v := fun v => by
    constructor
    · rintro ⟨i, h⟩
      obtain ⟨q1, q2⟩ := (mem_cnt hg (v := v)).2 ⟨i, h, rfl⟩
      exact ⟨_, q1, q2⟩
    · rintro ⟨z, h1, h2⟩
      obtain ⟨i, h3, _⟩ := (mem_cnt hg).1 ⟨h1, h2⟩
      exact ⟨i, h3⟩
  rw [key, key]
  simp
end G
end Go.Proofs.Ytnibbgjoanbnmaa
