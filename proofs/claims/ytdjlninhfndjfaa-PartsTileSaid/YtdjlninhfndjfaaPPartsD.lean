/- Parts of the rows: what is split or joined is fine, and what was split is joined again as it was. -/
import Derived.Test.YtdjlninhfndjfaaPPartsC
namespace Go.Proofs.Ytdjlninhfndjfaa
open Go Go.Dm
set_option linter.unusedVariables false
set_option linter.unusedSimpArgs false
namespace G
theorem ch_sub {C C' : List Part} (hC : C ≠ []) (hC' : C' ≠ []) (h : ∀ y, ch y C → ch y C') : ∀ (A : List Part) (x : List UInt8), ch x (A ++ C) → ch x (A ++ C')
  | [], x, g => h x g
  | p :: A, x, g => by
    have n1 : A ++ C ≠ [] := by simp [hC]
    have n2 : A ++ C' ≠ [] := by simp [hC']
    obtain ⟨g1, g2⟩ := g
    rcases g2 with g2 | ⟨_, g3, g4⟩
    · exact absurd g2.1 n1
    · exact ⟨g1, .inr ⟨n2, g3, ch_sub hC hC' h A p.To g4⟩⟩
theorem split3 (l : List Part) (a : Nat) (h : a < l.length) : l = l.take a ++ lget l (a : Int) :: l.drop (a + 1) := by
  rw [← lget_drop l a h, List.take_append_drop]
theorem split4 (l : List Part) (a : Nat) (h : a + 1 < l.length) : l = l.take a ++ lget l (a : Int) :: lget l ((a + 1 : Nat) : Int) :: l.drop (a + 2) := by
  rw [← lget_drop l (a + 1) h, ← lget_drop l a (by omega), List.take_append_drop]
theorem hasID_iff {l : List Part} {id : Int} : hasID l id = true ↔ id ∈ l.map Part.ID := by
  unfold hasID
  rw [List.any_eq_true, List.mem_map]
  exact ⟨fun ⟨p, h1, h2⟩ => ⟨p, h1, of_decide_eq_true h2⟩, fun ⟨p, h1, h2⟩ => ⟨p, h1, decide_eq_true h2⟩⟩
structure SplitOk (l : List Part) (a : Nat) (row : List UInt8) (left right : Int) : Prop where
  g : PGood l
  ha : a < l.length
  hrow : row.length ≤ 40
  lt : Op.bytesLess (lget l (a : Int)).From row = true
  inp : inP (lget l (a : Int)) row
  l0 : ¬ noNum left
  r0 : ¬ noNum right
  ne : left ≠ right
  il : left ∉ (rest1 l a 1).map Part.ID
  ir : right ∉ (rest1 l a 1).map Part.ID
  len : l.length ≠ 200
theorem splitF_ok {l : List Part} {a : Nat} {row : List UInt8} {left right : Int} (h : (splitF l (a : Int) row left right).Code = 0) : SplitOk l a row left right ∧ splitF l (a : Int) row left right = ⟨0, 0⟩ := by
  unfold splitF at h ⊢
  by_cases c0 : (partsF l).Code = 0
  · rw [if_neg (not_not_intro c0)] at h ⊢
    by_cases c1 : (a : Int) < 0 ∨ (l.length : Int) ≤ a
    · rw [if_pos c1] at h; cases h
    · rw [if_neg c1] at h ⊢
      by_cases c2 : 40 < row.length
      · rw [if_pos c2] at h; cases h
      · rw [if_neg c2] at h ⊢
        by_cases c3 : Op.bytesLess (lget l (a : Int)).From row = true ∧ inP (lget l (a : Int)) row
        · rw [if_neg (not_not_intro c3)] at h ⊢
          by_cases c4 : noNum left ∨ noNum right
          · rw [if_pos c4] at h; cases h
          · rw [if_neg c4] at h ⊢
            by_cases c5 : left = right ∨ hasID (rest1 l (a : Int).toNat 1) left = true ∨ hasID (rest1 l (a : Int).toNat 1) right = true
            · rw [if_pos c5] at h; cases h
            · rw [if_neg c5] at h ⊢
              by_cases c6 : l.length = 200
              · rw [if_pos c6] at h; cases h
              · rw [if_neg c6]
                rw [Int.toNat_natCast] at c5
                exact ⟨⟨partsF_good.1 c0, by omega, by omega, c3.1, c3.2, fun h => c4 (.inl h), fun h => c4 (.inr h), fun h => c5 (.inl h), fun h => c5 (.inr (.inl (hasID_iff.2 h))), fun h => c5 (.inr (.inr (hasID_iff.2 h))), c6⟩, rfl⟩
        · rw [if_pos c3] at h; cases h
  · rw [if_pos c0] at h; exact absurd h c0
theorem split_good {l : List Part} {a : Nat} {row : List UInt8} {left right : Int} (h : SplitOk l a row left right) : PGood (splitL l a row left right) := by
  have e := split3 l a h.ha
  have hids := h.g.ids
  have hok := h.g.ok
  have hch := h.g.ch
  have hlen := h.g.len
  have h40 := h.lt
  have hin := h.inp
  have il := h.il
  have ir := h.ir
  have hp : okp (lget l (a : Int)) := hok _ (lget_mem l (a : Int) (by have := h.ha; omega))
  unfold splitL
  unfold rest1 at il ir
  generalize lget l (a : Int) = p at *
  generalize l.take a = A at *
  generalize l.drop (a + 1) = B at *
  have hl : l.length = A.length + B.length + 1 := by rw [e]; simp; omega
  rw [e] at hids hok hch
  refine ⟨?_, ?_, ?_, ?_⟩
  · have := h.len
    simp; omega
  · intro q hq
    simp only [List.mem_append, List.mem_cons, List.not_mem_nil, or_false] at hq
    have hl0 := h.l0
    have hr0 := h.r0
    have hrow := h.hrow
    unfold noNum at hl0 hr0
    unfold okp at hp
    rcases hq with (hq | rfl | rfl) | hq
    · exact hok q (by simp [hq])
    · unfold okp; simp only; omega
    · unfold okp; simp only; omega
    · exact hok q (by simp [hq])
  · simp only [List.map_append, List.map_cons, List.map_nil] at hids il ir ⊢
    have hne := h.ne
    rw [List.nodup_append] at hids
    obtain ⟨n1, n2, n3⟩ := hids
    rw [List.nodup_cons] at n2
    simp only [List.mem_append, not_or] at il ir
    rw [List.append_assoc, List.nodup_append]
    refine ⟨n1, ?_, ?_⟩
    · simp only [List.cons_append, List.nil_append, List.nodup_cons, List.mem_cons, not_or]
      exact ⟨⟨hne, il.2⟩, ir.2, n2.2⟩
    · intro x hx y hy
      simp only [List.cons_append, List.nil_append, List.mem_cons] at hy
      rcases hy with rfl | rfl | hy
      · rintro rfl; exact il.1 hx
      · rintro rfl; exact ir.1 hx
      · exact n3 x hx y (by simp [hy])
  · rw [List.append_assoc]
    refine ch_sub (C := p :: B) (by simp) (by simp) ?_ A [] hch
    rintro y ⟨g1, g2⟩
    refine ⟨g1, .inr ⟨by simp, h40, rfl, ?_⟩⟩
    rcases g2 with ⟨g2, g3⟩ | ⟨g2, g3, g4⟩
    · exact .inl ⟨g2, g3⟩
    · refine .inr ⟨g2, ?_, g4⟩
      rcases hin.2 with h5 | h5
      · rw [h5, bl_nil] at g3; cases g3
      · exact h5
theorem split_len {l : List Part} {a : Nat} {row : List UInt8} {left right : Int} (h : a < l.length) : (splitL l a row left right).length = l.length + 1 := by
  unfold splitL; simp; omega
structure JoinOk (l : List Part) (a : Nat) (id : Int) : Prop where
  g : PGood l
  ha : a + 1 < l.length
  i0 : ¬ noNum id
  ii : id ∉ (rest1 l a 2).map Part.ID
theorem joinF_ok {l : List Part} {a : Nat} {id : Int} : (joinF l (a : Int) id).Code = 0 ↔ JoinOk l a id := by
  unfold joinF
  by_cases c0 : (partsF l).Code = 0
  · rw [if_neg (not_not_intro c0)]
    by_cases c1 : (a : Int) < 0 ∨ (l.length : Int) - 1 ≤ a
    · rw [if_pos c1]; exact ⟨fun h => (by cases h), fun h => by have := h.ha; omega⟩
    · rw [if_neg c1]
      by_cases c2 : noNum id
      · rw [if_pos c2]; exact ⟨fun h => (by cases h), fun h => absurd c2 h.i0⟩
      · rw [if_neg c2, Int.toNat_natCast]
        by_cases c3 : hasID (rest1 l a 2) id = true
        · rw [if_pos c3]; exact ⟨fun h => (by cases h), fun h => absurd (hasID_iff.1 c3) h.ii⟩
        · rw [if_neg c3]; exact ⟨fun _ => ⟨partsF_good.1 c0, by omega, c2, fun h => c3 (hasID_iff.2 h)⟩, fun _ => rfl⟩
  · rw [if_pos c0]; exact ⟨fun h => absurd h c0, fun h => absurd (partsF_good.2 h.g) c0⟩
theorem join_good {l : List Part} {a : Nat} {id : Int} (h : JoinOk l a id) : PGood (joinL l a id) := by
  have e := split4 l a h.ha
  have hids := h.g.ids
  have hok := h.g.ok
  have hch := h.g.ch
  have hlen := h.g.len
  have ii := h.ii
  have ha := h.ha
  have hp : okp (lget l (a : Int)) := hok _ (lget_mem l (a : Int) (by omega))
  have hq : okp (lget l ((a + 1 : Nat) : Int)) := hok _ (lget_mem l ((a + 1 : Nat) : Int) (by omega))
  unfold joinL
  unfold rest1 at ii
  generalize lget l (a : Int) = p at *
  generalize lget l ((a + 1 : Nat) : Int) = q at *
  generalize l.take a = A at *
  generalize l.drop (a + 2) = B at *
  have hl : l.length = A.length + B.length + 2 := by rw [e]; simp; omega
  rw [e] at hids hok hch
  refine ⟨?_, ?_, ?_, ?_⟩
  · simp; omega
  · intro x hx
    simp only [List.mem_append, List.mem_cons, List.not_mem_nil, or_false] at hx
    have hi0 := h.i0
    unfold noNum at hi0
    unfold okp at hp hq
    rcases hx with (hx | rfl) | hx
    · exact hok x (by simp [hx])
    · unfold okp; simp only; omega
    · exact hok x (by simp [hx])
  · simp only [List.map_append, List.map_cons, List.map_nil] at hids ii ⊢
    rw [List.nodup_append] at hids
    obtain ⟨n1, n2, n3⟩ := hids
    rw [List.nodup_cons, List.nodup_cons] at n2
    simp only [List.mem_append, not_or] at ii
    rw [List.append_assoc, List.nodup_append]
    refine ⟨n1, ?_, ?_⟩
    · simp only [List.cons_append, List.nil_append, List.nodup_cons]
      exact ⟨ii.2, n2.2.2⟩
    · intro x hx y hy
      simp only [List.cons_append, List.nil_append, List.mem_cons] at hy
      rcases hy with rfl | hy
      · rintro rfl; exact ii.1 hx
      · exact n3 x hx y (by simp [hy])
  · rw [List.append_assoc]
    refine ch_sub (C := p :: q :: B) (by simp) (by simp) ?_ A [] hch
    rintro y ⟨g1, g2⟩
    refine ⟨g1, ?_⟩
    rcases g2 with ⟨g2, g3⟩ | ⟨g2, g3, g4, g5⟩
    · cases g2
    · rcases g5 with ⟨g5, g6⟩ | ⟨g5, g6, g7⟩
      · exact .inl ⟨g5, g6⟩
      · refine .inr ⟨g5, ?_, g7⟩
        rw [g4] at g6
        exact bl_trans g3 g6
theorem joinF_zero {l : List Part} {a : Nat} {id : Int} (h : JoinOk l a id) : joinF l (a : Int) id = ⟨0, 0⟩ := by
  have c0 := partsF_good.2 h.g
  unfold joinF
  rw [if_neg (not_not_intro c0), if_neg (by have := h.ha; omega), if_neg h.i0, Int.toNat_natCast, if_neg (fun c => h.ii (hasID_iff.1 c))]
/-- what was split is joined again as it was -/
theorem back_ok {l : List Part} {a : Nat} {row : List UInt8} {left right : Int} (h : SplitOk l a row left right) : JoinOk (splitL l a row left right) a (lget l (a : Int)).ID ∧ joinL (splitL l a row left right) a (lget l (a : Int)).ID = l := by
  have ha := h.ha
  have e := split3 l a h.ha
  have hg := split_good h
  have hids := h.g.ids
  have hp : okp (lget l (a : Int)) := h.g.ok _ (lget_mem l (a : Int) (by omega))
  have hA : (l.take a).length = a := by simp; omega
  have hsl := split_len (row := row) (left := left) (right := right) ha
  have g0 : lget (splitL l a row left right) (a : Int) = ⟨(lget l (a : Int)).From, row, left⟩ := by
    unfold splitL lget
    rw [List.getD, Int.toNat_natCast, List.append_assoc, List.getElem?_append_right (by omega), hA]; simp
  have g1 : lget (splitL l a row left right) ((a + 1 : Nat) : Int) = ⟨row, (lget l (a : Int)).To, right⟩ := by
    unfold splitL
    unfold lget
    rw [List.getD, Int.toNat_natCast, List.append_assoc, List.getElem?_append_right (by omega), hA]
    have e1 : ((a + 1 : Nat) : Int).toNat - a = 1 := by omega
    rw [e1]; simp
  have t0 : (splitL l a row left right).take a = l.take a := by
    unfold splitL
    rw [List.append_assoc, List.take_append_of_le_length (by omega), List.take_of_length_le (by omega)]
  have t1 : (splitL l a row left right).drop (a + 2) = l.drop (a + 1) := by
    have : (l.take a ++ [(⟨(lget l (a : Int)).From, row, left⟩ : Part), ⟨row, (lget l (a : Int)).To, right⟩]).length = a + 2 := by simp; omega
    unfold splitL
    rw [List.drop_append_of_le_length (by omega), ← this, List.drop_length, List.nil_append]
  constructor
  · refine ⟨hg, by omega, ?_, ?_⟩
    · unfold noNum; unfold okp at hp; omega
    · unfold rest1
      rw [t0, t1]
      rw [e] at hids
      simp only [List.map_append, List.map_cons] at hids ⊢
      rw [List.nodup_append] at hids
      obtain ⟨n1, n2, n3⟩ := hids
      rw [List.nodup_cons] at n2
      rw [List.mem_append]
      rintro (c | c)
      · exact n3 _ c _ (by simp) rfl
      · exact n2.1 c
  · unfold joinL
    rw [t0, t1, g0, g1]
    have : l.take a ++ [(⟨(lget l (a : Int)).From, (lget l (a : Int)).To, (lget l (a : Int)).ID⟩ : Part)] ++ l.drop (a + 1) = l := by
      rw [List.append_assoc]; exact e.symm
    exact this
end G
end Go.Proofs.Ytdjlninhfndjfaa
