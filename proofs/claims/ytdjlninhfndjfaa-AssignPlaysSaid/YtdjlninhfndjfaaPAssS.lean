/- Boards: what is split or joined stays good (as in PPartsD). -/
import Derived.Test.YtdjlninhfndjfaaPAssH
namespace Go.Proofs.Ytdjlninhfndjfaa
open Go Go.Dm
set_option linter.unusedVariables false
set_option linter.unusedSimpArgs false
namespace G
def noNum (x : Int) : Prop := x < 0 ∨ 1000000000 < x
def rest1 (l : List Part) (a n : Nat) : List Part := l.take a ++ l.drop (a + n)
def splitL (l : List Part) (a : Nat) (row : List UInt8) (left right : Int) : List Part := l.take a ++ [⟨(lget l (a : Int)).From, row, left⟩, ⟨row, (lget l (a : Int)).To, right⟩] ++ l.drop (a + 1)
def joinL (l : List Part) (a : Nat) (id : Int) : List Part := l.take a ++ [⟨(lget l (a : Int)).From, (lget l ((a + 1 : Nat) : Int)).To, id⟩] ++ l.drop (a + 2)
theorem ch_sub {C C' : List Part} (hC : C ≠ []) (hC' : C' ≠ []) (h : ∀ y, ch y C → ch y C') : ∀ (A : List Part) (x : List UInt8), ch x (A ++ C) → ch x (A ++ C')
  | [], x, g => h x g
  | p :: A, x, g => by
    have n1 : A ++ C ≠ [] := by simp [hC]
    have n2 : A ++ C' ≠ [] := by simp [hC']
    obtain ⟨g1, g2⟩ := g
    rcases g2 with g2 | ⟨_, g3, g4⟩
    · exact absurd g2.1 n1
    · exact ⟨g1, .inr ⟨n2, g3, ch_sub hC hC' h A p.To g4⟩⟩
theorem split3 (l : List Part) (a : Nat) (h : a < l.length) : l = l.take a ++ lget l (a : Int) :: l.drop (a + 1) := by
  rw [← lget_drop l a h, List.take_append_drop]
theorem split4 (l : List Part) (a : Nat) (h : a + 1 < l.length) : l = l.take a ++ lget l (a : Int) :: lget l ((a + 1 : Nat) : Int) :: l.drop (a + 2) := by
  rw [← lget_drop l (a + 1) h, ← lget_drop l a (by omega), List.take_append_drop]
structure SplitOk (l : List Part) (a : Nat) (row : List UInt8) (left right : Int) : Prop where
  g : PGood l
  ha : a < l.length
  hrow : row.length ≤ 40
  lt : Op.bytesLess (lget l (a : Int)).From row = true
  inp : hasP (lget l (a : Int)) row
  l0 : ¬ noNum left
  r0 : ¬ noNum right
  ne : left ≠ right
  il : left ∉ (rest1 l a 1).map Part.ID
  ir : right ∉ (rest1 l a 1).map Part.ID
  len : l.length ≠ 200
theorem split_good {l : List Part} {a : Nat} {row : List UInt8} {left right : Int} (h : SplitOk l a row left right) : PGood (splitL l a row left right) := by
  have e := split3 l a h.ha
  have hids := h.g.ids
  have hok := h.g.ok
  have hch := h.g.ch
  have hlen := h.g.len
  have h40 := h.lt
  have hin := h.inp
  have il := h.il
  have ir := h.ir
  have hp : okp (lget l (a : Int)) := hok _ (lget_mem l (a : Int) (by have := h.ha; omega))
  unfold splitL
  unfold rest1 at il ir
  generalize lget l (a : Int) = p at *
  generalize l.take a = A at *
  generalize l.drop (a + 1) = B at *
  have hl : l.length = A.length + B.length + 1 := by rw [e]; simp; omega
  rw [e] at hids hok hch
  refine ⟨?_, ?_, ?_, ?_⟩
  · have := h.len
    simp; omega
  · intro q hq
    simp only [List.mem_append, List.mem_cons, List.not_mem_nil, or_false] at hq
    have hl0 := h.l0
    have hr0 := h.r0
    have hrow := h.hrow
    unfold noNum at hl0 hr0
    unfold okp at hp
    rcases hq with (hq | rfl | rfl) | hq
    · exact hok q (by simp [hq])
    · unfold okp; simp only; omega
    · unfold okp; simp only; omega
    · exact hok q (by simp [hq])
  · simp only [List.map_append, List.map_cons, List.map_nil] at hids il ir ⊢
    have hne := h.ne
    rw [List.nodup_append] at hids
    obtain ⟨n1, n2, n3⟩ := hids
    rw [List.nodup_cons] at n2
    simp only [List.mem_append, not_or] at il ir
    rw [List.append_assoc, List.nodup_append]
    refine ⟨n1, ?_, ?_⟩
    · simp only [List.cons_append, List.nil_append, List.nodup_cons, List.mem_cons, not_or]
      exact ⟨⟨hne, il.2⟩, ir.2, n2.2⟩
    · intro x hx y hy
      simp only [List.cons_append, List.nil_append, List.mem_cons] at hy
      rcases hy with rfl | rfl | hy
      · rintro rfl; exact il.1 hx
      · rintro rfl; exact ir.1 hx
      · exact n3 x hx y (by simp [hy])
  · rw [List.append_assoc]
    refine ch_sub (C := p :: B) (by simp) (by simp) ?_ A [] hch
    rintro y ⟨g1, g2⟩
    refine ⟨g1, .inr ⟨by simp, h40, rfl, ?_⟩⟩
    rcases g2 with ⟨g2, g3⟩ | ⟨g2, g3, g4⟩
    · exact .inl ⟨g2, g3⟩
    · refine .inr ⟨g2, ?_, g4⟩
      rcases hin.2 with h5 | h5
      · rw [h5, bl_nil] at g3; cases g3
      · exact h5
structure JoinOk (l : List Part) (a : Nat) (id : Int) : Prop where
  g : PGood l
  ha : a + 1 < l.length
  i0 : ¬ noNum id
  ii : id ∉ (rest1 l a 2).map Part.ID
theorem join_good {l : List Part} {a : Nat} {id : Int} (h : JoinOk l a id) : PGood (joinL l a id) := by
  have e := split4 l a h.ha
  have hids := h.g.ids
  have hok := h.g.ok
  have hch := h.g.ch
  have hlen := h.g.len
  have ii := h.ii
  have ha := h.ha
  have hp : okp (lget l (a : Int)) := hok _ (lget_mem l (a : Int) (by omega))
  have hq : okp (lget l ((a + 1 : Nat) : Int)) := hok _ (lget_mem l ((a + 1 : Nat) : Int) (by omega))
  unfold joinL
  unfold rest1 at ii
  generalize lget l (a : Int) = p at *
  generalize lget l ((a + 1 : Nat) : Int) = q at *
  generalize l.take a = A at *
  generalize l.drop (a + 2) = B at *
  have hl : l.length = A.length + B.length + 2 := by rw [e]; simp; omega
  rw [e] at hids hok hch
  refine ⟨?_, ?_, ?_, ?_⟩
  · simp; omega
  · intro x hx
    simp only [List.mem_append, List.mem_cons, List.not_mem_nil, or_false] at hx
    have hi0 := h.i0
    unfold noNum at hi0
    unfold okp at hp hq
    rcases hx with (hx | rfl) | hx
    · exact hok x (by simp [hx])
    · unfold okp; simp only; omega
    · exact hok x (by simp [hx])
  · simp only [List.map_append, List.map_cons, List.map_nil] at hids ii ⊢
    rw [List.nodup_append] at hids
    obtain ⟨n1, n2, n3⟩ := hids
    rw [List.nodup_cons, List.nodup_cons] at n2
    simp only [List.mem_append, not_or] at ii
    rw [List.append_assoc, List.nodup_append]
    refine ⟨n1, ?_, ?_⟩
    · simp only [List.cons_append, List.nil_append, List.nodup_cons]
      exact ⟨ii.2, n2.2.2⟩
    · intro x hx y hy
      simp only [List.cons_append, List.nil_append, List.mem_cons] at hy
      rcases hy with rfl | hy
      · rintro rfl; exact ii.1 hx
      · exact n3 x hx y (by simp [hy])
  · rw [List.append_assoc]
    refine ch_sub (C := p :: q :: B) (by simp) (by simp) ?_ A [] hch
    rintro y ⟨g1, g2⟩
    refine ⟨g1, ?_⟩
    rcases g2 with ⟨g2, g3⟩ | ⟨g2, g3, g4, g5⟩
    · cases g2
    · rcases g5 with ⟨g5, g6⟩ | ⟨g5, g6, g7⟩
      · exact .inl ⟨g5, g6⟩
      · refine .inr ⟨g5, ?_, g7⟩
        rw [g4] at g6
        exact bl_trans g3 g6
end G
end Go.Proofs.Ytdjlninhfndjfaa
