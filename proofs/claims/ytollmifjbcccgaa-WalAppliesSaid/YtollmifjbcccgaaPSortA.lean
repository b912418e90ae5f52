/- Lists of cells that are put in order: what stays of those that are alike. -/
import Derived.Test.YtollmifjbcccgaaPCellF
namespace Go.Proofs.Ytollmifjbcccgaa
open Go Go.Dm
set_option linter.unusedVariables false
set_option linter.unusedSectionVars false
set_option linter.unusedSimpArgs false
namespace G
theorem key_refl (a : Cell) : key a a := ⟨rfl, rfl, rfl⟩
theorem key_symm {a b : Cell} (h : key a b) : key b a := ⟨h.1.symm, h.2.1.symm, h.2.2.symm⟩
theorem key_trans {a b c : Cell} (h : key a b) (g : key b c) : key a c := ⟨h.1.trans g.1, h.2.1.trans g.2.1, h.2.2.trans g.2.2⟩
theorem ah_key {a b : Cell} (h : ah a b) : ¬ key a b := by
  rintro ⟨e1, e2, e3⟩
  unfold ah at h
  rw [e1, e2, e3] at h
  simp [bl_irr] at h
theorem ah_left {a a' b : Cell} (k : key a a') (h : ah a b) : ah a' b := by
  obtain ⟨e1, e2, e3⟩ := k
  unfold ah at *
  rw [← e1, ← e2, ← e3]; exact h
theorem ah_right {a b b' : Cell} (k : key b b') (h : ah a b) : ah a b' := by
  obtain ⟨e1, e2, e3⟩ := k
  unfold ah at *
  rw [← e1, ← e2, ← e3]; exact h
/-- not behind -/
def le (a b : Cell) : Prop := ¬ ah b a
theorem le_refl (a : Cell) : le a a := ah_irr a
theorem le_of_ah {a b : Cell} (h : ah a b) : le a b := ah_asymm h
theorem le_or {a b : Cell} (h : le a b) : ah a b ∨ key a b := by
  rcases ah_tri a b with q | q | q
  · exact .inl q
  · exact .inr q
  · exact absurd q h
theorem ah_of {a b c : Cell} (h : ah a b) (g : le b c) : ah a c := by
  rcases le_or g with q | q
  · exact ah_trans h q
  · exact ah_right q h
theorem ah_of' {a b c : Cell} (h : le a b) (g : ah b c) : ah a c := by
  rcases le_or h with q | q
  · exact ah_trans q g
  · exact ah_left (key_symm q) g
theorem le_trans {a b c : Cell} (h : le a b) (g : le b c) : le a c := fun q => h (ah_of' g q)
def Srt (l : List Cell) : Prop := l.Pairwise le
instance (a b : Cell) : Decidable (key a b) := inferInstanceAs (Decidable (_ ∧ _))
/-- those that are like one -/
def fk (k : Cell) (l : List Cell) : List Cell := l.filter fun x => decide (key k x)
theorem fk_app (k : Cell) (a b : List Cell) : fk k (a ++ b) = fk k a ++ fk k b := by unfold fk; rw [List.filter_append]
theorem fk_cons (k x : Cell) (l : List Cell) : fk k (x :: l) = if key k x then x :: fk k l else fk k l := by
  unfold fk; rw [List.filter_cons]; by_cases c : key k x <;> simp [c]
/-- the same cells, and those that are alike in the same order -/
def Stab (l x : List Cell) : Prop := ∀ k, fk k x = fk k l
theorem Stab.refl (l : List Cell) : Stab l l := fun _ => rfl
theorem Stab.trans {a b c : List Cell} (h : Stab a b) (g : Stab b c) : Stab a c := fun k => (g k).trans (h k)
theorem Stab.app {a a' b b' : List Cell} (h : Stab a a') (g : Stab b b') : Stab (a ++ b) (a' ++ b') := fun k => by rw [fk_app, fk_app, h k, g k]
theorem fk_none {k : Cell} {l : List Cell} (h : ∀ x ∈ l, ¬ key k x) : fk k l = [] := by
  unfold fk
  rw [List.filter_eq_nil_iff]
  intro x hx q
  exact h x hx (of_decide_eq_true q)
theorem Stab.swap {u v : List Cell} (h : ∀ x ∈ u, ∀ y ∈ v, ¬ key x y) : Stab (u ++ v) (v ++ u) := fun k => by
  rw [fk_app, fk_app]
  by_cases c : ∃ x ∈ u, key k x
  · obtain ⟨x, hx, hk⟩ := c
    rw [fk_none (l := v) (fun y hy q => h x hx y hy (key_trans (key_symm hk) q))]; simp
  · rw [fk_none (l := u) (fun y hy q => c ⟨y, hy, q⟩)]; simp
theorem Stab.mem {l x : List Cell} (h : Stab l x) {c : Cell} (hc : c ∈ x) : c ∈ l := by
  have : c ∈ fk c x := by unfold fk; rw [List.mem_filter]; exact ⟨hc, decide_eq_true (key_refl c)⟩
  rw [h c] at this
  unfold fk at this
  exact (List.mem_filter.1 this).1
theorem Stab.symm {l x : List Cell} (h : Stab l x) : Stab x l := fun k => (h k).symm
theorem srt_app {a b : List Cell} (ha : Srt a) (hb : Srt b) (h : ∀ x ∈ a, ∀ y ∈ b, le x y) : Srt (a ++ b) := List.pairwise_append.2 ⟨ha, hb, h⟩
/-- the first of each kind, in order -/
def Firsts (l x : List Cell) : Prop := x.Pairwise ah ∧ ∀ c, c ∈ x ↔ (fk c l).head? = some c
theorem firsts_uniq {l x y : List Cell} (h : Firsts l x) (g : Firsts l y) : x = y := by
  obtain ⟨h1, h2⟩ := h
  obtain ⟨g1, g2⟩ := g
  have hm : ∀ c, c ∈ x ↔ c ∈ y := fun c => by rw [h2, g2]
  clear h2 g2
  induction x generalizing y with
  | nil =>
    cases y with
    | nil => rfl
    | cons b y => exact absurd ((hm b).2 (List.mem_cons_self ..)) (by simp)
  | cons a x ih =>
    cases y with
    | nil => exact absurd ((hm a).1 (List.mem_cons_self ..)) (by simp)
    | cons b y =>
      obtain ⟨p1, p2⟩ := List.pairwise_cons.1 h1
      obtain ⟨q1, q2⟩ := List.pairwise_cons.1 g1
      have hab : a = b := by
        rcases List.mem_cons.1 ((hm a).1 (List.mem_cons_self ..)) with e | e
        · exact e
        · rcases List.mem_cons.1 ((hm b).2 (List.mem_cons_self ..)) with e2 | e2
          · exact e2.symm
          · exact absurd (p1 b e2) (ah_asymm (q1 a e))
      subst hab
      rw [ih p2 q2 fun c => ?_]
      constructor
      · intro hc
        rcases List.mem_cons.1 ((hm c).1 (List.mem_cons_of_mem _ hc)) with e | e
        · subst e; exact absurd (p1 c hc) (ah_irr c)
        · exact e
      · intro hc
        rcases List.mem_cons.1 ((hm c).2 (List.mem_cons_of_mem _ hc)) with e | e
        · subst e; exact absurd (q1 c hc) (ah_irr c)
        · exact e
theorem Firsts.stab {l m x : List Cell} (h : Firsts l x) (g : Stab m l) : Firsts m x := ⟨h.1, fun c => by rw [h.2 c, g c]⟩
end G
end Go.Proofs.Ytollmifjbcccgaa
