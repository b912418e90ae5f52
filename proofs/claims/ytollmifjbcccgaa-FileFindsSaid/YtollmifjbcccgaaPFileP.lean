/- The blocks of a file as lists of cells. -/
import Derived.Test.YtollmifjbcccgaaPFileQ
namespace Go.Proofs.Ytollmifjbcccgaa
open Go Go.Dm
set_option linter.unusedVariables false
set_option linter.unusedSectionVars false
set_option linter.unusedSimpArgs false
namespace G
/-- the blocks from one on -/
noncomputable def Blk (L rows : List (List UInt8)) : Nat → List (List Cell) → Prop
  | _, [] => True
  | k, g :: gs => ¬ badC (readS (lget L (k : Int))) (lget rows (k : Int)) ∧ g = (readS (lget L (k : Int))).1 ∧ Blk L rows (k + 1) gs
noncomputable def lens (gs : List (List Cell)) : List Int := gs.map fun g => (g.length : Int)
theorem celP_blk (L rows : List (List UInt8)) : ∀ (m k : Nat) (acc : List Cell) (es : List Int) (q : List Cell × List Int), celP L rows m k acc es = some q → ∃ gs, gs.length = m ∧ Blk L rows k gs ∧ q = (acc ++ gs.flatten, es ++ lens gs)
  | 0, k, acc, es, q, h => ⟨[], rfl, trivial, by rw [celP] at h; cases h; simp [lens]⟩
  | m + 1, k, acc, es, q, h => by
    rw [celP] at h
    by_cases c : badC (readS (lget L (k : Int))) (lget rows (k : Int))
    · rw [if_pos c] at h; cases h
    · rw [if_neg c] at h
      obtain ⟨gs, h1, h2, h3⟩ := celP_blk L rows m _ _ _ _ h
      exact ⟨(readS (lget L (k : Int))).1 :: gs, by rw [List.length_cons, h1], ⟨c, rfl, h2⟩, by rw [h3]; simp [lens]⟩
theorem celP_of (L rows : List (List UInt8)) : ∀ (gs : List (List Cell)) (k : Nat) (acc : List Cell) (es : List Int), Blk L rows k gs → celP L rows gs.length k acc es = some (acc ++ gs.flatten, es ++ lens gs)
  | [], k, acc, es, _ => by rw [List.length_nil, celP]; simp [lens]
  | g :: gs, k, acc, es, h => by
    obtain ⟨h1, h2, h3⟩ := h
    rw [List.length_cons, celP, if_neg h1, celP_of L rows gs _ _ _ h3, h2]; simp [lens]
theorem Blk_drop (L rows : List (List UInt8)) : ∀ (n k : Nat) (gs : List (List Cell)), Blk L rows k gs → Blk L rows (k + n) (gs.drop n)
  | 0, k, gs, h => h
  | n + 1, k, [], h => trivial
  | n + 1, k, g :: gs, h => by
    have := Blk_drop L rows n (k + 1) gs h.2.2
    rw [show k + (n + 1) = k + 1 + n by omega]; exact this
theorem Blk_take (L rows : List (List UInt8)) : ∀ (n k : Nat) (gs : List (List Cell)), Blk L rows k gs → Blk L rows k (gs.take n)
  | 0, k, gs, h => by rw [List.take_zero]; trivial
  | n + 1, k, [], h => trivial
  | n + 1, k, g :: gs, h => ⟨h.1, h.2.1, Blk_take L rows n (k + 1) gs h.2.2⟩
theorem Blk_head {L rows : List (List UInt8)} {k : Nat} {g : List Cell} {gs : List (List Cell)} (h : Blk L rows k (g :: gs)) : ∃ c t, g = c :: t ∧ c.Row = lget rows (k : Int) := by
  obtain ⟨h1, h2, _⟩ := h
  unfold badC at h1
  rw [← h2] at h1
  cases g with
  | nil => exact absurd (.inr (.inl rfl)) h1
  | cons c t =>
    refine ⟨c, t, rfl, ?_⟩
    apply Decidable.byContradiction
    intro q
    exact h1 (.inr (.inr q))
/-- no cell ahead of where a block begins that has a lesser row is of the row, no cell from a block on that begins with a greater row is -/
theorem row_le {a b : Cell} (h : ah a b) : a.Row = b.Row ∨ Op.bytesLess a.Row b.Row = true := by
  rcases h with h | ⟨h, _⟩
  · exact .inr h
  · exact .inl h
theorem bl_ne {x y : List UInt8} (h : Op.bytesLess x y = true) : x ≠ y := by
  rintro rfl; rw [bl_irr] at h; cases h
section
variable (rows : List (List UInt8)) (row : List UInt8)
theorem ft_from : ∀ k : Nat, (ftK rows row k).1 = 0 ∨ ((ftK rows row k).1 < k ∧ Op.bytesLess (lget rows ((ftK rows row k).1 : Int)) row = true)
  | 0 => .inl rfl
  | k + 1 => by
    rw [ftK]
    dsimp only
    by_cases c : Op.bytesLess (lget rows (k : Int)) row = true
    · rw [if_pos c]; exact .inr ⟨by omega, c⟩
    · rw [if_neg c]
      rcases ft_from k with h | ⟨h1, h2⟩
      · exact .inl h
      · exact .inr ⟨by omega, h2⟩
theorem ft_to : ∀ k i : Nat, (ftK rows row k).2 ≤ i → i < k → Op.bytesLess row (lget rows (i : Int)) = true
  | 0, i, _, h => by omega
  | k + 1, i, h1, h2 => by
    rw [ftK] at h1
    dsimp only at h1
    by_cases c : Op.bytesLess row (lget rows (k : Int)) = true
    · rw [if_pos c] at h1
      by_cases e : i = k
      · subst e; exact c
      · exact ft_to k i h1 (by omega)
    · rw [if_neg c] at h1; omega
theorem ft_ord : ∀ k : Nat, (ftK rows row k).1 ≤ (ftK rows row k).2
  | 0 => Nat.le_refl _
  | k + 1 => by
    have h := ft_ord k
    have h2 := ftK_le rows row k
    rw [ftK]
    dsimp only
    by_cases c : Op.bytesLess row (lget rows (k : Int)) = true
    · rw [if_neg (by rw [bl_asymm c]; decide), if_pos c]; exact h
    · rw [if_neg c]
      split <;> omega
end
theorem split3 (gs : List (List Cell)) {f t : Nat} (h : f ≤ t) : gs.flatten = (gs.take f).flatten ++ (((gs.drop f).take (t - f)).flatten ++ (gs.drop t).flatten) := by
  have e : gs.drop t = (gs.drop f).drop (t - f) := by rw [List.drop_drop]; congr 1; omega
  rw [e, ← List.flatten_append, List.take_append_drop, ← List.flatten_append, List.take_append_drop]
theorem pw_app {a b : List Cell} (h : (a ++ b).Pairwise ah) : ∀ x ∈ a, ∀ y ∈ b, ah x y := (List.pairwise_append.1 h).2.2
theorem ahead_none {L rows : List (List UInt8)} {gs : List (List Cell)} (hB : Blk L rows 0 gs) (hs : gs.flatten.Pairwise ah) (row : List UInt8) (x : Cell) (hx : x ∈ (gs.take (ftK rows row gs.length).1).flatten) : x.Row ≠ row := by
  rcases ft_from rows row gs.length with h | ⟨h1, h2⟩
  · rw [h] at hx; simp at hx
  · generalize (ftK rows row gs.length).1 = f at *
    have hd := Blk_drop L rows f 0 gs hB
    rw [Nat.zero_add, List.drop_eq_getElem_cons h1] at hd
    obtain ⟨c, t, hg, hc⟩ := Blk_head hd
    have e : gs.flatten = (gs.take f).flatten ++ (c :: t ++ (gs.drop (f + 1)).flatten) := by
      rw [← hg, ← List.flatten_cons, ← List.drop_eq_getElem_cons h1, ← List.flatten_append, List.take_append_drop]
    rw [e] at hs
    have hxc := pw_app hs x hx c (by simp)
    rw [← hc] at h2
    refine bl_ne ?_
    rcases row_le hxc with q | q
    · rw [q]; exact h2
    · exact bl_trans q h2
theorem blk_behind {L rows : List (List UInt8)} (row : List UInt8) : ∀ (gs : List (List Cell)) (k : Nat), Blk L rows k gs → gs.flatten.Pairwise ah → (∀ i : Nat, k ≤ i → i < k + gs.length → Op.bytesLess row (lget rows (i : Int)) = true) → ∀ x ∈ gs.flatten, Op.bytesLess row x.Row = true
  | [], _, _, _, _, x, hx => by simp at hx
  | g :: gs, k, hB, hs, hi, x, hx => by
    obtain ⟨c, t, hg, hc⟩ := Blk_head hB
    have h0 := hi k (Nat.le_refl _) (by rw [List.length_cons]; omega)
    rw [← hc] at h0
    rw [List.flatten_cons] at hs hx
    rcases List.mem_append.1 hx with hx | hx
    · rw [hg] at hx hs
      rcases List.mem_cons.1 hx with rfl | hx
      · exact h0
      · have := (List.pairwise_cons.1 hs).1 x (List.mem_append_left _ hx)
        rcases row_le this with q | q
        · rw [← q]; exact h0
        · exact bl_trans h0 q
    · exact blk_behind row gs (k + 1) hB.2.2 (List.pairwise_append.1 hs).2.1 (fun i h1 h2 => hi i (by omega) (by rw [List.length_cons]; omega)) x hx
theorem behind_none {L rows : List (List UInt8)} {gs : List (List Cell)} (hB : Blk L rows 0 gs) (hs : gs.flatten.Pairwise ah) (row : List UInt8) (x : Cell) (hx : x ∈ (gs.drop (ftK rows row gs.length).2).flatten) : x.Row ≠ row := by
  have h1 := ft_to rows row gs.length
  generalize (ftK rows row gs.length).2 = t at *
  have hd := Blk_drop L rows t 0 gs hB
  rw [Nat.zero_add] at hd
  have hs' : (gs.drop t).flatten.Pairwise ah := by
    have e : gs.flatten = (gs.take t).flatten ++ (gs.drop t).flatten := by rw [← List.flatten_append, List.take_append_drop]
    rw [e] at hs; exact (List.pairwise_append.1 hs).2.1
  have := blk_behind row (gs.drop t) t hd hs' (fun i a b => h1 i a (by rw [List.length_drop] at b; omega)) x hx
  exact fun q => bl_ne this q.symm
/-- the blocks that are read -/
noncomputable def cut (rows : List (List UInt8)) (row : List UInt8) (gs : List (List Cell)) : List Cell := ((gs.drop (ftK rows row gs.length).1).take ((ftK rows row gs.length).2 - (ftK rows row gs.length).1)).flatten
theorem fnd_app_none {a b : List Cell} {row col : List UInt8} {t : Int} (h : ∀ x ∈ a, x.Row ≠ row) : fnd (a ++ b) row col t = fnd b row col t := by
  unfold fnd
  rw [List.find?_append]
  have : a.find? (at' row col t) = none := by
    rw [List.find?_eq_none]
    intro x hx q
    exact h x hx (at_iff.1 q).1
  rw [this]; rfl
theorem fnd_app_left {a b : List Cell} {row col : List UInt8} {t : Int} (h : ∀ x ∈ b, x.Row ≠ row) : fnd (a ++ b) row col t = fnd a row col t := by
  unfold fnd
  rw [List.find?_append]
  have : b.find? (at' row col t) = none := by
    rw [List.find?_eq_none]
    intro x hx q
    exact h x hx (at_iff.1 q).1
  rw [this]; cases a.find? (at' row col t) <;> rfl
theorem fnd_cut {L rows : List (List UInt8)} {gs : List (List Cell)} (hB : Blk L rows 0 gs) (hs : gs.flatten.Pairwise ah) (row col : List UInt8) (t : Int) : fnd (cut rows row gs) row col t = fnd gs.flatten row col t := by
  rw [split3 gs (ft_ord rows row gs.length), fnd_app_none (ahead_none hB hs row), fnd_app_left (behind_none hB hs row)]; rfl
theorem cut_sub (rows : List (List UInt8)) (row : List UInt8) (gs : List (List Cell)) : (cut rows row gs).Sublist gs.flatten := by
  rw [split3 gs (ft_ord rows row gs.length)]
  exact (List.sublist_append_left _ _).trans (List.sublist_append_right _ _)
end G
end Go.Proofs.Ytollmifjbcccgaa
