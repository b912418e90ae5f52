/- What is seen of a list in order, however long. -/
import Derived.Test.YtkbgkkbinnclmaaPMergeC
namespace Go.Proofs.Ytkbgkkbinnclmaa
open Go Go.Dm
set_option linter.unusedVariables false
set_option linter.unusedSectionVars false
set_option linter.unusedSimpArgs false
namespace G
/-- a list in order -/
structure Gw (l : List Cell) : Prop where
  len : l.length ≤ 100000
  srt : l.Pairwise ah
theorem Gw.at {l : List Cell} (h : Gw l) {i j : Nat} (hij : i < j) (hj : j < l.length) : ah (lget l (i : Int)) (lget l (j : Int)) := by
  rw [lget_nat l i (by omega), lget_nat l j hj]
  exact (List.pairwise_iff_getElem.1 h.srt) i j (by omega) hj hij
/- what is seen of a place -/
def at' (row col : List UInt8) (t : Int) (c : Cell) : Bool := decide (c.Row = row) && decide (c.Col = col) && decide (c.Time ≤ t)
theorem at_iff {row col : List UInt8} {t : Int} {c : Cell} : at' row col t c = true ↔ c.Row = row ∧ c.Col = col ∧ c.Time ≤ t := by
  unfold at'; simp [and_assoc]
def fnd (l : List Cell) (row col : List UInt8) (t : Int) : Option Cell := l.find? (at' row col t)
theorem fnd_some {l : List Cell} {row col : List UInt8} {t : Int} {i : Nat} (hi : i < l.length) (h : at' row col t (lget l (i : Int)) = true) (hn : ∀ j < i, at' row col t (lget l (j : Int)) = false) : fnd l row col t = some (lget l (i : Int)) := by
  unfold fnd
  rw [List.find?_eq_some_iff_getElem]
  refine ⟨h, i, hi, (lget_nat l i hi).symm, fun j hj => ?_⟩
  have := hn j hj
  rw [lget_nat l j (by omega)] at this
  simp [this]
theorem fnd_none {l : List Cell} {row col : List UInt8} {t : Int} (hn : ∀ j < l.length, at' row col t (lget l (j : Int)) = false) : fnd l row col t = none := by
  unfold fnd
  rw [List.find?_eq_none]
  intro x hx
  obtain ⟨i, hi, rfl⟩ := List.mem_iff_getElem.1 hx
  have := hn i hi
  rw [lget_nat l i hi] at this
  simp [this]
/-- what the document says is seen -/
def seenS (l : List Cell) (row col : List UInt8) (t : Int) : Cell × Bool := match fnd l row col t with
  | some c => if c.Gone = true then (cell0, false) else (c, true)
  | none => (cell0, false)
theorem seen_J1 (l : List Cell) (z : Cell) (n : Nat) (hn : n < l.length) (hl : l.length ≤ 1000000) : R_SeenCell_J1 l (z, (n : Int)) = some (if (lget l (n : Int)).Gone = true then (cell0, false) else (lget l (n : Int), true)) := by
  unfold R_SeenCell_J1
  have h0 : decide ((n : Int) < 0) = false := decide_eq_false (by omega)
  dsimp only
  rw [asrt_pos (fun _ => by omega), h0]
  by_cases c : (lget l (n : Int)).Gone = true
  · rw [if_pos (by rw [c]; rfl), if_pos c]; rfl
  · rw [if_neg (by simpa using c), if_neg c, asrt_pos (by omega)]
theorem seen_loop (l : List Cell) (hg : Gw l) (row col : List UInt8) (t : Int) (z : Cell) : ∀ (m k : Nat) (best : Int), l.length - k = m → k ≤ l.length →
    ((best = -1 ∧ ∀ j < k, at' row col t (lget l (j : Int)) = false) ∨ (∃ n : Nat, best = (n : Int) ∧ n < k ∧ at' row col t (lget l (n : Int)) = true ∧ ∀ j < n, at' row col t (lget l (j : Int)) = false)) →
    R_SeenCell_L1 l row col t (z, best, (k : Int)) = some (seenS l row col t)
  | 0, k, best, e, hk, hb => by
    have hlen := hg.len
    have : k = l.length := by omega
    subst this
    refine loopO_inr ?_
    simp only [R_SeenCell_B1]
    rw [if_neg (d_f (by omega))]
    rcases hb with ⟨rfl, h⟩ | ⟨n, rfl, h1, h2, h3⟩
    · have : R_SeenCell_J1 l (z, -1) = some (cell0, false) := by
        unfold R_SeenCell_J1
        dsimp only
        rw [asrt_pos (fun h => by simp at h), if_pos (by simp)]; rfl
      rw [this]
      unfold seenS
      rw [fnd_none h]; rfl
    · rw [seen_J1 l z n h1 (by omega)]
      unfold seenS
      rw [fnd_some h1 h2 h3]; rfl
  | m + 1, k, best, e, hk, hb => by
    have hlen := hg.len
    have hlt : k < l.length := by omega
    have hw : w64 ((k : Int) + 1) = ((k + 1 : Nat) : Int) := by rw [w64_id (by omega) (by omega)]; omega
    have hbr : best < 0 ∨ (0 ≤ best ∧ best < (l.length : Int)) := by
      rcases hb with ⟨rfl, _⟩ | ⟨n, rfl, h1, _⟩
      · left; omega
      · right; omega
    have em1 : l.length - (k + 1) = m := by clear hb hbr; omega
    have em2 : k + 1 ≤ l.length := hlt
    have step : ∀ b', (if ((((decide ((lget l (k : Int)).Row = row)) && (decide ((lget l (k : Int)).Col = col))) && (decide ((lget l (k : Int)).Time ≤ t))) && ((decide (best < 0)) || (decide ((lget l best).Time < (lget l (k : Int)).Time)))) = true then some (z, (k : Int)) else some (z, best)) = some (z, b') →
        R_SeenCell_B1 l row col t (z, best, (k : Int)) = some (.inl (z, b', ((k + 1 : Nat) : Int))) := by
      intro b' h
      clear hb
      simp only [R_SeenCell_B1]
      rw [if_pos (d_t (by omega)), asrt_pos (by omega), asrt_pos (fun _ => by omega), asrt_pos (fun _ => by omega), asrt_pos (fun _ _ => by omega), asrt_pos (fun h _ => by simp at h; omega), h, ob_some, hw]
    have hat : (((decide ((lget l (k : Int)).Row = row)) && (decide ((lget l (k : Int)).Col = col))) && (decide ((lget l (k : Int)).Time ≤ t))) = at' row col t (lget l (k : Int)) := rfl
    rw [hat] at step
    cases ha : at' row col t (lget l (k : Int)) with
    | false =>
      have ih := seen_loop l hg row col t z m (k + 1) best em1 em2 (by
        rcases hb with ⟨rfl, h⟩ | ⟨n, rfl, h1, h2, h3⟩
        · refine .inl ⟨rfl, fun j hj => ?_⟩
          by_cases hjk : j = k
          · subst hjk; exact ha
          · exact h j (by omega)
        · exact .inr ⟨n, rfl, by omega, h2, h3⟩)
      exact (loopO_inl (step best (by rw [ha]; simp))).trans ih
    | true =>
      rcases hb with ⟨rfl, h⟩ | ⟨n, rfl, h1, h2, h3⟩
      · have ih := seen_loop l hg row col t z m (k + 1) (k : Int) em1 em2 (.inr ⟨k, rfl, by omega, ha, h⟩)
        exact (loopO_inl (step (k : Int) (by rw [ha]; simp))).trans ih
      · have ih := seen_loop l hg row col t z m (k + 1) (n : Int) em1 em2 (.inr ⟨n, rfl, by omega, h2, h3⟩)
        refine (loopO_inl (step (n : Int) ?_)).trans ih
        have h4 := hg.at h1 hlt
        obtain ⟨a1, a2, a3⟩ := at_iff.1 ha
        obtain ⟨b1, b2, b3⟩ := at_iff.1 h2
        unfold ah at h4
        simp only [a1, a2, b1, b2, bl_irr] at h4
        have h5 : ¬ (lget l (n : Int)).Time < (lget l (k : Int)).Time := by simp at h4; omega
        rw [ha, if_neg]
        have h0 : decide ((n : Int) < 0) = false := decide_eq_false (by omega)
        rw [h0, decide_eq_false h5]; simp
theorem seen_eq (l : List Cell) (hg : Gw l) (row col : List UInt8) (t : Int) : R_SeenCell l row col t = some (seenS l row col t) :=
  seen_loop l hg row col t _ l.length 0 (-1) (by omega) (by omega) (.inl ⟨rfl, fun j hj => by omega⟩)
/-- of one place -/
def pl (a b : Cell) : Prop := a.Row = b.Row ∧ a.Col = b.Col
theorem pl_between {x y z : Cell} (h1 : ah x y) (h2 : ah y z) (h : pl x z) : pl x y := by
  unfold ah pl at *
  obtain ⟨hr, hc⟩ := h
  rcases h1 with h1 | ⟨e1, h1⟩
  · exfalso
    rcases h2 with h2 | ⟨e2, h2⟩
    · have := bl_trans h1 h2; rw [hr, bl_irr] at this; cases this
    · rw [hr, e2, bl_irr] at h1; cases h1
  · refine ⟨e1, ?_⟩
    rcases h1 with h1 | ⟨f1, h1⟩
    · exfalso
      rcases h2 with h2 | ⟨e2, h2⟩
      · rw [← e1, hr, bl_irr] at h2; cases h2
      · rcases h2 with h2 | ⟨f2, h2⟩
        · have := bl_trans h1 h2; rw [hc, bl_irr] at this; cases this
        · rw [hc, f2, bl_irr] at h1; cases h1
    · exact f1
/-- in the asked rows -/
def inA (a : Ask) (c : Cell) : Bool := !((Op.bytesLess c.Row a.From) || ((!decide (a.To = ([] : List UInt8))) && (!Op.bytesLess c.Row a.To)))
theorem inA_row {a : Ask} {c d : Cell} (h : c.Row = d.Row) : inA a c = inA a d := by unfold inA; rw [h]
open Classical in
noncomputable def vis (l : List Cell) (a : Ask) (c : Cell) : Bool := inA a c && decide (fnd l c.Row c.Col a.Time = some c) && !c.Gone
theorem vis_iff {l : List Cell} {a : Ask} {c : Cell} : vis l a c = true ↔ inA a c = true ∧ fnd l c.Row c.Col a.Time = some c ∧ c.Gone = false := by
  unfold vis; simp [and_assoc]
theorem fnd_at {l : List Cell} {row col : List UInt8} {t : Int} {c : Cell} (h : fnd l row col t = some c) : c ∈ l ∧ c.Row = row ∧ c.Col = col ∧ c.Time ≤ t :=
  ⟨List.mem_of_find?_eq_some h, at_iff.1 (by unfold fnd at h; exact List.find?_some h)⟩
theorem take_filter_full {α : Type} (p : α → Bool) (l : List α) (k : Nat) (m : Nat) (h : ((l.take k).filter p).length = m) : (l.filter p).take m = (l.take k).filter p := by
  have : l.filter p = (l.take k).filter p ++ (l.drop k).filter p := by rw [← List.filter_append, List.take_append_drop]
  rw [this, ← h]; simp
theorem Gw.inj {l : List Cell} (hg : Gw l) {i j : Nat} (hi : i < l.length) (hj : j < l.length) (h : lget l (i : Int) = lget l (j : Int)) : i = j := by
  by_cases h1 : i < j
  · have := hg.at h1 hj; rw [h] at this; exact absurd this (ah_irr _)
  · by_cases h2 : j < i
    · have := hg.at h2 hi; rw [h] at this; exact absurd this (ah_irr _)
    · omega
def candA (a : Ask) (c : Cell) : Prop := inA a c = true ∧ c.Time ≤ a.Time
/-- it is the first one of its place that counts -/
def fst' (l : List Cell) (a : Ask) (k : Nat) : Prop := ∀ i < k, candA a (lget l (i : Int)) → ¬ pl (lget l (i : Int)) (lget l (k : Int))
theorem vis_no {l : List Cell} {a : Ask} {c : Cell} (h : ¬ candA a c) : vis l a c = false := by
  cases hv : vis l a c with
  | false => rfl
  | true =>
    obtain ⟨h1, h2, _⟩ := vis_iff.1 hv
    exact absurd ⟨h1, (fnd_at h2).2.2.2⟩ h
theorem vis_fst {l : List Cell} (hg : Gw l) {a : Ask} {k : Nat} (hk : k < l.length) (hc : candA a (lget l (k : Int))) (hf : fst' l a k) : vis l a (lget l (k : Int)) = !(lget l (k : Int)).Gone := by
  have : fnd l (lget l (k : Int)).Row (lget l (k : Int)).Col a.Time = some (lget l (k : Int)) := by
    refine fnd_some hk (at_iff.2 ⟨rfl, rfl, hc.2⟩) fun j hj => ?_
    cases ha : at' (lget l (k : Int)).Row (lget l (k : Int)).Col a.Time (lget l (j : Int)) with
    | false => rfl
    | true =>
      obtain ⟨h1, h2, h3⟩ := at_iff.1 ha
      exact absurd ⟨h1, h2⟩ (hf j hj ⟨by rw [inA_row h1]; exact hc.1, h3⟩)
  unfold vis
  rw [hc.1, decide_eq_true this]; simp
theorem vis_later {l : List Cell} (hg : Gw l) {a : Ask} {k : Nat} (hk : k < l.length) {i : Nat} (hi : i < k) (hc : candA a (lget l (i : Int))) (hp : pl (lget l (i : Int)) (lget l (k : Int))) : vis l a (lget l (k : Int)) = false := by
  cases hv : vis l a (lget l (k : Int)) with
  | false => rfl
  | true =>
    exfalso
    obtain ⟨h1, h2, _⟩ := vis_iff.1 hv
    unfold fnd at h2
    rw [List.find?_eq_some_iff_getElem] at h2
    obtain ⟨_, j, hj, hje, hjn⟩ := h2
    have e : lget l (j : Int) = lget l (k : Int) := by rw [lget_nat l j hj]; exact hje
    have hjk := hg.inj hj hk e
    subst hjk
    have := hjn i hi
    rw [← lget_nat l i (by omega)] at this
    have h3 : at' (lget l (j : Int)).Row (lget l (j : Int)).Col a.Time (lget l (i : Int)) = true := at_iff.2 ⟨hp.1, hp.2, hc.2⟩
    rw [h3] at this; cases this
theorem filter_succ {α : Type} [Inhabited α] (p : α → Bool) (l : List α) (k : Nat) (hk : k < l.length) : (l.take (k + 1)).filter p = (l.take k).filter p ++ (if p (lget l (k : Int)) = true then [lget l (k : Int)] else []) := by
  rw [lget_take l k hk, List.filter_append]
  congr 1
  by_cases h : p (lget l (k : Int)) = true <;> simp [h]
/-- what is recorded: a candidate has the recorded place, or its place is over -/
def rec' (l : List Cell) (a : Ask) (k : Nat) (row col : List UInt8) (done : Bool) : Prop :=
  (done = true → ∃ i < k, candA a (lget l (i : Int)) ∧ (lget l (i : Int)).Row = row ∧ (lget l (i : Int)).Col = col) ∧
  (∀ i < k, candA a (lget l (i : Int)) → (done = true ∧ (lget l (i : Int)).Row = row ∧ (lget l (i : Int)).Col = col) ∨ ∀ j, k ≤ j → j < l.length → ¬ pl (lget l (i : Int)) (lget l (j : Int)))
theorem seenL (l : List Cell) (hg : Gw l) (a : Ask) (hm : 0 ≤ a.Many) : ∀ (m k : Nat) (row col : List UInt8) (done : Bool), l.length - k = m → k ≤ l.length → (((l.take k).filter (vis l a)).length : Int) ≤ a.Many → rec' l a k row col done →
    cell_Seen_L1 l (a, (l.take k).filter (vis l a), row, col, done, (k : Int)) = some ((l.filter (vis l a)).take a.Many.toNat)
  | 0, k, row, col, done, e, hk, ho, hr => by
    have : k = l.length := by omega
    subst this
    refine loopO_inr ?_
    simp only [cell_Seen_B1]
    rw [if_neg (d_f (by omega)), List.take_length]
    rw [List.take_length] at ho
    rw [List.take_of_length_le (by omega)]; rfl
  | m + 1, k, row, col, done, e, hk, ho, hr => by
    have hlt : k < l.length := by omega
    have hlen := hg.len
    have hw : w64 ((k : Int) + 1) = ((k + 1 : Nat) : Int) := by rw [w64_id (by omega) (by omega)]; omega
    have hfs := filter_succ (vis l a) l k hlt
    have hcond : ((Op.bytesLess ((lget l (k : Int)).Row) a.From) || ((!decide (a.To = ([] : List UInt8))) && (!Op.bytesLess ((lget l (k : Int)).Row) a.To)) || (decide (a.Time < (lget l (k : Int)).Time))) = !(inA a (lget l (k : Int)) && decide ((lget l (k : Int)).Time ≤ a.Time)) := by
      unfold inA
      by_cases h : (lget l (k : Int)).Time ≤ a.Time
      · have : ¬ a.Time < (lget l (k : Int)).Time := by omega
        simp [h, this]
      · have : a.Time < (lget l (k : Int)).Time := by omega
        simp [h, this]
    have head : ∀ r, (if (inA a (lget l (k : Int)) && decide ((lget l (k : Int)).Time ≤ a.Time)) = false then some (Sum.inl (a, (l.take k).filter (vis l a), row, col, done, ((k + 1 : Nat) : Int)))
        else if ((done && (decide ((lget l (k : Int)).Row = row))) && (decide ((lget l (k : Int)).Col = col))) = true then some (Sum.inl (a, (l.take k).filter (vis l a), row, col, done, ((k + 1 : Nat) : Int)))
        else if (lget l (k : Int)).Gone = true then some (Sum.inl (a, (l.take k).filter (vis l a), (lget l (k : Int)).Row, (lget l (k : Int)).Col, true, ((k + 1 : Nat) : Int)))
        else if (((l.take k).filter (vis l a)).length : Int) = a.Many then some (Sum.inr ((l.take k).filter (vis l a)))
        else some (Sum.inl (a, (l.take k).filter (vis l a) ++ [lget l (k : Int)], (lget l (k : Int)).Row, (lget l (k : Int)).Col, true, ((k + 1 : Nat) : Int)))) = some r →
        cell_Seen_B1 l (a, (l.take k).filter (vis l a), row, col, done, (k : Int)) = some r := by
      intro r h
      have hfl : ((l.take k).filter (vis l a)).length ≤ k := Nat.le_trans (List.length_filter_le _ _) (by rw [List.length_take]; omega)
      simp only [cell_Seen_B1, cell_Seen_J2, cell_eta]
      rw [if_pos (d_t (by omega)), asrt_pos (by omega), hcond, hw]
      cases hb : (inA a (lget l (k : Int)) && decide ((lget l (k : Int)).Time ≤ a.Time)) with
      | false => rw [hb] at h; rw [if_pos rfl] at h; rw [if_pos (by rfl)]; exact h
      | true =>
        rw [hb, if_neg (by simp)] at h
        rw [if_neg (by simp)]
        by_cases h1 : ((done && (decide ((lget l (k : Int)).Row = row))) && (decide ((lget l (k : Int)).Col = col))) = true
        · rw [if_pos h1] at h ⊢; exact h
        · rw [if_neg h1] at h ⊢
          by_cases h2 : (lget l (k : Int)).Gone = true
          · rw [if_pos h2] at h ⊢; exact h
          · rw [if_neg h2] at h ⊢
            by_cases h3 : (((l.take k).filter (vis l a)).length : Int) = a.Many
            · rw [if_pos h3] at h; rw [if_pos (d_t h3)]; exact h
            · rw [if_neg h3] at h; rw [if_neg (d_f h3), asrt_pos (by simp; omega)]; exact h
    by_cases hc : candA a (lget l (k : Int))
    · have hcb : (inA a (lget l (k : Int)) && decide ((lget l (k : Int)).Time ≤ a.Time)) = true := by rw [hc.1, decide_eq_true hc.2]; rfl
      by_cases hs : done = true ∧ (lget l (k : Int)).Row = row ∧ (lget l (k : Int)).Col = col
      · -- of the recorded place
        obtain ⟨i, hi, hci, hir, hic⟩ := hr.1 hs.1
        have hv := vis_later hg hlt hi hci ⟨hir.trans hs.2.1.symm, hic.trans hs.2.2.symm⟩
        rw [hv] at hfs
        simp only [Bool.false_eq_true, if_false, List.append_nil] at hfs
        have ih := seenL l hg a hm m (k + 1) row col done (by omega) (by omega) (by rw [hfs]; exact ho) ⟨fun hd => ⟨i, by omega, hci, hir, hic⟩, fun j hj hcj => by
          by_cases hjk : j = k
          · subst hjk; exact .inl hs
          · rcases hr.2 j (by omega) hcj with h | h
            · exact .inl h
            · exact .inr fun n hn => h n (by omega)⟩
        rw [hfs] at ih
        refine (loopO_inl (head _ ?_)).trans ih
        rw [hcb, if_neg (by simp), if_pos (by simp [hs.1, hs.2.1, hs.2.2])]
      · have hf : fst' l a k := fun i hi hci hp => by
          rcases hr.2 i hi hci with ⟨hd, h1, h2⟩ | h
          · exact hs ⟨hd, hp.1.symm.trans h1, hp.2.symm.trans h2⟩
          · exact h k (Nat.le_refl _) hlt hp
        have hv := vis_fst hg hlt hc hf
        have hrec : rec' l a (k + 1) (lget l (k : Int)).Row (lget l (k : Int)).Col true := by
          refine ⟨fun _ => ⟨k, by omega, hc, rfl, rfl⟩, fun i hi hci => ?_⟩
          by_cases hik : i = k
          · subst hik; exact .inl ⟨rfl, rfl, rfl⟩
          · refine .inr fun j hj hjl hp => ?_
            exact hf i (by omega) hci (pl_between (hg.at (by omega) hlt) (hg.at (by omega) hjl) hp)
        have hs' : ¬ ((done && (decide ((lget l (k : Int)).Row = row))) && (decide ((lget l (k : Int)).Col = col))) = true := by
          simp only [Bool.and_eq_true, decide_eq_true_eq]
          exact fun h => hs ⟨h.1.1, h.1.2, h.2⟩
        by_cases hgn : (lget l (k : Int)).Gone = true
        · rw [hv, hgn] at hfs
          simp only [Bool.not_true, Bool.false_eq_true, if_false, List.append_nil] at hfs
          have ih := seenL l hg a hm m (k + 1) _ _ true (by omega) (by omega) (by rw [hfs]; exact ho) hrec
          rw [hfs] at ih
          refine (loopO_inl (head _ ?_)).trans ih
          rw [hcb, if_neg (by simp), if_neg hs', if_pos hgn]
        · rw [hv] at hfs
          simp only [hgn, Bool.not_false, if_true] at hfs
          by_cases hfull : (((l.take k).filter (vis l a)).length : Int) = a.Many
          · refine loopO_inr (head _ ?_)
            rw [hcb, if_neg (by simp), if_neg hs', if_neg hgn, if_pos hfull, take_filter_full (vis l a) l k a.Many.toNat (by omega)]
          · have ih := seenL l hg a hm m (k + 1) _ _ true (by omega) (by omega) (by rw [hfs]; simp; omega) hrec
            rw [hfs] at ih
            refine (loopO_inl (head _ ?_)).trans ih
            rw [hcb, if_neg (by simp), if_neg hs', if_neg hgn, if_neg hfull]
    · have hcb : (inA a (lget l (k : Int)) && decide ((lget l (k : Int)).Time ≤ a.Time)) = false := by
        cases h1 : inA a (lget l (k : Int)) with
        | false => rfl
        | true => simp; exact Int.not_le.1 fun h2 => hc ⟨h1, h2⟩
      have hv := vis_no (l := l) hc
      rw [hv] at hfs
      simp only [Bool.false_eq_true, if_false, List.append_nil] at hfs
      have ih := seenL l hg a hm m (k + 1) row col done (by omega) (by omega) (by rw [hfs]; exact ho) ⟨fun hd => by
          obtain ⟨i, hi, h⟩ := hr.1 hd
          exact ⟨i, by omega, h⟩, fun j hj hcj => by
          by_cases hjk : j = k
          · subst hjk; exact absurd hcj hc
          · rcases hr.2 j (by omega) hcj with h | h
            · exact .inl h
            · exact .inr fun n hn => h n (by omega)⟩
      rw [hfs] at ih
      refine (loopO_inl (head _ ?_)).trans ih
      rw [hcb, if_pos rfl]
theorem seenA_eq (l : List Cell) (hg : Gw l) (a : Ask) (hm : 0 ≤ a.Many) : cell_Seen l a = some ((l.filter (vis l a)).take a.Many.toNat) := by
  have := seenL l hg a hm l.length 0 [] [] false (by omega) (by omega) (by simpa using hm) ⟨fun h => (by cases h), fun i hi => by omega⟩
  rw [show cell_Seen l a = cell_Seen_L1 l (a, [], [], [], false, 0) from rfl]
  simpa using this
theorem scanned_loop (l : List Cell) (hg : Gw l) (a : Ask) (hm : 0 ≤ a.Many) : ∀ (m k : Nat), l.length - k = m → k ≤ l.length → (((l.take k).filter (vis l a)).length : Int) ≤ a.Many →
    R_Scanned_v1_L1 l (a, (l.take k).filter (vis l a), (k : Int)) = some ((l.filter (vis l a)).take a.Many.toNat)
  | m, k, e, hk, ho => by
    have hlen := hg.len
    by_cases cs : k < l.length ∧ (((l.take k).filter (vis l a)).length : Int) < a.Many
    · match m, e with
      | 0, e => omega
      | m + 1, e =>
      have hlt := cs.1
      have hw : w64 ((k : Int) + 1) = ((k + 1 : Nat) : Int) := by rw [w64_id (by omega) (by omega)]; omega
      have hfs := filter_succ (vis l a) l k hlt
      have hfl : ((l.take k).filter (vis l a)).length ≤ k := Nat.le_trans (List.length_filter_le _ _) (by rw [List.length_take]; omega)
      have hin : ((Op.bytesLess ((lget l (k : Int)).Row) a.From) || ((!decide (a.To = ([] : List UInt8))) && (!Op.bytesLess ((lget l (k : Int)).Row) a.To))) = !(inA a (lget l (k : Int))) := by
        unfold inA; simp
      have ih := scanned_loop l hg a hm m (k + 1) (by omega) (by omega) (by rw [hfs]; split <;> simp <;> omega)
      rw [hfs] at ih
      refine (loopO_inl ?_).trans ih
      simp only [R_Scanned_v1_B1, cell_eta]
      rw [if_pos (an_t (by omega)), asrt_pos (by omega), hin]
      cases h1 : inA a (lget l (k : Int)) with
      | false =>
        have hv : vis l a (lget l (k : Int)) = false := vis_no fun h => by rw [h.1] at h1; cases h1
        rw [if_pos (by rfl), ob_some, hv, hw]; simp
      | true =>
        rw [if_neg (by simp), seen_eq l hg, ob_some]
        have ee : ∀ x : Cell, (decide (x.Row = (lget l (k : Int)).Row) && (decide (x.Col = (lget l (k : Int)).Col) && (decide (x.Time = (lget l (k : Int)).Time) && ((x.Gone == (lget l (k : Int)).Gone) && (decide (x.Value = (lget l (k : Int)).Value) && true))))) = true ↔ x = lget l (k : Int) := by
          intro x; cases x; cases lget l (k : Int); simp
        by_cases hv : vis l a (lget l (k : Int)) = true
        · obtain ⟨_, v2, v3⟩ := vis_iff.1 hv
          have hs : seenS l (lget l (k : Int)).Row (lget l (k : Int)).Col a.Time = (lget l (k : Int), true) := by unfold seenS; rw [v2]; simp [v3]
          rw [hs, if_pos (by rw [Bool.and_eq_true]; exact ⟨rfl, (ee _).2 rfl⟩), asrt_pos (by simp; omega)]
          simp only [lt, ob_some, hv, if_true, hw]
        · rw [if_neg, ob_some, hw]
          · simp [hv]
          · rw [Bool.and_eq_true]
            intro ⟨h2, h3⟩
            have h4 := (ee _).1 h3
            apply hv
            refine vis_iff.2 ⟨h1, ?_⟩
            unfold seenS at h2 h4
            cases hf : fnd l (lget l (k : Int)).Row (lget l (k : Int)).Col a.Time with
            | none => rw [hf] at h2; cases h2
            | some d =>
              rw [hf] at h2 h4
              by_cases hgd : d.Gone = true
              · simp [hgd] at h2
              · simp only [if_neg hgd] at h4
                rw [← h4]
                exact ⟨rfl, by simpa using hgd⟩
    · refine loopO_inr ?_
      simp only [R_Scanned_v1_B1]
      rw [if_neg (an_f (by omega))]
      have : (l.filter (vis l a)).take a.Many.toNat = (l.take k).filter (vis l a) := by
        by_cases hkl : k < l.length
        · exact take_filter_full (vis l a) l k a.Many.toNat (by omega)
        · have : l.take k = l := List.take_of_length_le (by omega)
          rw [this] at ho ⊢
          rw [List.take_of_length_le (by omega)]
      rw [this]; rfl
theorem scanned_eq (l : List Cell) (hg : Gw l) (a : Ask) (hm : 0 ≤ a.Many) : R_Scanned_v1 l a = some ((l.filter (vis l a)).take a.Many.toNat) := by
  have := scanned_loop l hg a hm l.length 0 (by omega) (by omega) (by simpa using hm)
  rw [show R_Scanned_v1 l a = R_Scanned_v1_L1 l (a, [], 0) from rfl]
  simpa using this
/- Scan -/
def askF (a : Ask) : Fault := if a.Time < 0 ∨ 1000000000 < a.Time then ⟨3, -1⟩ else if a.Many < 0 ∨ 1000 < a.Many then ⟨3, -2⟩ else ⟨0, 0⟩
theorem asked_eq (a : Ask) : cell_Asked a = askF a := by
  unfold cell_Asked askF
  by_cases c1 : a.Time < 0 ∨ 1000000000 < a.Time
  · rw [if_pos (or_t c1), if_pos c1]; rfl
  · rw [if_neg (or_f c1), if_neg c1]
    by_cases c2 : a.Many < 0 ∨ 1000 < a.Many
    · rw [if_pos (or_t c2), if_pos c2]; rfl
    · rw [if_neg (or_f c2), if_neg c2]
theorem rasked_eq (a : Ask) : R_AskFault a = askF a := asked_eq a
theorem askF_good {a : Ask} (h : (askF a).Code = 0) : askF a = ⟨0, 0⟩ ∧ 0 ≤ a.Time ∧ a.Time ≤ 1000000000 ∧ 0 ≤ a.Many ∧ a.Many ≤ 1000 := by
  unfold askF at h ⊢
  by_cases c1 : a.Time < 0 ∨ 1000000000 < a.Time
  · rw [if_pos c1] at h; cases h
  · by_cases c2 : a.Many < 0 ∨ 1000 < a.Many
    · rw [if_neg c1, if_pos c2] at h; cases h
    · rw [if_neg c1, if_neg c2]; exact ⟨rfl, by omega⟩
end G
end Go.Proofs.Ytkbgkkbinnclmaa
