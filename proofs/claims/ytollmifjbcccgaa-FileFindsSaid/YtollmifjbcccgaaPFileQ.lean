/- What is seen of a place, by Newest and by the document; Get. -/
import Derived.Test.YtollmifjbcccgaaPFileO
namespace Go.Proofs.Ytollmifjbcccgaa
open Go Go.Dm
set_option linter.unusedVariables false
set_option linter.unusedSectionVars false
set_option linter.unusedSimpArgs false
namespace G
theorem Good.at {l : List Cell} (h : Good l) {i j : Nat} (hij : i < j) (hj : j < l.length) : ah (lget l (i : Int)) (lget l (j : Int)) := by
  rw [lget_nat l i (by omega), lget_nat l j hj]
  exact (List.pairwise_iff_getElem.1 h.srt) i j (by omega) hj hij
theorem code_val {c : Cell} (h : R_CellCode c = 0) (hg : c.Gone = true) : c.Value = [] := by
  unfold R_CellCode at h
  split at h
  · cases h
  · split at h
    · cases h
    · split at h
      · cases h
      · rename_i h3
        rw [hg] at h3
        simpa using h3
/- what is seen of a place -/
def at' (row col : List UInt8) (t : Int) (c : Cell) : Bool := decide (c.Row = row) && decide (c.Col = col) && decide (c.Time ≤ t)
theorem at_iff {row col : List UInt8} {t : Int} {c : Cell} : at' row col t c = true ↔ c.Row = row ∧ c.Col = col ∧ c.Time ≤ t := by
  unfold at'; simp [and_assoc]
def fnd (l : List Cell) (row col : List UInt8) (t : Int) : Option Cell := l.find? (at' row col t)
theorem fnd_some {l : List Cell} {row col : List UInt8} {t : Int} {i : Nat} (hi : i < l.length) (h : at' row col t (lget l (i : Int)) = true) (hn : ∀ j < i, at' row col t (lget l (j : Int)) = false) : fnd l row col t = some (lget l (i : Int)) := by
  unfold fnd
  rw [List.find?_eq_some_iff_getElem]
  refine ⟨h, i, hi, (lget_nat l i hi).symm, fun j hj => ?_⟩
  have := hn j hj
  rw [lget_nat l j (by omega)] at this
  simp [this]
theorem fnd_none {l : List Cell} {row col : List UInt8} {t : Int} (hn : ∀ j < l.length, at' row col t (lget l (j : Int)) = false) : fnd l row col t = none := by
  unfold fnd
  rw [List.find?_eq_none]
  intro x hx
  obtain ⟨i, hi, rfl⟩ := List.mem_iff_getElem.1 hx
  have := hn i hi
  rw [lget_nat l i hi] at this
  simp [this]
theorem bsearch_loop (l : List Cell) (hg : Good l) (t : Cell) : ∀ (m i j : Nat), j - i = m → i ≤ j → j ≤ l.length → (∀ n < i, R_Ahead (lget l (n : Int)) t = true) → (∀ n, j ≤ n → n < l.length → R_Ahead (lget l (n : Int)) t = false) →
    ∃ (n : Nat) (b : Bool), slices_BinarySearchFunc_api_Cell_api_Cell_api_Cell_L1 l (t, (i : Int), (j : Int)) = some ((n : Int), b) ∧ n ≤ l.length ∧ (∀ k < n, R_Ahead (lget l (k : Int)) t = true) ∧ (∀ k, n ≤ k → k < l.length → R_Ahead (lget l (k : Int)) t = false) := by
  intro m
  induction m using Nat.strongRecOn with
  | _ m ih =>
    intro i j e hij hjl h1 h2
    have hlen := hg.len
    by_cases c : i < j
    · have hw : w64 (Int.fdiv (IntKind.u64.wrap (w64 ((i : Int) + (j : Int)))) (2 ^ (min (1 : Int).toNat 64))) = (((i + j) / 2 : Nat) : Int) := by
        have e2 : (2 : Int) ^ (min (1 : Int).toNat 64) = ((2 : Nat) : Int) := by decide
        have e1 : IntKind.u64.wrap (w64 ((i : Int) + (j : Int))) = ((i + j : Nat) : Int) := by
          rw [w64_id (by omega) (by omega)]
          unfold IntKind.wrap
          simp only [IntKind.signed, IntKind.bits]
          simp
          omega
        rw [e1, e2, fdiv_nat', w64_id (by omega) (by omega)]
      generalize hh : (i + j) / 2 = h at hw
      have hi1 : i ≤ h := by omega
      have hj1 : h < j := by omega
      have hw1 : w64 ((h : Int) + 1) = ((h + 1 : Nat) : Int) := by rw [w64_id (by omega) (by omega)]; omega
      by_cases ca : R_Ahead (lget l (h : Int)) t = true
      · obtain ⟨n, b, r1, r2⟩ := ih (j - (h + 1)) (by omega) (h + 1) j rfl (by omega) hjl (fun n hn => by
          by_cases hnh : n = h
          · subst hnh; exact ca
          · exact (ahead_iff _ _).2 (ah_trans (hg.at (by omega) (by omega)) ((ahead_iff _ _).1 ca))) h2
        refine ⟨n, b, (loopO_inl (y := (t, ((h + 1 : Nat) : Int), (j : Int))) ?_).trans r1, r2⟩
        simp only [slices_BinarySearchFunc_api_Cell_api_Cell_api_Cell_B1]
        rw [if_pos (d_t (by omega)), hw]
        dsimp only [lt]
        rw [asrt_pos (by omega), cell_eta, order_eq, ob_some, if_pos (d_t ((ord_neg _ _).2 ca)), hw1]
      · obtain ⟨n, b, r1, r2⟩ := ih (h - i) (by omega) i h rfl (by omega) (by omega) h1 (fun n hn hnl => by
          by_cases hnh : n = h
          · subst hnh; simpa using ca
          · refine ahead_f.2 fun hh2 => ca ((ahead_iff _ _).2 (ah_trans (hg.at (i := h) (j := n) (by omega) hnl) hh2)))
        refine ⟨n, b, (loopO_inl (y := (t, (i : Int), (h : Int))) ?_).trans r1, r2⟩
        simp only [slices_BinarySearchFunc_api_Cell_api_Cell_api_Cell_B1]
        rw [if_pos (d_t (by omega)), hw]
        dsimp only [lt]
        rw [asrt_pos (by omega), cell_eta, order_eq, ob_some, if_neg (d_f (fun hn => ca ((ord_neg _ _).1 hn)))]
    · have : i = j := by omega
      subst this
      have hJ : ∃ b, slices_BinarySearchFunc_api_Cell_api_Cell_api_Cell_J1 l (t, (i : Int)) = some ((i : Int), b) := by
        unfold slices_BinarySearchFunc_api_Cell_api_Cell_api_Cell_J1
        dsimp only
        by_cases ci : (i : Int) < (l.length : Int)
        · rw [asrt_pos (fun _ => by omega), if_pos (d_t ci), order_eq, ob_some]
          exact ⟨_, rfl⟩
        · rw [asrt_pos (fun h => absurd (of_decide_eq_true h) ci), if_neg (d_f ci), ob_some]
          exact ⟨_, rfl⟩
      obtain ⟨b, hb⟩ := hJ
      refine ⟨i, b, loopO_inr ?_, hjl, h1, h2⟩
      simp only [slices_BinarySearchFunc_api_Cell_api_Cell_api_Cell_B1]
      rw [if_neg (d_f (by omega)), hb]; rfl
def newS (l : List Cell) (row col : List UInt8) (t : Int) : Cell × Bool := match fnd l row col t with
  | some c => (c, true)
  | none => (cell0, false)
theorem newest_eq (l : List Cell) (hg : Good l) (row col : List UInt8) (t : Int) : cell_Newest l row col t = some (newS l row col t) := by
  have hlen := hg.len
  obtain ⟨n, b, r1, r2, r3, r4⟩ := bsearch_loop l hg ⟨row, col, t, false, []⟩ l.length 0 l.length (by omega) (by omega) (by omega) (fun n hn => by omega) (fun n h1 h2 => by omega)
  have r1' : slices_BinarySearchFunc_api_Cell_api_Cell_api_Cell l ⟨row, col, t, false, []⟩ = some ((n : Int), b) := r1
  have early : ∀ j < n, at' row col t (lget l (j : Int)) = false := fun j hj => by
    have := (ahead_iff _ _).1 (r3 j hj)
    cases ha : at' row col t (lget l (j : Int)) with
    | false => rfl
    | true =>
      obtain ⟨a1, a2, a3⟩ := at_iff.1 ha
      unfold ah at this
      simp only [a1, a2, bl_irr] at this
      simp at this; omega
  unfold cell_Newest
  rw [r1', ob_some]
  dsimp only
  by_cases cn : n < l.length
  · have hlt : (n : Int) < (l.length : Int) := by omega
    have hnb := ahead_f.1 (r4 n (Nat.le_refl _) cn)
    rw [asrt_pos (fun _ => by omega), asrt_pos (fun _ => by omega)]
    by_cases cp : (lget l (n : Int)).Row = row ∧ (lget l (n : Int)).Col = col
    · have hat : at' row col t (lget l (n : Int)) = true := at_iff.2 ⟨cp.1, cp.2, by
        by_cases ht : (lget l (n : Int)).Time ≤ t
        · exact ht
        · exact absurd (.inr ⟨cp.1, .inr ⟨cp.2, by dsimp only; omega⟩⟩) hnb⟩
      have hf := fnd_some cn hat early
      rw [if_pos (by simp [hlt, cp.1, cp.2]), asrt_pos (by omega)]
      unfold newS
      rw [hf]
    · have hf : fnd l row col t = none := fnd_none fun j hj => by
        by_cases hjn : j < n
        · exact early j hjn
        · cases ha : at' row col t (lget l (j : Int)) with
          | false => rfl
          | true =>
            exfalso
            obtain ⟨a1, a2, a3⟩ := at_iff.1 ha
            by_cases hjn2 : j = n
            · subst hjn2; exact cp ⟨a1, a2⟩
            · have h3 := hg.at (i := n) (j := j) (by omega) hj
              unfold ah at h3 hnb
              rw [a1, a2] at h3
              dsimp only at hnb
              refine cp ?_
              rcases h3 with h3 | ⟨h3, h4⟩
              · exact absurd (.inl h3) hnb
              · refine ⟨h3, ?_⟩
                rcases h4 with h4 | ⟨h4, _⟩
                · exact absurd (.inr ⟨h3, .inl h4⟩) hnb
                · exact h4
      rw [if_neg (by simp; exact fun _ h1 h2 => cp ⟨h1, h2⟩)]
      unfold newS
      rw [hf]; rfl
  · have hlt : ¬ (n : Int) < (l.length : Int) := by omega
    have hf : fnd l row col t = none := fnd_none fun j hj => early j (by omega)
    rw [asrt_pos (fun h => absurd (of_decide_eq_true h) hlt), asrt_pos (fun h => by simp [hlt] at h), if_neg (by simp [hlt])]
    unfold newS
    rw [hf]; rfl
/-- what the document says is seen -/
def seenS (l : List Cell) (row col : List UInt8) (t : Int) : Cell × Bool := match fnd l row col t with
  | some c => if c.Gone = true then (cell0, false) else (c, true)
  | none => (cell0, false)
theorem seen_J1 (l : List Cell) (z : Cell) (n : Nat) (hn : n < l.length) (hl : l.length ≤ 1000000) : R_SeenCell_J1 l (z, (n : Int)) = some (if (lget l (n : Int)).Gone = true then (cell0, false) else (lget l (n : Int), true)) := by
  unfold R_SeenCell_J1
  have h0 : decide ((n : Int) < 0) = false := decide_eq_false (by omega)
  dsimp only
  rw [asrt_pos (fun _ => by omega), h0]
  by_cases c : (lget l (n : Int)).Gone = true
  · rw [if_pos (by rw [c]; rfl), if_pos c]; rfl
  · rw [if_neg (by simpa using c), if_neg c, asrt_pos (by omega)]
theorem seen_loop (l : List Cell) (hg : Good l) (row col : List UInt8) (t : Int) (z : Cell) : ∀ (m k : Nat) (best : Int), l.length - k = m → k ≤ l.length →
    ((best = -1 ∧ ∀ j < k, at' row col t (lget l (j : Int)) = false) ∨ (∃ n : Nat, best = (n : Int) ∧ n < k ∧ at' row col t (lget l (n : Int)) = true ∧ ∀ j < n, at' row col t (lget l (j : Int)) = false)) →
    R_SeenCell_L1 l row col t (z, best, (k : Int)) = some (seenS l row col t)
  | 0, k, best, e, hk, hb => by
    have hlen := hg.len
    have : k = l.length := by omega
    subst this
    refine loopO_inr ?_
    simp only [R_SeenCell_B1]
    rw [if_neg (d_f (by omega))]
    rcases hb with ⟨rfl, h⟩ | ⟨n, rfl, h1, h2, h3⟩
    · have : R_SeenCell_J1 l (z, -1) = some (cell0, false) := by
        unfold R_SeenCell_J1
        dsimp only
        rw [asrt_pos (fun h => by simp at h), if_pos (by simp)]; rfl
      rw [this]
      unfold seenS
      rw [fnd_none h]; rfl
    · rw [seen_J1 l z n h1 (by omega)]
      unfold seenS
      rw [fnd_some h1 h2 h3]; rfl
  | m + 1, k, best, e, hk, hb => by
    have hlen := hg.len
    have hlt : k < l.length := by omega
    have hw : w64 ((k : Int) + 1) = ((k + 1 : Nat) : Int) := by rw [w64_id (by omega) (by omega)]; omega
    have hbr : best < 0 ∨ (0 ≤ best ∧ best < (l.length : Int)) := by
      rcases hb with ⟨rfl, _⟩ | ⟨n, rfl, h1, _⟩
      · left; omega
      · right; omega
    have em1 : l.length - (k + 1) = m := by clear hb hbr; omega
    have em2 : k + 1 ≤ l.length := hlt
    have step : ∀ b', (if ((((decide ((lget l (k : Int)).Row = row)) && (decide ((lget l (k : Int)).Col = col))) && (decide ((lget l (k : Int)).Time ≤ t))) && ((decide (best < 0)) || (decide ((lget l best).Time < (lget l (k : Int)).Time)))) = true then some (z, (k : Int)) else some (z, best)) = some (z, b') →
        R_SeenCell_B1 l row col t (z, best, (k : Int)) = some (.inl (z, b', ((k + 1 : Nat) : Int))) := by
      intro b' h
      clear hb
      simp only [R_SeenCell_B1]
      rw [if_pos (d_t (by omega)), asrt_pos (by omega), asrt_pos (fun _ => by omega), asrt_pos (fun _ => by omega), asrt_pos (fun _ _ => by omega), asrt_pos (fun h _ => by simp at h; omega), h, ob_some, hw]
    have hat : (((decide ((lget l (k : Int)).Row = row)) && (decide ((lget l (k : Int)).Col = col))) && (decide ((lget l (k : Int)).Time ≤ t))) = at' row col t (lget l (k : Int)) := rfl
    rw [hat] at step
    cases ha : at' row col t (lget l (k : Int)) with
    | false =>
      have ih := seen_loop l hg row col t z m (k + 1) best em1 em2 (by
        rcases hb with ⟨rfl, h⟩ | ⟨n, rfl, h1, h2, h3⟩
        · refine .inl ⟨rfl, fun j hj => ?_⟩
          by_cases hjk : j = k
          · subst hjk; exact ha
          · exact h j (by omega)
        · exact .inr ⟨n, rfl, by omega, h2, h3⟩)
      exact (loopO_inl (step best (by rw [ha]; simp))).trans ih
    | true =>
      rcases hb with ⟨rfl, h⟩ | ⟨n, rfl, h1, h2, h3⟩
      · have ih := seen_loop l hg row col t z m (k + 1) (k : Int) em1 em2 (.inr ⟨k, rfl, by omega, ha, h⟩)
        exact (loopO_inl (step (k : Int) (by rw [ha]; simp))).trans ih
      · have ih := seen_loop l hg row col t z m (k + 1) (n : Int) em1 em2 (.inr ⟨n, rfl, by omega, h2, h3⟩)
        refine (loopO_inl (step (n : Int) ?_)).trans ih
        have h4 := hg.at h1 hlt
        obtain ⟨a1, a2, a3⟩ := at_iff.1 ha
        obtain ⟨b1, b2, b3⟩ := at_iff.1 h2
        unfold ah at h4
        simp only [a1, a2, b1, b2, bl_irr] at h4
        have h5 : ¬ (lget l (n : Int)).Time < (lget l (k : Int)).Time := by simp at h4; omega
        rw [ha, if_neg]
        have h0 : decide ((n : Int) < 0) = false := decide_eq_false (by omega)
        rw [h0, decide_eq_false h5]; simp
theorem seen_eq (l : List Cell) (hg : Good l) (row col : List UInt8) (t : Int) : R_SeenCell l row col t = some (seenS l row col t) :=
  seen_loop l hg row col t _ l.length 0 (-1) (by omega) (by omega) (.inl ⟨rfl, fun j hj => by omega⟩)
/- Get -/
noncomputable def getF (l : List Cell) (t : Int) : Fault := if (cellF l).Code = 0 ∧ (t < 0 ∨ 1000000000 < t) then ⟨3, -1⟩ else cellF l
noncomputable def getS (l : List Cell) (row col : List UInt8) (t : Int) : List UInt8 × Bool × Fault :=
  if (getF l t).Code = 0 then ((seenS l row col t).1.Value, (seenS l row col t).2, ⟨0, 0⟩) else ([], false, getF l t)
theorem getF_1 {l : List Cell} {t : Int} (c : (cellF l).Code = 0) (c2 : t < 0 ∨ 1000000000 < t) : getF l t = ⟨3, -1⟩ := by unfold getF; rw [if_pos ⟨c, c2⟩]
theorem getF_2 {l : List Cell} {t : Int} (c : ¬ ((cellF l).Code = 0 ∧ (t < 0 ∨ 1000000000 < t))) : getF l t = cellF l := by unfold getF; rw [if_neg c]
theorem get_eq (l : List Cell) (row col : List UInt8) (t : Int) : cell_Get l row col t = some (getS l row col t) := by
  unfold cell_Get
  rw [check_eq, ob_some]
  by_cases c : (cellF l).Code = 0
  · have hg := cellF_good c
    rw [if_neg (n_f c)]
    by_cases c2 : t < 0 ∨ 1000000000 < t
    · have hs : getS l row col t = ([], false, ⟨3, -1⟩) := by unfold getS; rw [getF_1 c c2]; simp
      rw [if_pos (or_t c2), hs]; rfl
    · have hF := getF_2 (l := l) (t := t) (fun h => c2 h.2)
      have hs : getS l row col t = ((seenS l row col t).1.Value, (seenS l row col t).2, ⟨0, 0⟩) := by unfold getS; rw [hF, if_pos c]
      rw [if_neg (or_f c2), newest_eq l hg, ob_some, hs]
      unfold newS seenS
      cases hf : fnd l row col t with
      | none => simp [cell0]
      | some x =>
        have hx : x ∈ l := List.mem_of_find?_eq_some hf
        by_cases hgn : x.Gone = true
        · have := code_val (hg.code x hx) hgn
          simp [hgn, this, cell0]
        · simp [hgn]
  · have hF := getF_2 (l := l) (t := t) (fun h => c h.1)
    have hs : getS l row col t = ([], false, cellF l) := by unfold getS; rw [hF, if_neg c]
    rw [if_pos (n_t c), hs]
end G
end Go.Proofs.Ytollmifjbcccgaa
