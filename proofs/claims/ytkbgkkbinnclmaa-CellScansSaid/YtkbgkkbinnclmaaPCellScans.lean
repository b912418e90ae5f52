/- What Scan tells is what Get tells of each. -/
import Derived.Test.YtkbgkkbinnclmaaPCellB
namespace Go.Proofs.Ytkbgkkbinnclmaa
open Go Go.Dm
set_option linter.unusedVariables false
set_option linter.unusedSimpArgs false
namespace G
open Classical in
/-- the first cells of their places, that are asked for, and of which something is seen -/
noncomputable def heads (l : List Cell) (a : Ask) : Option Cell → List Cell → List Cell
  | _, [] => []
  | p, c :: r => (if (∃ q, p = some q ∧ pl q c) ∨ inA a c = false ∨ (seenS l c.Row c.Col a.Time).2 = false then [] else [c]) ++ heads l a (some c) r
theorem heads_mem {l : List Cell} {a : Ask} : ∀ {r : List Cell} {p : Option Cell} {x : Cell}, x ∈ heads l a p r → x ∈ r ∧ inA a x = true ∧ (seenS l x.Row x.Col a.Time).2 = true
  | [], p, x, h => by cases h
  | c :: r, p, x, h => by
    rw [heads, List.mem_append] at h
    rcases h with h | h
    · split at h
      · cases h
      · rename_i hn
        simp only [List.mem_singleton] at h
        subst h
        have h1 : inA a x = true := by cases hh : inA a x with | true => rfl | false => exact absurd (.inr (.inl hh)) hn
        have h2 : (seenS l x.Row x.Col a.Time).2 = true := by cases hh : (seenS l x.Row x.Col a.Time).2 with | true => rfl | false => exact absurd (.inr (.inr hh)) hn
        exact ⟨by simp, h1, h2⟩
    · have := heads_mem h
      exact ⟨by simp [this.1], this.2⟩
theorem pl_symm {a b : Cell} (h : pl a b) : pl b a := ⟨h.1.symm, h.2.symm⟩
theorem pl_trans {a b c : Cell} (h : pl a b) (h' : pl b c) : pl a c := ⟨h.1.trans h'.1, h.2.trans h'.2⟩
theorem heads_far {l : List Cell} {a : Ask} : ∀ {r : List Cell} {p : Option Cell}, r.Pairwise ah → (∀ q, p = some q → ∀ c ∈ r, ah q c) → (∀ q, p = some q → ∀ x ∈ heads l a p r, ¬ pl q x) ∧ (heads l a p r).Pairwise (fun x y => ¬ pl x y)
  | [], p, h1, h2 => ⟨fun _ _ x hx => (by cases hx), .nil⟩
  | c :: r, p, h1, h2 => by
    obtain ⟨hc, hr⟩ := List.pairwise_cons.1 h1
    obtain ⟨i1, i2⟩ := heads_far (l := l) (a := a) (p := some c) hr (fun q hq x hx => by cases hq; exact hc x hx)
    have i1 := i1 c rfl
    rw [heads]
    constructor
    · rintro q rfl x hx
      rw [List.mem_append] at hx
      rcases hx with hx | hx
      · split at hx
        · cases hx
        · rename_i hn
          simp only [List.mem_singleton] at hx
          subst hx
          exact fun h => hn (.inl ⟨q, rfl, h⟩)
      · intro h
        have hxr := (heads_mem hx).1
        have := pl_between (h2 q rfl c (by simp)) (hc x hxr) h
        exact i1 x hx (pl_trans (pl_symm this) h)
    · rw [List.pairwise_append]
      refine ⟨?_, i2, ?_⟩
      · split
        · exact .nil
        · exact List.pairwise_singleton _ _
      · intro x hx y hy
        split at hx
        · cases hx
        · simp only [List.mem_singleton] at hx
          subst hx
          exact i1 y hy
theorem heads_all {l : List Cell} {a : Ask} : ∀ {r : List Cell} {p : Option Cell} {x : Cell}, x ∈ r → inA a x = true → (seenS l x.Row x.Col a.Time).2 = true → (∃ q, p = some q ∧ pl q x) ∨ ∃ c ∈ heads l a p r, pl c x
  | c :: r, p, x, hx, h1, h2 => by
    have self : ∀ y : Cell, pl c y → inA a y = true → (seenS l y.Row y.Col a.Time).2 = true → (∃ q, p = some q ∧ pl q y) ∨ ∃ d ∈ heads l a p (c :: r), pl d y := by
      intro y hy g1 g2
      by_cases hq : ∃ q, p = some q ∧ pl q c
      · obtain ⟨q, hq1, hq2⟩ := hq
        exact .inl ⟨q, hq1, pl_trans hq2 hy⟩
      · refine .inr ⟨c, ?_, hy⟩
        rw [heads, if_neg]
        · simp
        · rintro (h | h | h)
          · exact hq h
          · rw [inA_row hy.1, g1] at h; cases h
          · rw [hy.1, hy.2, g2] at h; cases h
    rcases List.mem_cons.1 hx with rfl | hx
    · exact self x ⟨rfl, rfl⟩ h1 h2
    · rcases heads_all (p := some c) hx h1 h2 with ⟨q, hq, hp⟩ | ⟨d, hd, hp⟩
      · cases hq
        exact self x hp h1 h2
      · exact .inr ⟨d, by rw [heads, List.mem_append]; exact .inr hd, hp⟩
theorem seenS_true {l : List Cell} {row col : List UInt8} {t : Int} (h : (seenS l row col t).2 = true) : ∃ d, fnd l row col t = some d ∧ d.Gone = false := by
  unfold seenS at h
  cases hf : fnd l row col t with
  | none => rw [hf] at h; cases h
  | some d =>
    rw [hf] at h
    refine ⟨d, rfl, ?_⟩
    by_cases hg : d.Gone = true
    · simp [hg] at h
    · simpa using hg
noncomputable def seenC (l : List Cell) (a : Ask) (c : Cell) : Cell := (fnd l c.Row c.Col a.Time).getD c
theorem heads_len (l : List Cell) (hg : Good l) (a : Ask) : (heads l a none l).length = (l.filter (vis l a)).length := by
  have hne : ∀ {x y : Cell}, ah x y → x ≠ y := fun h e => ah_irr _ (e ▸ h)
  have n2 : (l.filter (vis l a)).Nodup := (hg.srt.sublist List.filter_sublist).imp hne
  have hfar := (heads_far (l := l) (a := a) (p := none) hg.srt (fun q hq => by cases hq)).2
  have n1 : ((heads l a none l).map (seenC l a)).Nodup := by
    rw [List.Nodup, List.pairwise_map]
    refine List.Pairwise.imp_of_mem ?_ hfar
    intro x y hx hy hxy e
    obtain ⟨d, hd, _⟩ := seenS_true (heads_mem hx).2.2
    obtain ⟨d', hd', _⟩ := seenS_true (heads_mem hy).2.2
    simp only [seenC, hd, hd', Option.getD_some] at e
    subst e
    have h1 := fnd_at hd
    have h2 := fnd_at hd'
    exact hxy ⟨h1.2.1.symm.trans h2.2.1, h1.2.2.1.symm.trans h2.2.2.1⟩
  have hm : ∀ x, x ∈ (heads l a none l).map (seenC l a) ↔ x ∈ l.filter (vis l a) := by
    intro x
    rw [List.mem_map, List.mem_filter]
    constructor
    · rintro ⟨c, hc, rfl⟩
      obtain ⟨h1, h2, h3⟩ := heads_mem hc
      obtain ⟨d, hd, hgd⟩ := seenS_true h3
      have h4 := fnd_at hd
      simp only [seenC, hd, Option.getD_some]
      exact ⟨h4.1, vis_iff.2 ⟨by rw [inA_row h4.2.1]; exact h2, by rw [h4.2.1, h4.2.2.1]; exact hd, hgd⟩⟩
    · rintro ⟨hx, hv⟩
      obtain ⟨v1, v2, v3⟩ := vis_iff.1 hv
      have hs : (seenS l x.Row x.Col a.Time).2 = true := by unfold seenS; rw [v2]; simp [v3]
      rcases heads_all (l := l) (a := a) (p := none) hx v1 hs with ⟨q, hq, _⟩ | ⟨c, hc, hp⟩
      · cases hq
      · refine ⟨c, hc, ?_⟩
        unfold seenC
        rw [hp.1, hp.2, v2]; rfl
  have := ((List.perm_ext_iff_of_nodup n1 n2).2 hm).length_eq
  simpa using this
theorem get_good {l : List Cell} (hg : Good l) (row col : List UInt8) {t : Int} (ht : 0 ≤ t ∧ t ≤ 1000000000) : cell_Get l row col t = some ((seenS l row col t).1.Value, (seenS l row col t).2, ⟨0, 0⟩) := by
  have hf : getF l t = ⟨0, 0⟩ := by unfold getF; rw [if_neg (by omega)]; exact hg.f
  rw [get_eq]
  unfold getS
  rw [hf, if_pos rfl]
theorem count_loop (l : List Cell) (hg : Good l) (a : Ask) (ha : 0 ≤ a.Time ∧ a.Time ≤ 1000000000) (x1 : List Cell × Fault) : ∀ (m k n : Nat), l.length - k = m → k ≤ l.length → n ≤ k →
    law_CellScans_L1 l x1 (a, (n : Int), (k : Int)) = some (decide (((n + (heads l a (prv l k) (l.drop k)).length : Nat) : Int) = (x1.1.length : Int)))
  | 0, k, n, e, hk, hn => by
    have : k = l.length := by omega
    subst this
    refine loopO_inr ?_
    simp only [law_CellScans_B1]
    rw [if_neg (d_f (by omega)), List.drop_length]; rfl
  | m + 1, k, n, e, hk, hn => by
    have hlen := hg.len
    have hlt : k < l.length := by omega
    have hw : w64 ((k : Int) + 1) = ((k + 1 : Nat) : Int) := by rw [w64_id (by omega) (by omega)]; omega
    have hwn : w64 ((n : Int) + 1) = ((n + 1 : Nat) : Int) := by rw [w64_id (by omega) (by omega)]; omega
    have hw2 : w64 ((k : Int) - 1) = (k : Int) - 1 := w64_id (by omega) (by omega)
    rw [lget_drop l k hlt, heads]
    have hskip : ((((((decide (0 < (k : Int))) && (decide (((lget l ((k : Int) - 1)).Row) = ((lget l (k : Int)).Row)))) && (decide (((lget l ((k : Int) - 1)).Col) = ((lget l (k : Int)).Col)))) || (Op.bytesLess ((lget l (k : Int)).Row) a.From)) || ((!decide (a.To = ([] : List UInt8))) && (!Op.bytesLess ((lget l (k : Int)).Row) a.To))) = true) ↔ ((∃ q, prv l k = some q ∧ pl q (lget l (k : Int))) ∨ inA a (lget l (k : Int)) = false) := by
      unfold inA prv pl
      generalize Op.bytesLess (lget l (k : Int)).Row a.From = b1
      generalize Op.bytesLess (lget l (k : Int)).Row a.To = b2
      by_cases hk0 : k = 0
      · subst hk0; cases b1 <;> cases b2 <;> simp
      · have : 0 < k := by omega
        cases b1 <;> cases b2 <;> simp [hk0, this, and_assoc, or_assoc]
    have ih0 := count_loop l hg a ha x1 m (k + 1) n (by omega) (by omega) (by omega)
    rw [prv_succ] at ih0
    by_cases hs : (∃ q, prv l k = some q ∧ pl q (lget l (k : Int))) ∨ inA a (lget l (k : Int)) = false
    · rw [if_pos (by rcases hs with h | h; exact .inl h; exact .inr (.inl h)), List.nil_append]
      refine (loopO_inl (y := (a, (n : Int), ((k + 1 : Nat) : Int))) ?_).trans ih0
      simp only [law_CellScans_B1, law_CellScans_J3, hw2]
      rw [if_pos (d_t (by omega)), asrt_pos (fun h => by simp at h; omega), asrt_pos (fun h => by omega), asrt_pos (fun h => by simp at h; omega), asrt_pos (fun h => by omega), asrt_pos (fun h => by omega), asrt_pos (fun _ _ => by omega), if_pos (hskip.2 hs), hw]
    · have pre : ∀ r, (if (seenS l (lget l (k : Int)).Row (lget l (k : Int)).Col a.Time).2 = true then some (Sum.inl (a, ((n + 1 : Nat) : Int), ((k + 1 : Nat) : Int))) else some (Sum.inl (a, (n : Int), ((k + 1 : Nat) : Int)))) = some r → law_CellScans_B1 l x1 (a, (n : Int), (k : Int)) = some r := by
        intro r h
        simp only [law_CellScans_B1, law_CellScans_J3, hw2]
        rw [if_pos (d_t (by omega)), asrt_pos (fun h => by simp at h; omega), asrt_pos (fun h => by omega), asrt_pos (fun h => by simp at h; omega), asrt_pos (fun h => by omega), asrt_pos (fun h => by omega), asrt_pos (fun _ _ => by omega), if_neg (fun h => hs (hskip.1 h)), asrt_pos (by omega), asrt_pos (by omega), get_good hg _ _ ha, ob_some, hw, hwn]
        rw [if_neg (by simp)]
        exact h
      by_cases h2 : (seenS l (lget l (k : Int)).Row (lget l (k : Int)).Col a.Time).2 = true
      · have ih := count_loop l hg a ha x1 m (k + 1) (n + 1) (by omega) (by omega) (by omega)
        rw [prv_succ] at ih
        rw [if_neg (by rintro (h | h | h); exact hs (.inl h); exact hs (.inr h); rw [h2] at h; cases h)]
        refine (loopO_inl (pre _ (if_pos h2))).trans (ih.trans ?_)
        simp only [List.length_append, List.length_singleton, Nat.add_assoc]
      · rw [if_pos (.inr (.inr (by simpa using h2))), List.nil_append]
        exact (loopO_inl (pre _ (if_neg h2))).trans ih0
theorem scans_J1 (l : List Cell) (hg : Good l) (a : Ask) (ha : (askF a).Code = 0) : law_CellScans_J1 l ((l.filter (vis l a)).take a.Many.toNat, ⟨0, 0⟩) a = some true := by
  obtain ⟨_, h1, h2, h3, h4⟩ := askF_good ha
  unfold law_CellScans_J1
  by_cases c : (((l.filter (vis l a)).take a.Many.toNat).length : Int) = a.Many
  · rw [if_pos (d_t c)]
  · have hle : (l.filter (vis l a)).take a.Many.toNat = l.filter (vis l a) := by
      refine List.take_of_length_le ?_
      rw [List.length_take] at c; omega
    rw [if_neg (d_f c), hle]
    have := count_loop l hg a ⟨h1, h2⟩ (l.filter (vis l a), ⟨0, 0⟩) l.length 0 0 (by omega) (by omega) (by omega)
    have h0 : ((0 : Nat) : Int) = 0 := rfl
    rw [h0] at this
    rw [this]
    have e : prv l 0 = none := rfl
    rw [e, List.drop_zero, heads_len l hg a]; simp
theorem scans_L2 (l : List Cell) (hg : Good l) (a : Ask) (ha : (askF a).Code = 0) (s : List Cell) (hs : s = (l.filter (vis l a)).take a.Many.toNat) : ∀ (m k : Nat), s.length - k = m → k ≤ s.length →
    law_CellScans_L2 l (s, ⟨0, 0⟩) (a, (k : Int)) = some true
  | m, k, e, hk => by
    have hsub : s.Sublist l := by rw [hs]; exact (List.take_sublist _ _).trans List.filter_sublist
    have hsl := hsub.length_le
    have hlen := hg.len
    have hsrt : s.Pairwise ah := hg.srt.sublist hsub
    have hvis : ∀ x ∈ s, vis l a x = true := fun x hx => by
      rw [hs] at hx
      exact (List.mem_filter.1 (List.mem_of_mem_take hx)).2
    obtain ⟨_, h1, h2, h3, h4⟩ := askF_good ha
    match m, e with
    | 0, e =>
      have : k = s.length := by omega
      refine loopO_inr ?_
      simp only [law_CellScans_B2]
      rw [if_neg (d_f (by omega)), hs, scans_J1 l hg a ha]; rfl
    | m + 1, e =>
      have hlt : k < s.length := by omega
      have hw : w64 ((k : Int) + 1) = ((k + 1 : Nat) : Int) := by rw [w64_id (by omega) (by omega)]; omega
      have hw2 : w64 ((k : Int) - 1) = (k : Int) - 1 := w64_id (by omega) (by omega)
      have ih := scans_L2 l hg a ha s hs m (k + 1) (by omega) (by omega)
      have hv := vis_iff.1 (hvis _ (lget_mem s (k : Int) (by omega)))
      have hse : seenS l (lget s (k : Int)).Row (lget s (k : Int)).Col a.Time = (lget s (k : Int), true) := by unfold seenS; rw [hv.2.1]; simp [hv.2.2]
      have hord : (decide (0 < (k : Int)) && (Op.bytesLess ((lget s (k : Int)).Row) ((lget s ((k : Int) - 1)).Row) || (decide (((lget s (k : Int)).Row) = ((lget s ((k : Int) - 1)).Row)) && !Op.bytesLess ((lget s ((k : Int) - 1)).Col) ((lget s (k : Int)).Col)))) = false := by
        by_cases hk0 : k = 0
        · subst hk0; simp
        · have e1 : (k : Int) - 1 = ((k - 1 : Nat) : Int) := by omega
          rw [e1]
          have hah : ah (lget s ((k - 1 : Nat) : Int)) (lget s (k : Int)) := by
            rw [lget_nat s (k - 1) (by omega), lget_nat s k hlt]
            exact (List.pairwise_iff_getElem.1 hsrt) (k - 1) k (by omega) hlt (by omega)
          have hv' := vis_iff.1 (hvis _ (lget_mem s ((k - 1 : Nat) : Int) (by omega)))
          have hnp : ¬ pl (lget s ((k - 1 : Nat) : Int)) (lget s (k : Int)) := fun hp => by
            have h5 := hv'.2.1
            rw [hp.1, hp.2, hv.2.1] at h5
            have h6 := Option.some.inj h5
            rw [← h6] at hah
            exact ah_irr _ hah
          unfold ah at hah
          unfold pl at hnp
          rcases hah with h5 | ⟨h5, h6⟩
          · have h7 := bl_asymm h5
            have h8 := bl_ne h5
            simp [h7, Ne.symm h8]
          · rcases h6 with h6 | ⟨h6, _⟩
            · rw [h5] ; simp [bl_irr, h6]
            · exact absurd ⟨h5, h6⟩ hnp
      refine (loopO_inl (y := (a, ((k + 1 : Nat) : Int))) ?_).trans ih
      simp only [law_CellScans_B2, hw2]
      rw [if_pos (d_t (by omega)), asrt_pos (by omega), asrt_pos (by omega), get_good hg _ _ ⟨h1, h2⟩, ob_some, hse]
      have hkk : decide (0 < (k : Int)) = true → 0 ≤ (k : Int) - 1 ∧ (k : Int) - 1 < (s.length : Int) := fun h => by simp at h; omega
      rw [asrt_pos (fun _ => by omega), asrt_pos (fun _ _ => by omega), asrt_pos (fun h _ => hkk h), asrt_pos (fun _ _ _ => by omega), asrt_pos (fun _ h _ => hkk h), asrt_pos (fun _ _ _ _ => by omega), asrt_pos (fun _ _ h _ => hkk h), hord, if_neg (by simp), hw]
theorem CellScans_eq (l : List Cell) (a : Ask) : law_CellScans l a = some true := by
  unfold law_CellScans
  simp only [cbegun, ob_some, Bool.not_true, Bool.false_eq_true, if_false]
  by_cases v : 150 < (l.length : Int)
  · rw [if_pos (d_t v)]
  · rw [if_neg (d_f v), scan_eq, ob_some]
    unfold scanS
    by_cases c : (scanF l a).Code = 0
    · have hc : (cellF l).Code = 0 := by
        unfold scanF at c
        by_cases c1 : (cellF l).Code = 0
        · exact c1
        · rw [if_neg c1] at c; exact c
      have ha : (askF a).Code = 0 := by unfold scanF at c; rwa [if_pos hc] at c
      have hg := cellF_good hc
      rw [if_pos c, if_neg (by simp)]
      exact scans_L2 l hg a ha _ rfl ((l.filter (vis l a)).take a.Many.toNat).length 0 (by omega) (by omega)
    · rw [if_neg c, if_pos (n_t c)]
end G
end Go.Proofs.Ytkbgkkbinnclmaa
