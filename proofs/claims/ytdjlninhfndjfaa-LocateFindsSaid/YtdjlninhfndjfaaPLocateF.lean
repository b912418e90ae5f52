/- Locate: Find. -/
import Derived.Test.YtdjlninhfndjfaaPLocateDoes
namespace Go.Proofs.Ytdjlninhfndjfaa
open Go Go.Dm
set_option linter.unusedVariables false
set_option linter.unusedSimpArgs false
namespace G
theorem ff_first {ρ : Type} (P : Nat → Prop) [DecidablePred P] (g : Nat → ρ) (r : ρ) {n j : Nat} (hj : j < n) (h : P j) (hb : ∀ i, i < j → ¬ P i) : firstFrom (fun k => if P k then some (g k) else none) r 0 n = g j := by
  rcases firstFrom_cases (fun k => if P k then some (g k) else none) r n 0 with ⟨h1, _⟩ | ⟨i, x, _, h2, h3, h4, h5⟩
  · have := h1 j (Nat.zero_le _) (by omega)
    rw [if_pos h] at this; cases this
  · rw [h5]
    have hi : P i := by
      apply Decidable.byContradiction
      intro c
      rw [if_neg c] at h3; cases h3
    have e : i = j := by
      rcases Nat.lt_trichotomy i j with c | c | c
      · exact absurd hi (hb i c)
      · exact c
      · have := h4 j (Nat.zero_le _) c
        rw [if_pos h] at this; cases this
    subst e
    rw [if_pos h] at h3
    cases h3; rfl
theorem ch_to_ok : ∀ {l : List Part} {a : List UInt8}, ch a l → ∀ q ∈ l, q.To = [] ∨ Op.bytesLess q.From q.To = true
  | p :: r, a, h, q, hq => by
    rcases List.mem_cons.1 hq with rfl | hq
    · rcases h.2 with h2 | h2
      · exact .inl h2.2
      · exact .inr h2.2.1
    · rcases h.2 with h2 | h2
      · rw [h2.1] at hq; cases hq
      · exact ch_to_ok h2.2.2 q hq
theorem ch_has : ∀ {l : List Part} {a : List UInt8} (row : List UInt8), ch a l → Op.bytesLess row a = false → ∃ p ∈ l, hasP p row
  | p :: r, a, row, h, hr => by
    by_cases c : p.To = [] ∨ Op.bytesLess row p.To = true
    · exact ⟨p, by simp, by rw [h.1]; exact hr, c⟩
    · rw [not_or] at c
      rcases h.2 with h2 | h2
      · exact absurd h2.2 c.1
      · obtain ⟨q, hq, h3⟩ := ch_has row h2.2.2 (by simpa using c.2)
        exact ⟨q, by simp [hq], h3⟩
theorem part_at (b : Board) (k : Nat) (hk : k < b.Slots.length) : lget (partsOf b) (k : Int) = (lget b.Slots (k : Int)).Part := by
  rw [lget_nat _ k (by simpa [partsOf] using hk), lget_nat _ k hk]
  simp [partsOf]
theorem slot_len {b : Board} (hg : BGood b) : b.Slots.length ≤ 200 := by
  have := hg.parts.len
  simpa [partsOf] using this
theorem slot_pt {b : Board} (hg : BGood b) (k : Nat) (hk : k < b.Slots.length) : ptOk (lget b.Slots (k : Int)).Part := by
  have hm : (lget b.Slots (k : Int)).Part ∈ partsOf b := by
    rw [← part_at b k hk]
    exact lget_mem _ _ (by simp [partsOf]; omega)
  have h1 := hg.parts.ok _ hm
  exact ⟨h1.1, h1.2.1, ch_to_ok hg.parts.ch _ hm⟩
theorem least {P : Nat → Prop} [DecidablePred P] : ∀ {n : Nat}, P n → ∃ j, j ≤ n ∧ P j ∧ ∀ i, i < j → ¬ P i := by
  intro n
  induction n using Nat.strongRecOn with
  | _ n ih =>
    intro h
    by_cases c : ∃ i, i < n ∧ P i
    · obtain ⟨i, hi, h2⟩ := c
      obtain ⟨j, h3, h4⟩ := ih i hi h2
      exact ⟨j, by omega, h4⟩
    · exact ⟨n, Nat.le_refl _, h, fun i hi h2 => c ⟨i, hi, h2⟩⟩
theorem slot_first {b : Board} (hg : BGood b) (row : List UInt8) : ∃ j : Nat, j < b.Slots.length ∧ hasP (lget b.Slots (j : Int)).Part row ∧ ∀ i : Nat, i < j → ¬ hasP (lget b.Slots (i : Int)).Part row := by
  obtain ⟨p, hp, h⟩ := ch_has row hg.parts.ch (bl_nil row)
  obtain ⟨k, hk, e⟩ := mem_lget.1 hp
  have hk' : k < b.Slots.length := by simpa [partsOf] using hk
  rw [part_at b k hk'] at e
  subst e
  obtain ⟨j, h1, h2, h3⟩ := least (P := fun j : Nat => hasP (lget b.Slots (j : Int)).Part row) h
  exact ⟨j, by omega, h2, h3⟩
def zeroS : Slot := ⟨⟨[], [], 0⟩, 0, 0, 0⟩
def zeroK : Known := ⟨⟨[], [], 0⟩, 0, 0⟩
def slotOf (b : Board) (row : List UInt8) : Slot := firstFrom (fun k => if hasP (lget b.Slots (k : Int)).Part row then some (lget b.Slots (k : Int)) else none) zeroS 0 b.Slots.length
theorem rslotOf_eq (b : Board) (hl : b.Slots.length ≤ 100000) (row : List UInt8) : R_SlotOf b row = some (slotOf b row) := by
  have pt_eta : ∀ p : Part, (⟨p.From, p.To, p.ID⟩ : Part) = p := fun p => rfl
  unfold R_SlotOf
  refine loop_firstF (step := fun y => R_SlotOf_B1 b row y) (fun k => if hasP (lget b.Slots (k : Int)).Part row then some (lget b.Slots (k : Int)) else none) zeroS b.Slots.length (fun k hk => ?_) ?_
  · have hw : w64 ((k : Int) + 1) = ((k + 1 : Nat) : Int) := by rw [w64_id (by omega) (by omega)]; omega
    show R_SlotOf_B1 b row (k : Int) = _
    unfold R_SlotOf_B1
    rw [if_pos (d_t (by omega)), asrt_pos (by omega), asrt_pos (by omega), pt_eta, inPart_eq, hw]
    dsimp only [lt]
    by_cases c : hasP (lget b.Slots (k : Int)).Part row
    · rw [if_pos (d_t c), if_pos c]
    · rw [if_neg (d_f c), if_neg c]
  · show R_SlotOf_B1 b row (b.Slots.length : Int) = _
    unfold R_SlotOf_B1
    rw [if_neg (d_f (by omega))]; rfl
theorem slot_good {b : Board} (hg : BGood b) (row : List UInt8) : locate_slot b row = some (slotOf b row) ∧ ptOk (slotOf b row).Part := by
  obtain ⟨j, h1, h2, h3⟩ := slot_first hg row
  have hl := slot_len hg
  have e1 : slotI b.Slots row = (j : Int) := ff_first (fun k : Nat => hasP (lget b.Slots (k : Int)).Part row) (fun k => (k : Int)) (-1) h1 h2 h3
  have e2 : slotOf b row = lget b.Slots (j : Int) := ff_first (fun k : Nat => hasP (lget b.Slots (k : Int)).Part row) (fun k => lget b.Slots (k : Int)) zeroS h1 h2 h3
  rw [e2]
  refine ⟨?_, slot_pt hg j h1⟩
  rw [slot_at b (by omega) row (by rw [e1]; omega), e1]
def srvP (s : Slot) (h t : Int) : Prop := s.State = 2 ∧ s.Host = h ∧ s.Turn = t
instance (s : Slot) (h t : Int) : Decidable (srvP s h t) := by unfold srvP; infer_instance
theorem serves_eq {b : Board} (hg : BGood b) (row : List UInt8) (h t : Int) : locate_serves b h t row = some (decide (srvP (slotOf b row) h t)) := by
  unfold locate_serves
  rw [(slot_good hg row).1, ob_some]
  dsimp only [lt]
  congr 1
  refine b_iff ?_
  unfold srvP
  simp only [Bool.and_eq_true, decide_eq_true_eq, and_assoc]
theorem some_eq {α : Type} {a b : α} : (some a = some b) = (a = b) := by simp
theorem kdel_eq {l : List Known} (hl : l.length ≤ 100000) (pos : Nat) (hp : pos < l.length) : slices_Delete_api_Known_api_Known_v1 (pos : Int) ((pos : Int) + 1) l = some (l.take pos ++ l.drop (pos + 1)) := by
  unfold slices_Delete_api_Known_api_Known_v1
  have e1 : ((pos : Int) + 1).toNat = pos + 1 := by omega
  have e2 : (l.drop (pos + 1)).take (l.length - (pos + 1)) = l.drop (pos + 1) := List.take_of_length_le (by simp)
  have hlen : (l.take pos ++ l.drop (pos + 1)).length = l.length - 1 := by simp; omega
  rw [asrt_pos (by omega), if_neg (d_f (by omega)), asrt_pos (by omega), asrt_pos (by omega), e1, Int.toNat_natCast, e2, hlen, asrt_pos (by omega), asrt_pos (by omega), asrt_pos (by omega), asrt_pos (by
    rw [List.length_map]; omega)]
  dsimp only [lt]
  rw [some_eq]
  unfold lclear
  rw [hlen, show ((l.length - 1 : Nat) : Int).toNat = l.length - 1 by omega]
  have h1 : ∀ m : Nat, l.length - 1 ≤ m → (l.take pos ++ l.drop (pos + 1)).take m = l.take pos ++ l.drop (pos + 1) := fun m hm => List.take_of_length_le (by rw [hlen]; exact hm)
  have h2 : ∀ m : Nat, l.length - 1 ≤ m → (l.take pos ++ l.drop (pos + 1)).drop m = [] := fun m hm => List.drop_of_length_le (by rw [hlen]; exact hm)
  rw [h1 _ (Nat.le_refl _), h2 _ (by omega), Nat.sub_self, Nat.min_zero]
  simp
/-- what is left when the row's own is let go of -/
def restF (l : List Known) (row : List UInt8) : List Known := l.filter (fun x => !decide (hasP x.Part row))
theorem KGood.sub {l m : List Known} (hg : KGood l) (h : m.Sublist l) : KGood m := ⟨Nat.le_trans h.length_le hg.len, fun k hk => hg.ok k (h.subset hk), hg.up.sublist h⟩
theorem rest_good {l : List Known} (hg : KGood l) (row : List UInt8) : KGood (restF l row) := hg.sub List.filter_sublist
theorem rest_none {l : List Known} {row : List UInt8} (h : ∀ k : Nat, k < l.length → ¬ hasP (lget l (k : Int)).Part row) : restF l row = l := by
  unfold restF
  rw [List.filter_eq_self]
  exact all_lget.2 fun k hk => by simpa using h k hk
theorem rest_one {l : List Known} {row : List UInt8} {j : Nat} (hj : j < l.length) (hh : hasP (lget l (j : Int)).Part row) (h : ∀ k : Nat, k < l.length → k ≠ j → ¬ hasP (lget l (k : Int)).Part row) : restF l row = l.take j ++ l.drop (j + 1) := by
  have e : l = l.take j ++ lget l (j : Int) :: l.drop (j + 1) := by rw [← lget_drop l j hj, List.take_append_drop]
  have h1 : (l.take j).filter (fun x => !decide (hasP x.Part row)) = l.take j := by
    rw [List.filter_eq_self]
    intro x hx
    obtain ⟨i, hi, e⟩ := (mem_take_lget (by omega)).1 hx
    have := h i (by omega) (by omega)
    rw [e] at this
    simpa using this
  have h2 : (l.drop (j + 1)).filter (fun x => !decide (hasP x.Part row)) = l.drop (j + 1) := by
    rw [List.filter_eq_self]
    intro x hx
    obtain ⟨i, hi, e⟩ := mem_lget.1 hx
    rw [List.length_drop] at hi
    have hd := lget_ldrop l ((j + 1 : Nat) : Int) (i : Int) (by omega)
    rw [ldrop_nat] at hd
    rw [hd, show ((j + 1 : Nat) : Int) + (i : Int) = ((j + 1 + i : Nat) : Int) by omega] at e
    have := h (j + 1 + i) (by omega) (by omega)
    rw [e] at this
    simpa using this
  unfold restF
  conv => lhs; rw [e]
  rw [List.filter_append, h1, List.filter_cons, if_neg (by simp [hh]), h2]
def slotK (s : Slot) : Known := ⟨s.Part, s.Host, s.Turn⟩
noncomputable def findE (m : List Known) (s : Slot) (a : Int) : List Known × Known × Int × Fault :=
  if s.State = 2 then (learntF m (slotK s), slotK s, a, ⟨0, 0⟩) else (m, zeroK, a, ⟨6, 0⟩)
noncomputable def findV (l : List Known) (s : Slot) (row : List UInt8) : List Known × Known × Int × Fault :=
  if 0 ≤ findI l row ∧ srvP s (lget l (findI l row)).Host (lget l (findI l row)).Turn then (l, lget l (findI l row), 1, ⟨0, 0⟩)
  else findE (restF l row) s (if 0 ≤ findI l row then 2 else 1)
theorem find_good {b : Board} (hb : BGood b) {l : List Known} (hg : KGood l) (row : List UInt8) : locate_Find b l row = some (findV l (slotOf b row) row) := by
  have hbl := slot_len hb
  have hl := hg.len
  have e0 : (boardF b).Code = 0 := boardF_good.2 hb
  have e1 : (knownF l).Code = 0 := knownF_good.2 hg
  have hJ : ∀ m : List Known, KGood m → ∀ a : Int, 0 ≤ a → a ≤ 1 → locate_Find_J1 b row ⟨0, 0⟩ (m, a) = some (findE m (slotOf b row) (a + 1)) := by
    intro m hm a h1 h2
    unfold locate_Find_J1 findE
    rw [(slot_good hb row).1, ob_some]
    by_cases c : (slotOf b row).State = 2
    · rw [if_neg (n_f c), if_pos c, learn_eq hm _ (slot_good hb row).2, ob_some, w64_id (by simp only; omega) (by simp only; omega)]
      rfl
    · rw [if_pos (n_t c), if_neg c, w64_id (by simp only; omega) (by simp only; omega)]
      rfl
  obtain ⟨hi1, hi2⟩ := findI_iff hg row
  unfold locate_Find
  rw [bcheck_eq _ (by omega), ob_some, if_pos (d_t e0), kcheck_eq, ob_some, if_neg (n_f e1), ob_some, knownF_zero e1, if_neg (by simp), kclone_eq _ (by omega), ob_some, find_eq _ (by omega), ob_some]
  unfold findV
  rcases hi1 with hf | ⟨hf0, hf1⟩
  · rw [if_neg (d_f (by omega)), if_neg (by omega), if_neg (show ¬ 0 ≤ findI l row by omega), hJ l hg 0 (by omega) (by omega), rest_none (fun k hk h => by have := (hi2 k hk).1 h; omega)]
    rfl
  · obtain ⟨j, hj⟩ : ∃ j : Nat, findI l row = (j : Int) := ⟨(findI l row).toNat, by omega⟩
    rw [hj] at hf0 hf1 hi2 ⊢
    have hr := rest_one (row := row) (j := j) (by omega) ((hi2 j (by omega)).2 rfl) (fun k hk hne h => by have := (hi2 k hk).1 h; omega)
    rw [if_pos (d_t (by omega)), asrt_pos (by omega), asrt_pos (by omega), serves_eq hb, ob_some, kn_eta]
    by_cases c : srvP (slotOf b row) (lget l (j : Int)).Host (lget l (j : Int)).Turn
    · rw [if_pos (d_t c), if_pos ⟨by omega, c⟩]; rfl
    · rw [if_neg (d_f c), if_neg (fun h => c h.2), if_pos (by omega), w64_id (x := (j : Int) + 1) (by omega) (by omega), kdel_eq (by omega) j (by omega), ob_some, ← hr, w64_id (by omega) (by omega), hJ _ (rest_good hg row) _ (by omega) (by omega)]
      rfl
/-- what Find says of what is not in order -/
noncomputable def inF (b : Board) (l : List Known) : Fault := if (boardF b).Code = 0 then (if (knownF l).Code = 0 then ⟨0, 0⟩ else ⟨(knownF l).Code, w64 ((knownF l).At - 10000)⟩) else boardF b
theorem find_bad {b : Board} (hs : b.Slots.length ≤ 100000) {l : List Known} (row : List UInt8) (h : ¬ (inF b l).Code = 0) : locate_Find b l row = some ([], zeroK, 0, inF b l) := by
  unfold locate_Find
  unfold inF at h ⊢
  rw [bcheck_eq _ hs, ob_some]
  by_cases c : (boardF b).Code = 0
  · rw [if_pos c] at h ⊢
    by_cases d : (knownF l).Code = 0
    · rw [if_pos d] at h; exact absurd rfl h
    · rw [if_neg d] at h ⊢
      rw [if_pos (d_t c), kcheck_eq, ob_some, if_pos (n_t d), ob_some, if_pos (n_t d)]; rfl
  · rw [if_neg c] at h ⊢
    rw [if_neg (d_f c), ob_some, if_pos (n_t c)]; rfl
theorem inF_good {b : Board} {l : List Known} (h : (inF b l).Code = 0) : BGood b ∧ KGood l ∧ inF b l = ⟨0, 0⟩ := by
  unfold inF at h ⊢
  by_cases c : (boardF b).Code = 0
  · rw [if_pos c] at h ⊢
    by_cases d : (knownF l).Code = 0
    · rw [if_pos d]; exact ⟨boardF_good.1 c, knownF_good.1 d, rfl⟩
    · rw [if_neg d] at h; exact absurd h d
  · rw [if_neg c] at h; exact absurd h c
end G
end Go.Proofs.Ytdjlninhfndjfaa
