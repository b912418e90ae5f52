/- Histories: orders of the spans that count; where no two numbers clash there is one, and where there is one none clash. -/
import Derived.Test.YtnibbgjoanbnmaaPHistI
namespace Go.Proofs.Ytnibbgjoanbnmaa
open Go Go.Dm
set_option linter.unusedVariables false
set_option linter.unusedSimpArgs false
set_option linter.unusedSectionVars false
namespace G
theorem exists_min (key : Int → Int) : ∀ S : List Int, S ≠ [] → ∃ v ∈ S, ∀ w ∈ S, key v ≤ key w
  | [], h => absurd rfl h
  | [v], _ => ⟨v, List.mem_cons_self .., fun w hw => by rw [List.mem_singleton.1 hw]; exact Int.le_refl _⟩
  | v :: u :: S, _ => by
    obtain ⟨x, hx, hm⟩ := exists_min key (u :: S) (by simp)
    by_cases c : key v ≤ key x
    · refine ⟨v, List.mem_cons_self .., fun w hw => ?_⟩
      rcases List.mem_cons.1 hw with rfl | hw
      · exact Int.le_refl _
      · exact Int.le_trans c (hm w hw)
    · refine ⟨x, List.mem_cons_of_mem _ hx, fun w hw => ?_⟩
      rcases List.mem_cons.1 hw with rfl | hw
      · omega
      · exact hm w hw
/-- of numbers that do not clash, one that none of the others must stand ahead of -/
theorem exists_first (f b : Int → Int) (S : List Int) (hne : S ≠ []) (hc : ∀ v ∈ S, ∀ w ∈ S, v ≠ w → ¬ (f v < b w ∧ f w < b v)) : ∃ v ∈ S, ∀ w ∈ S, w ≠ v → b v ≤ f w := by
  obtain ⟨v, hv, hm⟩ := exists_min (fun v => 2 * min (f v) (b v) + if f v < b v then 1 else 0) S hne
  refine ⟨v, hv, fun w hw hwv => ?_⟩
  have h1 := hc v hv w hw (fun e => hwv e.symm)
  have h2 := hm w hw
  split at h2 <;> split at h2 <;> omega
/-- a span ahead of another one: it ended before that one began -/
def ahd (l : List Span) (k i : Int) : Prop := 0 ≤ (lget l k).To ∧ (lget l k).To < (lget l i).From
instance (l : List Span) (k i : Int) : Decidable (ahd l k i) := by unfold ahd; infer_instance
/-- reads read what was written last -/
def RV (l : List Span) : Int → List Int → Prop
  | _, [] => True
  | now, z :: o => ((lget l z).Kind = 1 ∧ RV l (lget l z).Value o) ∨ ((lget l z).Kind ≠ 1 ∧ (lget l z).Value = now ∧ RV l now o)
theorem RV_tail {l : List Span} {now z : Int} {o : List Int} (h : RV l now (z :: o)) : RV l (lget l z).Value o := by
  rcases h with ⟨_, h⟩ | ⟨_, e, h⟩
  · exact h
  · rw [e]; exact h
structure IsOrd (l : List Span) (o : List Int) : Prop where
  perm : o.Perm (cl l l.length)
  ah : o.Pairwise fun x y => ¬ ahd l y x
  rv : RV l 0 o
theorem cl_nodup (l : List Span) : (cl l l.length).Nodup := by
  unfold cl
  exact List.pairwise_map.2 ((List.nodup_range.filter _).imp fun h e => h (by omega))
theorem val_ne0 {l : List Span} (hg : Good l) {z : Int} (hz : 0 ≤ z ∧ z < (l.length : Int)) (hk : (lget l z).Kind = 1) : (lget l z).Value ≠ 0 := by
  have := hg.rng z.toNat (by omega)
  unfold rngBad at this
  rw [show ((z.toNat : Nat) : Int) = z by omega] at this
  intro e
  exact this (.inr (.inr (.inl ⟨hk, e⟩)))
theorem one_z {l : List Span} (hg : Good l) {y z : Int} (hy : 0 ≤ y ∧ y < (l.length : Int)) (hz : 0 ≤ z ∧ z < (l.length : Int)) (h1 : (lget l y).Kind = 1) (h2 : (lget l z).Kind = 1) (h3 : (lget l y).Value = (lget l z).Value) : y = z := by
  have e1 : ((y.toNat : Nat) : Int) = y := by omega
  have e2 : ((z.toNat : Nat) : Int) = z := by omega
  have := hg.one y.toNat z.toNat (by omega) (by omega) (by rw [e1]; exact h1) (by rw [e2]; exact h2) (by rw [e1, e2]; exact h3)
  omega
theorem cl_in {l : List Span} {z : Int} (h : z ∈ cl l l.length) : 0 ≤ z ∧ z < (l.length : Int) := by
  obtain ⟨i, h1, _, rfl⟩ := mem_cl.1 h
  omega
/-- what was written last, ahead of a place -/
def nowAt (l : List Span) (now : Int) (o : List Int) : Nat → Int
  | 0 => now
  | k + 1 => (lget l (lget o (k : Int))).Value
theorem lget_cons {α : Type} [Inhabited α] (x : α) (o : List α) (k : Nat) : lget (x :: o) ((k + 1 : Nat) : Int) = lget o (k : Int) := by
  unfold lget
  simp [List.getD]
theorem lget_zero {α : Type} [Inhabited α] (x : α) (o : List α) : lget (x :: o) ((0 : Nat) : Int) = x := rfl
theorem rv_at {l : List Span} : ∀ {o : List Int} {now : Int}, RV l now o ↔ ∀ k : Nat, k < o.length → (lget l (lget o (k : Int))).Kind = 1 ∨ (lget l (lget o (k : Int))).Value = nowAt l now o k
  | [], now => ⟨fun _ k hk => by simp at hk, fun _ => trivial⟩
  | z :: o, now => by
    constructor
    · intro h k hk
      match k with
      | 0 =>
        rw [lget_zero]
        rcases h with ⟨h1, _⟩ | ⟨_, h2, _⟩
        · exact .inl h1
        · exact .inr h2
      | k + 1 =>
        have := (rv_at.1 (RV_tail h)) k (by simpa using hk)
        rw [lget_cons]
        rcases this with h1 | h1
        · exact .inl h1
        · refine .inr (h1.trans ?_)
          cases k with
          | zero => rfl
          | succ k => show _ = (lget l (lget (z :: o) ((k + 1 : Nat) : Int))).Value; rw [lget_cons]; rfl
    · intro h
      have h0 := h 0 (by simp)
      rw [lget_zero] at h0
      have ht : RV l (lget l z).Value o := rv_at.2 fun k hk => by
        have := h (k + 1) (by simpa using hk)
        rw [lget_cons] at this
        rcases this with h1 | h1
        · exact .inl h1
        · refine .inr (h1.trans ?_)
          cases k with
          | zero => rfl
          | succ k => show (lget l (lget (z :: o) ((k + 1 : Nat) : Int))).Value = _; rw [lget_cons]; rfl
      by_cases c : (lget l z).Kind = 1
      · exact .inl ⟨c, ht⟩
      · rcases h0 with h0 | h0
        · exact absurd h0 c
        · have h0 : (lget l z).Value = now := h0
          exact .inr ⟨c, h0, by rw [h0] at ht; exact ht⟩
section
variable {l : List Span} {o : List Int}
abbrev oz (o : List Int) (k : Nat) : Int := lget o (k : Int)
/-- behind whose write a place stands -/
theorem rv_idx (h : RV l 0 o) : ∀ k : Nat, k < o.length → (∀ j : Nat, j ≤ k → (lget l (oz o j)).Kind ≠ 1 ∧ (lget l (oz o j)).Value = 0) ∨
    ∃ m : Nat, m ≤ k ∧ (lget l (oz o m)).Kind = 1 ∧ (lget l (oz o m)).Value = (lget l (oz o k)).Value ∧ ∀ j : Nat, m < j → j ≤ k → (lget l (oz o j)).Value = (lget l (oz o k)).Value
  | 0, hk => by
    by_cases c : (lget l (oz o 0)).Kind = 1
    · exact .inr ⟨0, Nat.le_refl _, c, rfl, fun j h1 h2 => by omega⟩
    · refine .inl fun j hj => ?_
      have : j = 0 := by omega
      subst this
      rcases rv_at.1 h 0 hk with h1 | h1
      · exact absurd h1 c
      · exact ⟨c, h1⟩
  | k + 1, hk => by
    by_cases c : (lget l (oz o (k + 1))).Kind = 1
    · exact .inr ⟨k + 1, Nat.le_refl _, c, rfl, fun j h1 h2 => by omega⟩
    · have hv : (lget l (oz o (k + 1))).Value = (lget l (oz o k)).Value := by
        rcases rv_at.1 h (k + 1) hk with h1 | h1
        · exact absurd h1 c
        · exact h1
      rcases rv_idx h k (by omega) with h1 | ⟨m, h1, h2, h3, h4⟩
      · refine .inl fun j hj => ?_
        by_cases q : j = k + 1
        · subst q; exact ⟨c, hv.trans (h1 k (Nat.le_refl _)).2⟩
        · exact h1 j (by omega)
      · refine .inr ⟨m, by omega, h2, h3.trans hv.symm, fun j g1 g2 => ?_⟩
        by_cases q : j = k + 1
        · subst q; rfl
        · exact (h4 j g1 (by omega)).trans hv.symm
variable (hg : Good l) (ho : IsOrd l o)
theorem ord_in (ho : IsOrd l o) {k : Nat} (hk : k < o.length) : 0 ≤ oz o k ∧ oz o k < (l.length : Int) := cl_in (ho.perm.mem_iff.1 (lget_mem o (k : Int) (by omega)))
theorem ord_inj (ho : IsOrd l o) {j k : Nat} (hj : j < o.length) (hk : k < o.length) (e : oz o j = oz o k) : j = k := by
  have hnd : o.Nodup := ho.perm.nodup_iff.2 (cl_nodup l)
  have h1 := List.pairwise_iff_getElem.1 hnd
  dsimp only [oz] at e
  rw [lget_nat o j hj, lget_nat o k hk] at e
  rcases Nat.lt_trichotomy j k with q | q | q
  · exact absurd e (h1 j k hj hk q)
  · exact q
  · exact absurd e.symm (h1 k j hk hj q)
theorem tog_idx (hg : Good l) (ho : IsOrd l o) {i j k : Nat} (hij : i < j) (hjk : j < k) (hk : k < o.length) (e : (lget l (oz o i)).Value = (lget l (oz o k)).Value) : (lget l (oz o j)).Value = (lget l (oz o i)).Value := by
  rcases rv_idx ho.rv k hk with h1 | ⟨m, h1, h2, h3, h4⟩
  · rw [(h1 j (by omega)).2, (h1 i (by omega)).2]
  · rcases Nat.lt_trichotomy m j with q | q | q
    · rw [h4 j q (by omega), e]
    · subst q; rw [h3, e]
    · exfalso
      rcases rv_idx ho.rv i (by omega) with g1 | ⟨m', g1, g2, g3, _⟩
      · exact val_ne0 hg (ord_in ho (by omega)) h2 (by rw [h3, ← e, (g1 i (Nat.le_refl _)).2])
      · have := one_z hg (ord_in ho (k := m) (by omega)) (ord_in ho (k := m') (by omega)) h2 g2 (by rw [h3, g3, e])
        have := ord_inj ho (by omega) (by omega) this
        omega
theorem ord_at (ho : IsOrd l o) {z : Int} (hz : z ∈ cl l l.length) : ∃ k : Nat, k < o.length ∧ oz o k = z := mem_lget.1 (ho.perm.mem_iff.2 hz)
/-- who ended ahead stands ahead -/
theorem ord_ahead (hg : Good l) (ho : IsOrd l o) {j k : Nat} (hj : j < o.length) (hk : k < o.length) (h : ahd l (oz o j) (oz o k)) : j < k := by
  have h1 := List.pairwise_iff_getElem.1 ho.ah
  rcases Nat.lt_trichotomy j k with q | q | q
  · exact q
  · exfalso
    subst q
    have h2 := ord_in ho hj
    have := hg.rng (oz o j).toNat (by omega)
    unfold rngBad at this
    rw [show (((oz o j).toNat : Nat) : Int) = oz o j by omega] at this
    unfold ahd at h
    omega
  · exfalso
    have := h1 k j hk hj q
    rw [← lget_nat o k hk, ← lget_nat o j hj] at this
    exact this h
theorem cnt_cl (hg : Good l) {v : Int} {i : Nat} (h : cnt l v i) : (i : Int) ∈ cl l l.length ∧ (lget l (i : Int)).Value = v := (mem_cnt hg).2 ⟨i, h, rfl⟩
/-- where there is an order no number clashes with itself -/
theorem ord_self (hg : Good l) (ho : IsOrd l o) {v : Int} (hv : has l v) : ¬ SC l v := by
  rintro ⟨h0, h⟩
  obtain ⟨i, hi⟩ := hv
  obtain ⟨h1, h2⟩ := cnt_cl hg hi
  obtain ⟨k, hk, e⟩ := ord_at ho h1
  have wr : ∀ k : Nat, k < o.length → (lget l (oz o k)).Value = v → ∃ m : Nat, m ≤ k ∧ (lget l (oz o m)).Kind = 1 ∧ (lget l (oz o m)).Value = v := fun k hk e => by
    rcases rv_idx ho.rv k hk with g | ⟨m, g1, g2, g3, _⟩
    · exact absurd ((g k (Nat.le_refl _)).2.symm.trans e).symm h0
    · exact ⟨m, g1, g2, g3.trans e⟩
  rcases h with h | ⟨w, r, g1, g2, g3, g4, g5⟩
  · obtain ⟨m, g1, g2, g3⟩ := wr k hk (by rw [e]; exact h2)
    have hin := ord_in ho (k := m) (by omega)
    refine h (oz o m).toNat (by omega) ⟨?_, ?_⟩
    · show (lget l (((oz o m).toNat : Nat) : Int)).Kind = 1
      rw [show (((oz o m).toNat : Nat) : Int) = oz o m by omega]; exact g2
    · show (lget l (((oz o m).toNat : Nat) : Int)).Value = v
      rw [show (((oz o m).toNat : Nat) : Int) = oz o m by omega]; exact g3
  · have c1 : cnt l v r := (cnt_iff hg v r).2 ⟨g3, g4.2.1, .inl g4.2.2⟩
    have c2 : cnt l v w := (cnt_iff hg v w).2 ⟨g1, g2.2, .inr ⟨g2.1, r, g3, by rw [g2.2]; exact g4⟩⟩
    obtain ⟨kr, hkr, er⟩ := ord_at ho (cnt_cl hg c1).1
    obtain ⟨kw, hkw, ew⟩ := ord_at ho (cnt_cl hg c2).1
    have hlt := ord_ahead hg ho hkr hkw (by rw [er, ew]; exact ⟨g4.2.2, g5⟩)
    obtain ⟨m, a1, a2, a3⟩ := wr kr hkr (by rw [er]; exact g4.2.1)
    have hww := one_z hg (ord_in ho (k := m) (by omega)) (ord_in ho hkw) a2 (by rw [ew]; exact g2.1) (by rw [a3, ew]; exact g2.2.symm)
    have := ord_inj ho (by omega) hkw hww
    omega
/-- an end of zero's reads stands behind nothing else -/
theorem ord_zero (hg : Good l) (ho : IsOrd l o) {j k : Nat} (hjk : j < k) (hk : k < o.length) (e : (lget l (oz o k)).Value = 0) : (lget l (oz o j)).Value = 0 := by
  rcases rv_idx ho.rv k hk with g | ⟨m, g1, g2, g3, _⟩
  · exact (g j (by omega)).2
  · exact absurd (g3.trans e) (val_ne0 hg (ord_in ho (by omega)) g2)
theorem ord_pair (hg : Good l) (ho : IsOrd l o) {a b : Int} (ha : has l a) (hb : has l b) (h : feV l a < lbV l b) (hab : a ≠ b) (ha0 : a ≠ 0) : ∃ j k : Nat, j < k ∧ k < o.length ∧ (lget l (oz o j)).Value = a ∧ (lget l (oz o k)).Value = b := by
  obtain ⟨⟨i, ⟨i1, i2⟩, i3⟩, _⟩ := fe_min hg ha0 ha
  obtain ⟨⟨j, j1, j2⟩, _⟩ := lb_max hg hb
  obtain ⟨ki, hki, ei⟩ := ord_at ho (cnt_cl hg i1).1
  obtain ⟨kj, hkj, ej⟩ := ord_at ho (cnt_cl hg j1).1
  have hlt := ord_ahead hg ho hki hkj (by rw [ei, ej]; exact ⟨i2, by rw [i3, j2] at h; exact h⟩)
  exact ⟨ki, kj, hlt, hkj, by rw [ei]; exact (cnt_cl hg i1).2, by rw [ej]; exact (cnt_cl hg j1).2⟩
/-- where there is an order no two numbers clash -/
theorem ord_noclash (hg : Good l) (ho : IsOrd l o) {a b : Int} (ha : has l a) (hb : has l b) : ¬ CL l a b := by
  unfold CL
  by_cases e : a = b
  · rw [if_pos e]; exact ord_self hg ho ha
  rw [if_neg e]
  rintro ⟨h1, h2⟩
  by_cases ha0 : a = 0
  · subst ha0
    obtain ⟨j, k, q1, q2, q3, q4⟩ := ord_pair hg ho hb ha h2 (fun h => e h.symm) (fun h => e h.symm)
    exact e (((ord_zero hg ho q1 q2 q4).symm.trans q3))
  by_cases hb0 : b = 0
  · subst hb0
    obtain ⟨j, k, q1, q2, q3, q4⟩ := ord_pair hg ho ha hb h1 e e
    exact e (q3.symm.trans (ord_zero hg ho q1 q2 q4))
  obtain ⟨i, j, q1, q2, q3, q4⟩ := ord_pair hg ho ha hb h1 e ha0
  obtain ⟨i', j', r1, r2, r3, r4⟩ := ord_pair hg ho hb ha h2 (fun h => e h.symm) hb0
  rcases Nat.lt_trichotomy j j' with q | q | q
  · have := tog_idx hg ho q1 q r2 (q3.trans r4.symm)
    rw [q4, q3] at this
    exact e this.symm
  · subst q
    exact e (r4.symm.trans q4)
  · have := tog_idx hg ho r1 q q2 (r3.trans q4.symm)
    rw [r4, r3] at this
    exact e this
end
end G
end Go.Proofs.Ytnibbgjoanbnmaa
