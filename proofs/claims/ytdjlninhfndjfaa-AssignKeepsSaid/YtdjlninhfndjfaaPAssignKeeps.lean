/- AssignKeeps. -/
import Derived.Test.YtdjlninhfndjfaaPAssQ
import Derived.Test.YtdjlninhfndjfaaPAssT
namespace Go.Proofs.Ytdjlninhfndjfaa
open Go Go.Dm
set_option linter.unusedVariables false
set_option linter.unusedSimpArgs false
namespace G
/- the same order twice -/
theorem ordF_err {b : Board} (h : BG b) (o : Order) : ordF b o = (if o.Kind < 1 ∨ 8 < o.Kind then badB 4 0
  else if o.Kind = 1 then comeF b o.ID
  else if o.Kind = 2 then goneF b o.ID
  else if slotK b o.ID < 0 ∨ (o.Kind = 8 ∧ (b.Slots.length : Int) ≤ slotK b o.ID + 1) then badB 6 (-1)
  else doesF b o (slotK b o.ID)) := by
  unfold ordF
  rw [if_neg (not_not_intro (boardF_good.2 (bg_iff.2 h)))]
theorem slotK_congr {b x : Board} (h : b.Slots.length = x.Slots.length) (hp : ∀ j : Nat, j < b.Slots.length → (lget b.Slots (j : Int)).Part.ID = (lget x.Slots (j : Int)).Part.ID) (id : Int) : slotK x id = slotK b id := by
  unfold slotK
  rw [← h]
  refine (firstFrom_congr fun j h1 h2 => ?_).symm
  unfold slotJ
  rw [hp j (by omega)]
theorem slotK_set (b : Board) (k : Nat) (hk : k < b.Slots.length) (s : Slot) (hs : s.Part.ID = (lget b.Slots (k : Int)).Part.ID) (t n : Int) (id : Int) : slotK ⟨b.Hosts, lset b.Slots (k : Int) s, t, n⟩ id = slotK b id := by
  refine slotK_congr (by rw [lset_len]) (fun j hj => ?_) id
  show _ = (lget (lset b.Slots (k : Int) s) (j : Int)).Part.ID
  rw [lget_lset _ _ _ _ (by omega) (by omega)]
  by_cases e : j = k
  · subst e; rw [if_pos rfl, hs]
  · rw [if_neg (by omega)]
theorem slotK_none {b : Board} {id : Int} (h : ∀ s ∈ b.Slots, s.Part.ID ≠ id) : slotK b id = -1 := by
  unfold slotK
  rcases firstFrom_cases (slotJ b id) (-1) b.Slots.length 0 with ⟨_, e⟩ | ⟨j, x, h1, h2, h3, _, e⟩
  · exact e
  · unfold slotJ at h3
    split at h3
    · rename_i c
      exact absurd c (h _ (lget_mem b.Slots (j : Int) (by omega)))
    · cases h3
theorem slotK_id {b : Board} {id : Int} {k : Nat} (hk : k < b.Slots.length) (h : slotK b id = (k : Int)) : (lget b.Slots (k : Int)).Part.ID = id := by
  unfold slotK at h
  rcases firstFrom_cases (slotJ b id) (-1) b.Slots.length 0 with ⟨_, e⟩ | ⟨j, x, h1, h2, h3, _, e⟩
  · rw [e] at h; omega
  · unfold slotJ at h3
    split at h3
    · rename_i c
      cases h3
      rw [e] at h
      rw [← h]; exact c
    · cases h3
theorem ids_ne {b : Board} (h : BG b) {i j : Nat} (hi : i < b.Slots.length) (hj : j < b.Slots.length) (hne : i ≠ j) : (lget b.Slots (i : Int)).Part.ID ≠ (lget b.Slots (j : Int)).Part.ID := by
  have hn := h.parts.ids
  unfold List.Nodup at hn
  rw [List.pairwise_map] at hn
  unfold partsOf at hn
  rw [List.pairwise_map] at hn
  rcases Nat.lt_or_gt_of_ne hne with c | c
  · exact pw_iff.1 hn i j c hj
  · exact fun e => pw_iff.1 hn j i c hi e.symm
theorem again {b x : Board} {o : Order} (h : BG b) (hs : Step b o x) : (ordF x o).2.Code ≠ 0 := by
  have hx := hs.good h
  have hN := h.next
  rw [ordF_err hx]
  cases hs with
  | come k1 hi ha hk hl =>
    rw [if_neg (by omega), if_pos k1]
    unfold comeF
    rw [if_neg (not_not_intro hi), if_pos]
    · decide
    · exact (hostAt_iff _ _).2 ⟨⟨o.ID, 1, true⟩, by simp, rfl, rfl⟩
  | back k k1 hk hid he =>
    rw [if_neg (by omega), if_pos k1]
    unfold comeF
    by_cases hi : numOk o.ID
    · rw [if_neg (not_not_intro hi), if_pos]
      · decide
      · exact (hostAt_iff _ _).2 ⟨⟨o.ID, (lget b.Hosts (k : Int)).Epoch + 1, true⟩, mem_lget.2 ⟨k, by rw [lset_len]; exact hk, by rw [lget_lset _ _ _ _ (by omega) (by omega), if_pos rfl]⟩, rfl, rfl⟩
    · rw [if_pos hi]; decide
  | gone k k2 hk hid =>
    rw [if_neg (by omega), if_neg (by omega), if_pos k2]
    unfold goneF
    rw [if_pos]
    · decide
    · apply Decidable.byContradiction
      intro c
      obtain ⟨y, hy, e1, e2⟩ := (hostAt_iff _ _).1 (Int.not_lt.1 c)
      obtain ⟨m, hm, em⟩ := mem_lget.1 hy
      rw [lset_len] at hm
      rw [lget_lset _ _ _ _ (by omega) (by omega)] at em
      by_cases e : m = k
      · rw [if_pos (by omega)] at em
        rw [← em] at e2; cases e2
      · rw [if_neg (by omega)] at em
        have : (lget b.Hosts (m : Int)).ID = (lget b.Hosts (k : Int)).ID := by rw [em, e1, hid]
        rcases Nat.lt_or_gt_of_ne e with c | c
        · exact pw_iff.1 h.hnd m k c hk this
        · exact pw_iff.1 h.hnd k m c hm this.symm
  | give k k3 hk e hh hs0 ht =>
    have e2 := (slotK_set b k hk (⟨(lget b.Slots (k : Int)).Part, 1, o.Host, b.Turn + 1⟩ : Slot) rfl (b.Turn + 1) b.Next o.ID).trans e
    rw [if_neg (by omega), if_neg (by omega), if_neg (by omega), e2, if_neg (by omega)]
    unfold doesF
    dsimp only
    have hh2 : hostAt ⟨b.Hosts, lset b.Slots (k : Int) ⟨(lget b.Slots (k : Int)).Part, 1, o.Host, b.Turn + 1⟩, b.Turn + 1, b.Next⟩ o.Host = hostAt b o.Host := rfl
    rw [if_pos k3, hh2, if_neg (by omega), lget_own _ _ _ hk, if_pos (show (1 : Int) ≠ 0 by decide)]
    exact fun g => absurd g (by decide)
  | opens k k4 hk e hs1 =>
    have e2 := (slotK_set b k hk (⟨(lget b.Slots (k : Int)).Part, 2, (lget b.Slots (k : Int)).Host, (lget b.Slots (k : Int)).Turn⟩ : Slot) rfl (b.Turn) b.Next o.ID).trans e
    rw [if_neg (by omega), if_neg (by omega), if_neg (by omega), e2, if_neg (by omega)]
    unfold doesF
    dsimp only
    rw [if_neg (by omega), if_pos k4, lget_own _ _ _ hk]
    split
    · exact fun g => absurd g (by decide)
    · rw [if_pos (show (2 : Int) ≠ 1 by decide)]; exact fun g => absurd g (by decide)
  | close k k5 hk e hs2 =>
    have e2 := (slotK_set b k hk (⟨(lget b.Slots (k : Int)).Part, 3, (lget b.Slots (k : Int)).Host, (lget b.Slots (k : Int)).Turn⟩ : Slot) rfl (b.Turn) b.Next o.ID).trans e
    rw [if_neg (by omega), if_neg (by omega), if_neg (by omega), e2, if_neg (by omega)]
    unfold doesF
    dsimp only
    rw [if_neg (by omega), if_neg (by omega), if_pos k5, lget_own _ _ _ hk, if_pos (show (3 : Int) ≠ 2 by decide)]
    exact fun g => absurd g (by decide)
  | ends k k6 hk e hs3 =>
    have e2 := (slotK_set b k hk (⟨(lget b.Slots (k : Int)).Part, 0, 0, (lget b.Slots (k : Int)).Turn⟩ : Slot) rfl (b.Turn) b.Next o.ID).trans e
    rw [if_neg (by omega), if_neg (by omega), if_neg (by omega), e2, if_neg (by omega)]
    unfold doesF
    dsimp only
    rw [if_neg (by omega), if_neg (by omega), if_neg (by omega), if_pos k6, lget_own _ _ _ hk]
    split
    · exact fun g => absurd g (by decide)
    · rw [if_pos (show (0 : Int) ≠ 3 by decide)]; exact fun g => absurd g (by decide)
  | split k k7 hk e hs0 hr hne hin hl hn =>
    have hid := slotK_id hk e
    have hlt := (h.sok _ (lget_mem b.Slots (k : Int) (by omega))).1
    rw [if_neg (by omega), if_neg (by omega), if_neg (by omega), slotK_none, if_pos (Or.inl (by decide))]
    · decide
    · intro s hs2
      rcases List.mem_append.1 hs2 with hs2 | hs2
      · rcases List.mem_append.1 hs2 with hs2 | hs2
        · obtain ⟨j, hj, ej⟩ := (mem_take_lget (by omega)).1 hs2
          rw [← ej, ← hid]
          exact ids_ne h (by omega) hk (by omega)
        · rcases List.mem_cons.1 hs2 with e2 | hs2
          · rw [e2]; show b.Next ≠ o.ID; omega
          · rw [List.mem_singleton] at hs2
            rw [hs2]; show b.Next + 1 ≠ o.ID; omega
      · obtain ⟨j, hj, ej⟩ := mem_lget.1 hs2
        rw [List.length_drop] at hj
        have := lget_ldrop b.Slots ((k + 1 : Nat) : Int) (j : Int) (by omega)
        rw [ldrop_nat] at this
        rw [← ej, this, ← hid, show ((k + 1 : Nat) : Int) + (j : Int) = ((k + 1 + j : Nat) : Int) by omega]
        exact ids_ne h (by omega) hk (by omega)
  | join k k8 hk e hs0 hs1 hn =>
    have hid := slotK_id (by omega) e
    have hlt := (h.sok _ (lget_mem b.Slots (k : Int) (by omega))).1
    rw [if_neg (by omega), if_neg (by omega), if_neg (by omega), slotK_none, if_pos (Or.inl (by decide))]
    · decide
    · intro s hs2
      rcases List.mem_append.1 hs2 with hs2 | hs2
      · rcases List.mem_append.1 hs2 with hs2 | hs2
        · obtain ⟨j, hj, ej⟩ := (mem_take_lget (by omega)).1 hs2
          rw [← ej, ← hid]
          exact ids_ne h (by omega) (by omega) (by omega)
        · rw [List.mem_singleton] at hs2
          rw [hs2]; show b.Next ≠ o.ID; omega
      · obtain ⟨j, hj, ej⟩ := mem_lget.1 hs2
        rw [List.length_drop] at hj
        have := lget_ldrop b.Slots ((k + 2 : Nat) : Int) (j : Int) (by omega)
        rw [ldrop_nat] at this
        rw [← ej, this, ← hid, show ((k + 2 : Nat) : Int) + (j : Int) = ((k + 2 + j : Nat) : Int) by omega]
        exact ids_ne h (by omega) (by omega) (by omega)
/- whose turn it was -/
theorem Step.whose {b x : Board} {o : Order} (h : BG b) (hs : Step b o x) : ∀ s ∈ x.Slots, s.State ≠ 0 → (∃ y ∈ b.Slots, y.State ≠ 0 ∧ y.Turn = s.Turn ∧ y.Host = s.Host ∧ y.Part.ID = s.Part.ID) ∨ s.Turn = b.Turn + 1 := by
  have hset : ∀ (k : Nat) (z : Slot), k < b.Slots.length → (z.State ≠ 0 → (∃ y ∈ b.Slots, y.State ≠ 0 ∧ y.Turn = z.Turn ∧ y.Host = z.Host ∧ y.Part.ID = z.Part.ID) ∨ z.Turn = b.Turn + 1) → ∀ s ∈ lset b.Slots (k : Int) z, s.State ≠ 0 → (∃ y ∈ b.Slots, y.State ≠ 0 ∧ y.Turn = s.Turn ∧ y.Host = s.Host ∧ y.Part.ID = s.Part.ID) ∨ s.Turn = b.Turn + 1 := by
    intro k z hk hz s hs2 hne
    obtain ⟨m, hm, em⟩ := mem_lget.1 hs2
    rw [lset_len] at hm
    rw [lget_lset _ _ _ _ (by omega) (by omega)] at em
    by_cases e : m = k
    · rw [if_pos (by omega)] at em
      rw [← em] at hne ⊢; exact hz hne
    · rw [if_neg (by omega)] at em
      exact .inl ⟨s, mem_lget.2 ⟨m, hm, em⟩, hne, rfl, rfl, rfl⟩
  cases hs with
  | come k1 hi ha hk hl => exact fun s hs2 hne => .inl ⟨s, hs2, hne, rfl, rfl, rfl⟩
  | back k k1 hk hid he => exact fun s hs2 hne => .inl ⟨s, hs2, hne, rfl, rfl, rfl⟩
  | gone k k2 hk hid =>
    intro s hs2 hne
    obtain ⟨y, hy, e⟩ := List.mem_map.1 hs2
    unfold clr at e
    split at e
    · rw [← e] at hne; exact absurd rfl hne
    · rw [e] at hy; exact .inl ⟨s, hy, hne, rfl, rfl, rfl⟩
  | give k k3 hk e hh hs0 ht => exact hset k _ hk fun _ => .inr rfl
  | opens k k4 hk e hs1 => exact hset k _ hk fun _ => .inl ⟨_, lget_mem b.Slots (k : Int) (by omega), by omega, rfl, rfl, rfl⟩
  | close k k5 hk e hs2 => exact hset k _ hk fun _ => .inl ⟨_, lget_mem b.Slots (k : Int) (by omega), by omega, rfl, rfl, rfl⟩
  | ends k k6 hk e hs3 => exact hset k _ hk fun g => absurd rfl g
  | split k k7 hk e hs0 hr hne hin hl hn =>
    intro s hs2 hne
    rcases List.mem_append.1 hs2 with hs2 | hs2
    · rcases List.mem_append.1 hs2 with hs2 | hs2
      · exact .inl ⟨s, List.mem_of_mem_take hs2, hne, rfl, rfl, rfl⟩
      · exfalso
        rcases List.mem_cons.1 hs2 with e2 | hs2
        · rw [e2] at hne; exact hne rfl
        · rw [List.mem_singleton] at hs2
          rw [hs2] at hne; exact hne rfl
    · exact .inl ⟨s, List.mem_of_mem_drop hs2, hne, rfl, rfl, rfl⟩
  | join k k8 hk e hs0 hs1 hn =>
    intro s hs2 hne
    rcases List.mem_append.1 hs2 with hs2 | hs2
    · rcases List.mem_append.1 hs2 with hs2 | hs2
      · exact .inl ⟨s, List.mem_of_mem_take hs2, hne, rfl, rfl, rfl⟩
      · exfalso
        rw [List.mem_singleton] at hs2
        rw [hs2] at hne; exact hne rfl
    · exact .inl ⟨s, List.mem_of_mem_drop hs2, hne, rfl, rfl, rfl⟩
/- the turns given so far -/
structure TI (M1 M2 : List (Int × Int)) (b : Board) : Prop where
  good : BG b
  here : ∀ s ∈ b.Slots, s.State ≠ 0 → mget M1 s.Turn = some s.Host ∧ mget M2 s.Turn = some s.Part.ID
  old : ∀ t, (mget M1 t).isSome = true → t ≤ b.Turn
theorem one_has {b : Board} (h : BG b) (row : List UInt8) : ∃ c : Nat, c < b.Slots.length ∧ ∀ j : Nat, j < b.Slots.length → (hasP (lget b.Slots (j : Int)).Part row ↔ j = c) := by
  obtain ⟨c, hc, hall⟩ := ch_find row h.parts.ch (bl_nil row)
  have hp := parts_len b
  refine ⟨c, by omega, fun j hj => ?_⟩
  rw [← part_at b j hj]
  exact find_in hall j (by omega)
theorem keeps_in {x : Board} {f : Fault} (hg : BG x) (row : List UInt8) (c : Nat) (hc : c < x.Slots.length) (hone : ∀ j : Nat, j < x.Slots.length → (hasP (lget x.Slots (j : Int)).Part row ↔ j = c)) (v1 : (List (Int × Int)) × (List (Int × Int)) × Board × Int) : ∀ (m k : Nat) (M1 M2 : List (Int × Int)), x.Slots.length - k = m → k ≤ x.Slots.length →
    (∀ j : Nat, k ≤ j → j < x.Slots.length → (lget x.Slots (j : Int)).State ≠ 0 → ∀ v, mget M1 (lget x.Slots (j : Int)).Turn = some v → v = (lget x.Slots (j : Int)).Host ∧ mget M2 (lget x.Slots (j : Int)).Turn = some (lget x.Slots (j : Int)).Part.ID) →
    (∀ j : Nat, j < k → (lget x.Slots (j : Int)).State ≠ 0 → mget M1 (lget x.Slots (j : Int)).Turn = some (lget x.Slots (j : Int)).Host ∧ mget M2 (lget x.Slots (j : Int)).Turn = some (lget x.Slots (j : Int)).Part.ID) →
    (∀ t, (mget M1 t).isSome = true → t ≤ x.Turn) →
    ∃ M1' M2', TI M1' M2' x ∧ law_AssignKeeps_L2 row v1 (x, f) (M1, M2, (if c < k then 1 else 0), (k : Int)) = some (.inl (M1', M2', x, w64 (v1.2.2.2 + 1)))
  | 0, k, M1, M2, hm, hk, p1, p2, p3 => by
    have hsl := slot_len (bg_iff.2 hg)
    have : k = x.Slots.length := by omega
    subst this
    refine ⟨M1, M2, ⟨hg, fun s hs hne => ?_, p3⟩, ?_⟩
    · obtain ⟨j, hj, ej⟩ := mem_lget.1 hs
      rw [← ej] at hne ⊢
      exact p2 j hj hne
    · refine loopO_inr ?_
      unfold law_AssignKeeps_B2
      dsimp only
      rw [if_neg (d_f (by omega)), if_pos hc]
      unfold law_AssignKeeps_J3 law_AssignKeeps_J2
      dsimp only
      rw [if_neg (n_f rfl)]; rfl
  | m + 1, k, M1, M2, hm, hk, p1, p2, p3 => by
    have hsl := slot_len (bg_iff.2 hg)
    have hl := hg.hosts
    have hlt : k < x.Slots.length := by omega
    have hw : w64 ((k : Int) + 1) = ((k + 1 : Nat) : Int) := by rw [w64_id (by omega) (by omega)]; omega
    have hs := hg.sok _ (lget_mem x.Slots (k : Int) (by omega))
    have hn : (if hasP (lget x.Slots (k : Int)).Part row then w64 ((if c < k then 1 else 0) + 1) else (if c < k then (1 : Int) else 0)) = if c < k + 1 then 1 else 0 := by
      by_cases e : k = c
      · rw [if_pos ((hone k hlt).2 e), if_neg (by omega), if_pos (by omega)]; rfl
      · rw [if_neg (fun g => e ((hone k hlt).1 g))]
        by_cases g : c < k
        · rw [if_pos g, if_pos (by omega)]
        · rw [if_neg g, if_neg (by omega)]
    have hbody : ∀ (M1' M2' : List (Int × Int)), law_AssignKeeps_B2 row v1 (x, f) (M1, M2, (if c < k then 1 else 0), (k : Int)) = some (.inl (M1', M2', (if c < k + 1 then 1 else 0), ((k + 1 : Nat) : Int))) → law_AssignKeeps_L2 row v1 (x, f) (M1, M2, (if c < k then 1 else 0), (k : Int)) = law_AssignKeeps_L2 row v1 (x, f) (M1', M2', (if c < k + 1 then 1 else 0), ((k + 1 : Nat) : Int)) := fun M1' M2' h => loopO_inl h
    have hnb : (if (decide (hasP (lget x.Slots (k : Int)).Part row)) = true then some (w64 ((if c < k then 1 else 0) + 1)) else some (if c < k then (1 : Int) else 0)) = some (if c < k + 1 then 1 else 0) := by
      rw [← hn]
      by_cases e : hasP (lget x.Slots (k : Int)).Part row
      · rw [if_pos (d_t e), if_pos e]
      · rw [if_neg (d_f e), if_neg e]
    have hpe : (⟨(lget x.Slots (k : Int)).Part.From, (lget x.Slots (k : Int)).Part.To, (lget x.Slots (k : Int)).Part.ID⟩ : Part) = (lget x.Slots (k : Int)).Part := rfl
    by_cases c0 : (lget x.Slots (k : Int)).State = 0
    · have hb : law_AssignKeeps_B2 row v1 (x, f) (M1, M2, (if c < k then 1 else 0), (k : Int)) = some (.inl (M1, M2, (if c < k + 1 then 1 else 0), ((k + 1 : Nat) : Int))) := by
        unfold law_AssignKeeps_B2
        dsimp only [lt]
        rw [if_pos (d_t (by omega)), asrt_pos (by omega), hpe, inPart_eq, hnb, ob_some, if_pos (d_t c0)]
        unfold law_AssignKeeps_J4
        dsimp only
        rw [hw]
      rw [hbody _ _ hb]
      refine keeps_in hg row c hc hone v1 m (k + 1) M1 M2 (by omega) (by omega) (fun j h1 h2 => p1 j (by omega) h2) (fun j h1 hne => ?_) p3
      by_cases e : j = k
      · rw [e] at hne; exact absurd c0 hne
      · exact p2 j (by omega) hne
    · obtain ⟨hh, hT⟩ := hs.2.2 c0
      have hat := (hostAt_iff x (lget x.Slots (k : Int)).Host).2 hh
      have hp1 := p1 k (Nat.le_refl _) hlt c0
      have hf : ((mget M1 (lget x.Slots (k : Int)).Turn).isSome && ((!decide (((mget M1 (lget x.Slots (k : Int)).Turn).getD (0 : Int)) = (lget x.Slots (k : Int)).Host)) || (!decide (((mget M2 (lget x.Slots (k : Int)).Turn).getD (0 : Int)) = (lget x.Slots (k : Int)).Part.ID)))) = false := by
        cases g : mget M1 (lget x.Slots (k : Int)).Turn with
        | none => rfl
        | some v =>
          obtain ⟨e1, e2⟩ := hp1 v g
          rw [e2, e1]; simp
      have hb : law_AssignKeeps_B2 row v1 (x, f) (M1, M2, (if c < k then 1 else 0), (k : Int)) = some (.inl (mput M1 (lget x.Slots (k : Int)).Turn (lget x.Slots (k : Int)).Host, mput M2 (lget x.Slots (k : Int)).Turn (lget x.Slots (k : Int)).Part.ID, (if c < k + 1 then 1 else 0), ((k + 1 : Nat) : Int))) := by
        unfold law_AssignKeeps_B2
        dsimp only [lt]
        rw [if_pos (d_t (by omega)), asrt_pos (by omega), hpe, inPart_eq, hnb, ob_some, if_neg (d_f c0), hf, if_pos (by decide), hostIn_eq x (by omega), ob_some, if_neg (by simp; omega)]
        unfold law_AssignKeeps_J4
        dsimp only
        rw [hw]
      have hne2 : ∀ j : Nat, j < x.Slots.length → j ≠ k → (lget x.Slots (k : Int)).Turn ≠ (lget x.Slots (j : Int)).Turn := fun j hj hjk e => hg.turn_ne hlt (by have := hs.1; omega) j hj hjk e.symm
      rw [hbody _ _ hb]
      refine keeps_in hg row c hc hone v1 m (k + 1) _ _ (by omega) (by omega) (fun j h1 h2 => ?_) (fun j h1 hne => ?_) (fun t => ?_)
      · rw [G.mget_mput, G.mget_mput, if_neg (hne2 j h2 (by omega)), if_neg (hne2 j h2 (by omega))]
        exact p1 j (by omega) h2
      · rw [G.mget_mput, G.mget_mput]
        by_cases e : j = k
        · rw [e, if_pos rfl, if_pos rfl]; exact ⟨rfl, rfl⟩
        · rw [if_neg (hne2 j (by omega) e), if_neg (hne2 j (by omega) e)]
          exact p2 j (by omega) hne
      · rw [G.mget_mput]
        split
        · rename_i e
          intro _
          rw [← e]; exact hs.1.2.2.2.1
        · exact p3 t
theorem keeps_loop (os : List Order) (hos : os.length ≤ 150) (row : List UInt8) : ∀ (m i : Nat) (M1 M2 : List (Int × Int)) (b : Board), os.length - i = m → i ≤ os.length → TI M1 M2 b → law_AssignKeeps_L1 os row (M1, M2, b, (i : Int)) = some true
  | 0, i, M1, M2, b, hm, hi, ht => by
    have : i = os.length := by omega
    subst this
    refine loopO_inr ?_
    unfold law_AssignKeeps_B1
    dsimp only
    rw [if_neg (d_f (by omega))]; rfl
  | m + 1, i, M1, M2, b, hm, hi, ht => by
    have hlt : i < os.length := by omega
    have hg := ht.good
    have hsl := slot_len (bg_iff.2 hg)
    have hl := hg.hosts
    have hw : w64 ((i : Int) + 1) = ((i + 1 : Nat) : Int) := by rw [w64_id (by omega) (by omega)]; omega
    have ho : (⟨(lget os (i : Int)).Kind, (lget os (i : Int)).ID, (lget os (i : Int)).Host, (lget os (i : Int)).Turn, (lget os (i : Int)).Row⟩ : Order) = lget os (i : Int) := rfl
    have hst : ∀ w, law_AssignKeeps_B1 os row (M1, M2, b, (i : Int)) = some (.inl w) → law_AssignKeeps_L1 os row (M1, M2, b, (i : Int)) = law_AssignKeeps_L1 os row w := fun w h => loopO_inl h
    rcases ordF_so hg (lget os (i : Int)) with ⟨e, hs⟩ | ⟨e, _⟩
    · have hx := hs.good hg
      have hag := again hg hs
      have htu := hs.turn
      generalize hx0 : (ordF b (lget os (i : Int))).1 = x at hs hx hag htu
      have hxl := slot_len (bg_iff.2 hx)
      have hxh := hx.hosts
      obtain ⟨c, hc, hone⟩ := one_has hx row
      have hr : ordF b (lget os (i : Int)) = (x, ⟨0, 0⟩) := by rw [← hx0, ← e]
      have hP1 : ∀ j : Nat, 0 ≤ j → j < x.Slots.length → (lget x.Slots (j : Int)).State ≠ 0 → ∀ v, mget M1 (lget x.Slots (j : Int)).Turn = some v → v = (lget x.Slots (j : Int)).Host ∧ mget M2 (lget x.Slots (j : Int)).Turn = some (lget x.Slots (j : Int)).Part.ID := by
        intro j _ hj hne v hv
        rcases hs.whose hg _ (lget_mem x.Slots (j : Int) (by omega)) hne with ⟨y, hy, h1, h2, h3, h4⟩ | h1
        · obtain ⟨g1, g2⟩ := ht.here y hy h1
          rw [h2] at g1 g2
          rw [g1] at hv
          rw [g2, ← h3, ← h4]
          cases hv
          exact ⟨rfl, rfl⟩
        · have := ht.old _ (show (mget M1 (lget x.Slots (j : Int)).Turn).isSome = true by rw [hv]; rfl)
          omega
      obtain ⟨M1', M2', hT, hL⟩ := keeps_in (f := ⟨0, 0⟩) hx row c hc hone (M1, M2, b, (i : Int)) x.Slots.length 0 M1 M2 (by omega) (by omega) hP1 (fun j hj => absurd hj (by omega)) (fun t h => by have := ht.old t h; omega)
      rw [if_neg (by omega), hw] at hL
      rw [hst (M1', M2', x, ((i + 1 : Nat) : Int)) ?_]
      · exact keeps_loop os hos row m (i + 1) M1' M2' x (by omega) (by omega) hT
      · unfold law_AssignKeeps_B1
        dsimp only
        rw [if_pos (d_t (by omega)), asrt_pos (by omega), ho, do_eq b (by omega) (by omega), ob_some, hr]
        dsimp only
        rw [if_neg (n_f rfl), asrt_pos (by omega), do_eq x (by omega) (by omega), ob_some, decide_eq_false hag, decide_eq_false (show ¬ x.Turn < b.Turn by omega), decide_eq_false (show ¬ x.Next < b.Next by omega), if_pos (by decide), rboard_eq x (by omega), ob_some, good0 hx, if_neg (by decide)]
        exact hL
    · rw [hst (M1, M2, b, ((i + 1 : Nat) : Int)) ?_]
      · exact keeps_loop os hos row m (i + 1) M1 M2 b (by omega) (by omega) ht
      · unfold law_AssignKeeps_B1
        dsimp only
        rw [if_pos (d_t (by omega)), asrt_pos (by omega), ho, do_eq b (by omega) (by omega), ob_some, if_pos (n_t e)]
        unfold law_AssignKeeps_J2
        dsimp only
        rw [hw]
theorem AssignKeeps_eq (os : List Order) (row : List UInt8) : law_AssignKeeps os row = some true := by
  unfold law_AssignKeeps
  rw [begun_eq, ob_some, if_neg (by decide)]
  by_cases c : 150 < os.length
  · rw [if_pos (d_t (by omega))]
  · rw [if_neg (d_f (by omega))]
    exact keeps_loop os (by omega) row os.length 0 [] [] newB (by omega) (by omega) ⟨new_good, fun s hs hne => by simp [newB] at hs; subst hs; exact absurd rfl hne, fun t h => by simp [mget] at h⟩
end G
end Go.Proofs.Ytdjlninhfndjfaa
