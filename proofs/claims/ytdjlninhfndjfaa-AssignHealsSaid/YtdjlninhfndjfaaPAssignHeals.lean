/- AssignHeals. -/
import Derived.Test.YtdjlninhfndjfaaPAssU
namespace Go.Proofs.Ytdjlninhfndjfaa
open Go Go.Dm
set_option linter.unusedVariables false
set_option linter.unusedSimpArgs false
namespace G
/-- what is opening opens, what is closing is off -/
def fixS (s : Slot) : Slot := if s.State = 1 then ⟨s.Part, 2, s.Host, s.Turn⟩ else if s.State = 3 then ⟨s.Part, 0, 0, s.Turn⟩ else s
theorem fixS_part (s : Slot) : (fixS s).Part = s.Part := by 
  unfold fixS
  split
  · rfl
  · split <;> rfl
theorem slotK_at {b : Board} (h : BG b) {k : Nat} (hk : k < b.Slots.length) : slotK b (lget b.Slots (k : Int)).Part.ID = (k : Int) := by
  unfold slotK
  rcases firstFrom_cases (slotJ b (lget b.Slots (k : Int)).Part.ID) (-1) b.Slots.length 0 with ⟨g, _⟩ | ⟨j, x, h1, h2, h3, h4, e⟩
  · have := g k (Nat.zero_le _) (by omega)
    unfold slotJ at this
    rw [if_pos rfl] at this; cases this
  · rw [e]
    unfold slotJ at h3
    split at h3
    · rename_i c
      cases h3
      by_cases hjk : j = k
      · rw [hjk]
      · exfalso
        have hn := h.parts.ids
        unfold List.Nodup partsOf at hn
        rw [List.pairwise_map, List.pairwise_map] at hn
        rcases Nat.lt_or_gt_of_ne hjk with g | g
        · exact pw_iff.1 hn j k g hk c
        · exact pw_iff.1 hn k j g (by omega) c.symm
    · cases h3
theorem ord_of {b : Board} (h : BG b) (o : Order) (h3 : 3 ≤ o.Kind) (h8 : o.Kind < 8) {k : Nat} (hk : k < b.Slots.length) (hid : o.ID = (lget b.Slots (k : Int)).Part.ID) : ordF b o = doesF b o (k : Int) := by
  unfold ordF
  rw [if_neg (not_not_intro (boardF_good.2 (bg_iff.2 h))), if_neg (by omega), if_neg (by omega), if_neg (by omega), hid, slotK_at h hk, if_neg (by omega)]
theorem fix_do {b : Board} (h : BG b) {k : Nat} (hk : k < b.Slots.length) (kd : Int) (hkd : kd = if (lget b.Slots (k : Int)).State = 3 then 6 else if (lget b.Slots (k : Int)).State = 1 then 4 else 0) (h0 : 0 < kd) :
    ordF b ⟨kd, (lget b.Slots (k : Int)).Part.ID, (lget b.Slots (k : Int)).Host, (lget b.Slots (k : Int)).Turn, []⟩ = (⟨b.Hosts, lset b.Slots (k : Int) (fixS (lget b.Slots (k : Int))), b.Turn, b.Next⟩, ⟨0, 0⟩) := by
  have h46 : kd = 4 ∨ kd = 6 := by
    split at hkd
    · exact .inr hkd
    · split at hkd
      · exact .inl hkd
      · omega
  rw [ord_of h _ (by show 3 ≤ kd; omega) (by show kd < 8; omega) hk rfl]
  unfold doesF setF fixS
  dsimp only
  by_cases c3 : (lget b.Slots (k : Int)).State = 3
  · rw [if_pos c3] at hkd
    rw [if_neg (by omega), if_neg (by omega), if_neg (by omega), if_pos hkd, if_neg (by simp), if_neg (not_not_intro c3), if_neg (by omega), if_pos c3]
  · rw [if_neg c3] at hkd
    by_cases c1 : (lget b.Slots (k : Int)).State = 1
    · rw [if_pos c1] at hkd
      rw [if_neg (by omega), if_pos hkd, if_neg (by simp), if_neg (not_not_intro c1), if_pos c1]
    · rw [if_neg c1] at hkd; omega
theorem fixS_same {s : Slot} (h1 : s.State ≠ 1) (h3 : s.State ≠ 3) : fixS s = s := by unfold fixS; rw [if_neg h1, if_neg h3]
theorem lset_same {α : Type} [Inhabited α] (l : List α) (k : Nat) (hk : k < l.length) : lset l (k : Int) (lget l (k : Int)) = l := by
  refine list_ext (by rw [lset_len]) fun j hj => ?_
  rw [lset_len] at hj
  rw [lget_lset _ _ _ _ (by omega) (by omega)]
  split
  · rename_i e; rw [e]
  · rfl
/-- the slots behind so many turns of that -/
def fixTo (l : List Slot) (k : Nat) : List Slot := (l.take k).map fixS ++ l.drop k
theorem fixTo_len (l : List Slot) (k : Nat) : (fixTo l k).length = l.length := by simp [fixTo]; omega
theorem fixTo_get (l : List Slot) (k : Nat) (hk : k < l.length) : lget (fixTo l k) (k : Int) = lget l (k : Int) := by
  unfold fixTo
  rw [lget_app_r _ _ _ (by simp; omega), lget_drop l k hk]
  have : ((k : Int) - (((l.take k).map fixS).length : Int)) = 0 := by simp; omega
  rw [this]; rfl
theorem fixTo_succ (l : List Slot) (k : Nat) (hk : k < l.length) : fixTo l (k + 1) = lset (fixTo l k) (k : Int) (fixS (lget l (k : Int))) := by
  unfold fixTo
  have h1 : ((l.take k).map fixS).length = k := by simp; omega
  have := lset_mid ((l.take k).map fixS) (lget l (k : Int)) (fixS (lget l (k : Int))) (l.drop (k + 1))
  rw [h1] at this
  rw [lget_take l k hk, List.map_append, List.append_assoc]
  rw [lget_drop l k hk, this]; rfl
theorem fix_good {b : Board} (h : BG b) {k : Nat} (hk : k < b.Slots.length) : BG ⟨b.Hosts, lset b.Slots (k : Int) (fixS (lget b.Slots (k : Int))), b.Turn, b.Next⟩ := by
  have hs := h.sok _ (lget_mem b.Slots (k : Int) (by omega))
  by_cases c3 : (lget b.Slots (k : Int)).State = 3
  · have e := fix_do h hk 6 (by rw [if_pos c3]) (by decide)
    rcases ordF_so h ⟨6, (lget b.Slots (k : Int)).Part.ID, (lget b.Slots (k : Int)).Host, (lget b.Slots (k : Int)).Turn, []⟩ with ⟨_, g⟩ | ⟨g, _⟩
    · rw [e] at g; exact g.good h
    · rw [e] at g; exact absurd rfl g
  · by_cases c1 : (lget b.Slots (k : Int)).State = 1
    · have e := fix_do h hk 4 (by rw [if_neg c3, if_pos c1]) (by decide)
      rcases ordF_so h ⟨4, (lget b.Slots (k : Int)).Part.ID, (lget b.Slots (k : Int)).Host, (lget b.Slots (k : Int)).Turn, []⟩ with ⟨_, g⟩ | ⟨g, _⟩
      · rw [e] at g; exact g.good h
      · rw [e] at g; exact absurd rfl g
    · rw [fixS_same c1 c3, lset_same _ _ hk]; exact h
theorem fixTo_good {b : Board} (h : BG b) : ∀ k : Nat, k ≤ b.Slots.length → BG ⟨b.Hosts, fixTo b.Slots k, b.Turn, b.Next⟩
  | 0, _ => h
  | k + 1, hk => by
    have ih := fixTo_good h k (by omega)
    have := fix_good (b := ⟨b.Hosts, fixTo b.Slots k, b.Turn, b.Next⟩) ih (k := k) (by show k < (fixTo b.Slots k).length; rw [fixTo_len]; omega)
    dsimp only at this
    rw [fixTo_get b.Slots k (by omega)] at this
    rw [fixTo_succ b.Slots k (by omega)]
    exact this
/-- the first loop of a turn -/
theorem heal_fix {b : Board} (h : BG b) (t : Int) (v4 : Board × Int) : ∀ v, law_AssignHeals_J4 v4 ⟨b.Hosts, b.Slots.map fixS, b.Turn, b.Next⟩ = some v → law_AssignHeals_L4 v4 (b, 0) = some v := by
  intro v hv
  have hsl := slot_len (bg_iff.2 h)
  have hl := h.hosts
  refine loop_run (step := fun y => law_AssignHeals_B4 v4 y) b.Slots.length (fun k => (⟨b.Hosts, fixTo b.Slots k, b.Turn, b.Next⟩, (k : Int))) (fun k hk => ?_) ?_
  · have hw : w64 ((k : Int) + 1) = ((k + 1 : Nat) : Int) := by rw [w64_id (by omega) (by omega)]; omega
    have hg := fixTo_good h k (by omega)
    have hlen := fixTo_len b.Slots k
    have hget := fixTo_get b.Slots k hk
    show law_AssignHeals_B4 v4 (⟨b.Hosts, fixTo b.Slots k, b.Turn, b.Next⟩, (k : Int)) = _
    unfold law_AssignHeals_B4
    dsimp only
    rw [if_pos (d_t (by omega)), asrt_pos (by omega), hget]
    have hkd : (ob (if (decide ((lget b.Slots (k : Int)).State = 1)) = true then some (4 : Int) else some 0) fun (v9 : Int) => ob (if (decide ((lget b.Slots (k : Int)).State = 3)) = true then some (6 : Int) else some v9) fun (v10 : Int) => some v10) = some (if (lget b.Slots (k : Int)).State = 3 then 6 else if (lget b.Slots (k : Int)).State = 1 then 4 else 0) := by
      by_cases c3 : (lget b.Slots (k : Int)).State = 3
      · rw [if_neg (d_f (by omega)), ob_some, if_pos (d_t c3), if_pos c3]; rfl
      · by_cases c1 : (lget b.Slots (k : Int)).State = 1
        · rw [if_pos (d_t c1), ob_some, if_neg (d_f c3), if_neg c3, if_pos c1]; rfl
        · rw [if_neg (d_f c1), ob_some, if_neg (d_f c3), if_neg c3, if_neg c1]; rfl
    have hfin : ∀ v10 : Int, v10 = (if (lget b.Slots (k : Int)).State = 3 then 6 else if (lget b.Slots (k : Int)).State = 1 then 4 else 0) →
        (if (decide (0 < v10)) = true then
          ob (assign_Do_v1 ⟨b.Hosts, fixTo b.Slots k, b.Turn, b.Next⟩ (⟨v10, ((lget b.Slots (k : Int)).Part).ID, (lget b.Slots (k : Int)).Host, (lget b.Slots (k : Int)).Turn, ([] : List UInt8)⟩ : Order)) fun x4 =>
          if ((!decide (x4.2.Code = 0)) || (!decide ((x4.1.Slots.length : Int) = ((fixTo b.Slots k).length : Int)))) = true then
            some (Sum.inr (Sum.inr false))
          else
            law_AssignHeals_J6 (⟨b.Hosts, fixTo b.Slots k, b.Turn, b.Next⟩, (k : Int)) x4.1
        else
          law_AssignHeals_J6 (⟨b.Hosts, fixTo b.Slots k, b.Turn, b.Next⟩, (k : Int)) ⟨b.Hosts, fixTo b.Slots k, b.Turn, b.Next⟩) = some (.inl (⟨b.Hosts, fixTo b.Slots (k + 1), b.Turn, b.Next⟩, ((k + 1 : Nat) : Int))) := by
      intro v10 e10
      rw [fixTo_succ b.Slots k hk]
      by_cases c0 : 0 < v10
      · have hd := fix_do (b := ⟨b.Hosts, fixTo b.Slots k, b.Turn, b.Next⟩) hg (k := k) (by show k < (fixTo b.Slots k).length; omega) v10 (by dsimp only; rw [hget]; exact e10) c0
        dsimp only at hd
        rw [hget] at hd
        rw [if_pos (d_t c0), do_eq _ (by show b.Hosts.length ≤ 100000; omega) (by show (fixTo b.Slots k).length ≤ 100000; omega), ob_some, hd]
        dsimp only
        rw [if_neg (by rw [lset_len]; simp)]
        unfold law_AssignHeals_J6
        dsimp only
        rw [hw]
      · have hc3 : (lget b.Slots (k : Int)).State ≠ 3 := fun g => by rw [if_pos g] at e10; omega
        have hc1 : (lget b.Slots (k : Int)).State ≠ 1 := fun g => by rw [if_neg hc3, if_pos g] at e10; omega
        rw [if_neg (d_f c0), fixS_same hc1 hc3]
        have := lset_same (fixTo b.Slots k) k (by omega)
        rw [hget] at this
        rw [this]
        unfold law_AssignHeals_J6
        dsimp only
        rw [hw]
    by_cases c3 : (lget b.Slots (k : Int)).State = 3
    · rw [if_neg (d_f (by omega)), ob_some, if_pos (d_t c3), ob_some]
      exact hfin 6 (by rw [if_pos c3])
    · by_cases c1 : (lget b.Slots (k : Int)).State = 1
      · rw [if_pos (d_t c1), ob_some, if_neg (d_f c3), ob_some]
        exact hfin 4 (by rw [if_neg c3, if_pos c1])
      · rw [if_neg (d_f c1), ob_some, if_neg (d_f c3), ob_some]
        exact hfin 0 (by rw [if_neg c3, if_neg c1])
  · have hlen := fixTo_len b.Slots b.Slots.length
    have e : fixTo b.Slots b.Slots.length = b.Slots.map fixS := by unfold fixTo; rw [List.take_length, List.drop_length, List.append_nil]
    show law_AssignHeals_B4 v4 (⟨b.Hosts, fixTo b.Slots b.Slots.length, b.Turn, b.Next⟩, (b.Slots.length : Int)) = _
    unfold law_AssignHeals_B4
    dsimp only
    rw [if_neg (d_f (by omega)), e, hv]; rfl
/- what is due, done -/
theorem due_none {H : List Host} : ∀ (B A : List Slot), ((∀ h ∈ H, h.Alive = false) ∨ ∀ s ∈ B, s.State ≠ 0) → dueF H A B = []
  | [], A, _ => rfl
  | s :: B, A, h => by
    rw [dueF, if_neg]
    · exact due_none B _ (h.imp id fun g x hx => g x (by simp [hx]))
    · rintro ⟨g1, g2⟩
      rcases h with h | h
      · rcases pick_in (cntS (A ++ s :: B)) H 0 with e | ⟨x, hx, ha, _⟩
        · omega
        · rw [h x hx] at ha; cases ha
      · exact h s (by simp) g1
theorem due_exec {os : List Order} {f : Fault} (hos : os.length ≤ 1000) (v4 : Board × Int) (there : ∀ b : Board, Prop) : ∀ (B A C : List Slot) (b : Board) (i : Nat), b.Slots = C ++ B → BG b → (∃ h ∈ b.Hosts, h.Alive = true) → b.Turn + B.length < 1000000000 → i ≤ os.length → os.drop i = dueF b.Hosts A B →
    (∀ s ∈ C, s.State = 1 ∨ s.State = 2) → (∀ s ∈ B, s.State = 0 ∨ s.State = 2) →
    ∃ b', law_AssignHeals_L3 v4 (os, f) (b, (i : Int)) = some (.inl (b', w64 (v4.2 + 1))) ∧ BG b' ∧ b'.Hosts = b.Hosts ∧ (∀ s ∈ b'.Slots, s.State = 1 ∨ s.State = 2)
  | [], A, C, b, i, hb, hg, ht, hn, hi, hd, hC, hB => by
    have : os.length ≤ i := List.drop_eq_nil_iff.1 hd
    refine ⟨b, ?_, hg, rfl, fun s hs => hC s (by rw [hb] at hs; simpa using hs)⟩
    refine loopO_inr ?_
    unfold law_AssignHeals_B3
    dsimp only
    rw [if_neg (d_f (by omega))]; rfl
  | s :: B, A, C, b, i, hb, hg, ht, hn, hi, hd, hC, hB => by
    rw [List.length_cons] at hn
    have hsl := slot_len (bg_iff.2 hg)
    have hhl := hg.hosts
    rw [dueF] at hd
    by_cases c0 : s.State = 0
    · have hids : ∀ h ∈ b.Hosts, 1 ≤ h.ID := fun h hh => (hg.hid h hh).1.1
      have hp := pick_pos (cntS (A ++ s :: B)) b.Hosts 0 hids (Int.le_refl _) (.inl ht)
      have hin := pick_in (cntS (A ++ s :: B)) b.Hosts 0
      rw [if_pos ⟨c0, hp⟩] at hd
      generalize pickF (cntS (A ++ s :: B)) b.Hosts 0 = p at hd hp hin
      have hlt : i < os.length := by
        apply Decidable.byContradiction
        intro c
        rw [List.drop_eq_nil_of_le (by omega)] at hd; cases hd
      rw [lget_drop os i hlt] at hd
      injection hd with ho hd
      have hk : C.length < b.Slots.length := by rw [hb]; simp
      have hgk : lget b.Slots (C.length : Int) = s := by
        rw [hb, lget_app_r _ _ _ (Int.le_refl _), Int.sub_self]; rfl
      have hhost : 0 ≤ hostAt b p := by
        rcases hin with e | ⟨x, hx, ha, e⟩
        · omega
        · exact (hostAt_iff b p).2 ⟨x, hx, e.symm, ha⟩
      have hord : ordF b ⟨3, s.Part.ID, p, 0, []⟩ = (⟨b.Hosts, C ++ ⟨s.Part, 1, p, b.Turn + 1⟩ :: B, b.Turn + 1, b.Next⟩, ⟨0, 0⟩) := by
        rw [ord_of hg _ (by show (3 : Int) ≤ 3; decide) (by show (3 : Int) < 8; decide) hk (by rw [hgk])]
        unfold doesF setF
        dsimp only
        rw [hgk, if_pos rfl, if_neg (by omega), if_neg (not_not_intro c0), if_neg (by omega)]
        have := lset_mid C s (⟨s.Part, 1, p, b.Turn + 1⟩ : Slot) B
        rw [← hb] at this
        rw [this]
      have hg2 : BG ⟨b.Hosts, C ++ ⟨s.Part, 1, p, b.Turn + 1⟩ :: B, b.Turn + 1, b.Next⟩ := by
        rcases ordF_so hg ⟨3, s.Part.ID, p, 0, []⟩ with ⟨_, g⟩ | ⟨g, _⟩
        · rw [hord] at g; exact g.good hg
        · rw [hord] at g; exact absurd rfl g
      have hw : w64 ((i : Int) + 1) = ((i + 1 : Nat) : Int) := by rw [w64_id (by omega) (by omega)]; omega
      obtain ⟨b', e1, e2, e3, e4⟩ := due_exec (f := f) hos v4 there B (A ++ [⟨s.Part, 1, p, s.Turn⟩]) (C ++ [⟨s.Part, 1, p, b.Turn + 1⟩]) ⟨b.Hosts, C ++ ⟨s.Part, 1, p, b.Turn + 1⟩ :: B, b.Turn + 1, b.Next⟩ (i + 1) (by rw [List.append_assoc]; rfl) hg2 ht (by dsimp only; omega) (by omega) hd (fun x hx => by
        rcases List.mem_append.1 hx with hx | hx
        · exact hC x hx
        · rw [List.mem_singleton] at hx; rw [hx]; exact .inl rfl) (fun x hx => hB x (by simp [hx]))
      refine ⟨b', ?_, e2, e3, e4⟩
      have hst : law_AssignHeals_B3 v4 (os, f) (b, (i : Int)) = some (.inl (⟨b.Hosts, C ++ ⟨s.Part, 1, p, b.Turn + 1⟩ :: B, b.Turn + 1, b.Next⟩, ((i + 1 : Nat) : Int))) := by
        have hoe : (⟨(lget os (i : Int)).Kind, (lget os (i : Int)).ID, (lget os (i : Int)).Host, (lget os (i : Int)).Turn, (lget os (i : Int)).Row⟩ : Order) = ⟨3, s.Part.ID, p, 0, []⟩ := ho
        unfold law_AssignHeals_B3
        dsimp only
        rw [if_pos (d_t (by omega)), asrt_pos (by omega), hoe, do_eq b (by omega) (by omega), ob_some, hord, hw]
        dsimp only
        rw [if_neg (n_f rfl)]
      unfold law_AssignHeals_L3 at e1 ⊢
      rw [loopO_inl hst]
      exact e1
    · rw [if_neg (fun g => c0 g.1)] at hd
      refine due_exec hos v4 there B (A ++ [s]) (C ++ [s]) b i (by rw [hb, List.append_assoc]; rfl) hg ht (by omega) hi hd (fun x hx => ?_) (fun x hx => hB x (by simp [hx]))
      rcases List.mem_append.1 hx with hx | hx
      · exact hC x hx
      · rw [List.mem_singleton] at hx
        rw [hx]
        exact .inr ((hB s (by simp)).resolve_left c0)
theorem due_J4 {b : Board} (h : BG b) (v4 : Board × Int) (hd : dueF b.Hosts [] b.Slots = []) : law_AssignHeals_J4 v4 b = some (.inl (b, w64 (v4.2 + 1))) := by
  have hsl := slot_len (bg_iff.2 h)
  unfold law_AssignHeals_J4
  rw [due_eq b (by omega), if_pos (good0 h), hd, ob_some]
  rw [if_neg (by simp)]
  refine loopO_inr ?_
  unfold law_AssignHeals_B3
  dsimp only
  rw [if_neg (d_f (by simp))]; rfl
theorem fix_all {b : Board} (h : BG b) : BG ⟨b.Hosts, b.Slots.map fixS, b.Turn, b.Next⟩ := by
  have := fixTo_good h b.Slots.length (Nat.le_refl _)
  have e : fixTo b.Slots b.Slots.length = b.Slots.map fixS := by unfold fixTo; rw [List.take_length, List.drop_length, List.append_nil]
  rw [e] at this; exact this
theorem fix_state {b : Board} (h : BG b) : ∀ s ∈ b.Slots.map fixS, s.State = 0 ∨ s.State = 2 := by
  intro s hs
  obtain ⟨y, hy, e⟩ := List.mem_map.1 hs
  have := (h.sok y hy).1
  rw [← e]
  unfold fixS
  split
  · exact .inr rfl
  · split
    · exact .inl rfl
    · omega
theorem heal_end {b : Board} (h : BG b) (v : Bool) (hv : ∀ s ∈ b.Slots, (decide (s.State = 2) == v) = true) : law_AssignHeals_J2 v b = some true := by
  have hsl := slot_len (bg_iff.2 h)
  refine loop_run (step := fun y => law_AssignHeals_B1 v b y) b.Slots.length (fun k => (k : Int)) (fun k hk => ?_) ?_
  · have hw : w64 ((k : Int) + 1) = ((k + 1 : Nat) : Int) := by rw [w64_id (by omega) (by omega)]; omega
    show law_AssignHeals_B1 v b (k : Int) = _
    unfold law_AssignHeals_B1
    rw [if_pos (d_t (by omega)), asrt_pos (by omega), hv _ (lget_mem b.Slots (k : Int) (by omega)), if_neg (by decide), hw]
  · have hne := ch_ne h.parts.ch
    have hp := parts_len b
    have : b.Slots.length ≠ 0 := fun g => hne (List.eq_nil_of_length_eq_zero (by omega))
    show law_AssignHeals_B1 v b (b.Slots.length : Int) = _
    unfold law_AssignHeals_B1 law_AssignHeals_J3
    rw [if_neg (d_f (by omega)), decide_eq_true (show (0 : Int) < (b.Slots.length : Int) by omega)]; rfl
theorem heal_two {b : Board} (h : BG b) (ht : b.Turn < 900000000) : law_AssignHeals_L2 (b.Hosts.any fun h => h.Alive) (b, 0) = some true := by
  have hB : ∀ (t : Int) (c : Board), t < 2 → law_AssignHeals_B2 (b.Hosts.any fun h => h.Alive) (c, t) = law_AssignHeals_L4 (c, t) (c, 0) := by
    intro t c htt
    unfold law_AssignHeals_B2
    rw [if_pos (d_t htt)]
  have hE : ∀ c : Board, law_AssignHeals_J2 (b.Hosts.any fun h => h.Alive) c = some true → law_AssignHeals_L2 (b.Hosts.any fun h => h.Alive) (c, 2) = some true := by
    intro c hc
    refine loopO_inr ?_
    unfold law_AssignHeals_B2
    rw [if_neg (d_f (by show ¬ (2 : Int) < 2; decide)), hc]; rfl
  have hS : ∀ (t : Int) (c c' : Board), t < 2 → law_AssignHeals_L4 (c, t) (c, 0) = some (.inl (c', w64 (t + 1))) → law_AssignHeals_L2 (b.Hosts.any fun h => h.Alive) (c, t) = law_AssignHeals_L2 (b.Hosts.any fun h => h.Alive) (c', w64 (t + 1)) := fun t c c' htt he => loopO_inl ((hB t c htt).trans he)
  have w1 : w64 (0 + 1) = 1 := by decide
  have w2 : w64 (1 + 1) = 2 := by decide
  have h1 := fix_all h
  have hsl := slot_len (bg_iff.2 h)
  by_cases c : ∃ x ∈ b.Hosts, x.Alive = true
  · have hany : (b.Hosts.any fun h => h.Alive) = true := List.any_eq_true.2 c
    have hl := dueF_len b.Hosts (b.Slots.map fixS) []
    rw [List.length_map] at hl
    obtain ⟨b', e1, e2, e3, e4⟩ := due_exec (os := dueF b.Hosts [] (b.Slots.map fixS)) (f := ⟨0, 0⟩) (by omega) (b, 0) (fun _ => True) (b.Slots.map fixS) [] [] ⟨b.Hosts, b.Slots.map fixS, b.Turn, b.Next⟩ 0 rfl h1 c (by rw [List.length_map]; dsimp only; omega) (by omega) rfl (fun s hs => by cases hs) (fix_state h)
    rw [w1] at e1
    have j1 : law_AssignHeals_J4 (b, 0) ⟨b.Hosts, b.Slots.map fixS, b.Turn, b.Next⟩ = some (.inl (b', 1)) := by
      unfold law_AssignHeals_J4
      rw [due_eq _ (by show (b.Slots.map fixS).length ≤ 100000; rw [List.length_map]; omega), if_pos (good0 h1), ob_some]
      rw [if_neg (by simp)]
      exact e1
    have s1 := hS 0 b b' (by decide) (heal_fix h 0 (b, 0) _ (by rw [w1]; exact j1))
    have h2 := fix_all e2
    have a2 : ∀ s ∈ b'.Slots.map fixS, s.State = 2 := by
      intro s hs
      obtain ⟨y, hy, e⟩ := List.mem_map.1 hs
      rw [← e]
      rcases e4 y hy with g | g
      · unfold fixS; rw [if_pos g]
      · unfold fixS; rw [if_neg (by omega), if_neg (by omega)]; exact g
    have d2 : dueF b'.Hosts [] (b'.Slots.map fixS) = [] := due_none _ _ (.inr fun s hs => by have := a2 s hs; omega)
    have s2 := hS 1 b' ⟨b'.Hosts, b'.Slots.map fixS, b'.Turn, b'.Next⟩ (by decide) (heal_fix e2 1 (b', 1) _ (due_J4 h2 (b', 1) d2))
    rw [s1, w1, s2, w2]
    refine hE _ (heal_end h2 _ fun s hs => ?_)
    rw [hany, a2 s hs]; rfl
  · have hf : ∀ x ∈ b.Hosts, x.Alive = false := fun x hx => by
      cases g : x.Alive with
      | false => rfl
      | true => exact absurd ⟨x, hx, g⟩ c
    have hany : (b.Hosts.any fun h => h.Alive) = false := by
      rw [List.any_eq_false]
      intro x hx
      rw [hf x hx]; decide
    have h2 := fix_all h1
    have s1 := hS 0 b _ (by decide) (heal_fix h 0 (b, 0) _ (due_J4 h1 (b, 0) (due_none _ _ (.inl hf))))
    have s2 := hS 1 _ _ (by decide) (heal_fix h1 1 (⟨b.Hosts, b.Slots.map fixS, b.Turn, b.Next⟩, 1) _ (due_J4 h2 (_, 1) (due_none _ _ (.inl hf))))
    rw [s1, w1]
    dsimp only at s2
    rw [s2, w2]
    refine hE _ (heal_end h2 _ fun s hs => ?_)
    have : s.State = 0 := by
      apply Decidable.byContradiction
      intro g
      obtain ⟨⟨x, hx, _, ha⟩, _⟩ := (h2.sok s hs).2.2 g
      rw [hf x hx] at ha; cases ha
    rw [hany, this]; rfl
theorem AssignHeals_eq (os : List Order) : law_AssignHeals os = some true := by
  unfold law_AssignHeals
  rw [begun_eq, ob_some, if_neg (by decide)]
  by_cases c : 200 < os.length
  · rw [if_pos (d_t (by omega))]
  · have h := boardAt_good os os.length
    have ht := boardAt_turn os os.length
    have hl := h.hosts
    rw [if_neg (d_f (by omega)), play_eq os (by omega), ob_some, if_neg (by simp; omega)]
    refine loop_run (step := fun y => law_AssignHeals_B5 (boardAt os os.length, saidAt os os.length, ⟨0, 0⟩) y) (boardAt os os.length).Hosts.length (fun k => (((boardAt os os.length).Hosts.take k).any fun h => h.Alive, (k : Int))) (fun k hk => ?_) ?_
    · have hw : w64 ((k : Int) + 1) = ((k + 1 : Nat) : Int) := by rw [w64_id (by omega) (by omega)]; omega
      show law_AssignHeals_B5 _ (_, (k : Int)) = _
      unfold law_AssignHeals_B5
      dsimp only
      rw [if_pos (d_t (by omega)), asrt_pos (fun _ => by omega), hw, lget_take _ k hk, List.any_append]
      simp
    · show law_AssignHeals_B5 _ (_, ((boardAt os os.length).Hosts.length : Int)) = _
      unfold law_AssignHeals_B5 law_AssignHeals_J1
      dsimp only
      rw [if_neg (d_f (by omega)), List.take_length, heal_two h (by omega)]; rfl
end G
end Go.Proofs.Ytdjlninhfndjfaa
