/- Assign: what was done, by the kinds of orders. -/
import Derived.Test.YtdjlninhfndjfaaPAssR
namespace Go.Proofs.Ytdjlninhfndjfaa
open Go Go.Dm
set_option linter.unusedVariables false
set_option linter.unusedSimpArgs false
namespace G
inductive Step (b : Board) (o : Order) : Board → Prop
  | come : o.Kind = 1 → numOk o.ID → hostAt b o.ID < 0 → hostK b o.ID = -1 → b.Hosts.length < 20 → Step b o ⟨b.Hosts ++ [⟨o.ID, 1, true⟩], b.Slots, b.Turn, b.Next⟩
  | back (k : Nat) : o.Kind = 1 → k < b.Hosts.length → (lget b.Hosts (k : Int)).ID = o.ID → (lget b.Hosts (k : Int)).Epoch < 1000000000 → Step b o ⟨lset b.Hosts (k : Int) ⟨o.ID, (lget b.Hosts (k : Int)).Epoch + 1, true⟩, b.Slots, b.Turn, b.Next⟩
  | gone (k : Nat) : o.Kind = 2 → k < b.Hosts.length → (lget b.Hosts (k : Int)).ID = o.ID → Step b o ⟨lset b.Hosts (k : Int) ⟨(lget b.Hosts (k : Int)).ID, (lget b.Hosts (k : Int)).Epoch, false⟩, b.Slots.map (clr o.ID), b.Turn, b.Next⟩
  | give (k : Nat) : o.Kind = 3 → k < b.Slots.length → slotK b o.ID = (k : Int) → 0 ≤ hostAt b o.Host → (lget b.Slots (k : Int)).State = 0 → b.Turn < 1000000000 → Step b o ⟨b.Hosts, lset b.Slots (k : Int) ⟨(lget b.Slots (k : Int)).Part, 1, o.Host, b.Turn + 1⟩, b.Turn + 1, b.Next⟩
  | opens (k : Nat) : o.Kind = 4 → k < b.Slots.length → slotK b o.ID = (k : Int) → (lget b.Slots (k : Int)).State = 1 → Step b o ⟨b.Hosts, lset b.Slots (k : Int) ⟨(lget b.Slots (k : Int)).Part, 2, (lget b.Slots (k : Int)).Host, (lget b.Slots (k : Int)).Turn⟩, b.Turn, b.Next⟩
  | close (k : Nat) : o.Kind = 5 → k < b.Slots.length → slotK b o.ID = (k : Int) → (lget b.Slots (k : Int)).State = 2 → Step b o ⟨b.Hosts, lset b.Slots (k : Int) ⟨(lget b.Slots (k : Int)).Part, 3, (lget b.Slots (k : Int)).Host, (lget b.Slots (k : Int)).Turn⟩, b.Turn, b.Next⟩
  | ends (k : Nat) : o.Kind = 6 → k < b.Slots.length → slotK b o.ID = (k : Int) → (lget b.Slots (k : Int)).State = 3 → Step b o ⟨b.Hosts, lset b.Slots (k : Int) ⟨(lget b.Slots (k : Int)).Part, 0, 0, (lget b.Slots (k : Int)).Turn⟩, b.Turn, b.Next⟩
  | split (k : Nat) : o.Kind = 7 → k < b.Slots.length → slotK b o.ID = (k : Int) → (lget b.Slots (k : Int)).State = 0 → o.Row.length ≤ 40 → o.Row ≠ (lget b.Slots (k : Int)).Part.From → hasP (lget b.Slots (k : Int)).Part o.Row → b.Slots.length < 200 → b.Next + 2 ≤ 1000000000 →
      Step b o ⟨b.Hosts, b.Slots.take k ++ [⟨⟨(lget b.Slots (k : Int)).Part.From, o.Row, b.Next⟩, 0, 0, 0⟩, ⟨⟨o.Row, (lget b.Slots (k : Int)).Part.To, b.Next + 1⟩, 0, 0, 0⟩] ++ b.Slots.drop (k + 1), b.Turn, b.Next + 2⟩
  | join (k : Nat) : o.Kind = 8 → k + 1 < b.Slots.length → slotK b o.ID = (k : Int) → (lget b.Slots (k : Int)).State = 0 → (lget b.Slots ((k + 1 : Nat) : Int)).State = 0 → b.Next + 1 ≤ 1000000000 →
      Step b o ⟨b.Hosts, b.Slots.take k ++ [⟨⟨(lget b.Slots (k : Int)).Part.From, (lget b.Slots ((k + 1 : Nat) : Int)).Part.To, b.Next⟩, 0, 0, 0⟩] ++ b.Slots.drop (k + 2), b.Turn, b.Next + 1⟩
/-- done, or not -/
def StepOr (b : Board) (o : Order) (r : Board × Fault) : Prop := (r.2 = ⟨0, 0⟩ ∧ Step b o r.1) ∨ (r.2.Code ≠ 0 ∧ r.1 = ⟨[], [], 0, 0⟩)
theorem so_ite {b : Board} {o : Order} {c : Prop} [Decidable c] {x y : Board × Fault} (hx : c → StepOr b o x) (hy : ¬ c → StepOr b o y) : StepOr b o (if c then x else y) := by
  by_cases h : c
  · rw [if_pos h]; exact hx h
  · rw [if_neg h]; exact hy h
theorem so_bad {b : Board} {o : Order} {c a : Int} (h : c ≠ 0) : StepOr b o (badB c a) := .inr ⟨h, rfl⟩
theorem so_ok {b x : Board} {o : Order} (h : Step b o x) : StepOr b o (x, ⟨0, 0⟩) := .inl ⟨rfl, h⟩
theorem ordF_so {b : Board} (h : BG b) (o : Order) : StepOr b o (ordF b o) := by
  have hsl := slot_len (bg_iff.2 h)
  have hhl := h.hosts
  unfold ordF
  rw [if_neg (not_not_intro (boardF_good.2 (bg_iff.2 h)))]
  refine so_ite (fun _ => so_bad (by decide)) fun ck => ?_
  refine so_ite (fun k1 => ?_) fun k1 => ?_
  · unfold comeF
    refine so_ite (fun _ => so_bad (by decide)) fun c1 => ?_
    refine so_ite (fun _ => so_bad (by decide)) fun c2 => ?_
    rcases hostK_cases b o.ID with e | ⟨k, hk, e, hid⟩
    · rw [e, if_pos (by decide)]
      exact so_ite (fun _ => so_bad (by decide)) fun c3 => so_ok (.come k1 (Decidable.not_not.1 c1) (by omega) e (by omega))
    · rw [e, if_neg (by omega)]
      exact so_ite (fun _ => so_bad (by decide)) fun c3 => so_ok (.back k k1 hk hid (by omega))
  refine so_ite (fun k2 => ?_) fun k2 => ?_
  · unfold goneF
    refine so_ite (fun _ => so_bad (by decide)) fun c2 => ?_
    obtain ⟨k, hk, e, hid, hal⟩ := hostAt_at b o.ID (by omega)
    rw [e]
    exact so_ok (.gone k k2 hk hid)
  refine so_ite (fun _ => so_bad (by decide)) fun c6 => ?_
  rcases slotK_cases b o.ID with e | ⟨k, hk, e⟩
  · exact absurd (.inl (by omega)) c6
  rw [e] at c6 ⊢
  unfold doesF setF
  dsimp only
  refine so_ite (fun k3 => ?_) fun k3 => ?_
  · refine so_ite (fun _ => so_bad (by decide)) fun a1 => ?_
    refine so_ite (fun _ => so_bad (by decide)) fun a2 => ?_
    exact so_ite (fun _ => so_bad (by decide)) fun a3 => so_ok (.give k k3 hk e (by omega) (Decidable.not_not.1 a2) (by omega))
  refine so_ite (fun k4 => ?_) fun k4 => ?_
  · refine so_ite (fun _ => so_bad (by decide)) fun a1 => ?_
    exact so_ite (fun _ => so_bad (by decide)) fun a2 => so_ok (.opens k k4 hk e (Decidable.not_not.1 a2))
  refine so_ite (fun k5 => ?_) fun k5 => ?_
  · exact so_ite (fun _ => so_bad (by decide)) fun a2 => so_ok (.close k k5 hk e (Decidable.not_not.1 a2))
  refine so_ite (fun k6 => ?_) fun k6 => ?_
  · refine so_ite (fun _ => so_bad (by decide)) fun a1 => ?_
    exact so_ite (fun _ => so_bad (by decide)) fun a2 => so_ok (.ends k k6 hk e (Decidable.not_not.1 a2))
  refine so_ite (fun k7 => ?_) fun k7 => ?_
  · refine so_ite (fun _ => so_bad (by decide)) fun a1 => ?_
    refine so_ite (fun _ => so_bad (by decide)) fun a2 => ?_
    refine so_ite (fun _ => so_bad (by decide)) fun a3 => ?_
    refine so_ite (fun _ => so_bad (by decide)) fun a4 => ?_
    refine so_ite (fun _ => so_bad (by decide)) fun a5 => ?_
    exact so_ok (.split k k7 hk e (Decidable.not_not.1 a1) (by omega) (fun g => a3 (.inl g)) (Decidable.byContradiction fun g => a3 (.inr g)) (by omega) (by omega))
  · have h8 : o.Kind = 8 := by omega
    have hk1 : (k : Int) + 1 = ((k + 1 : Nat) : Int) := by omega
    rw [hk1]
    refine so_ite (fun _ => so_bad (by decide)) fun a1 => ?_
    refine so_ite (fun _ => so_bad (by decide)) fun a2 => ?_
    exact so_ok (.join k h8 (by omega) e (Decidable.byContradiction fun g => a1 (.inl g)) (Decidable.byContradiction fun g => a1 (.inr g)) (by omega))
theorem BG.turn_ne {b : Board} (h : BG b) {k : Nat} (hk : k < b.Slots.length) : 0 < (lget b.Slots (k : Int)).Turn → ∀ j : Nat, j < b.Slots.length → j ≠ k → (lget b.Slots (j : Int)).Turn ≠ (lget b.Slots (k : Int)).Turn := by
  intro h0 j hj hne e
  rcases Nat.lt_or_gt_of_ne hne with c | c
  · exact pw_iff.1 h.tnd j k c hk h0 e
  · exact pw_iff.1 h.tnd k j c hj (by omega) e.symm
theorem Step.good {b x : Board} {o : Order} (h : BG b) (hs : Step b o x) : BG x := by
  have hT := h.turn
  have hN := h.next
  unfold numOk at hN
  cases hs with
  | come k1 hi ha hk hl =>
    refine h.come hi (fun y hy e => ?_) hl
    obtain ⟨j, hj, ej⟩ := mem_lget.1 hy
    unfold hostK at hk
    rcases firstFrom_cases (hostJ b o.ID) (-1) b.Hosts.length 0 with ⟨g, _⟩ | ⟨i, z, g1, g2, g3, _, g5⟩
    · have := g j (Nat.zero_le _) (by omega)
      unfold hostJ at this
      rw [if_pos (by rw [ej]; exact e)] at this; cases this
    · rw [g5] at hk
      unfold hostJ at g3
      split at g3
      · cases g3; omega
      · cases g3
  | back k k1 hk hid he =>
    have he2 := (h.hid _ (lget_mem b.Hosts (k : Int) (by omega))).2
    unfold numOk at he2
    refine h.hset hk hid.symm (by show 1 ≤ _ + 1 ∧ _ + 1 ≤ (1000000000 : Int); omega) rfl (fun s hs => (h.sok s hs).mono (Int.le_refl _) (Int.le_refl _) ?_) h.tnd
    rintro _ ⟨y, hy, ey, ea⟩
    obtain ⟨m, hm, em⟩ := mem_lget.1 hy
    by_cases e : m = k
    · subst e
      rw [em] at hid
      refine ⟨⟨o.ID, _, true⟩, mem_lget.2 ⟨m, by rw [lset_len]; exact hm, by rw [lget_lset _ _ _ _ (by omega) (by omega), if_pos rfl]⟩, ?_, rfl⟩
      rw [← ey, hid]
    · exact ⟨y, mem_lget.2 ⟨m, by rw [lset_len]; exact hm, by rw [lget_lset _ _ _ _ (by omega) (by omega), if_neg (by omega)]; exact em⟩, ey, ea⟩
  | gone k k2 hk hid =>
    have := h.gone hk
    rw [hid] at this ⊢
    exact this
  | give k k3 hk e hh hs0 ht =>
    have hb0 := (h.sok _ (lget_mem b.Slots (k : Int) (by omega))).1
    refine h.sset (x := ⟨(lget b.Slots (k : Int)).Part, 1, o.Host, b.Turn + 1⟩) hk rfl (by omega) ⟨?_, ?_, ?_⟩ ?_
    · exact ⟨by show (0 : Int) ≤ 1; omega, by show (1 : Int) ≤ 3; omega, by show 0 ≤ b.Turn + 1; omega, Int.le_refl _, hb0.2.2.2.2.1, hb0.2.2.2.2.2⟩
    · intro g; exact absurd (show (1 : Int) = 0 from g) (by decide)
    · intro _
      exact ⟨(hostAt_iff b o.Host).1 hh, by show b.Turn + 1 ≠ 0; omega⟩
    · intro _ j hj _
      have := (h.sok _ (lget_mem b.Slots (j : Int) (by omega))).1
      show _ ≠ b.Turn + 1
      omega
  | opens k k4 hk e hs1 =>
    have hs0 := h.sok _ (lget_mem b.Slots (k : Int) (by omega))
    refine h.sset (x := ⟨(lget b.Slots (k : Int)).Part, 2, (lget b.Slots (k : Int)).Host, (lget b.Slots (k : Int)).Turn⟩) hk rfl (by omega) ⟨?_, ?_, ?_⟩ (h.turn_ne hk)
    · exact ⟨by show (0 : Int) ≤ 2; omega, by show (2 : Int) ≤ 3; omega, hs0.1.2.2⟩
    · intro g; exact absurd (show (2 : Int) = 0 from g) (by decide)
    · intro _
      exact hs0.2.2 (by omega)
  | close k k5 hk e hs2 =>
    have hs0 := h.sok _ (lget_mem b.Slots (k : Int) (by omega))
    refine h.sset (x := ⟨(lget b.Slots (k : Int)).Part, 3, (lget b.Slots (k : Int)).Host, (lget b.Slots (k : Int)).Turn⟩) hk rfl (by omega) ⟨?_, ?_, ?_⟩ (h.turn_ne hk)
    · exact ⟨by show (0 : Int) ≤ 3; omega, by show (3 : Int) ≤ 3; omega, hs0.1.2.2⟩
    · intro g; exact absurd (show (3 : Int) = 0 from g) (by decide)
    · intro _
      exact hs0.2.2 (by omega)
  | ends k k6 hk e hs3 =>
    have hs0 := h.sok _ (lget_mem b.Slots (k : Int) (by omega))
    refine h.sset (x := ⟨(lget b.Slots (k : Int)).Part, 0, 0, (lget b.Slots (k : Int)).Turn⟩) hk rfl (by omega) ⟨?_, ?_, ?_⟩ (h.turn_ne hk)
    · exact ⟨by show (0 : Int) ≤ 0; omega, by show (0 : Int) ≤ 3; omega, hs0.1.2.2⟩
    · intro _; rfl
    · intro g; exact absurd rfl g
  | split k k7 hk e hs0 hr hne hin hl hn => exact h.split hk hr hne hin hl hn
  | join k k8 hk e hs0 hs1 hn => exact h.join hk hn
theorem Step.turn {b x : Board} {o : Order} (hs : Step b o x) : b.Turn ≤ x.Turn ∧ x.Turn ≤ b.Turn + 1 ∧ b.Next ≤ x.Next ∧ x.Next ≤ b.Next + 2 := by
  cases hs <;> exact ⟨by dsimp only; omega, by dsimp only; omega, by dsimp only; omega, by dsimp only; omega⟩
theorem ordF_len {b : Board} (h : BG b) (o : Order) : (ordF b o).1.Hosts.length ≤ 100000 ∧ (ordF b o).1.Slots.length ≤ 100000 := by
  rcases ordF_so h o with ⟨_, hs⟩ | ⟨_, e⟩
  · have hg := hs.good h
    have := hg.hosts
    have := slot_len (bg_iff.2 hg)
    omega
  · rw [e]; exact ⟨Nat.zero_le _, Nat.zero_le _⟩
end G
end Go.Proofs.Ytdjlninhfndjfaa
