/- Boards: a board that is fine, by its members. -/
import Derived.Test.YtdjlninhfndjfaaPAssS
namespace Go.Proofs.Ytdjlninhfndjfaa
open Go Go.Dm
set_option linter.unusedVariables false
set_option linter.unusedSimpArgs false
namespace G
theorem pw_iff {α : Type} [Inhabited α] {R : α → α → Prop} {l : List α} : l.Pairwise R ↔ ∀ j k : Nat, j < k → k < l.length → R (lget l (j : Int)) (lget l (k : Int)) := by
  rw [List.pairwise_iff_getElem]
  constructor
  · intro h j k hj hk
    rw [lget_nat l j (by omega), lget_nat l k hk]
    exact h j k (by omega) hk hj
  · intro h j k hj hk hjk
    rw [← lget_nat l j hj, ← lget_nat l k hk]
    exact h j k hjk hk
def sOk (hs : List Host) (t n : Int) (s : Slot) : Prop := (0 ≤ s.State ∧ s.State ≤ 3 ∧ 0 ≤ s.Turn ∧ s.Turn ≤ t ∧ 1 ≤ s.Part.ID ∧ s.Part.ID < n) ∧ (s.State = 0 → s.Host = 0) ∧ (s.State ≠ 0 → (∃ h ∈ hs, h.ID = s.Host ∧ h.Alive = true) ∧ s.Turn ≠ 0)
structure BG (b : Board) : Prop where
  hosts : b.Hosts.length ≤ 20
  hid : ∀ h ∈ b.Hosts, numOk h.ID ∧ numOk h.Epoch
  hnd : b.Hosts.Pairwise (fun a c => a.ID ≠ c.ID)
  turn : 0 ≤ b.Turn ∧ b.Turn ≤ 1000000000
  next : numOk b.Next
  parts : PGood (partsOf b)
  sok : ∀ s ∈ b.Slots, sOk b.Hosts b.Turn b.Next s
  tnd : b.Slots.Pairwise (fun a c => 0 < c.Turn → a.Turn ≠ c.Turn)
theorem hostAt_iff (b : Board) (id : Int) : 0 ≤ hostAt b id ↔ ∃ h ∈ b.Hosts, h.ID = id ∧ h.Alive = true := by
  unfold hostAt
  rcases firstFrom_cases (hostI b id) (-1) b.Hosts.length 0 with ⟨h1, e⟩ | ⟨j, x, h1, h2, h3, _, e⟩
  · rw [e]
    refine ⟨fun h => absurd h (by decide), ?_⟩
    rintro ⟨h, hm, hc⟩
    obtain ⟨k, hk, e2⟩ := mem_lget.1 hm
    have := h1 k (Nat.zero_le _) (by omega)
    unfold hostI at this
    rw [e2, if_pos hc] at this
    cases this
  · rw [e]
    unfold hostI at h3
    split at h3
    · rename_i c
      cases h3
      exact ⟨fun _ => ⟨_, lget_mem b.Hosts (j : Int) (by omega), c⟩, fun _ => by omega⟩
    · cases h3
theorem slotC_iff (b : Board) (k : Nat) : slotC b k = 0 ↔ sOk b.Hosts b.Turn b.Next (lget b.Slots (k : Int)) ∧ (0 < (lget b.Slots (k : Int)).Turn → (lget b.Slots (k : Int)).Turn ∉ (b.Slots.take k).map Slot.Turn) := by
  unfold slotC sOk
  rw [← hostAt_iff]
  generalize lget b.Slots (k : Int) = s
  generalize (b.Slots.take k).map Slot.Turn = L
  by_cases c1 : s.State < 0 ∨ 3 < s.State ∨ s.Turn < 0 ∨ b.Turn < s.Turn ∨ s.Part.ID < 1 ∨ b.Next ≤ s.Part.ID
  · rw [if_pos c1]
    exact ⟨fun h => absurd h (by decide), fun h => by have := h.1.1; omega⟩
  · rw [if_neg c1]
    by_cases c2 : s.State = 0 ∧ s.Host ≠ 0
    · rw [if_pos c2]
      exact ⟨fun h => absurd h (by decide), fun h => absurd (h.1.2.1 c2.1) c2.2⟩
    · rw [if_neg c2]
      by_cases c3 : s.State ≠ 0 ∧ hostAt b s.Host < 0
      · rw [if_pos c3]
        exact ⟨fun h => absurd h (by decide), fun h => by have := (h.1.2.2 c3.1).1; omega⟩
      · rw [if_neg c3]
        by_cases c4 : s.State ≠ 0 ∧ s.Turn = 0
        · rw [if_pos c4]
          exact ⟨fun h => absurd h (by decide), fun h => absurd c4.2 (h.1.2.2 c4.1).2⟩
        · rw [if_neg c4]
          by_cases c5 : 0 < s.Turn ∧ s.Turn ∈ L
          · rw [if_pos c5]
            exact ⟨fun h => absurd h (by decide), fun h => absurd c5.2 (h.2 c5.1)⟩
          · rw [if_neg c5]
            refine ⟨fun _ => ⟨⟨by omega, fun h => Decidable.byContradiction fun h2 => c2 ⟨h, h2⟩, fun h => ⟨by omega, fun h2 => c4 ⟨h, h2⟩⟩⟩, fun h1 h2 => c5 ⟨h1, h2⟩⟩, fun _ => rfl⟩
theorem bg_iff {b : Board} : BGood b ↔ BG b := by
  constructor
  · intro h
    refine ⟨h.hosts, all_lget.2 fun k hk => ⟨(h.host k hk).1, (h.host k hk).2.1⟩, ?_, h.turn, h.next, h.parts, all_lget.2 fun k hk => ((slotC_iff b k).1 (h.slot k hk)).1, ?_⟩
    · rw [pw_iff]
      intro j k hj hk e
      exact (h.host k hk).2.2 ((mem_map_take b.Hosts Host.ID k (by omega) _).2 ⟨j, hj, e⟩)
    · rw [pw_iff]
      intro j k hj hk h0 e
      exact ((slotC_iff b k).1 (h.slot k hk)).2 h0 ((mem_map_take b.Slots Slot.Turn k (by omega) _).2 ⟨j, hj, e⟩)
  · intro h
    refine ⟨h.hosts, fun k hk => ?_, h.turn, h.next, h.parts, fun k hk => (slotC_iff b k).2 ⟨h.sok _ (lget_mem b.Slots (k : Int) (by omega)), fun h0 hm => ?_⟩⟩
    · have := h.hid _ (lget_mem b.Hosts (k : Int) (by omega))
      refine ⟨this.1, this.2, fun hm => ?_⟩
      obtain ⟨j, hj, e⟩ := (mem_map_take b.Hosts Host.ID k (by omega) _).1 hm
      exact pw_iff.1 h.hnd j k hj hk e
    · obtain ⟨j, hj, e⟩ := (mem_map_take b.Slots Slot.Turn k (by omega) _).1 hm
      exact pw_iff.1 h.tnd j k hj hk h0 e
/- what an order does -/
theorem sOk.mono {hs hs' : List Host} {t t' n n' : Int} {s : Slot} (h : sOk hs t n s) (ht : t ≤ t') (hn : n ≤ n') (hh : s.State ≠ 0 → (∃ h ∈ hs, h.ID = s.Host ∧ h.Alive = true) → ∃ h ∈ hs', h.ID = s.Host ∧ h.Alive = true) : sOk hs' t' n' s := by
  refine ⟨by have := h.1; omega, h.2.1, fun g => ⟨hh g (h.2.2 g).1, (h.2.2 g).2⟩⟩
theorem BG.come {b : Board} (h : BG b) {id : Int} (hi : numOk id) (hn : ∀ x ∈ b.Hosts, x.ID ≠ id) (hl : b.Hosts.length < 20) : BG ⟨b.Hosts ++ [⟨id, 1, true⟩], b.Slots, b.Turn, b.Next⟩ := by
  refine ⟨by simp only [List.length_append, List.length_singleton]; omega, ?_, ?_, h.turn, h.next, h.parts, ?_, h.tnd⟩
  · intro x hx
    rcases List.mem_append.1 hx with hx | hx
    · exact h.hid x hx
    · rw [List.mem_singleton] at hx
      subst hx
      exact ⟨hi, by show (1 : Int) ≤ 1 ∧ (1 : Int) ≤ 1000000000; omega⟩
  · rw [List.pairwise_append]
    refine ⟨h.hnd, by simp, fun a ha c hc => ?_⟩
    rw [List.mem_singleton] at hc
    subst hc
    exact hn a ha
  · intro s hs
    refine (h.sok s hs).mono (Int.le_refl _) (Int.le_refl _) ?_
    rintro _ ⟨x, hx, e⟩
    exact ⟨x, by simp [hx], e⟩
theorem BG.hset {b : Board} (h : BG b) {k : Nat} (hk : k < b.Hosts.length) {x : Host} (hx : x.ID = (lget b.Hosts (k : Int)).ID) (he : numOk x.Epoch) {slots : List Slot} (hp : slots.map Slot.Part = partsOf b) (hs : ∀ s ∈ slots, sOk (lset b.Hosts (k : Int) x) b.Turn b.Next s) (ht : slots.Pairwise (fun a c => 0 < c.Turn → a.Turn ≠ c.Turn)) : BG ⟨lset b.Hosts (k : Int) x, slots, b.Turn, b.Next⟩ := by
  have hl : (lset b.Hosts (k : Int) x).length = b.Hosts.length := lset_len _ _ _
  have hid : ∀ m : Nat, (lget (lset b.Hosts (k : Int) x) (m : Int)).ID = (lget b.Hosts (m : Int)).ID := by
    intro m
    rw [lget_lset _ _ _ _ (by omega) (by omega)]
    by_cases e : (m : Int) = (k : Int)
    · rw [if_pos e, hx, e]
    · rw [if_neg e]
  refine ⟨by rw [hl]; exact h.hosts, all_lget.2 fun m hm => ?_, ?_, h.turn, h.next, by unfold partsOf; rw [hp]; exact h.parts, hs, ht⟩
  · rw [hl] at hm
    have h1 := h.hid _ (lget_mem b.Hosts (m : Int) (by omega))
    refine ⟨by rw [hid]; exact h1.1, ?_⟩
    rw [lget_lset _ _ _ _ (by omega) (by omega)]
    by_cases e : (m : Int) = (k : Int)
    · rw [if_pos e]; exact he
    · rw [if_neg e]; exact h1.2
  · rw [pw_iff]
    intro j m hj hm
    rw [hl] at hm
    rw [hid, hid]
    exact pw_iff.1 h.hnd j m hj hm
theorem BG.sset {b : Board} (h : BG b) {k : Nat} (hk : k < b.Slots.length) {x : Slot} {t : Int} (hx : x.Part = (lget b.Slots (k : Int)).Part) (ht : b.Turn ≤ t ∧ t ≤ 1000000000) (hs : sOk b.Hosts t b.Next x) (hd : 0 < x.Turn → ∀ j : Nat, j < b.Slots.length → j ≠ k → (lget b.Slots (j : Int)).Turn ≠ x.Turn) : BG ⟨b.Hosts, lset b.Slots (k : Int) x, t, b.Next⟩ := by
  have hl : (lset b.Slots (k : Int) x).length = b.Slots.length := lset_len _ _ _
  have hp : (lset b.Slots (k : Int) x).map Slot.Part = partsOf b := by
    unfold partsOf lset
    rw [Int.toNat_natCast, List.map_set, hx, lget_nat _ k hk]
    have : (b.Slots[k]).Part = (b.Slots.map Slot.Part)[k]'(by simpa using hk) := by simp
    rw [this, List.set_getElem_self]
  refine ⟨h.hosts, h.hid, h.hnd, by have := h.turn; show 0 ≤ t ∧ t ≤ 1000000000; omega, h.next, by unfold partsOf; rw [hp]; exact h.parts, all_lget.2 fun m hm => ?_, ?_⟩
  · rw [hl] at hm
    rw [lget_lset _ _ _ _ (by omega) (by omega)]
    by_cases e : (m : Int) = (k : Int)
    · rw [if_pos e]; exact hs
    · rw [if_neg e]; exact (h.sok _ (lget_mem b.Slots (m : Int) (by omega))).mono ht.1 (Int.le_refl _) (fun _ g => g)
  · rw [pw_iff]
    intro j m hj hm
    rw [hl] at hm
    rw [lget_lset _ _ _ _ (by omega) (by omega), lget_lset _ _ _ _ (by omega) (by omega)]
    have h0 := pw_iff.1 h.tnd j m hj hm
    by_cases e1 : (m : Int) = (k : Int)
    · rw [if_pos e1, if_neg (by omega)]
      intro hx; exact hd hx j (by omega) (by omega)
    · rw [if_neg e1]
      by_cases e2 : (j : Int) = (k : Int)
      · rw [if_pos e2]
        intro hm2 e
        exact hd (by omega) m hm (by omega) e.symm
      · rw [if_neg e2]; exact h0
end G
end Go.Proofs.Ytdjlninhfndjfaa
