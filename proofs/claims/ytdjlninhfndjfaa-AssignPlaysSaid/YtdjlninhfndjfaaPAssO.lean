/- Boards: what an order leaves is good. -/
import Derived.Test.YtdjlninhfndjfaaPAssG
namespace Go.Proofs.Ytdjlninhfndjfaa
open Go Go.Dm
set_option linter.unusedVariables false
set_option linter.unusedSimpArgs false
namespace G
theorem tnd_mid {A M M' B : List Slot} (h : (A ++ M' ++ B).Pairwise (fun a c => 0 < c.Turn → a.Turn ≠ c.Turn)) (hM : ∀ s ∈ M, s.Turn = 0) : (A ++ M ++ B).Pairwise (fun a c => 0 < c.Turn → a.Turn ≠ c.Turn) := by
  rw [List.append_assoc, List.pairwise_append, List.pairwise_append] at h ⊢
  obtain ⟨h1, ⟨h2, h3, h4⟩, h5⟩ := h
  refine ⟨h1, ⟨?_, h3, fun a ha c hc h0 => by rw [hM a ha]; omega⟩, fun a ha c hc h0 => ?_⟩
  · exact List.Pairwise.imp_of_mem (R := fun _ _ => True) (fun {a c} ha hc _ h0 => by rw [hM c hc] at h0; omega) (List.pairwise_of_forall fun _ _ => trivial)
  · rcases List.mem_append.1 hc with hc | hc
    · rw [hM c hc] at h0; omega
    · exact h5 a ha c (by simp [hc]) h0
theorem BG.mid {b : Board} (h : BG b) {k n : Nat} (M : List Slot) {nx' : Int} (hn : b.Next ≤ nx' ∧ nx' ≤ 1000000000) (hM : ∀ s ∈ M, s.State = 0 ∧ s.Host = 0 ∧ s.Turn = 0 ∧ 1 ≤ s.Part.ID ∧ s.Part.ID < nx') (hp : PGood ((b.Slots.take k ++ M ++ b.Slots.drop (k + n)).map Slot.Part)) : BG ⟨b.Hosts, b.Slots.take k ++ M ++ b.Slots.drop (k + n), b.Turn, nx'⟩ := by
  refine ⟨h.hosts, h.hid, h.hnd, h.turn, by have := h.next; unfold numOk at *; show 1 ≤ nx' ∧ nx' ≤ 1000000000; omega, hp, ?_, ?_⟩
  · intro s hs
    simp only [List.mem_append] at hs
    rcases hs with (hs | hs) | hs
    · exact (h.sok s (List.mem_of_mem_take hs)).mono (Int.le_refl _) hn.1 (fun _ g => g)
    · obtain ⟨a1, a2, a3, a4, a5⟩ := hM s hs
      have ht := h.turn
      refine ⟨⟨by omega, by omega, by omega, by show s.Turn ≤ b.Turn; omega, a4, a5⟩, fun _ => a2, fun g => absurd a1 g⟩
    · exact (h.sok s (List.mem_of_mem_drop hs)).mono (Int.le_refl _) hn.1 (fun _ g => g)
  · refine tnd_mid (M' := (b.Slots.drop k).take n) ?_ (fun s hs => (hM s hs).2.2.1)
    have : b.Slots.take k ++ (b.Slots.drop k).take n ++ b.Slots.drop (k + n) = b.Slots := by
      rw [List.append_assoc, ← List.drop_drop, List.take_append_drop, List.take_append_drop]
    rw [this]; exact h.tnd
theorem parts_mid (b : Board) (k n : Nat) (M : List Slot) : (b.Slots.take k ++ M ++ b.Slots.drop (k + n)).map Slot.Part = (partsOf b).take k ++ M.map Slot.Part ++ (partsOf b).drop (k + n) := by
  unfold partsOf
  rw [List.map_append, List.map_append, List.map_take, List.map_drop]
theorem parts_len (b : Board) : (partsOf b).length = b.Slots.length := by simp [partsOf]
theorem next_new {b : Board} (h : BG b) (k n : Nat) {id : Int} (hi : b.Next ≤ id) : id ∉ (rest1 (partsOf b) k n).map Part.ID := by
  intro hm
  rw [List.mem_map] at hm
  obtain ⟨p, hp, e⟩ := hm
  have : p ∈ partsOf b := by
    unfold rest1 at hp
    rcases List.mem_append.1 hp with g | g
    · exact List.mem_of_mem_take g
    · exact List.mem_of_mem_drop g
  unfold partsOf at this
  rw [List.mem_map] at this
  obtain ⟨s, hs, e2⟩ := this
  have := (h.sok s hs).1
  rw [e2] at this
  omega
theorem BG.split {b : Board} (h : BG b) {k : Nat} (hk : k < b.Slots.length) {row : List UInt8} (hr : row.length ≤ 40) (hne : row ≠ (lget b.Slots (k : Int)).Part.From) (hin : hasP (lget b.Slots (k : Int)).Part row) (hl : b.Slots.length < 200) (hn : b.Next + 2 ≤ 1000000000) : BG ⟨b.Hosts, b.Slots.take k ++ [⟨⟨(lget b.Slots (k : Int)).Part.From, row, b.Next⟩, 0, 0, 0⟩, ⟨⟨row, (lget b.Slots (k : Int)).Part.To, b.Next + 1⟩, 0, 0, 0⟩] ++ b.Slots.drop (k + 1), b.Turn, b.Next + 2⟩ := by
  have hN := h.next
  unfold numOk at hN
  refine h.mid _ (by omega) ?_ ?_
  · intro s hs
    simp only [List.mem_cons, List.not_mem_nil, or_false] at hs
    rcases hs with rfl | rfl
    · exact ⟨rfl, rfl, rfl, by show 1 ≤ b.Next; omega, by show b.Next < b.Next + 2; omega⟩
    · exact ⟨rfl, rfl, rfl, by show 1 ≤ b.Next + 1; omega, by show b.Next + 1 < b.Next + 2; omega⟩
  · rw [parts_mid, ← part_at b k hk]
    rw [← part_at b k hk] at hne hin
    refine split_good (l := partsOf b) (a := k) (row := row) (left := b.Next) (right := b.Next + 1) ⟨h.parts, by rw [parts_len]; exact hk, hr, ?_, hin, by unfold noNum; omega, by unfold noNum; omega, by omega, next_new h k 1 (Int.le_refl _), next_new h k 1 (by omega), by rw [parts_len]; omega⟩
    rcases bl_tri (lget (partsOf b) (k : Int)).From row with e | e | e
    · exact e
    · exact absurd e.symm hne
    · rw [hin.1] at e; cases e
theorem BG.join {b : Board} (h : BG b) {k : Nat} (hk : k + 1 < b.Slots.length) (hn : b.Next + 1 ≤ 1000000000) : BG ⟨b.Hosts, b.Slots.take k ++ [⟨⟨(lget b.Slots (k : Int)).Part.From, (lget b.Slots ((k + 1 : Nat) : Int)).Part.To, b.Next⟩, 0, 0, 0⟩] ++ b.Slots.drop (k + 2), b.Turn, b.Next + 1⟩ := by
  have hN := h.next
  unfold numOk at hN
  refine h.mid _ (by omega) ?_ ?_
  · intro s hs
    simp only [List.mem_singleton] at hs
    subst hs
    exact ⟨rfl, rfl, rfl, by show 1 ≤ b.Next; omega, by show b.Next < b.Next + 1; omega⟩
  · rw [parts_mid, ← part_at b k (by omega), ← part_at b (k + 1) hk]
    exact join_good (l := partsOf b) (a := k) (id := b.Next) ⟨h.parts, by rw [parts_len]; exact hk, by unfold noNum; omega, next_new h k 2 (Int.le_refl _)⟩
/- a host that goes -/
def clr (id : Int) (s : Slot) : Slot := if s.Host = id then ⟨s.Part, 0, 0, s.Turn⟩ else s
theorem clr_part (id : Int) (s : Slot) : (clr id s).Part = s.Part := by unfold clr; split <;> rfl
theorem clr_turn (id : Int) (s : Slot) : (clr id s).Turn = s.Turn := by unfold clr; split <;> rfl
theorem BG.gone {b : Board} (h : BG b) {k : Nat} (hk : k < b.Hosts.length) : BG ⟨lset b.Hosts (k : Int) ⟨(lget b.Hosts (k : Int)).ID, (lget b.Hosts (k : Int)).Epoch, false⟩, b.Slots.map (clr (lget b.Hosts (k : Int)).ID), b.Turn, b.Next⟩ := by
  refine h.hset (x := ⟨(lget b.Hosts (k : Int)).ID, (lget b.Hosts (k : Int)).Epoch, false⟩) hk rfl (h.hid _ (lget_mem b.Hosts (k : Int) (by omega))).2 ?_ ?_ ?_
  · unfold partsOf
    rw [List.map_map]
    exact List.map_congr_left fun s _ => clr_part _ s
  · intro s hs
    rw [List.mem_map] at hs
    obtain ⟨s0, h0, rfl⟩ := hs
    have g := h.sok s0 h0
    unfold clr
    by_cases c : s0.Host = (lget b.Hosts (k : Int)).ID
    · rw [if_pos c]
      have := g.1
      exact ⟨⟨by show (0 : Int) ≤ 0; omega, by show (0 : Int) ≤ 3; omega, this.2.2⟩, fun _ => rfl, fun e => absurd rfl e⟩
    · rw [if_neg c]
      refine g.mono (Int.le_refl _) (Int.le_refl _) ?_
      rintro _ ⟨x, hx, e1, e2⟩
      obtain ⟨m, hm, e3⟩ := mem_lget.1 hx
      have hmk : m ≠ k := by
        rintro rfl
        rw [e3] at c
        exact c e1.symm
      refine ⟨x, ?_, e1, e2⟩
      rw [mem_lget]
      refine ⟨m, by rw [lset_len]; exact hm, ?_⟩
      rw [lget_lset _ _ _ _ (by omega) (by omega), if_neg (by omega)]
      exact e3
  · rw [List.pairwise_map]
    refine h.tnd.imp ?_
    intro a c hac
    rw [clr_turn, clr_turn]
    exact hac
end G
end Go.Proofs.Ytdjlninhfndjfaa
