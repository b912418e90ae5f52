/- Boards: what the document's Check says. -/
import Derived.Test.YtdjlninhfndjfaaPBoardA
namespace Go.Proofs.Ytdjlninhfndjfaa
open Go Go.Dm
set_option linter.unusedVariables false
set_option linter.unusedSimpArgs false
namespace G
theorem mem_map_take {α β : Type} [Inhabited α] (l : List α) (f : α → β) (k : Nat) (hk : k ≤ l.length) (x : β) : x ∈ (l.take k).map f ↔ ∃ j : Nat, j < k ∧ f (lget l (j : Int)) = x := by
  rw [List.mem_map]
  constructor
  · rintro ⟨a, ha, e⟩
    obtain ⟨j, hj, e2⟩ := (mem_take_lget hk).1 ha
    exact ⟨j, hj, by rw [e2]; exact e⟩
  · rintro ⟨j, hj, e⟩
    exact ⟨_, (mem_take_lget hk).2 ⟨j, hj, rfl⟩, e⟩
theorem rslot_eq (b : Board) (hh : b.Hosts.length ≤ 100000) (hs : b.Slots.length ≤ 100000) (k : Nat) (hk : k < b.Slots.length) : R_SlotCode b (k : Int) = some (slotC b k) := by
  have hJ : R_SlotCode_J1 b (k : Int) () = some (if 0 < (lget b.Slots (k : Int)).Turn ∧ (lget b.Slots (k : Int)).Turn ∈ (b.Slots.take k).map Slot.Turn then 10 else 0) := by
    unfold R_SlotCode_J1 R_SlotCode_L1
    have := loop_any (step := fun y => R_SlotCode_B1 b (k : Int) y) k (fun j => (j : Int)) (fun j => 0 < (lget b.Slots (k : Int)).Turn ∧ (lget b.Slots (j : Int)).Turn = (lget b.Slots (k : Int)).Turn) (rb := 10) (r := 0)
      (fun j hj hb => by
        have hw : w64 ((j : Int) + 1) = ((j + 1 : Nat) : Int) := by rw [w64_id (by omega) (by omega)]; omega
        show R_SlotCode_B1 b (k : Int) (j : Int) = _
        unfold R_SlotCode_B1
        rw [if_pos (d_t (by omega)), asrt_pos (fun _ => by omega), if_neg (an_f hb), hw])
      (fun j hj hb => by
        show R_SlotCode_B1 b (k : Int) (j : Int) = _
        unfold R_SlotCode_B1
        rw [if_pos (d_t (by omega)), asrt_pos (fun _ => by omega), if_pos (an_t hb)])
      (by
        show R_SlotCode_B1 b (k : Int) (k : Int) = _
        unfold R_SlotCode_B1
        rw [if_neg (d_f (by omega))]; rfl)
    rcases this with ⟨⟨j, h1, h2, h3⟩, e⟩ | ⟨h1, e⟩
    · rw [if_pos ⟨h2, (mem_map_take b.Slots Slot.Turn k (by omega) _).2 ⟨j, h1, h3⟩⟩]; exact e
    · rw [if_neg]
      · exact e
      · rintro ⟨g1, g2⟩
        obtain ⟨j, hj, e2⟩ := (mem_map_take b.Slots Slot.Turn k (by omega) _).1 g2
        exact h1 j hj ⟨g1, e2⟩
  unfold R_SlotCode
  rw [asrt_pos (by omega), c6_b, hJ, hostIn_eq b hh, ob_some]
  unfold slotC
  generalize lget b.Slots (k : Int) = s
  generalize (b.Slots.take k).map Slot.Turn = L
  by_cases c1 : s.State < 0 ∨ 3 < s.State ∨ s.Turn < 0 ∨ b.Turn < s.Turn ∨ s.Part.ID < 1 ∨ b.Next ≤ s.Part.ID
  · rw [if_pos (d_t c1), if_pos c1]
  · rw [if_neg (d_f c1), if_neg c1]
    by_cases c2 : s.State = 0
    · by_cases c3 : s.Host = 0
      · simp [c2, c3]
      · simp [c2, c3]
    · by_cases c3 : hostAt b s.Host < 0
      · simp [c2, c3]
      · by_cases c4 : s.Turn = 0
        · simp [c2, c3, c4]
        · simp [c2, c3, c4]
theorem rboard_eq (b : Board) (hs : b.Slots.length ≤ 100000) : R_BoardFault b = some (boardF b) := by
  unfold R_BoardFault boardF
  by_cases c : 20 < b.Hosts.length
  · rw [if_pos (d_t (by omega)), if_pos c]; rfl
  · rw [if_neg (d_f (by omega)), if_neg c]
    refine loop_firstF (step := fun y => R_BoardFault_B2 b y) (hostF b) (boardF2 b) b.Hosts.length (fun k hk => ?_) ?_
    · have hw : w64 ((k : Int) + 1) = ((k + 1 : Nat) : Int) := by rw [w64_id (by omega) (by omega)]; omega
      have hL : R_BoardFault_L3 b (k : Int) 0 = some (if (lget b.Hosts (k : Int)).ID ∈ (b.Hosts.take k).map Host.ID then .inr ⟨10, k⟩ else .inl ((k + 1 : Nat) : Int)) := by
        have := loop_any (step := fun y => R_BoardFault_B3 b (k : Int) y) k (fun j => (j : Int)) (fun j => (lget b.Hosts (j : Int)).ID = (lget b.Hosts (k : Int)).ID) (rb := .inr ⟨10, k⟩) (r := .inl ((k + 1 : Nat) : Int))
          (fun j hj hb => by
            have hw : w64 ((j : Int) + 1) = ((j + 1 : Nat) : Int) := by rw [w64_id (by omega) (by omega)]; omega
            show R_BoardFault_B3 b (k : Int) (j : Int) = _
            unfold R_BoardFault_B3
            rw [if_pos (d_t (by omega)), asrt_pos (by omega), asrt_pos (by omega), if_neg (d_f hb), hw])
          (fun j hj hb => by
            show R_BoardFault_B3 b (k : Int) (j : Int) = _
            unfold R_BoardFault_B3
            rw [if_pos (d_t (by omega)), asrt_pos (by omega), asrt_pos (by omega), if_pos (d_t hb)]; rfl)
          (by
            show R_BoardFault_B3 b (k : Int) (k : Int) = _
            unfold R_BoardFault_B3
            rw [if_neg (d_f (by omega))]
            unfold R_BoardFault_J3
            rw [hw]; rfl)
        rcases this with ⟨⟨j, h1, h2⟩, e⟩ | ⟨h1, e⟩
        · rw [if_pos ((mem_map_take b.Hosts Host.ID k (by omega) _).2 ⟨j, h1, h2⟩)]; exact e
        · rw [if_neg]
          · exact e
          · intro g
            obtain ⟨j, hj, e2⟩ := (mem_map_take b.Hosts Host.ID k (by omega) _).1 g
            exact h1 j hj e2
      show R_BoardFault_B2 b (k : Int) = _
      unfold R_BoardFault_B2 hostF
      rw [if_pos (d_t (by omega)), asrt_pos (by omega)]
      dsimp only [lt]
      rw [one_eq, one_eq, asrt_pos (fun _ => by omega), bad_n, hL]
      by_cases g : ¬ numOk (lget b.Hosts (k : Int)).ID ∨ ¬ numOk (lget b.Hosts (k : Int)).Epoch
      · rw [if_pos (d_t g), if_pos g]; rfl
      · rw [if_neg (d_f g), if_neg g]
        by_cases g2 : (lget b.Hosts (k : Int)).ID ∈ (b.Hosts.take k).map Host.ID
        · rw [if_pos g2, if_pos g2]
        · rw [if_neg g2, if_neg g2]
    · show R_BoardFault_B2 b (b.Hosts.length : Int) = _
      unfold R_BoardFault_B2
      rw [if_neg (d_f (by omega))]
      have : R_BoardFault_J1 b () = some (boardF2 b) := by
        unfold R_BoardFault_J1 boardF2
        dsimp only [lt]
        rw [one_eq]
        have e : ((!(R_Num b.Turn)) || (!decide (numOk b.Next))) = decide (¬ (0 ≤ b.Turn ∧ b.Turn ≤ 1000000000) ∨ ¬ numOk b.Next) := by
          refine b_iff ?_
          unfold R_Num
          simp only [Bool.or_eq_true, Bool.not_eq_true', Bool.and_eq_false_iff, decide_eq_false_iff_not]
          constructor
          · rintro (h | h)
            · exact .inl (by omega)
            · exact .inr h
          · rintro (h | h)
            · exact .inl (by omega)
            · exact .inr h
        rw [e]
        by_cases g : ¬ (0 ≤ b.Turn ∧ b.Turn ≤ 1000000000) ∨ ¬ numOk b.Next
        · rw [if_pos (d_t g), if_pos g]; rfl
        · rw [if_neg (d_f g), if_neg g, rparts_eq b hs, ob_some, rcheck_eq, ob_some]
          by_cases g2 : (partsF (partsOf b)).Code = 0
          · rw [if_neg (n_f g2), if_neg (not_not_intro g2)]
            refine loop_firstF (step := fun y => R_BoardFault_B1 b y) (slotF b) ⟨0, 0⟩ b.Slots.length (fun k hk => ?_) ?_
            · have hw : w64 ((k : Int) + 1) = ((k + 1 : Nat) : Int) := by rw [w64_id (by omega) (by omega)]; omega
              have hw2 : w64 ((-2000) - (((k + 1 : Nat) : Int))) = -2001 - (k : Int) := by rw [w64_id (by omega) (by omega)]; omega
              show R_BoardFault_B1 b (k : Int) = _
              unfold R_BoardFault_B1 slotF
              rw [if_pos (d_t (by omega)), rslot_eq b (by omega) hs k hk, ob_some, ob_some, hw]
              dsimp only [lt]
              rw [hw2]
              by_cases z : slotC b k = 0
              · rw [if_neg (n_f z), if_pos z]
              · rw [if_pos (n_t z), if_neg z]; rfl
            · show R_BoardFault_B1 b (b.Slots.length : Int) = _
              unfold R_BoardFault_B1
              rw [if_neg (d_f (by omega))]; rfl
          · rw [if_pos (n_t g2), if_pos g2]; rfl
      rw [this]; rfl
/-- a board that is fine -/
structure BGood (b : Board) : Prop where
  hosts : b.Hosts.length ≤ 20
  host : ∀ k : Nat, k < b.Hosts.length → numOk (lget b.Hosts (k : Int)).ID ∧ numOk (lget b.Hosts (k : Int)).Epoch ∧ (lget b.Hosts (k : Int)).ID ∉ (b.Hosts.take k).map Host.ID
  turn : 0 ≤ b.Turn ∧ b.Turn ≤ 1000000000
  next : numOk b.Next
  parts : PGood (partsOf b)
  slot : ∀ k : Nat, k < b.Slots.length → slotC b k = 0
theorem hostF_none {b : Board} {k : Nat} : hostF b k = none ↔ numOk (lget b.Hosts (k : Int)).ID ∧ numOk (lget b.Hosts (k : Int)).Epoch ∧ (lget b.Hosts (k : Int)).ID ∉ (b.Hosts.take k).map Host.ID := by
  unfold hostF
  by_cases g : ¬ numOk (lget b.Hosts (k : Int)).ID ∨ ¬ numOk (lget b.Hosts (k : Int)).Epoch
  · rw [if_pos g]
    constructor
    · intro h; cases h
    · rintro ⟨h1, h2, _⟩; rcases g with g | g; exact absurd h1 g; exact absurd h2 g
  · rw [if_neg g]
    rw [not_or, Decidable.not_not, Decidable.not_not] at g
    by_cases g2 : (lget b.Hosts (k : Int)).ID ∈ (b.Hosts.take k).map Host.ID
    · rw [if_pos g2]
      exact ⟨fun h => (by cases h), fun h => absurd g2 h.2.2⟩
    · rw [if_neg g2]
      exact ⟨fun _ => ⟨g.1, g.2, g2⟩, fun _ => rfl⟩
theorem boardF_good {b : Board} : (boardF b).Code = 0 ↔ BGood b := by
  unfold boardF
  by_cases c : 20 < b.Hosts.length
  · rw [if_pos c]
    exact ⟨fun h => absurd h (by decide), fun h => by have := h.hosts; omega⟩
  · rw [if_neg c]
    rcases firstFrom_cases (hostF b) (boardF2 b) b.Hosts.length 0 with ⟨h1, h2⟩ | ⟨j, x, h1, h2, h3, _, h5⟩
    · rw [h2]
      have hh := fun k (hk : k < b.Hosts.length) => hostF_none.1 (h1 k (Nat.zero_le _) (by omega))
      unfold boardF2
      by_cases g : ¬ (0 ≤ b.Turn ∧ b.Turn ≤ 1000000000) ∨ ¬ numOk b.Next
      · rw [if_pos g]
        exact ⟨fun h => absurd h (by decide), fun h => by rcases g with g | g; exact absurd h.turn g; exact absurd h.next g⟩
      · rw [if_neg g]
        rw [not_or, Decidable.not_not, Decidable.not_not] at g
        by_cases g2 : (partsF (partsOf b)).Code = 0
        · rw [if_neg (not_not_intro g2)]
          have hp := partsF_good.1 g2
          rcases firstFrom_cases (slotF b) ⟨0, 0⟩ b.Slots.length 0 with ⟨a1, a2⟩ | ⟨j, x, a1, a2, a3, _, a5⟩
          · rw [a2]
            refine ⟨fun _ => ⟨by omega, hh, g.1, g.2, hp, fun k hk => ?_⟩, fun _ => rfl⟩
            have := a1 k (Nat.zero_le _) (by omega)
            unfold slotF at this
            split at this
            · assumption
            · cases this
          · rw [a5]
            constructor
            · intro h
              unfold slotF at a3
              split at a3
              · cases a3
              · rename_i z
                cases a3
                exact absurd h z
            · intro h
              unfold slotF at a3
              rw [if_pos (h.slot j (by omega))] at a3
              cases a3
        · rw [if_pos g2]
          exact ⟨fun h => absurd h g2, fun h => absurd (partsF_good.2 h.parts) g2⟩
    · rw [h5]
      constructor
      · intro h
        unfold hostF at h3
        split at h3
        · cases h3; exact absurd h (by show ¬ (3 : Int) = 0; decide)
        · split at h3
          · cases h3; exact absurd h (by show ¬ (10 : Int) = 0; decide)
          · cases h3
      · intro h
        rw [hostF_none.2 (h.host j (by omega))] at h3
        cases h3
theorem boardF_zero {b : Board} (h : (boardF b).Code = 0) : boardF b = ⟨0, 0⟩ := by
  have hg := boardF_good.1 h
  unfold boardF
  rw [if_neg (by have := hg.hosts; omega)]
  rcases firstFrom_cases (hostF b) (boardF2 b) b.Hosts.length 0 with ⟨h1, h2⟩ | ⟨j, x, h1, h2, h3, _, h5⟩
  · rw [h2]
    unfold boardF2
    rw [if_neg (by rintro (g | g); exact g hg.turn; exact g hg.next), if_neg (not_not_intro (partsF_good.2 hg.parts))]
    rcases firstFrom_cases (slotF b) ⟨0, 0⟩ b.Slots.length 0 with ⟨a1, a2⟩ | ⟨j, x, a1, a2, a3, _, a5⟩
    · exact a2
    · unfold slotF at a3
      rw [if_pos (hg.slot j (by omega))] at a3
      cases a3
  · rw [hostF_none.2 (hg.host j (by omega))] at h3
    cases h3
end G
end Go.Proofs.Ytdjlninhfndjfaa
