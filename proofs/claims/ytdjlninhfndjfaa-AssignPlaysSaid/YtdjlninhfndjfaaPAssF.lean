/- Assign: what an order does, as a plain function. -/
import Derived.Test.YtdjlninhfndjfaaPAssO
namespace Go.Proofs.Ytdjlninhfndjfaa
open Go Go.Dm
set_option linter.unusedVariables false
set_option linter.unusedSimpArgs false
namespace G
def badB (c a : Int) : Board × Fault := (⟨[], [], 0, 0⟩, ⟨c, a⟩)
def hostJ (b : Board) (id : Int) (k : Nat) : Option Int := if (lget b.Hosts (k : Int)).ID = id then some (k : Int) else none
/-- where the host stands, alive or not -/
def hostK (b : Board) (id : Int) : Int := firstFrom (hostJ b id) (-1) 0 b.Hosts.length
def slotJ (b : Board) (id : Int) (k : Nat) : Option Int := if (lget b.Slots (k : Int)).Part.ID = id then some (k : Int) else none
def slotK (b : Board) (id : Int) : Int := firstFrom (slotJ b id) (-1) 0 b.Slots.length
def comeF (b : Board) (id : Int) : Board × Fault :=
  if ¬ numOk id then badB 3 (-1)
  else if 0 ≤ hostAt b id then badB 10 (-1)
  else if hostK b id < 0 then (if 20 ≤ b.Hosts.length then badB 2 (-1) else (⟨b.Hosts ++ [⟨id, 1, true⟩], b.Slots, b.Turn, b.Next⟩, ⟨0, 0⟩))
  else if 1000000000 ≤ (lget b.Hosts (hostK b id)).Epoch then badB 9 0
  else (⟨lset b.Hosts (hostK b id) ⟨id, (lget b.Hosts (hostK b id)).Epoch + 1, true⟩, b.Slots, b.Turn, b.Next⟩, ⟨0, 0⟩)
def goneF (b : Board) (id : Int) : Board × Fault :=
  if hostAt b id < 0 then badB 6 (-1)
  else (⟨lset b.Hosts (hostAt b id) ⟨(lget b.Hosts (hostAt b id)).ID, (lget b.Hosts (hostAt b id)).Epoch, false⟩, b.Slots.map (clr id), b.Turn, b.Next⟩, ⟨0, 0⟩)
/-- a slot made anew at its place -/
def setF (b : Board) (x : Int) (s : Slot) (t : Int) : Board × Fault := (⟨b.Hosts, lset b.Slots x s, t, b.Next⟩, ⟨0, 0⟩)
def doesF (b : Board) (o : Order) (x : Int) : Board × Fault :=
  let s := lget b.Slots x
  if o.Kind = 3 then
    if hostAt b o.Host < 0 then badB 6 (-2) else if s.State ≠ 0 then badB 11 (-1) else if 1000000000 ≤ b.Turn then badB 9 0 else setF b x ⟨s.Part, 1, o.Host, b.Turn + 1⟩ (b.Turn + 1)
  else if o.Kind = 4 then
    if s.Host ≠ o.Host ∨ s.Turn ≠ o.Turn then badB 12 (-1) else if s.State ≠ 1 then badB 11 (-1) else setF b x ⟨s.Part, 2, s.Host, s.Turn⟩ b.Turn
  else if o.Kind = 5 then
    if s.State ≠ 2 then badB 11 (-1) else setF b x ⟨s.Part, 3, s.Host, s.Turn⟩ b.Turn
  else if o.Kind = 6 then
    if s.Host ≠ o.Host ∨ s.Turn ≠ o.Turn then badB 12 (-1) else if s.State ≠ 3 then badB 11 (-1) else setF b x ⟨s.Part, 0, 0, s.Turn⟩ b.Turn
  else if o.Kind = 7 then
    if s.State ≠ 0 then badB 11 (-1) else if 40 < o.Row.length then badB 8 (-2) else if o.Row = s.Part.From ∨ ¬ hasP s.Part o.Row then badB 5 (-2) else if 200 ≤ b.Slots.length then badB 2 (-1)
    else if 1000000000 < b.Next + 2 then badB 9 0
    else (⟨b.Hosts, b.Slots.take x.toNat ++ [⟨⟨s.Part.From, o.Row, b.Next⟩, 0, 0, 0⟩, ⟨⟨o.Row, s.Part.To, b.Next + 1⟩, 0, 0, 0⟩] ++ b.Slots.drop (x.toNat + 1), b.Turn, b.Next + 2⟩, ⟨0, 0⟩)
  else
    if s.State ≠ 0 ∨ (lget b.Slots (x + 1)).State ≠ 0 then badB 11 (-1)
    else if 1000000000 < b.Next + 1 then badB 9 0
    else (⟨b.Hosts, b.Slots.take x.toNat ++ [⟨⟨s.Part.From, (lget b.Slots (x + 1)).Part.To, b.Next⟩, 0, 0, 0⟩] ++ b.Slots.drop (x.toNat + 2), b.Turn, b.Next + 1⟩, ⟨0, 0⟩)
noncomputable def ordF (b : Board) (o : Order) : Board × Fault :=
  if ¬ (boardF b).Code = 0 then (⟨[], [], 0, 0⟩, boardF b)
  else if o.Kind < 1 ∨ 8 < o.Kind then badB 4 0
  else if o.Kind = 1 then comeF b o.ID
  else if o.Kind = 2 then goneF b o.ID
  else if slotK b o.ID < 0 ∨ (o.Kind = 8 ∧ (b.Slots.length : Int) ≤ slotK b o.ID + 1) then badB 6 (-1)
  else doesF b o (slotK b o.ID)
theorem hostK_eq (b : Board) (h : b.Hosts.length ≤ 100000) (id : Int) : R_HostIn b id false = some (hostK b id) := by
  unfold R_HostIn
  refine loop_firstF (step := fun y => R_HostIn_B1 b id false y) (hostJ b id) (-1) b.Hosts.length (fun k hk => ?_) ?_
  · have hw : w64 ((k : Int) + 1) = ((k + 1 : Nat) : Int) := by rw [w64_id (by omega) (by omega)]; omega
    show R_HostIn_B1 b id false (k : Int) = _
    unfold R_HostIn_B1 hostJ
    rw [if_pos (d_t (by omega)), asrt_pos (by omega), asrt_pos (fun _ => by omega), hw]
    by_cases c : (lget b.Hosts (k : Int)).ID = id
    · rw [if_pos (by simp [c]), if_pos c]
    · rw [if_neg (by simp [c]), if_neg c]
  · show R_HostIn_B1 b id false (b.Hosts.length : Int) = _
    unfold R_HostIn_B1
    rw [if_neg (d_f (by omega))]; rfl
theorem slotK_eq (b : Board) (h : b.Slots.length ≤ 100000) (id : Int) : R_SlotIn b id = some (slotK b id) := by
  unfold R_SlotIn
  refine loop_firstF (step := fun y => R_SlotIn_B1 b id y) (slotJ b id) (-1) b.Slots.length (fun k hk => ?_) ?_
  · have hw : w64 ((k : Int) + 1) = ((k + 1 : Nat) : Int) := by rw [w64_id (by omega) (by omega)]; omega
    show R_SlotIn_B1 b id (k : Int) = _
    unfold R_SlotIn_B1 slotJ
    rw [if_pos (d_t (by omega)), asrt_pos (by omega), hw]
    by_cases c : (lget b.Slots (k : Int)).Part.ID = id
    · rw [if_pos (d_t c), if_pos c]
    · rw [if_neg (d_f c), if_neg c]
  · show R_SlotIn_B1 b id (b.Slots.length : Int) = _
    unfold R_SlotIn_B1
    rw [if_neg (d_f (by omega))]; rfl
theorem slotAt_eq (b : Board) (h : b.Slots.length ≤ 100000) (id : Int) : assign_SlotAt b id = some (slotK b id) := by
  unfold assign_SlotAt slices_IndexFunc_api_Slot_api_Slot
  have : slices_IndexFunc_api_Slot_api_Slot_L1 b.Slots id 0 = some (slotK b id) := by
    refine loop_firstF (step := fun y => slices_IndexFunc_api_Slot_api_Slot_B1 b.Slots id y) (slotJ b id) (-1) b.Slots.length (fun k hk => ?_) ?_
    · have hw : w64 ((k : Int) + 1) = ((k + 1 : Nat) : Int) := by rw [w64_id (by omega) (by omega)]; omega
      show slices_IndexFunc_api_Slot_api_Slot_B1 b.Slots id (k : Int) = _
      unfold slices_IndexFunc_api_Slot_api_Slot_B1 slotJ
      rw [if_pos (d_t (by omega)), asrt_pos (by omega), slot_eta]
      dsimp only [lt, assign_SlotAt_1]
      rw [hw]
      by_cases c : (lget b.Slots (k : Int)).Part.ID = id
      · rw [if_pos (d_t c), if_pos c]
      · rw [if_neg (d_f c), if_neg c]
    · show slices_IndexFunc_api_Slot_api_Slot_B1 b.Slots id (b.Slots.length : Int) = _
      unfold slices_IndexFunc_api_Slot_api_Slot_B1
      rw [if_neg (d_f (by omega))]; rfl
  rw [this]; rfl
end G
end Go.Proofs.Ytdjlninhfndjfaa
