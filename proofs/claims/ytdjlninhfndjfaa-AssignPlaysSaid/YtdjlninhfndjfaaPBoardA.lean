/- Boards: what Check says. -/
import Derived.Test.YtdjlninhfndjfaaPFirst
import Derived.Test.YtdjlninhfndjfaaPPartsN
namespace Go.Proofs.Ytdjlninhfndjfaa
open Go Go.Dm
set_option linter.unusedVariables false
set_option linter.unusedSimpArgs false
namespace G
def numOk (n : Int) : Prop := 1 ≤ n ∧ n ≤ 1000000000
instance (n : Int) : Decidable (numOk n) := by unfold numOk; infer_instance
theorem anumber_eq (n : Int) : assign_number n = decide (numOk n) := by
  refine b_iff ?_
  unfold assign_number numOk
  simp only [Bool.and_eq_true, decide_eq_true_eq]
theorem one_eq (n : Int) : R_One n = decide (numOk n) := by
  refine b_iff ?_
  unfold R_One R_Num numOk
  dsimp only [lt]
  simp only [Bool.and_eq_true, decide_eq_true_eq]
  omega
theorem bad_n (p q : Prop) [Decidable p] [Decidable q] : (!decide p || !decide q) = decide (¬ p ∨ ¬ q) := by
  refine b_iff ?_
  simp only [Bool.or_eq_true, Bool.not_eq_true', decide_eq_false_iff_not]
/- parts -/
theorem lset_rep {α : Type} (a : List α) (m : Nat) (z x : α) : lset (a ++ List.replicate (m + 1) z) (a.length : Int) x = (a ++ [x]) ++ List.replicate m z := by
  unfold lset
  rw [Int.toNat_natCast, List.set_append_right _ _ (Nat.le_refl _), Nat.sub_self, List.replicate_succ, List.set_cons_zero, List.append_assoc]
  rfl
def partsOf (b : Board) : List Part := b.Slots.map Slot.Part
theorem aparts_eq (b : Board) (h : b.Slots.length ≤ 100000) : assign_Parts b = some (partsOf b) := by
  unfold assign_Parts
  rw [asrt_pos (by omega), Int.toNat_natCast]
  dsimp only [lt]
  have e : (List.replicate b.Slots.length (⟨[], [], 0⟩ : Part), (0 : Int)) = (fun k : Nat => ((b.Slots.take k).map Slot.Part ++ List.replicate (b.Slots.length - k) (⟨[], [], 0⟩ : Part), (k : Int))) 0 := by simp
  rw [e]
  refine loop_run (step := fun y => assign_Parts_B1 b y) b.Slots.length (fun k : Nat => ((b.Slots.take k).map Slot.Part ++ List.replicate (b.Slots.length - k) (⟨[], [], 0⟩ : Part), (k : Int))) (fun k hk => ?_) ?_
  · have hw : w64 ((k : Int) + 1) = ((k + 1 : Nat) : Int) := by rw [w64_id (by omega) (by omega)]; omega
    have hl : ((b.Slots.take k).map Slot.Part).length = k := by simp; omega
    have hs := lset_rep ((b.Slots.take k).map Slot.Part) (b.Slots.length - (k + 1)) (⟨[], [], 0⟩ : Part) (lget b.Slots (k : Int)).Part
    rw [hl, show b.Slots.length - (k + 1) + 1 = b.Slots.length - k by omega] at hs
    show assign_Parts_B1 b (_, (k : Int)) = _
    unfold assign_Parts_B1
    dsimp only
    rw [if_pos (d_t (by omega)), asrt_pos (by omega), asrt_pos (by rw [List.length_append, hl, List.length_replicate]; omega), asrt_pos (by rw [List.length_append, hl, List.length_replicate]; omega)]
    dsimp only [lt]
    rw [hw]
    have hs' : lset ((b.Slots.take k).map Slot.Part ++ List.replicate (b.Slots.length - k) (⟨[], [], 0⟩ : Part)) (k : Int) (⟨(lget b.Slots (k : Int)).Part.From, (lget b.Slots (k : Int)).Part.To, (lget b.Slots (k : Int)).Part.ID⟩ : Part) = _ := hs
    rw [hs', lget_take b.Slots k hk, List.map_append]
    rfl
  · show assign_Parts_B1 b (_, (b.Slots.length : Int)) = _
    unfold assign_Parts_B1
    dsimp only
    rw [if_neg (d_f (by omega)), List.take_length, Nat.sub_self]
    simp [inrO, assign_Parts_J1, partsOf]
theorem rparts_eq (b : Board) (h : b.Slots.length ≤ 100000) : R_PartsOf b = some (partsOf b) := by
  unfold R_PartsOf
  refine loop_run (step := fun y => R_PartsOf_B1 b y) b.Slots.length (fun k => ((b.Slots.take k).map Slot.Part, (k : Int))) (fun k hk => ?_) ?_
  · have hw : w64 ((k : Int) + 1) = ((k + 1 : Nat) : Int) := by rw [w64_id (by omega) (by omega)]; omega
    have hl : ((b.Slots.take k).map Slot.Part).length = k := by simp; omega
    show R_PartsOf_B1 b (_, (k : Int)) = _
    unfold R_PartsOf_B1
    dsimp only
    rw [if_pos (d_t (by omega)), asrt_pos (by omega), asrt_pos (by rw [List.length_append, hl]; simp; omega)]
    dsimp only [lt]
    rw [hw, lget_take b.Slots k hk, List.map_append]
    rfl
  · show R_PartsOf_B1 b (_, (b.Slots.length : Int)) = _
    unfold R_PartsOf_B1
    dsimp only
    rw [if_neg (d_f (by omega)), List.take_length]
    rfl
/- hosts -/
def hostI (b : Board) (id : Int) (k : Nat) : Option Int := if (lget b.Hosts (k : Int)).ID = id ∧ (lget b.Hosts (k : Int)).Alive = true then some (k : Int) else none
def hostAt (b : Board) (id : Int) : Int := firstFrom (hostI b id) (-1) 0 b.Hosts.length
theorem hostAt_eq (b : Board) (h : b.Hosts.length ≤ 100000) (id : Int) : assign_HostAt b id = some (hostAt b id) := by
  unfold assign_HostAt slices_IndexFunc_api_Host_api_Host
  have : slices_IndexFunc_api_Host_api_Host_L1 b.Hosts id 0 = some (hostAt b id) := by
    refine loop_firstF (step := fun y => slices_IndexFunc_api_Host_api_Host_B1 b.Hosts id y) (hostI b id) (-1) b.Hosts.length (fun k hk => ?_) ?_
    · have hw : w64 ((k : Int) + 1) = ((k + 1 : Nat) : Int) := by rw [w64_id (by omega) (by omega)]; omega
      show slices_IndexFunc_api_Host_api_Host_B1 b.Hosts id (k : Int) = _
      unfold slices_IndexFunc_api_Host_api_Host_B1 hostI
      rw [if_pos (d_t (by omega)), asrt_pos (by omega)]
      dsimp only [lt, assign_HostAt_1]
      by_cases c : (lget b.Hosts (k : Int)).ID = id ∧ (lget b.Hosts (k : Int)).Alive = true
      · rw [if_pos (by simp [c]), if_pos c]
      · rw [if_neg (by simpa using c), if_neg c, hw]
    · show slices_IndexFunc_api_Host_api_Host_B1 b.Hosts id (b.Hosts.length : Int) = _
      unfold slices_IndexFunc_api_Host_api_Host_B1
      rw [if_neg (d_f (by omega))]; rfl
  rw [this]; rfl
theorem hostIn_eq (b : Board) (h : b.Hosts.length ≤ 100000) (id : Int) : R_HostIn b id true = some (hostAt b id) := by
  unfold R_HostIn
  refine loop_firstF (step := fun y => R_HostIn_B1 b id true y) (hostI b id) (-1) b.Hosts.length (fun k hk => ?_) ?_
  · have hw : w64 ((k : Int) + 1) = ((k + 1 : Nat) : Int) := by rw [w64_id (by omega) (by omega)]; omega
    show R_HostIn_B1 b id true (k : Int) = _
    unfold R_HostIn_B1 hostI
    rw [if_pos (d_t (by omega)), asrt_pos (by omega), asrt_pos (fun _ => by omega)]
    by_cases c : (lget b.Hosts (k : Int)).ID = id ∧ (lget b.Hosts (k : Int)).Alive = true
    · rw [if_pos (by simp [c]), if_pos c]
    · rw [if_neg (by simpa using c), if_neg c, hw]
  · show R_HostIn_B1 b id true (b.Hosts.length : Int) = _
    unfold R_HostIn_B1
    rw [if_neg (d_f (by omega))]; rfl
theorem hostAt_bound (b : Board) (id : Int) : -1 ≤ hostAt b id ∧ hostAt b id < (b.Hosts.length : Int) := by
  unfold hostAt
  rcases firstFrom_cases (hostI b id) (-1) b.Hosts.length 0 with ⟨_, e⟩ | ⟨j, x, h1, h2, h3, _, e⟩
  · rw [e]; omega
  · rw [e]
    unfold hostI at h3
    split at h3
    · cases h3; omega
    · cases h3
/- Check -/
def turnM (l : List Int) : List (Int × Int) := l.foldl (fun m v => mput m v v) []
theorem turnM_snoc (l : List Int) (v : Int) : turnM (l ++ [v]) = mput (turnM l) v v := by simp [turnM]
theorem turnM_get (l : List Int) (v : Int) : (mget (turnM l) v).getD 0 = if v ∈ l then v else 0 := by
  suffices h : ∀ (r : List Int), (mget (turnM r.reverse) v).getD 0 = if v ∈ r.reverse then v else 0 by
    have := h l.reverse
    rwa [List.reverse_reverse] at this
  intro r
  induction r with
  | nil => simp [turnM, mget]
  | cons x r ih =>
    rw [List.reverse_cons, turnM_snoc, Go.Dm.mget_mput]
    by_cases h : x = v
    · subst h; simp
    · have : ¬ v = x := fun e => h e.symm
      rw [if_neg h, ih]
      simp [this]
def hostF (b : Board) (k : Nat) : Option Fault :=
  if ¬ numOk (lget b.Hosts (k : Int)).ID ∨ ¬ numOk (lget b.Hosts (k : Int)).Epoch then some ⟨3, k⟩
  else if (lget b.Hosts (k : Int)).ID ∈ (b.Hosts.take k).map Host.ID then some ⟨10, k⟩ else none
def slotC (b : Board) (k : Nat) : Int :=
  if (lget b.Slots (k : Int)).State < 0 ∨ 3 < (lget b.Slots (k : Int)).State ∨ (lget b.Slots (k : Int)).Turn < 0 ∨ b.Turn < (lget b.Slots (k : Int)).Turn ∨ (lget b.Slots (k : Int)).Part.ID < 1 ∨ b.Next ≤ (lget b.Slots (k : Int)).Part.ID then 3
  else if (lget b.Slots (k : Int)).State = 0 ∧ (lget b.Slots (k : Int)).Host ≠ 0 then 11
  else if (lget b.Slots (k : Int)).State ≠ 0 ∧ hostAt b (lget b.Slots (k : Int)).Host < 0 then 6
  else if (lget b.Slots (k : Int)).State ≠ 0 ∧ (lget b.Slots (k : Int)).Turn = 0 then 3
  else if 0 < (lget b.Slots (k : Int)).Turn ∧ (lget b.Slots (k : Int)).Turn ∈ (b.Slots.take k).map Slot.Turn then 10 else 0
def slotF (b : Board) (k : Nat) : Option Fault := if slotC b k = 0 then none else some ⟨slotC b k, -2001 - k⟩
noncomputable def boardF2 (b : Board) : Fault :=
  if ¬ (0 ≤ b.Turn ∧ b.Turn ≤ 1000000000) ∨ ¬ numOk b.Next then ⟨3, -2⟩
  else if ¬ (partsF (partsOf b)).Code = 0 then ⟨(partsF (partsOf b)).Code, w64 ((partsF (partsOf b)).At - 1000)⟩
  else firstFrom (slotF b) ⟨0, 0⟩ 0 b.Slots.length
noncomputable def boardF (b : Board) : Fault := if 20 < b.Hosts.length then ⟨2, -1⟩ else firstFrom (hostF b) (boardF2 b) 0 b.Hosts.length
theorem c6_b (s t bt i n : Int) : ((((((decide (s < 0)) || (decide (3 < s))) || (decide (t < 0))) || (decide (bt < t))) || (decide (i < 1))) || (decide (n ≤ i))) = decide (s < 0 ∨ 3 < s ∨ t < 0 ∨ bt < t ∨ i < 1 ∨ n ≤ i) := by
  refine b_iff ?_
  simp only [Bool.or_eq_true, decide_eq_true_eq, or_assoc]
theorem turn_leaf (t : Int) (L : List Int) : (if (decide (0 < (if t ∈ L then t else 0))) = true then some (10 : Int) else some 0) = some (if 0 < t ∧ t ∈ L then 10 else 0) := by
  by_cases c : t ∈ L
  · by_cases d : 0 < t <;> simp [c, d]
  · simp [c]
theorem slot_step (b : Board) (hh : b.Hosts.length ≤ 100000) (hs : b.Slots.length ≤ 100000) (k : Nat) (hk : k < b.Slots.length) :
    assign_Check_B1 b (turnM ((b.Slots.take k).map Slot.Turn), (k : Int)) = some (nx (slotF b k) (turnM ((b.Slots.take (k + 1)).map Slot.Turn), ((k + 1 : Nat) : Int))) := by
  have hw : w64 ((k : Int) + 1) = ((k + 1 : Nat) : Int) := by rw [w64_id (by omega) (by omega)]; omega
  have hw2 : w64 ((-2001) - (k : Int)) = -2001 - (k : Int) := w64_id (by omega) (by omega)
  have hn : turnM ((b.Slots.take (k + 1)).map Slot.Turn) = mput (turnM ((b.Slots.take k).map Slot.Turn)) (lget b.Slots (k : Int)).Turn (lget b.Slots (k : Int)).Turn := by
    rw [lget_take b.Slots k hk, List.map_append]; exact turnM_snoc _ _
  have key : (if ((((((decide (((lget b.Slots (k : Int)).State) < 0)) || (decide (3 < ((lget b.Slots (k : Int)).State)))) || (decide (((lget b.Slots (k : Int)).Turn) < 0))) || (decide (b.Turn < ((lget b.Slots (k : Int)).Turn)))) || (decide ((((lget b.Slots (k : Int)).Part).ID) < 1))) || (decide (b.Next ≤ (((lget b.Slots (k : Int)).Part).ID)))) = true then
        some 3
      else
        if ((decide (((lget b.Slots (k : Int)).State) = 0)) && (!decide (((lget b.Slots (k : Int)).Host) = 0))) = true then
          some 11
        else
          ob (if (!decide (((lget b.Slots (k : Int)).State) = 0)) = true then (assign_HostAt b ((lget b.Slots (k : Int)).Host)) else some default) fun x7 =>
          if ((!decide (((lget b.Slots (k : Int)).State) = 0)) && (decide (x7 < 0))) = true then
            some 6
          else
            if ((!decide (((lget b.Slots (k : Int)).State) = 0)) && (decide (((lget b.Slots (k : Int)).Turn) = 0))) = true then
              some 3
            else
              if (decide (0 < ((mget (turnM ((b.Slots.take k).map Slot.Turn)) ((lget b.Slots (k : Int)).Turn)).getD (0 : Int)))) = true then
                some 10
              else
                some 0) = some (slotC b k) := by
    rw [c6_b, turnM_get, turn_leaf]
    unfold slotC
    generalize lget b.Slots (k : Int) = s
    generalize (b.Slots.take k).map Slot.Turn = L
    by_cases c1 : s.State < 0 ∨ 3 < s.State ∨ s.Turn < 0 ∨ b.Turn < s.Turn ∨ s.Part.ID < 1 ∨ b.Next ≤ s.Part.ID
    · rw [if_pos (d_t c1), if_pos c1]
    · rw [if_neg (d_f c1), if_neg c1]
      by_cases c2 : s.State = 0
      · by_cases c3 : s.Host = 0
        · simp [c2, c3, ob_some]
        · simp [c2, c3]
      · rw [hostAt_eq b hh]
        by_cases c3 : hostAt b s.Host < 0
        · simp [c2, c3, ob_some]
        · by_cases c4 : s.Turn = 0
          · simp [c2, c3, c4, ob_some]
          · simp [c2, c3, c4, ob_some]
  unfold assign_Check_B1
  dsimp only
  rw [if_pos (d_t (by omega)), asrt_pos (by omega), key, ob_some]
  unfold slotF
  by_cases z : slotC b k = 0
  · rw [if_neg (n_f z), if_pos z, hn, hw]; rfl
  · rw [if_pos (n_t z), if_neg z, hw2]; rfl
theorem bcheck_eq (b : Board) (hs : b.Slots.length ≤ 100000) : assign_Check b = some (boardF b) := by
  unfold assign_Check boardF
  by_cases c : 20 < b.Hosts.length
  · rw [if_pos (d_t (by omega)), if_pos c]; rfl
  · rw [if_neg (d_f (by omega)), if_neg c]
    refine loop_firstG (step := fun y => assign_Check_B2 b y) (fun k => (seenM ((b.Hosts.take k).map Host.ID), (k : Int))) (hostF b) (boardF2 b) b.Hosts.length (fun k hk => ?_) ?_
    · have hw : w64 ((k : Int) + 1) = ((k + 1 : Nat) : Int) := by rw [w64_id (by omega) (by omega)]; omega
      have hn : seenM ((b.Hosts.take (k + 1)).map Host.ID) = mput (seenM ((b.Hosts.take k).map Host.ID)) (lget b.Hosts (k : Int)).ID 1 := by
        rw [lget_take b.Hosts k hk, List.map_append]; exact seenM_snoc _ _
      show assign_Check_B2 b (_, (k : Int)) = _
      unfold assign_Check_B2 hostF
      dsimp only
      rw [if_pos (d_t (by omega)), asrt_pos (by omega)]
      dsimp only [lt]
      rw [anumber_eq, anumber_eq, bad_n, seenM_get, hw]
      by_cases g : ¬ numOk (lget b.Hosts (k : Int)).ID ∨ ¬ numOk (lget b.Hosts (k : Int)).Epoch
      · rw [if_pos (d_t g), if_pos g]; rfl
      · rw [if_neg (d_f g), if_neg g]
        by_cases g2 : (lget b.Hosts (k : Int)).ID ∈ (b.Hosts.take k).map Host.ID
        · rw [if_pos g2, if_pos (by decide), if_pos g2]; rfl
        · rw [if_neg g2, if_neg (by decide), if_neg g2, hn]
    · show assign_Check_B2 b (_, (b.Hosts.length : Int)) = _
      unfold assign_Check_B2
      dsimp only
      rw [if_neg (d_f (by omega))]
      have : assign_Check_J1 b () = some (boardF2 b) := by
        unfold assign_Check_J1 boardF2
        dsimp only [lt]
        rw [anumber_eq, anumber_eq]
        have e : (((!decide (b.Turn = 0)) && (!decide (numOk b.Turn))) || (!decide (numOk b.Next))) = decide (¬ (0 ≤ b.Turn ∧ b.Turn ≤ 1000000000) ∨ ¬ numOk b.Next) := by
          refine b_iff ?_
          simp only [Bool.or_eq_true, Bool.and_eq_true, Bool.not_eq_true', decide_eq_false_iff_not]
          unfold numOk
          omega
        rw [e]
        by_cases g : ¬ (0 ≤ b.Turn ∧ b.Turn ≤ 1000000000) ∨ ¬ numOk b.Next
        · rw [if_pos (d_t g), if_pos g]; rfl
        · rw [if_neg (d_f g), if_neg g, aparts_eq b hs, ob_some, check_eq, ob_some]
          by_cases g2 : (partsF (partsOf b)).Code = 0
          · rw [if_neg (n_f g2), if_neg (not_not_intro g2)]
            refine loop_firstG (step := fun y => assign_Check_B1 b y) (fun k => (turnM ((b.Slots.take k).map Slot.Turn), (k : Int))) (slotF b) ⟨0, 0⟩ b.Slots.length (fun k hk => slot_step b (by omega) hs k hk) ?_
            show assign_Check_B1 b (_, (b.Slots.length : Int)) = _
            unfold assign_Check_B1
            dsimp only
            rw [if_neg (d_f (by omega))]; rfl
          · rw [if_pos (n_t g2), if_pos g2]; rfl
      rw [this]; rfl
end G
end Go.Proofs.Ytdjlninhfndjfaa
