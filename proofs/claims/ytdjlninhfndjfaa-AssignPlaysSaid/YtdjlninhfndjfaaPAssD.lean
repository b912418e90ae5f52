/- Assign: Do, its lesser parts. -/
import Derived.Test.YtdjlninhfndjfaaPAssR
namespace Go.Proofs.Ytdjlninhfndjfaa
open Go Go.Dm
set_option linter.unusedVariables false
set_option linter.unusedSimpArgs false
namespace G
theorem hclone_eq (l : List Host) (h : l.length ≤ 100000) : slices_Clone_api_Host_api_Host l = some l := by
  have e : asrt (((([] : List Host) ++ l).length : Int) * 24 ≤ 140737488351232) (some (([] : List Host) ++ l)) = some l := by
    rw [asrt_pos (by simp; omega)]; rfl
  unfold slices_Clone_api_Host_api_Host ubO
  rw [e, asrt_pos]
  · split
    · rename_i c; simp at c; rw [c]
    · rfl
  · intro c; simp at c; rw [c]
theorem sclone_eq (l : List Slot) (h : l.length ≤ 100000) : slices_Clone_api_Slot_api_Slot l = some l := by
  have e : asrt (((([] : List Slot) ++ l).length : Int) * 64 ≤ 140737488351232) (some (([] : List Slot) ++ l)) = some l := by
    rw [asrt_pos (by simp; omega)]; rfl
  unfold slices_Clone_api_Slot_api_Slot ubO
  rw [e, asrt_pos]
  · split
    · rename_i c; simp at c; rw [c]
    · rfl
  · intro c; simp at c; rw [c]
theorem own_eq (b : Board) (hh : b.Hosts.length ≤ 100000) (hs : b.Slots.length ≤ 100000) : assign_own b = some (b.Hosts, b.Slots, b.Turn, b.Next) := by
  unfold assign_own
  rw [hclone_eq _ hh, ob_some, sclone_eq _ hs, ob_some]
theorem hostK2_eq (b : Board) (h : b.Hosts.length ≤ 100000) (id : Int) : slices_IndexFunc_api_Host_api_Host_v2 id b.Hosts = some (hostK b id) := by
  unfold slices_IndexFunc_api_Host_api_Host_v2
  refine loop_firstF (step := fun y => slices_IndexFunc_api_Host_api_Host_v2_B1 id b.Hosts y) (hostJ b id) (-1) b.Hosts.length (fun k hk => ?_) ?_
  · have hw : w64 ((k : Int) + 1) = ((k + 1 : Nat) : Int) := by rw [w64_id (by omega) (by omega)]; omega
    show slices_IndexFunc_api_Host_api_Host_v2_B1 id b.Hosts (k : Int) = _
    unfold slices_IndexFunc_api_Host_api_Host_v2_B1 hostJ
    rw [if_pos (d_t (by omega)), asrt_pos (by omega), asrt_pos (by omega)]
    dsimp only [lt, assign_come_1]
    rw [hw]
    by_cases c : (lget b.Hosts (k : Int)).ID = id
    · rw [if_pos (d_t c), if_pos c]
    · rw [if_neg (d_f c), if_neg c]
  · show slices_IndexFunc_api_Host_api_Host_v2_B1 id b.Hosts (b.Hosts.length : Int) = _
    unfold slices_IndexFunc_api_Host_api_Host_v2_B1
    rw [if_neg (d_f (by omega))]; rfl
theorem given_eq (k : Nat) (o : Order) (st : Int) (l : List Slot) (hk : k < l.length) : assign_given (k : Int) o st l = some (if (lget l (k : Int)).Host ≠ o.Host ∨ (lget l (k : Int)).Turn ≠ o.Turn then ⟨12, -1⟩ else if (lget l (k : Int)).State ≠ st then ⟨11, -1⟩ else ⟨0, 0⟩) := by
  unfold assign_given
  rw [asrt_pos (by omega), asrt_pos (fun _ => by omega)]
  by_cases cg : (lget l (k : Int)).Host ≠ o.Host ∨ (lget l (k : Int)).Turn ≠ o.Turn
  · rw [if_pos (by simpa using cg), if_pos cg]; rfl
  · rw [if_neg (by simpa using cg), if_neg cg, asrt_pos (by omega)]
    by_cases cs : (lget l (k : Int)).State = st
    · rw [if_neg (n_f cs), if_neg (not_not_intro cs)]
    · rw [if_pos (n_t cs), if_pos cs]; rfl
theorem lset_lset {α : Type} (l : List α) (k : Int) (x y : α) : lset (lset l k x) k y = lset l k y := by
  unfold lset
  rw [List.set_set]
theorem lget_own {α : Type} [Inhabited α] (l : List α) (k : Nat) (x : α) (hk : k < l.length) : lget (lset l (k : Int) x) (k : Int) = x := by
  rw [lget_lset _ _ _ _ (by omega) (by omega), if_pos rfl]
theorem off_eq (k : Nat) (l : List Slot) (hk : k < l.length) : assign_off (k : Int) l = some (lset l (k : Int) ⟨(lget l (k : Int)).Part, 0, 0, (lget l (k : Int)).Turn⟩) := by
  unfold assign_off
  rw [asrt_pos (by omega), asrt_pos (by rw [lset_len]; omega)]
  dsimp only [lt]
  rw [lget_own _ _ _ hk, lset_lset]
theorem lost_loop (id : Int) (row : List Host) (l : List Slot) (x : Int) (hl : l.length ≤ 100000) : assign_lost_L1 id row l x (l, 0) = some (⟨0, 0⟩, lset row x ⟨(lget row x).ID, (lget row x).Epoch, false⟩, l.map (clr id)) := by
  have e0 : (l, (0 : Int)) = ((l.take 0).map (clr id) ++ l.drop 0, ((0 : Nat) : Int)) := by simp
  unfold assign_lost_L1
  rw [e0]
  refine loop_run (step := fun y => assign_lost_B1 id row l x y) l.length (fun k => ((l.take k).map (clr id) ++ l.drop k, (k : Int))) (fun k hk => ?_) ?_
  · have hw : w64 ((k : Int) + 1) = ((k + 1 : Nat) : Int) := by rw [w64_id (by omega) (by omega)]; omega
    have hA : ((l.take k).map (clr id)).length = k := by rw [List.length_map, List.length_take]; omega
    show assign_lost_B1 id row l x (_, (k : Int)) = _
    have hn : (l.take (k + 1)).map (clr id) ++ l.drop (k + 1) = (l.take k).map (clr id) ++ clr id (lget l (k : Int)) :: l.drop (k + 1) := by
      rw [lget_take l k hk, List.map_append, List.append_assoc]; rfl
    rw [lget_drop l k hk, hn]
    generalize (l.take k).map (clr id) = A at hA
    generalize lget l (k : Int) = s
    generalize l.drop (k + 1) = B
    have hg : ∀ y : Slot, lget (A ++ y :: B) (k : Int) = y := by
      intro y
      rw [lget_app_r _ _ _ (by omega), hA, Int.sub_self]; rfl
    have hs : ∀ y z : Slot, lset (A ++ y :: B) (k : Int) z = A ++ z :: B := by
      intro y z
      have := lset_mid A y z B
      rwa [hA] at this
    have hlen : (A ++ s :: B).length = k + B.length + 1 := by
      rw [List.length_append, List.length_cons, hA]; omega
    unfold assign_lost_B1
    dsimp only
    rw [if_pos (d_t (by omega)), asrt_pos (by omega), asrt_pos (by omega), hg, hw, asrt_pos (by omega), off_eq k _ (by omega), hs, hg, ob_some]
    unfold clr
    by_cases c : s.Host = id
    · rw [if_pos (d_t c), if_pos c]; rfl
    · rw [if_neg (d_f c), if_neg c]; rfl
  · show assign_lost_B1 id row l x (_, (l.length : Int)) = _
    unfold assign_lost_B1
    dsimp only
    rw [List.take_length, List.drop_length, List.append_nil, if_neg (d_f (by omega))]
    rfl
end G
end Go.Proofs.Ytdjlninhfndjfaa
