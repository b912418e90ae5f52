/- Assign: the same functions with other forms of answers; Play, Boards. -/
import Derived.Test.YtdjlninhfndjfaaPAssQ
import Derived.Test.YtdjlninhfndjfaaPAssT
namespace Go.Proofs.Ytdjlninhfndjfaa
open Go Go.Dm
set_option linter.unusedVariables false
set_option linter.unusedSimpArgs false
namespace G
/-- what the one answers, the other answers in another form -/
def Rl {α β : Type} (f : α → β) (e1 : Option α) (e2 : Option β) : Prop := ∀ r, e1 = some r → e2 = some (f r)
theorem rl_some {α β : Type} {f : α → β} {x : α} {y : β} (h : y = f x) : Rl f (some x) (some y) := by
  intro r e; cases e; rw [h]
theorem rl_ob {α β γ : Type} {f : α → β} {e : Option γ} {k1 : γ → Option α} {k2 : γ → Option β} (h : ∀ x, Rl f (k1 x) (k2 x)) : Rl f (ob e k1) (ob e k2) := by
  intro r hr
  cases e with
  | none => cases hr
  | some x => exact h x r hr
theorem rl_lt {α β γ : Type} {f : α → β} {e : γ} {k1 : γ → Option α} {k2 : γ → Option β} (h : ∀ x, Rl f (k1 x) (k2 x)) : Rl f (lt e k1) (lt e k2) := h e
theorem rl_asrt {α β : Type} {f : α → β} {p : Prop} {k1 : Option α} {k2 : Option β} (h : p → Rl f k1 k2) : Rl f (asrt p k1) (asrt p k2) := by
  intro r hr
  obtain ⟨hp, hk⟩ := asrt_elim hr
  rw [asrt_pos hp]
  exact h hp r hk
theorem rl_ite {α β : Type} {f : α → β} {b : Bool} {x1 y1 : Option α} {x2 y2 : Option β} (h1 : Rl f x1 x2) (h2 : Rl f y1 y2) : Rl f (if b = true then x1 else y1) (if b = true then x2 else y2) := by
  cases b
  · exact h2
  · exact h1
theorem rl_inr {σ ρ ρ' : Type} {f : ρ → ρ'} {e1 : Option ρ} {e2 : Option ρ'} (h : Rl f e1 e2) : Rl (Sum.map (id : σ → σ) f) (inrO e1) (inrO e2) := by
  intro r hr
  cases e1 with
  | none => cases hr
  | some x =>
    cases hr
    rw [h x rfl]; rfl
theorem rl_loop {σ ρ ρ' : Type} {f : ρ → ρ'} {s1 : σ → Option (σ ⊕ ρ)} {s2 : σ → Option (σ ⊕ ρ')} (h : ∀ y, Rl (Sum.map (id : σ → σ) f) (s1 y) (s2 y)) (x : σ) : Rl f (loopO s1 x) (loopO s2 x) := by
  intro r hr
  have hi := loopO_iff.1 hr
  clear hr
  induction hi with
  | done hd => exact loopO_inr (h _ _ hd)
  | next hd ht ih => rw [loopO_inl (h _ _ hd)]; exact ih
def tup (r : Board × Fault) : List Host × List Slot × Int × Int × Fault := (r.1.Hosts, r.1.Slots, r.1.Turn, r.1.Next, r.2)
theorem rl_ord (b : Board) (o : Order) : Rl tup (R_Ordered_v1 b o) (R_Ordered b o) := by
  unfold R_Ordered_v1 R_Ordered
  have hL : ∀ x x1 v1 v0, Rl tup (R_Ordered_v1_L1 o x x1 v1 v0) (R_Ordered_L1 o x x1 v1 v0) := by
    intro x x1 v1 v0
    refine rl_loop (fun y => ?_) v0
    show Rl _ (R_Ordered_v1_B1 o x x1 v1 y) (R_Ordered_B1 o x x1 v1 y)
    unfold R_Ordered_v1_B1 R_Ordered_B1
    exact rl_ite (rl_asrt fun _ => rl_asrt fun _ => rl_ob fun _ => rl_some rfl) (rl_inr (rl_some rfl))
  have hJ : ∀ x x1 v, Rl tup (R_Ordered_v1_J2 x x1 v) (R_Ordered_J2 x x1 v) := by
    intro x x1 v
    unfold R_Ordered_v1_J2 R_Ordered_J2
    exact rl_ite (rl_lt fun _ => rl_some rfl) (rl_some rfl)
  repeat' first
    | exact hJ _ _ _
    | exact hL _ _ _ _
    | exact rl_some rfl
    | refine rl_ite ?_ ?_
    | refine rl_ob fun _ => ?_
    | refine rl_asrt fun _ => ?_
    | refine rl_lt fun _ => ?_
theorem ordered2_eq (b : Board) (hs : b.Slots.length ≤ 100000) (o : Order) : R_Ordered b o = some (tup (ordF b o)) := rl_ord b o _ (ordered_eq b hs o)
theorem rl_do (b : Board) (o : Order) : Rl tup (assign_Do_v1 b o) (assign_Do b o) := by
  unfold assign_Do_v1 assign_Do
  refine rl_ob fun _ => rl_ob fun _ => rl_ob fun _ => rl_ite (rl_some rfl) (rl_some rfl)
theorem do2_eq (b : Board) (hh : b.Hosts.length ≤ 100000) (hs : b.Slots.length ≤ 100000) (o : Order) : assign_Do b o = some (tup (ordF b o)) := rl_do b o _ (do_eq b hh hs o)
/- one order behind the other -/
noncomputable def nextB (b : Board) (o : Order) : Board := if (ordF b o).2.Code = 0 then (ordF b o).1 else b
theorem nextB_good {b : Board} (h : BG b) (o : Order) : BG (nextB b o) := by
  unfold nextB
  rcases ordF_so h o with ⟨e, hs⟩ | ⟨e, _⟩
  · rw [if_pos (by rw [e])]; exact hs.good h
  · rw [if_neg e]; exact h
theorem nextB_turn {b : Board} (h : BG b) (o : Order) : (nextB b o).Turn ≤ b.Turn + 1 ∧ (nextB b o).Next ≤ b.Next + 2 := by
  unfold nextB
  rcases ordF_so h o with ⟨e, hs⟩ | ⟨e, _⟩
  · rw [if_pos (by rw [e])]
    have := hs.turn
    omega
  · rw [if_neg e]; omega
/-- the boards ahead of, and behind so many orders -/
noncomputable def boardAt (os : List Order) : Nat → Board
  | 0 => newB
  | k + 1 => nextB (boardAt os k) (lget os (k : Int))
noncomputable def saidAt (os : List Order) : Nat → List Fault
  | 0 => []
  | k + 1 => saidAt os k ++ [(ordF (boardAt os k) (lget os (k : Int))).2]
noncomputable def boardsTo (os : List Order) : Nat → List Board
  | 0 => [newB]
  | k + 1 => boardsTo os k ++ [boardAt os (k + 1)]
theorem boardAt_good (os : List Order) : ∀ k, BG (boardAt os k)
  | 0 => new_good
  | k + 1 => nextB_good (boardAt_good os k) _
theorem boardAt_turn (os : List Order) : ∀ k : Nat, (boardAt os k).Turn ≤ k ∧ (boardAt os k).Next ≤ 2 + 2 * k
  | 0 => by constructor <;> (unfold boardAt newB; decide)
  | k + 1 => by
    have h1 := boardAt_turn os k
    have h2 := nextB_turn (boardAt_good os k) (lget os (k : Int))
    rw [boardAt]; omega
theorem saidAt_len (os : List Order) : ∀ k : Nat, (saidAt os k).length = k
  | 0 => rfl
  | k + 1 => by rw [saidAt, List.length_append, saidAt_len os k]; rfl
theorem boardsTo_len (os : List Order) : ∀ k : Nat, (boardsTo os k).length = k + 1
  | 0 => rfl
  | k + 1 => by rw [boardsTo, List.length_append, boardsTo_len os k]; rfl
theorem boardsTo_get (os : List Order) : ∀ (k j : Nat), j ≤ k → lget (boardsTo os k) (j : Int) = boardAt os j
  | 0, j, h => by
    have : j = 0 := by omega
    subst this; rfl
  | k + 1, j, h => by
    rw [boardsTo]
    by_cases e : j = k + 1
    · subst e
      rw [lget_app_r _ _ _ (by rw [boardsTo_len]; omega), boardsTo_len, Int.sub_self]; rfl
    · rw [lget_app_l _ _ _ (by rw [boardsTo_len]; omega)]
      exact boardsTo_get os k j (by omega)
theorem play_eq (os : List Order) (h : os.length ≤ 2000) : assign_Play_v1 os = some (boardAt os os.length, saidAt os os.length, ⟨0, 0⟩) := by
  unfold assign_Play_v1
  rw [if_neg (d_f (by omega))]
  have e0 : (([] : List Host), assign_New.1, assign_New.2.1, assign_New.2.2, ([] : List Fault), (0 : Int)) = ((boardAt os 0).Hosts, (boardAt os 0).Slots, (boardAt os 0).Turn, (boardAt os 0).Next, saidAt os 0, ((0 : Nat) : Int)) := rfl
  dsimp only [lt]
  rw [e0]
  refine loop_run (step := fun y => assign_Play_v1_B1 os y) os.length (fun k => ((boardAt os k).Hosts, (boardAt os k).Slots, (boardAt os k).Turn, (boardAt os k).Next, saidAt os k, (k : Int))) (fun k hk => ?_) ?_
  · have hg := boardAt_good os k
    have hsl := slot_len (bg_iff.2 hg)
    have hl := hg.hosts
    have hw : w64 ((k : Int) + 1) = ((k + 1 : Nat) : Int) := by rw [w64_id (by omega) (by omega)]; omega
    have ho : (⟨(lget os (k : Int)).Kind, (lget os (k : Int)).ID, (lget os (k : Int)).Host, (lget os (k : Int)).Turn, (lget os (k : Int)).Row⟩ : Order) = lget os (k : Int) := rfl
    have hb : (⟨(boardAt os k).Hosts, (boardAt os k).Slots, (boardAt os k).Turn, (boardAt os k).Next⟩ : Board) = boardAt os k := rfl
    show assign_Play_v1_B1 os (_, _, _, _, _, (k : Int)) = _
    rw [boardAt, saidAt]
    unfold assign_Play_v1_B1
    dsimp only
    rw [if_pos (d_t (by omega)), asrt_pos (by omega), ho, hb, do2_eq _ (by omega) (by omega), ob_some, hw]
    unfold tup nextB
    dsimp only
    by_cases c : (ordF (boardAt os k) (lget os (k : Int))).2.Code = 0
    · rw [if_pos (d_t c), if_pos c, ob_some, asrt_pos (by rw [List.length_append, saidAt_len]; simp; omega)]
    · rw [if_neg (d_f c), if_neg c, ob_some, asrt_pos (by rw [List.length_append, saidAt_len]; simp; omega)]
  · show assign_Play_v1_B1 os (_, _, _, _, _, (os.length : Int)) = _
    unfold assign_Play_v1_B1
    dsimp only
    rw [if_neg (d_f (by omega))]
    rfl
theorem boards_eq (os : List Order) (h : os.length ≤ 2000) : R_Boards_v1 os = some (boardsTo os os.length, saidAt os os.length) := by
  unfold R_Boards_v1
  have e0 : ([(⟨([] : List Host), [(⟨(⟨([] : List UInt8), ([] : List UInt8), 1⟩ : Part), 0, 0, 0⟩ : Slot)], 0, 2⟩ : Board)], ([] : List Fault), (0 : Int)) = (boardsTo os 0, saidAt os 0, ((0 : Nat) : Int)) := rfl
  dsimp only [lt]
  rw [e0]
  refine loop_run (step := fun y => R_Boards_v1_B1 os y) os.length (fun k => (boardsTo os k, saidAt os k, (k : Int))) (fun k hk => ?_) ?_
  · have hg := boardAt_good os k
    have hsl := slot_len (bg_iff.2 hg)
    have hl := hg.hosts
    have hw : w64 ((k : Int) + 1) = ((k + 1 : Nat) : Int) := by rw [w64_id (by omega) (by omega)]; omega
    have ho : (⟨(lget os (k : Int)).Kind, (lget os (k : Int)).ID, (lget os (k : Int)).Host, (lget os (k : Int)).Turn, (lget os (k : Int)).Row⟩ : Order) = lget os (k : Int) := rfl
    have hb : (⟨(boardAt os k).Hosts, (boardAt os k).Slots, (boardAt os k).Turn, (boardAt os k).Next⟩ : Board) = boardAt os k := rfl
    have hlen := boardsTo_len os k
    have hsn := saidAt_len os k
    show R_Boards_v1_B1 os (_, _, (k : Int)) = _
    rw [boardsTo, saidAt, boardAt]
    unfold R_Boards_v1_B1
    dsimp only
    rw [if_pos (d_t (by omega)), asrt_pos (by omega), asrt_pos (by omega), asrt_pos (by omega), ho, boardsTo_get os k k (Nat.le_refl _), hb, ordered2_eq _ (by omega), ob_some, hw]
    unfold tup nextB
    dsimp only
    rw [asrt_pos (by rw [List.length_append, hsn]; simp; omega)]
    by_cases c : (ordF (boardAt os k) (lget os (k : Int))).2.Code = 0
    · rw [if_neg (n_f c), if_pos c, ob_some, asrt_pos (by rw [List.length_append, hlen]; simp; omega)]
    · rw [if_pos (n_t c), if_neg c, asrt_pos (by omega), asrt_pos (by omega), ob_some, asrt_pos (by rw [List.length_append, hlen]; simp; omega)]
  · show R_Boards_v1_B1 os (_, _, (os.length : Int)) = _
    unfold R_Boards_v1_B1
    dsimp only
    rw [if_neg (d_f (by omega))]
    rfl
end G
end Go.Proofs.Ytdjlninhfndjfaa
