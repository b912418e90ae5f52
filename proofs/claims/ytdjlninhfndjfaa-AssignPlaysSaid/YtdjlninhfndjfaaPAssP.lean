/- Assign: the document's Due = dueF; the same orders. -/
import Derived.Test.YtdjlninhfndjfaaPAssN
namespace Go.Proofs.Ytdjlninhfndjfaa
open Go Go.Dm
set_option linter.unusedVariables false
set_option linter.unusedSimpArgs false
namespace G
theorem rdue_in {b : Board} (hl : b.Hosts.length ≤ 20) (x : List Host × List Slot × Int × Int) (hx : x.1 = b.Hosts) (out : List Order) (l : List Slot) (hll : l.length ≤ 200) (k : Int) : ∀ (m i : Nat) (best : Int), b.Hosts.length - i = m → i ≤ b.Hosts.length →
    ∀ v, R_DueOrders_v1_J3 (out, l, k) (pickF (cntS l) (b.Hosts.drop i) best) = some v → R_DueOrders_v1_L2 x (out, l, k) (best, (i : Int)) = some v
  | 0, i, best, hm, hi, v, hv => by
    have : i = b.Hosts.length := by omega
    subst this
    rw [List.drop_length] at hv
    refine loopO_inr ?_
    unfold R_DueOrders_v1_B2
    rw [hx, if_neg (d_f (by omega))]
    show inrO (R_DueOrders_v1_J3 (out, l, k) best) = _
    rw [show R_DueOrders_v1_J3 (out, l, k) best = some v from hv]; rfl
  | m + 1, i, best, hm, hi, v, hv => by
    have hlt : i < b.Hosts.length := by omega
    have hw : w64 ((i : Int) + 1) = ((i + 1 : Nat) : Int) := by rw [w64_id (by omega) (by omega)]; omega
    rw [lget_drop b.Hosts i hlt, pickF] at hv
    have step : R_DueOrders_v1_B2 x (out, l, k) (best, (i : Int)) = some (.inl (if better (cntS l) (lget b.Hosts (i : Int)) best then (lget b.Hosts (i : Int)).ID else best, ((i + 1 : Nat) : Int))) := by
      have e : ∀ id, R_LoadOf (⟨b.Hosts, l, x.2.2.1, x.2.2.2⟩ : Board) id = some (cntS l id) := fun id => load_eq (⟨b.Hosts, l, x.2.2.1, x.2.2.2⟩ : Board) (by show l.length ≤ 100000; omega) id
      unfold R_DueOrders_v1_B2
      dsimp only
      rw [hx, if_pos (d_t (by omega)), asrt_pos (by omega), asrt_pos (by omega), hw, e, e]
      generalize lget b.Hosts (i : Int) = H
      by_cases ha : H.Alive = true
      · by_cases c0 : best = 0
        · rw [if_pos (show better (cntS l) H best from ⟨ha, .inl c0⟩)]
          simp [ha, c0, ob_some]
        · by_cases c1 : cntS l H.ID < cntS l best
          · rw [if_pos (show better (cntS l) H best from ⟨ha, .inr (.inl c1)⟩)]
            simp [ha, c0, c1, ob_some, Int.not_le.2 c1]
          · by_cases c2 : cntS l H.ID = cntS l best
            · by_cases c3 : H.ID < best
              · rw [if_pos (show better (cntS l) H best from ⟨ha, .inr (.inr ⟨c2, c3⟩)⟩)]
                simp [ha, c0, c2, c3, ob_some]
              · rw [if_neg (show ¬ better (cntS l) H best from fun g => by rcases g.2 with g | g | g; exact c0 g; exact c1 g; exact c3 g.2)]
                simp [ha, c0, c2, c3, ob_some]
            · rw [if_neg (show ¬ better (cntS l) H best from fun g => by rcases g.2 with g | g | g; exact c0 g; exact c1 g; exact c2 g.1)]
              simp [ha, c0, c1, c2, ob_some, Int.not_lt.1 c1]
      · rw [if_neg (show ¬ better (cntS l) H best from fun g => ha g.1)]
        simp [ha, ob_some]
    have := rdue_in hl x hx out l hll k m (i + 1) _ (by omega) (by omega) v hv
    unfold R_DueOrders_v1_L2 at this ⊢
    rw [loopO_inl step]
    exact this
theorem rdue_loop {b : Board} (h : BG b) (x : List Host × List Slot × Int × Int) (hx : x.1 = b.Hosts) : ∀ (B A : List Slot) (k : Nat) (out : List Order), A.length + B.length ≤ 200 → A.length = k → out.length ≤ k →
    R_DueOrders_v1_L1 x (out, A ++ B, (k : Int)) = some (out ++ dueF b.Hosts A B)
  | [], A, k, out, hB, hA, ho => by
    refine loopO_inr ?_
    unfold R_DueOrders_v1_B1
    dsimp only
    rw [List.append_nil, if_neg (d_f (by omega)), dueF, List.append_nil]; rfl
  | s :: B, A, k, out, hB, hA, ho => by
    have hl := h.hosts
    rw [List.length_cons] at hB
    have hlen : (A ++ s :: B).length = k + 1 + B.length := by simp; omega
    have hg : ∀ y : Slot, lget (A ++ y :: B) (k : Int) = y := by
      intro y
      rw [lget_app_r _ _ _ (by omega), hA, Int.sub_self]; rfl
    have hs : ∀ y z : Slot, lset (A ++ y :: B) (k : Int) z = A ++ z :: B := by
      intro y z
      have := lset_mid A y z B
      rwa [hA] at this
    have hw : w64 ((k : Int) + 1) = ((k + 1 : Nat) : Int) := by rw [w64_id (by omega) (by omega)]; omega
    have e1 : ∀ y : Slot, A ++ y :: B = (A ++ [y]) ++ B := fun y => by rw [List.append_assoc]; rfl
    by_cases c0 : s.State = 0
    · have hL : ∀ w, R_DueOrders_v1_L2 x (out, A ++ s :: B, (k : Int)) (0, 0) = some (.inl w) → R_DueOrders_v1_L1 x (out, A ++ s :: B, (k : Int)) = R_DueOrders_v1_L1 x w := by
        intro w hw
        refine loopO_inl ?_
        unfold R_DueOrders_v1_B1
        dsimp only
        rw [if_pos (d_t (by omega)), asrt_pos (by omega), asrt_pos (by omega), hg, if_neg (n_f c0), hw]
      have hJ := fun v hv => hL v (rdue_in hl x hx out (A ++ s :: B) (by omega) (k : Int) b.Hosts.length 0 0 (by omega) (by omega) (.inl v) hv)
      rw [List.drop_zero] at hJ
      rw [dueF]
      generalize pickF (cntS (A ++ s :: B)) b.Hosts 0 = p at hJ
      by_cases c1 : 0 < p
      · rw [if_pos ⟨c0, c1⟩]
        refine (hJ (out ++ [⟨3, s.Part.ID, p, 0, []⟩], A ++ (⟨s.Part, 1, p, s.Turn⟩ : Slot) :: B, ((k + 1 : Nat) : Int)) ?_).trans ?_
        · have h2 : ∀ y : Slot, (A ++ y :: B).length = k + 1 + B.length := by intro y; simp; omega
          unfold R_DueOrders_v1_J3
          dsimp only [lt]
          simp only [hg, hs, h2]
          rw [if_pos (d_t c1), asrt_pos (by omega), asrt_pos (by omega), asrt_pos (by omega), asrt_pos (by omega), asrt_pos (by omega), asrt_pos (by omega), asrt_pos (by rw [List.length_append]; simp; omega)]
          unfold R_DueOrders_v1_J2
          dsimp only
          rw [hw]
        · rw [e1]
          refine (rdue_loop h x hx B (A ++ [(⟨s.Part, 1, p, s.Turn⟩ : Slot)]) (k + 1) (out ++ [(⟨3, s.Part.ID, p, 0, []⟩ : Order)]) (by simp; omega) (by simp; omega) (by simp; omega)).trans ?_
          rw [List.append_assoc]
          rfl
      · rw [if_neg (fun g => c1 g.2)]
        refine (hJ (out, A ++ s :: B, ((k + 1 : Nat) : Int)) ?_).trans ?_
        · unfold R_DueOrders_v1_J3 R_DueOrders_v1_J2
          dsimp only
          rw [if_neg (d_f c1), hw]
        · rw [e1]
          exact rdue_loop h x hx B (A ++ [s]) (k + 1) out (by simp; omega) (by simp; omega) (by omega)
    · have hL : R_DueOrders_v1_L1 x (out, A ++ s :: B, (k : Int)) = R_DueOrders_v1_L1 x (out, A ++ s :: B, ((k + 1 : Nat) : Int)) := by
        refine loopO_inl ?_
        unfold R_DueOrders_v1_B1 R_DueOrders_v1_J2
        dsimp only
        rw [if_pos (d_t (by omega)), asrt_pos (by omega), asrt_pos (by omega), hg, if_pos (n_t c0), hw]
      rw [dueF, if_neg (fun g => c0 g.1), hL, e1]
      exact rdue_loop h x hx B (A ++ [s]) (k + 1) out (by simp; omega) (by simp; omega) (by omega)
theorem rdue_eq {b : Board} (h : BG b) : R_DueOrders_v1 b = some (dueF b.Hosts [] b.Slots) := by
  have hl := h.hosts
  have hsl := slot_len (bg_iff.2 h)
  unfold R_DueOrders_v1 R_CopyBoard
  rw [asrt_pos (by omega), asrt_pos (by omega), ob_some]
  exact rdue_loop h _ rfl b.Slots [] 0 [] (by simp; omega) rfl (by simp)
theorem orders_self (l : List Order) (h : l.length ≤ 100000) : R_SameOrders l l = some true := by
  unfold R_SameOrders
  rw [if_neg (n_f rfl)]
  refine loop_run (step := fun y => R_SameOrders_B1 l l y) l.length (fun k => (k : Int)) (fun k hk => ?_) ?_
  · have hw : w64 ((k : Int) + 1) = ((k + 1 : Nat) : Int) := by rw [w64_id (by omega) (by omega)]; omega
    show R_SameOrders_B1 l l (k : Int) = _
    unfold R_SameOrders_B1
    rw [if_pos (d_t (by omega)), asrt_pos (by omega), asrt_pos (by omega), hw]
    simp
  · show R_SameOrders_B1 l l (l.length : Int) = _
    unfold R_SameOrders_B1
    rw [if_neg (d_f (by omega))]; rfl
theorem board_self (b : Board) (hh : b.Hosts.length ≤ 100000) (hs : b.Slots.length ≤ 100000) : R_SameBoard b b = some true := by
  unfold R_SameBoard
  rw [if_neg (by simp)]
  refine loop_run (step := fun y => R_SameBoard_B2 b b y) b.Hosts.length (fun k => (k : Int)) (fun k hk => ?_) ?_
  · have hw : w64 ((k : Int) + 1) = ((k + 1 : Nat) : Int) := by rw [w64_id (by omega) (by omega)]; omega
    show R_SameBoard_B2 b b (k : Int) = _
    unfold R_SameBoard_B2
    rw [if_pos (d_t (by omega)), asrt_pos (by omega), asrt_pos (by omega), hw]
    simp
  · have hJ : R_SameBoard_J1 b b () = some true := by
      refine loop_run (step := fun y => R_SameBoard_B1 b b y) b.Slots.length (fun k => (k : Int)) (fun k hk => ?_) ?_
      · have hw : w64 ((k : Int) + 1) = ((k + 1 : Nat) : Int) := by rw [w64_id (by omega) (by omega)]; omega
        show R_SameBoard_B1 b b (k : Int) = _
        unfold R_SameBoard_B1
        rw [if_pos (d_t (by omega)), asrt_pos (by omega), asrt_pos (by omega), hw]
        simp
      · show R_SameBoard_B1 b b (b.Slots.length : Int) = _
        unfold R_SameBoard_B1
        rw [if_neg (d_f (by omega))]; rfl
    show R_SameBoard_B2 b b (b.Hosts.length : Int) = _
    unfold R_SameBoard_B2
    rw [if_neg (d_f (by omega)), hJ]; rfl
end G
end Go.Proofs.Ytdjlninhfndjfaa
