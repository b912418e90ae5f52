/- Assign: Due = dueF, the program's and the document's. -/
import Derived.Test.YtdjlninhfndjfaaPAssM
namespace Go.Proofs.Ytdjlninhfndjfaa
open Go Go.Dm
set_option linter.unusedVariables false
set_option linter.unusedSimpArgs false
namespace G
/-- a host's place, and its number -/
def Rel (H : List Host) (bi best : Int) : Prop := (bi = -1 ∧ best = 0) ∨ ∃ j : Nat, j < H.length ∧ bi = (j : Int) ∧ (lget H (j : Int)).Alive = true ∧ (lget H (j : Int)).ID = best
theorem due_in {b : Board} (h : BG b) (f : Int → Int) (out : List Order) (k : Nat) (hk : k < b.Slots.length) (hs : (lget b.Slots (k : Int)).State = 0) : ∀ (m i : Nat) (bi best : Int), b.Hosts.length - i = m → i ≤ b.Hosts.length → Rel b.Hosts bi best →
    ∃ bi', Rel b.Hosts bi' (pickF f (b.Hosts.drop i) best) ∧ ∀ v, assign_Due_v1_J2 b (ldF b.Hosts f, out, (k : Int)) bi' = some v → assign_Due_v1_L2 b (ldF b.Hosts f, out, (k : Int)) (bi, (i : Int)) = some v
  | 0, i, bi, best, hm, hi, hr => by
    have hl := h.hosts
    have : i = b.Hosts.length := by omega
    subst this
    refine ⟨bi, ?_, fun v hv => ?_⟩
    · rw [List.drop_length]; exact hr
    · refine loopO_inr ?_
      unfold assign_Due_v1_B2
      rw [if_neg (d_f (by omega)), hv]; rfl
  | m + 1, i, bi, best, hm, hi, hr => by
    have hl := h.hosts
    have hlt : i < b.Hosts.length := by omega
    have hw : w64 ((i : Int) + 1) = ((i + 1 : Nat) : Int) := by rw [w64_id (by omega) (by omega)]; omega
    have hid := (h.hid _ (lget_mem b.Hosts (i : Int) (by omega))).1
    unfold numOk at hid
    rw [lget_drop b.Hosts i hlt, pickF]
    have step : ∃ bi2, Rel b.Hosts bi2 (if better f (lget b.Hosts (i : Int)) best then (lget b.Hosts (i : Int)).ID else best) ∧ assign_Due_v1_B2 b (ldF b.Hosts f, out, (k : Int)) (bi, (i : Int)) = some (.inl (bi2, ((i + 1 : Nat) : Int))) := by
      unfold assign_Due_v1_B2
      dsimp only
      rw [if_pos (d_t (by omega)), asrt_pos (by omega), hs, hw]
      have hbi : (0 ≤ bi → bi < (b.Hosts.length : Int) ∧ best ≠ 0) ∧ (bi < 0 → best = 0) := by
        rcases hr with ⟨e1, e2⟩ | ⟨j, hj, e1, _, e2⟩
        · omega
        · have := (h.hid _ (lget_mem b.Hosts (j : Int) (by omega))).1
          unfold numOk at this
          omega
      rw [asrt_pos (fun _ _ => by rw [ldF_len]; omega), asrt_pos (fun _ _ => by rw [ldF_len]; omega)]
      rw [asrt_pos (fun c _ => by simp at c; rw [ldF_len]; omega), asrt_pos (fun c _ => by simp at c; rw [ldF_len]; omega)]
      rw [asrt_pos (fun _ _ => by rw [ldF_len]; omega), asrt_pos (fun _ _ => by rw [ldF_len]; omega)]
      rw [asrt_pos (fun c _ => by simp at c; rw [ldF_len]; omega), asrt_pos (fun c _ => by simp at c; rw [ldF_len]; omega)]
      rw [asrt_pos (fun _ c _ => by simp at c; omega)]
      by_cases c : better f (lget b.Hosts (i : Int)) best
      · refine ⟨(i : Int), ?_, ?_⟩
        · rw [if_pos c]; exact .inr ⟨i, hlt, rfl, c.1, rfl⟩
        · rw [if_pos, ob_some]
          rw [ldF_get _ _ _ hlt, if_pos c.1]
          rcases hr with ⟨e1, e2⟩ | ⟨j, hj, e1, ha, e2⟩
          · subst e1
            simp [c.1]
          · subst e1
            rw [ldF_get _ _ _ hj, if_pos ha, e2]
            rcases c.2 with g | g | g
            · have := (h.hid _ (lget_mem b.Hosts (j : Int) (by omega))).1
              unfold numOk at this
              omega
            · simp [c.1, g]
            · simp [c.1, g.1, g.2]
      · refine ⟨bi, ?_, ?_⟩
        · rw [if_neg c]; exact hr
        · rw [if_neg, ob_some]
          intro g
          apply c
          cases ha : (lget b.Hosts (i : Int)).Alive with
          | false => rw [ha] at g; simp at g
          | true =>
            refine ⟨ha, ?_⟩
            rw [ldF_get _ _ _ hlt, if_pos ha, ha] at g
            rcases hr with ⟨e1, e2⟩ | ⟨j, hj, e1, ha2, e2⟩
            · exact .inl e2
            · subst e1
              rw [ldF_get _ _ _ hj, if_pos ha2, e2] at g
              simp at g
              rcases g with (g | g) | g
              · omega
              · exact .inr (.inl g)
              · exact .inr (.inr g)
    obtain ⟨bi2, hr2, hst⟩ := step
    obtain ⟨bi', h1, h2⟩ := due_in h f out k hk hs m (i + 1) bi2 _ (by omega) (by omega) hr2
    refine ⟨bi', h1, fun v hv => ?_⟩
    have := h2 v hv
    unfold assign_Due_v1_L2 at this ⊢
    rw [loopO_inl hst]
    exact this
theorem due_loop {b : Board} (h : BG b) : ∀ (B A : List Slot) (k : Nat) (out : List Order), b.Slots.drop k = B → A.length = k → out.length ≤ k →
    assign_Due_v1_L1 b (ldF b.Hosts (cntS (A ++ B)), out, (k : Int)) = some (out ++ dueF b.Hosts A B, ⟨0, 0⟩)
  | [], A, k, out, hB, hA, ho => by
    have hsl := slot_len (bg_iff.2 h)
    have hk : b.Slots.length ≤ k := List.drop_eq_nil_iff.1 hB
    refine loopO_inr ?_
    unfold assign_Due_v1_B1
    dsimp only
    rw [if_neg (d_f (by omega)), dueF, List.append_nil]; rfl
  | s :: B, A, k, out, hB, hA, ho => by
    have hsl := slot_len (bg_iff.2 h)
    have hl := h.hosts
    have hk : k < b.Slots.length := by
      apply Decidable.byContradiction
      intro c
      rw [List.drop_eq_nil_of_le (by omega)] at hB; cases hB
    rw [lget_drop b.Slots k hk] at hB
    injection hB with hs hB
    have hw : w64 ((k : Int) + 1) = ((k + 1 : Nat) : Int) := by rw [w64_id (by omega) (by omega)]; omega
    have hL : ∀ w, assign_Due_v1_L2 b (ldF b.Hosts (cntS (A ++ s :: B)), out, (k : Int)) (-1, 0) = some (.inl w) → assign_Due_v1_L1 b (ldF b.Hosts (cntS (A ++ s :: B)), out, (k : Int)) = assign_Due_v1_L1 b w := by
      intro w hw
      refine loopO_inl ?_
      unfold assign_Due_v1_B1
      dsimp only
      rw [if_pos (d_t (by omega)), asrt_pos (by omega), hw]
    have hcl : cntS (A ++ s :: B) = cntS ((A ++ [s]) ++ B) := by rw [List.append_assoc]; rfl
    by_cases c0 : s.State = 0
    · obtain ⟨bi, hr, hJ⟩ := due_in h (cntS (A ++ s :: B)) out k hk (by rw [hs]; exact c0) b.Hosts.length 0 (-1) 0 (by omega) (by omega) (.inl ⟨rfl, rfl⟩)
      rw [List.drop_zero] at hr
      have hJ' := fun v hv => hL v (hJ (.inl v) hv)
      rw [dueF]
      generalize hp : pickF (cntS (A ++ s :: B)) b.Hosts 0 = p at hr
      rcases hr with ⟨e1, e2⟩ | ⟨j, hj, e1, hal, e2⟩
      · rw [if_neg (by omega)]
        refine (hJ' (ldF b.Hosts (cntS (A ++ s :: B)), out, ((k + 1 : Nat) : Int)) ?_).trans ?_
        · unfold assign_Due_v1_J2
          rw [e1, if_neg (d_f (by omega)), ob_some, hw]
        · rw [hcl]
          exact due_loop h B (A ++ [s]) (k + 1) out hB (by simp; omega) (by omega)
      · have hid := (h.hid _ (lget_mem b.Hosts (j : Int) (by omega))).1
        unfold numOk at hid
        rw [if_pos ⟨c0, by omega⟩]
        have hcn := cntS_le (A ++ s :: B) (lget b.Hosts (j : Int)).ID
        have hll : (A ++ s :: B).length = b.Slots.length := by
          have := congrArg List.length hB
          rw [List.length_drop] at this
          rw [List.length_append, List.length_cons]; omega
        have hup := ldF_up b.Hosts h.hnd (cntS (A ++ s :: B)) (cntS ((A ++ [⟨s.Part, 1, p, s.Turn⟩]) ++ B)) j hj hal (by
          intro id
          simp only [List.append_assoc, cntS_app, cntS_cons, cntS_nil, e2]
          rw [if_neg (show ¬ (0 < s.State ∧ s.Host = id) by omega)]
          by_cases g : id = p
          · rw [if_pos ⟨by decide, g.symm⟩, if_pos g]; omega
          · rw [if_neg (fun x => g x.2.symm), if_neg g]; omega)
        refine (hJ' (ldF b.Hosts (cntS ((A ++ [⟨s.Part, 1, p, s.Turn⟩]) ++ B)), out ++ [⟨3, s.Part.ID, p, 0, []⟩], ((k + 1 : Nat) : Int)) ?_).trans ?_
        · unfold assign_Due_v1_J2
          dsimp only [lt]
          rw [e1, if_pos (d_t (by omega)), asrt_pos (by rw [ldF_len]; omega), asrt_pos (by rw [ldF_len]; omega), asrt_pos (by rw [ldF_len]; omega), asrt_pos (by rw [ldF_len]; omega), asrt_pos (by omega), asrt_pos (by rw [List.length_append]; simp; omega), hw]
          have hw3 : w64 (lget (ldF b.Hosts (cntS (A ++ s :: B))) (j : Int) + 1) = lget (ldF b.Hosts (cntS (A ++ s :: B))) (j : Int) + 1 := by
            rw [ldF_get _ _ _ hj, if_pos hal, w64_id (by omega) (by omega)]
          rw [hw3, hup, ob_some, e2, hs]
        · refine (due_loop h B (A ++ [(⟨s.Part, 1, p, s.Turn⟩ : Slot)]) (k + 1) (out ++ [(⟨3, s.Part.ID, p, 0, []⟩ : Order)]) hB (by simp; omega) (by simp; omega)).trans ?_
          rw [List.append_assoc]
          rfl
    · rw [dueF, if_neg (fun g => c0 g.1)]
      have hL2 : assign_Due_v1_L2 b (ldF b.Hosts (cntS (A ++ s :: B)), out, (k : Int)) (-1, 0) = some (.inl (ldF b.Hosts (cntS (A ++ s :: B)), out, ((k + 1 : Nat) : Int))) := by
        unfold assign_Due_v1_L2
        refine loop_run (step := fun y => assign_Due_v1_B2 b (ldF b.Hosts (cntS (A ++ s :: B)), out, (k : Int)) y) b.Hosts.length (fun i => (-1, (i : Int))) (fun i hi => ?_) ?_
        · have hw2 : w64 ((i : Int) + 1) = ((i + 1 : Nat) : Int) := by rw [w64_id (by omega) (by omega)]; omega
          show assign_Due_v1_B2 b _ (-1, (i : Int)) = _
          have hf : (decide ((lget b.Slots (k : Int)).State = 0) && (lget b.Hosts (i : Int)).Alive) = false := by
            rw [hs, decide_eq_false c0]; rfl
          unfold assign_Due_v1_B2
          dsimp only
          rw [hf, if_pos (d_t (by omega)), asrt_pos (by omega), hw2]
          simp only [Bool.false_and, Bool.false_eq_true, if_false, false_implies, implies_true]
          iterate 9 rw [asrt_pos trivial]
          rfl
        · show assign_Due_v1_B2 b _ (-1, (b.Hosts.length : Int)) = _
          unfold assign_Due_v1_B2 assign_Due_v1_J2
          dsimp only
          rw [if_neg (d_f (by omega)), if_neg (d_f (by omega)), ob_some, hw]; rfl
      rw [hL _ hL2, hcl]
      exact due_loop h B (A ++ [s]) (k + 1) out hB (by simp; omega) (by omega)
theorem due_eq (b : Board) (hs : b.Slots.length ≤ 100000) : assign_Due_v1 b = some (if (boardF b).Code = 0 then (dueF b.Hosts [] b.Slots, ⟨0, 0⟩) else ([], boardF b)) := by
  unfold assign_Due_v1
  rw [bcheck_eq _ hs, ob_some]
  by_cases e0 : (boardF b).Code = 0
  · have h := bg_iff.1 (boardF_good.1 e0)
    rw [if_neg (n_f e0), if_pos e0, loads_eq h, ob_some]
    exact due_loop h b.Slots [] 0 [] rfl rfl (by simp)
  · rw [if_pos (n_t e0), if_neg e0]
end G
end Go.Proofs.Ytdjlninhfndjfaa
