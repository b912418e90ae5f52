/- Courts play as the document says (NEW=2). -/
import Derived.Test.YtgflfhdbihahcaaPLeaseU
namespace Go.Proofs.Ytgflfhdbihahcaa
open Go Go.Dm
set_option linter.unusedVariables false
set_option linter.unusedSimpArgs false
namespace G
theorem fsame (f : Fault) : (decide (f.Code = f.Code) && (decide (f.At = f.At) && true)) = true := by simp
theorem plays_J1 (span clients : Int) (ds : List Deed) (hd : ds.length ≤ 3000) {j : Nat} (hj : Stop span clients.toNat ds j) (b : Bool)
    (hb : lease_Fair span clients ds = some (b, if (headF span clients ds.length).Code = 0 then endF span clients.toNat ds j else headF span clients ds.length))
    (h1 : (headF span clients ds.length).Code = 0 → (endF span clients.toNat ds j).Code = 0 → j = ds.length ∧ (b = true ↔ fairP span clients.toNat (st span clients.toNat ds) j))
    (h2 : (headF span clients ds.length).Code ≠ 0 ∨ (endF span clients.toNat ds j).Code ≠ 0 → b = false) :
    law_LeasePlays_J1 span clients ds (if (headF span clients ds.length).Code = 0 then (endC span clients.toNat ds j, endF span clients.toNat ds j) else (court0, headF span clients ds.length)) (b, if (headF span clients ds.length).Code = 0 then endF span clients.toNat ds j else headF span clients ds.length) () = some true := by
  unfold law_LeasePlays_J1
  rw [courts_eq span clients ds hj, ob_some]
  have e0 : (⟨0, (⟨0, 0, 0⟩ : Lease), ([] : List Int), ([] : List Trust), ([] : List Wish), ([] : List Reply)⟩ : Court) = court0 := rfl
  rw [e0]
  by_cases h : (headF span clients ds.length).Code = 0
  · obtain ⟨g1, g2, g3, g4⟩ := headF_ok h
    simp only [if_pos h]
    have hm : clients.toNat ≤ 8 := by omega
    have hsm := small_inv hm (st_inv span clients.toNat ds j)
    by_cases hc : (endF span clients.toNat ds j).Code = 0
    · obtain ⟨r1, r2⟩ := h1 h hc
      have hE : endF span clients.toNat ds j = ⟨0, 0⟩ := by unfold endF; rw [if_pos r1]
      have hC : endC span clients.toNat ds j = st span clients.toNat ds j := by unfold endC; rw [if_pos r1]
      have hlen := cts_len span clients.toNat ds j
      have hw : w64 (((cts span clients.toNat ds j).length : Int) - 1) = (j : Int) := by rw [hlen, w64_id (by omega) (by omega)]; omega
      obtain ⟨fb, q1, q2⟩ := fairCourts_eq span g2 clients.toNat hm (st span clients.toNat ds) (st_inv span clients.toNat ds) (cts span clients.toNat ds j) j (by omega) hlen (fun i hi => cts_get _ _ _ _ _ hi)
      rw [hE, hC, if_pos r1]
      dsimp only
      rw [if_neg (by simp), if_neg (by simp), hw, asrt_pos (by omega), court_eta, cts_get _ _ _ _ _ (Nat.le_refl _), same_self _ hsm, ob_some, if_pos rfl, q1, ob_some]
      have : b = fb := by
        cases b <;> cases fb <;> simp_all
      subst this
      simp
    · have hne : ¬ j = ds.length := fun e => hc (by unfold endF; rw [if_pos e])
      have hE : endF span clients.toNat ds j = ⟨cd span clients.toNat ds j, j⟩ := by unfold endF; rw [if_neg hne]
      have hC : endC span clients.toNat ds j = court0 := by unfold endC; rw [if_neg hne]
      have hbf := h2 (.inr hc)
      rw [hE] at hc
      rw [hE, hC, if_neg hne, hbf]
      dsimp only at hc ⊢
      rw [if_neg (by simp), if_pos (n_t hc), if_pos (by rfl), same_self _ small0, ob_some]; rfl
  · simp only [if_neg h]
    have hbf := h2 (.inl h)
    rw [hbf]
    rw [if_neg (by simp), if_pos (n_t h), if_pos (by rfl), same_self _ small0, ob_some]; rfl
theorem plays_L1 (span clients : Int) (ds : List Deed) (hd : ds.length ≤ 3000) (x1 : Court × Fault) (x2 : Bool × Fault) (h : law_LeasePlays_J1 span clients ds x1 x2 () = some true) : law_LeasePlays_L1 span clients ds x1 x2 0 = some true := by
  refine loop_run (step := fun y => law_LeasePlays_B1 span clients ds x1 x2 y) ds.length (fun k => (k : Int)) (fun k hk => ?_) ?_
  · have hw : w64 ((k : Int) + 1) = ((k + 1 : Nat) : Int) := by rw [w64_id (by omega) (by omega)]; omega
    show law_LeasePlays_B1 span clients ds x1 x2 (k : Int) = _
    unfold law_LeasePlays_B1
    rw [if_pos (d_t (by omega)), asrt_pos (by omega), asrt_pos (by omega), asrt_pos (by omega), if_neg (by simp), hw]
  · show law_LeasePlays_B1 span clients ds x1 x2 (ds.length : Int) = _
    unfold law_LeasePlays_B1
    rw [if_neg (d_f (by omega)), h]; rfl
theorem LeasePlays_eq (span clients : Int) (ds : List Deed) : law_LeasePlays span clients ds = some true := by
  have hbeg : law_leaseBegun = true := by decide +kernel
  unfold law_LeasePlays
  dsimp only [lt]
  rw [hbeg, if_neg (by simp)]
  by_cases hbig : (((decide (300 < (ds.length : Int))) && (decide ((ds.length : Int) < 2001))) || (decide (3000 < (ds.length : Int)))) = true
  · rw [if_pos hbig]
  · rw [if_neg hbig]
    have hd : ds.length ≤ 3000 := by
      simp only [Bool.or_eq_true, Bool.and_eq_true, decide_eq_true_eq] at hbig; omega
    obtain ⟨j, hj⟩ := stops span clients.toNat ds
    rw [asrt_pos (by omega), play_eq span clients ds hj, ob_some]
    by_cases h : (headF span clients ds.length).Code = 0
    · obtain ⟨b, r1, r2, r3⟩ := fair_ok span clients ds hj h
      rw [r1, ob_some]
      refine plays_L1 span clients ds hd _ _ ?_
      have := plays_J1 span clients ds hd hj b (by rw [r1, if_pos h]) (fun _ g => r2 g) (fun g => r3 (g.resolve_left (fun g' => g' h)))
      simp only [if_pos h] at this ⊢; exact this
    · rw [fair_no span clients ds h, ob_some]
      refine plays_L1 span clients ds hd _ _ ?_
      have := plays_J1 span clients ds hd hj false (by rw [fair_no span clients ds h, if_neg h]) (fun g => absurd g h) (fun _ => rfl)
      simp only [if_neg h] at this ⊢; exact this
end G
end Go.Proofs.Ytgflfhdbihahcaa
