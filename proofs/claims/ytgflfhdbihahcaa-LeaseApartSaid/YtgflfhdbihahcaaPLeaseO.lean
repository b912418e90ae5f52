/- Leases: the program's deed and the document's are the same (NEW=2). -/
import Derived.Test.YtgflfhdbihahcaaPLeaseN
namespace Go.Proofs.Ytgflfhdbihahcaa
open Go Go.Dm
set_option linter.unusedVariables false
set_option linter.unusedSimpArgs false
namespace G
theorem arrives_eq (span : Int) (hs : 4 ≤ span ∧ span ≤ 1000000) (c : Court) (w : Wish) (hw : 0 ≤ w.Who ∧ w.Who < 8) (hse : 0 ≤ w.Sent ∧ w.Sent ≤ 900000000) (hr : c.Replies.length ≤ 1000) :
    lease_court_arrives_v1 w c.Now c.Lease.Holder c.Lease.Epoch c.Lease.Until span c.Clocks c.Trusts c.Wishes c.Replies = some ((arrive span c w).Now, (arrive span c w).Lease.Holder, (arrive span c w).Lease.Epoch, (arrive span c w).Lease.Until, (arrive span c w).Replies, span) := by
  obtain ⟨s1, s2, s3, s4⟩ := sure_eq span hs
  have hw1 : w64 (w.Who + 1) = w.Who + 1 := w64_id (by omega) (by omega)
  have hl : (⟨c.Lease.Holder, c.Lease.Epoch, c.Lease.Until⟩ : Lease) = c.Lease := rfl
  have key : ∀ p : Lease × Fault, ask span c w = p → (if (decide (p.2.Code = 0)) = true then
      lt (lease_sure span) fun x2 =>
      asrt (((c.Replies ++ [(⟨w.Who, (⟨p.1.Epoch, w64 (w.Sent + x2)⟩ : Trust)⟩ : Reply)]).length : Int) * 24 ≤ 140737488351232) <|
      lt ((c.Replies ++ [(⟨w.Who, (⟨p.1.Epoch, w64 (w.Sent + x2)⟩ : Trust)⟩ : Reply)])) fun (v1 : List Reply) =>
      some (c.Now, p.1.Holder, p.1.Epoch, p.1.Until, v1, span)
    else
      some (c.Now, c.Lease.Holder, c.Lease.Epoch, c.Lease.Until, c.Replies, span)) = some ((arrive span c w).Now, (arrive span c w).Lease.Holder, (arrive span c w).Lease.Epoch, (arrive span c w).Lease.Until, (arrive span c w).Replies, span) := by
    rintro p rfl
    unfold arrive
    by_cases hc : (ask span c w).2.Code = 0
    · rw [if_pos (d_t hc), if_pos hc]
      dsimp only [lt]
      rw [s1, w64_id (by omega) (by omega), asrt_pos (by rw [List.length_append, List.length_singleton]; omega)]
    · rw [if_neg (d_f hc), if_neg hc]
  unfold lease_court_arrives_v1
  rw [hw1, hl]
  by_cases he : w.Epoch = 0
  · rw [if_pos (d_t he), grant_eq]
    dsimp only [lt]
    rw [ob_some]
    refine key _ ?_
    unfold ask; rw [if_pos he]
  · rw [if_neg (d_f he), renew_eq]
    dsimp only [lt]
    rw [ob_some]
    refine key _ ?_
    unfold ask; rw [if_neg he]
theorem any_le {l : List Int} (h : ∀ x ∈ l, 0 ≤ x ∧ x ≤ 900000000) : l.any (fun x => decide (900000000 < x)) = false := by
  rw [List.any_eq_false]; intro x hx; have := h x hx; simp; omega
theorem fin_low {c : Court} (h1 : c.Now ≤ 900000000) (h2 : ∀ x ∈ c.Clocks, 0 ≤ x ∧ x ≤ 900000000) : fin c = if 100 < c.Wishes.length ∨ 100 < c.Replies.length then 9 else 0 := by
  unfold fin
  rw [any_le h2]
  have : ¬ 900000000 < c.Now := by omega
  simp [this]
theorem J1_eq (span : Int) (c : Court) (h1 : c.Now ≤ 900000000) (h2 : ∀ x ∈ c.Clocks, 0 ≤ x ∧ x ≤ 900000000) : lease_court_does_v1_J1 (c.Now, c.Lease.Holder, c.Lease.Epoch, c.Lease.Until, c.Clocks, c.Trusts, c.Wishes, c.Replies, span) = some (dt span (fin c, c)) := by
  unfold lease_court_does_v1_J1
  rw [fin_low h1 h2]
  dsimp only
  by_cases c1 : 100 < c.Wishes.length ∨ 100 < c.Replies.length
  · rw [if_pos (or_t (by omega)), if_pos c1]; rfl
  · rw [if_neg (or_f (by omega)), if_neg c1]; rfl
theorem arrive_low (span : Int) (c : Court) (w : Wish) : (arrive span c w).Now = c.Now ∧ (arrive span c w).Clocks = c.Clocks ∧ (arrive span c w).Trusts = c.Trusts ∧ (arrive span c w).Wishes = c.Wishes := by
  unfold arrive; split <;> exact ⟨rfl, rfl, rfl, rfl⟩
theorem hear_low (c : Court) (r : Reply) : (hear c r).Now = c.Now ∧ (hear c r).Clocks = c.Clocks ∧ (hear c r).Lease = c.Lease ∧ (hear c r).Wishes = c.Wishes ∧ (hear c r).Replies = c.Replies := by
  unfold hear; split <;> exact ⟨rfl, rfl, rfl, rfl, rfl⟩
theorem takeW (n : Int) (c : Court) (span : Int) (h : 0 ≤ n ∧ n < (c.Wishes.length : Int)) (hl : c.Wishes.length ≤ 1000) : lease_take_api_Wish_v1 n c.Now c.Lease.Holder c.Lease.Epoch c.Lease.Until span c.Clocks c.Trusts c.Wishes c.Replies = some (lget c.Wishes n, c.Now, c.Lease.Holder, c.Lease.Epoch, c.Lease.Until, cut c.Wishes n, span) := by
  unfold lease_take_api_Wish_v1
  rw [asrt_pos h, asrt_pos h, delW _ n h (by omega), ob_some]
theorem takeR (n : Int) (c : Court) (span : Int) (h : 0 ≤ n ∧ n < (c.Replies.length : Int)) (hl : c.Replies.length ≤ 1000) : lease_take_api_Reply_v1 n c.Now c.Lease.Holder c.Lease.Epoch c.Lease.Until span c.Clocks c.Trusts c.Wishes c.Replies = some (lget c.Replies n, c.Now, c.Lease.Holder, c.Lease.Epoch, c.Lease.Until, cut c.Replies n, span) := by
  unfold lease_take_api_Reply_v1
  rw [asrt_pos h, asrt_pos h, delR _ n h (by omega), ob_some]
theorem step_ok {span : Int} {c : Court} {d : Deed} (h : pre c d = 0) : step span c d = (fin (mid span c d), mid span c d) := by unfold step; rw [if_pos h]
theorem step_no {span : Int} {c : Court} {d : Deed} {k : Int} (h : pre c d = k) (hk : k ≠ 0) : step span c d = (k, c) := by unfold step; rw [h, if_neg hk]
theorem in01 {m : Nat} {c : Court} (hI : CInv m c) {w : Int} : ((decide (0 ≤ w)) && (decide (w < (c.Clocks.length : Int)))) = true ↔ 0 ≤ w ∧ w < (m : Int) := by
  rw [hI.cl]; simp
theorem in0F {m : Nat} {c : Court} (hI : CInv m c) {W : Int} (h0 : ¬ (0 ≤ W ∧ W < (m : Int))) : ((decide (0 ≤ W)) && (decide (W < (c.Clocks.length : Int)))) = false := by
  cases hb : ((decide (0 ≤ W)) && (decide (W < (c.Clocks.length : Int)))) with
  | false => rfl
  | true => exact absurd ((in01 hI).1 hb) h0
theorem does_eq {m : Nat} (hm : m ≤ 8) {span : Int} (hs : 4 ≤ span ∧ span ≤ 1000000) {c : Court} (hI : CInv m c) (d : Deed) :
    lease_court_does_v1 d c.Now c.Lease.Holder c.Lease.Epoch c.Lease.Until span c.Clocks c.Trusts c.Wishes c.Replies = some (dt span (step span c d)) := by
  obtain ⟨K, W, N⟩ := d
  have hcl := hI.cl
  have htl := hI.tl
  have hwl := hI.wl
  have hrl := hI.rl
  have hnow := hI.now
  have hJ := J1_eq span
  have hcase : K = 0 ∨ K = 1 ∨ K = 2 ∨ K = 3 ∨ K = 4 ∨ K = 5 ∨ K = 6 ∨ K = 7 ∨ K = 8 ∨ (K < 0 ∨ 8 < K) := by omega
  unfold lease_court_does_v1
  dsimp only
  rcases hcase with rfl | rfl | rfl | rfl | rfl | rfl | rfl | rfl | rfl | hK
  · simp only [Int.reduceEq, decide_true, decide_false, if_true, if_false, Bool.false_and, Bool.false_or, ob_some, Bool.false_eq_true]
    by_cases h1 : N < 0 ∨ 1000000 < N
    · have hp : pre c ⟨0, W, N⟩ = 3 := by simp [pre, h1]
      rw [if_pos (or_t h1), step_no hp (by omega)]; rfl
    · have hp : pre c ⟨0, W, N⟩ = 0 := by simp [pre, h1]
      have hw : w64 (c.Now + N) = c.Now + N := w64_id (by omega) (by omega)
      rw [if_neg (or_f h1), step_ok hp, hw]
      have hmid : mid span c ⟨0, W, N⟩ = ⟨c.Now + N, c.Lease, c.Clocks, c.Trusts, c.Wishes, c.Replies⟩ := by simp [mid]
      rw [hmid]
      by_cases h2 : 900000000 < c.Now + N
      · rw [if_pos (d_t h2)]
        have : fin ⟨c.Now + N, c.Lease, c.Clocks, c.Trusts, c.Wishes, c.Replies⟩ = 9 := by unfold fin; rw [if_pos (.inl h2)]
        rw [this]; rfl
      · rw [if_neg (d_f h2)]
        exact J1_eq span ⟨c.Now + N, c.Lease, c.Clocks, c.Trusts, c.Wishes, c.Replies⟩ (show c.Now + N ≤ _ by omega) hI.clk
  · simp only [Int.reduceEq, decide_true, decide_false, if_true, if_false, Bool.true_and, Bool.false_and, Bool.false_or, ob_some, Bool.false_eq_true]
    by_cases h0 : 0 ≤ W ∧ W < (m : Int)
    · have e0 := (in01 hI).2 h0
      rw [e0]
      by_cases h1 : N < 0 ∨ 1000000 < N
      · have hp : pre c ⟨1, W, N⟩ = 3 := by
          unfold pre; rw [hcl]
          have g0 : ¬ (W < 0 ∨ (m : Int) ≤ W) := by omega
          simp [g0, h1]
        rw [if_pos (by simpa using h1), step_no hp (by omega)]; rfl
      · have hp : pre c ⟨1, W, N⟩ = 0 := by
          unfold pre; rw [hcl]
          have g0 : ¬ (W < 0 ∨ (m : Int) ≤ W) := by omega
          simp [g0, h1]
        have hx := hI.clk _ (lget_mem c.Clocks W (by omega))
        have hw : w64 (lget c.Clocks W + N) = lget c.Clocks W + N := w64_id (by omega) (by omega)
        rw [if_neg (by simpa using h1), step_ok hp, asrt_pos (by omega), asrt_pos (by omega), asrt_pos (by omega), asrt_pos (by rw [lset_len]; omega), hw]
        have hmid : mid span c ⟨1, W, N⟩ = ⟨c.Now, c.Lease, lset c.Clocks W (lget c.Clocks W + N), c.Trusts, c.Wishes, c.Replies⟩ := by simp [mid]
        rw [hmid, lget_lset _ _ _ _ (by omega) (by omega), if_pos rfl]
        have hset : ∀ x ∈ lset c.Clocks W (lget c.Clocks W + N), x ∈ c.Clocks ∨ x = lget c.Clocks W + N := fun x hx => by
          unfold lset at hx; exact List.mem_or_eq_of_mem_set hx
        by_cases h2 : 900000000 < lget c.Clocks W + N
        · rw [if_pos (d_t h2)]
          have : fin ⟨c.Now, c.Lease, lset c.Clocks W (lget c.Clocks W + N), c.Trusts, c.Wishes, c.Replies⟩ = 9 := by
            have hany : (lset c.Clocks W (lget c.Clocks W + N)).any (fun x => decide (900000000 < x)) = true := by
              rw [List.any_eq_true]
              refine ⟨lget c.Clocks W + N, ?_, d_t h2⟩
              have := lget_mem (lset c.Clocks W (lget c.Clocks W + N)) W (by rw [lset_len]; omega)
              rwa [lget_lset _ _ _ _ (by omega) (by omega), if_pos rfl] at this
            unfold fin
            exact if_pos (.inr (.inr (.inr hany)))
          rw [this]; rfl
        · rw [if_neg (d_f h2)]
          refine J1_eq span ⟨c.Now, c.Lease, lset c.Clocks W (lget c.Clocks W + N), c.Trusts, c.Wishes, c.Replies⟩ hnow.2 ?_
          intro x hx'
          rcases hset x hx' with g | rfl
          · exact hI.clk x g
          · omega
    · have e0 : ((decide (0 ≤ W)) && (decide (W < (c.Clocks.length : Int)))) = false := by
        cases hb : ((decide (0 ≤ W)) && (decide (W < (c.Clocks.length : Int)))) with
        | false => rfl
        | true => exact absurd ((in01 hI).1 hb) h0
      have hp : pre c ⟨1, W, N⟩ = 3 := by
        unfold pre; rw [hcl]
        have g0 : (W < 0 ∨ (m : Int) ≤ W) := by omega
        simp [g0]
      rw [e0, if_pos (by simp), step_no hp (by omega)]; rfl
  · -- a wish
    simp only [Int.reduceEq, decide_true, decide_false, if_true, if_false, Bool.true_and, Bool.false_and, Bool.false_or, ob_some, Bool.false_eq_true]
    by_cases h0 : 0 ≤ W ∧ W < (m : Int)
    · have e0 := (in01 hI).2 h0
      have hp : pre c ⟨2, W, N⟩ = 0 := by
        unfold pre; rw [hcl]
        have g0 : ¬ (W < 0 ∨ (m : Int) ≤ W) := by omega
        simp [g0]
      rw [e0, if_neg (by simp), step_ok hp, asrt_pos (by omega), asrt_pos (by omega), asrt_pos (by omega), asrt_pos (by omega)]
      have e : (if (decide ((lget c.Clocks W) < ((lget c.Trusts W).Until))) = true then
              some (⟨W, (lget c.Clocks W), (lget c.Trusts W).Epoch⟩ : Wish)
            else
              some (⟨W, (lget c.Clocks W), 0⟩ : Wish)) = some ⟨W, lget c.Clocks W, if lget c.Clocks W < (lget c.Trusts W).Until then (lget c.Trusts W).Epoch else 0⟩ := by
        by_cases h : lget c.Clocks W < (lget c.Trusts W).Until
        · rw [if_pos (d_t h), if_pos h]
        · rw [if_neg (d_f h), if_neg h]
      rw [e, ob_some, asrt_pos (by rw [List.length_append, List.length_singleton]; omega)]
      have hmid : mid span c ⟨2, W, N⟩ = ⟨c.Now, c.Lease, c.Clocks, c.Trusts, c.Wishes ++ [⟨W, lget c.Clocks W, if lget c.Clocks W < (lget c.Trusts W).Until then (lget c.Trusts W).Epoch else 0⟩], c.Replies⟩ := by simp [mid]
      rw [hmid]
      exact J1_eq span ⟨c.Now, c.Lease, c.Clocks, c.Trusts, c.Wishes ++ [_], c.Replies⟩ hnow.2 hI.clk
    · have e0 := in0F hI h0
      have hp : pre c ⟨2, W, N⟩ = 3 := by
        unfold pre; rw [hcl]
        have g0 : (W < 0 ∨ (m : Int) ≤ W) := by omega
        simp [g0]
      rw [e0, if_pos (by simp), step_no hp (by omega)]; rfl
  · -- a wish arrives
    simp only [Int.reduceEq, decide_true, decide_false, if_true, if_false, Bool.true_and, Bool.false_and, Bool.false_or, ob_some, Bool.false_eq_true]
    by_cases h1 : N < 0 ∨ (c.Wishes.length : Int) ≤ N
    · have hp : pre c ⟨3, W, N⟩ = 3 := by simp [pre, h1]
      rw [if_pos (or_t h1), step_no hp (by omega)]; rfl
    · have hp : pre c ⟨3, W, N⟩ = 0 := by simp [pre, h1]
      have hx := hI.wh _ (lget_mem c.Wishes N (by omega))
      rw [if_neg (or_f h1), step_ok hp, takeW N c span (by omega) (by omega), ob_some]
      have ha := arrives_eq span hs ⟨c.Now, c.Lease, c.Clocks, c.Trusts, cut c.Wishes N, c.Replies⟩ (lget c.Wishes N) (by omega) (by omega) (show c.Replies.length ≤ _ by omega)
      dsimp only at ha ⊢
      have ha' : lease_court_arrives_v1 (lget c.Wishes N) c.Now c.Lease.Holder c.Lease.Epoch c.Lease.Until span c.Clocks c.Trusts (cut c.Wishes N) c.Replies = _ := ha
      rw [ha', ob_some]
      have hmid : mid span c ⟨3, W, N⟩ = arrive span ⟨c.Now, c.Lease, c.Clocks, c.Trusts, cut c.Wishes N, c.Replies⟩ (lget c.Wishes N) := by simp [mid]
      rw [hmid]
      obtain ⟨a1, a2, a3, a4⟩ := arrive_low span ⟨c.Now, c.Lease, c.Clocks, c.Trusts, cut c.Wishes N, c.Replies⟩ (lget c.Wishes N)
      have := J1_eq span (arrive span ⟨c.Now, c.Lease, c.Clocks, c.Trusts, cut c.Wishes N, c.Replies⟩ (lget c.Wishes N)) (by rw [a1]; exact hnow.2) (by rw [a2]; exact hI.clk)
      rw [a2, a3, a4] at this
      exact this
  · -- a reply is heard
    simp only [Int.reduceEq, decide_true, decide_false, if_true, if_false, Bool.true_and, Bool.false_and, Bool.false_or, ob_some, Bool.false_eq_true]
    by_cases h1 : N < 0 ∨ (c.Replies.length : Int) ≤ N
    · have hp : pre c ⟨4, W, N⟩ = 3 := by simp [pre, h1]
      rw [if_pos (or_t h1), step_no hp (by omega)]; rfl
    · have hp : pre c ⟨4, W, N⟩ = 0 := by simp [pre, h1]
      have hx := hI.rp _ (lget_mem c.Replies N (by omega))
      rw [if_neg (or_f h1), step_ok hp, takeR N c span (by omega) (by omega), ob_some]
      have hmid : mid span c ⟨4, W, N⟩ = hear ⟨c.Now, c.Lease, c.Clocks, c.Trusts, c.Wishes, cut c.Replies N⟩ (lget c.Replies N) := by simp [mid]
      rw [hmid]
      obtain ⟨b1, b2, b3, b4, b5⟩ := hear_low ⟨c.Now, c.Lease, c.Clocks, c.Trusts, c.Wishes, cut c.Replies N⟩ (lget c.Replies N)
      have hJ := J1_eq span (hear ⟨c.Now, c.Lease, c.Clocks, c.Trusts, c.Wishes, cut c.Replies N⟩ (lget c.Replies N)) (by rw [b1]; exact hnow.2) (by rw [b2]; exact hI.clk)
      generalize lget c.Replies N = r at *
      dsimp only
      rw [asrt_pos (by omega), asrt_pos (fun _ => by omega), asrt_pos (fun _ _ => by omega), asrt_pos (fun _ _ _ => by omega)]
      have hb : ((decide (((lget c.Trusts r.Who).Epoch) < r.Trust.Epoch)) || ((decide (r.Trust.Epoch = ((lget c.Trusts r.Who).Epoch))) && (decide (((lget c.Trusts r.Who).Until) < r.Trust.Until)))) = decide (newer (lget c.Trusts r.Who) r.Trust) := by
        rw [Bool.eq_iff_iff, decide_eq_true_iff]; simp [newer]
      rw [hb]
      by_cases hn : newer (lget c.Trusts r.Who) r.Trust
      · rw [if_pos (d_t hn), asrt_pos (by omega)]
        have e : hear ⟨c.Now, c.Lease, c.Clocks, c.Trusts, c.Wishes, cut c.Replies N⟩ r = ⟨c.Now, c.Lease, c.Clocks, lset c.Trusts r.Who r.Trust, c.Wishes, cut c.Replies N⟩ := by unfold hear; rw [if_pos hn]
        rw [e] at hJ ⊢; exact hJ
      · rw [if_neg (d_f hn)]
        have e : hear ⟨c.Now, c.Lease, c.Clocks, c.Trusts, c.Wishes, cut c.Replies N⟩ r = ⟨c.Now, c.Lease, c.Clocks, c.Trusts, c.Wishes, cut c.Replies N⟩ := by unfold hear; rw [if_neg hn]
        rw [e] at hJ ⊢; exact hJ
  · -- a client starts anew
    simp only [Int.reduceEq, decide_true, decide_false, if_true, if_false, Bool.true_and, Bool.false_and, Bool.false_or, ob_some, Bool.false_eq_true]
    by_cases h0 : 0 ≤ W ∧ W < (m : Int)
    · have e0 := (in01 hI).2 h0
      have hp : pre c ⟨5, W, N⟩ = 0 := by
        unfold pre; rw [hcl]
        have g0 : ¬ (W < 0 ∨ (m : Int) ≤ W) := by omega
        simp [g0]
      rw [e0, if_neg (by simp), step_ok hp, asrt_pos (by omega), asrt_pos (by omega)]
      have hmid : mid span c ⟨5, W, N⟩ = ⟨c.Now, c.Lease, c.Clocks, lset c.Trusts W ⟨0, 0⟩, c.Wishes, c.Replies⟩ := by simp [mid]
      rw [hmid]
      exact J1_eq span ⟨c.Now, c.Lease, c.Clocks, lset c.Trusts W ⟨0, 0⟩, c.Wishes, c.Replies⟩ hnow.2 hI.clk
    · have e0 := in0F hI h0
      have hp : pre c ⟨5, W, N⟩ = 3 := by
        unfold pre; rw [hcl]
        have g0 : (W < 0 ∨ (m : Int) ≤ W) := by omega
        simp [g0]
      rw [e0, if_pos (by simp), step_no hp (by omega)]; rfl
  · -- a wish is doubled
    simp only [Int.reduceEq, decide_true, decide_false, if_true, if_false, Bool.true_and, Bool.false_and, Bool.false_or, ob_some, Bool.false_eq_true]
    by_cases h1 : N < 0 ∨ (c.Wishes.length : Int) ≤ N
    · have hp : pre c ⟨6, W, N⟩ = 3 := by simp [pre, h1]
      rw [if_pos (or_t h1), step_no hp (by omega)]; rfl
    · have hp : pre c ⟨6, W, N⟩ = 0 := by simp [pre, h1]
      rw [if_neg (or_f h1), step_ok hp, asrt_pos (by omega), asrt_pos (by omega), asrt_pos (by rw [List.length_append, List.length_singleton]; omega)]
      have hmid : mid span c ⟨6, W, N⟩ = ⟨c.Now, c.Lease, c.Clocks, c.Trusts, c.Wishes ++ [lget c.Wishes N], c.Replies⟩ := by simp [mid]
      rw [hmid]
      exact J1_eq span ⟨c.Now, c.Lease, c.Clocks, c.Trusts, c.Wishes ++ [lget c.Wishes N], c.Replies⟩ hnow.2 hI.clk
  · -- a wish is lost
    simp only [Int.reduceEq, decide_true, decide_false, if_true, if_false, Bool.true_and, Bool.false_and, Bool.false_or, ob_some, Bool.false_eq_true]
    by_cases h1 : N < 0 ∨ (c.Wishes.length : Int) ≤ N
    · have hp : pre c ⟨7, W, N⟩ = 3 := by simp [pre, h1]
      rw [if_pos (or_t h1), step_no hp (by omega)]; rfl
    · have hp : pre c ⟨7, W, N⟩ = 0 := by simp [pre, h1]
      rw [if_neg (or_f h1), step_ok hp, takeW N c span (by omega) (by omega), ob_some]
      have hmid : mid span c ⟨7, W, N⟩ = ⟨c.Now, c.Lease, c.Clocks, c.Trusts, cut c.Wishes N, c.Replies⟩ := by simp [mid]
      rw [hmid]
      exact J1_eq span ⟨c.Now, c.Lease, c.Clocks, c.Trusts, cut c.Wishes N, c.Replies⟩ hnow.2 hI.clk
  · -- a reply is lost
    simp only [Int.reduceEq, decide_true, decide_false, if_true, if_false, Bool.true_and, Bool.false_and, Bool.false_or, ob_some, Bool.false_eq_true]
    by_cases h1 : N < 0 ∨ (c.Replies.length : Int) ≤ N
    · have hp : pre c ⟨8, W, N⟩ = 3 := by simp [pre, h1]
      rw [if_pos (or_t h1), step_no hp (by omega)]; rfl
    · have hp : pre c ⟨8, W, N⟩ = 0 := by simp [pre, h1]
      have hx := hI.rp _ (lget_mem c.Replies N (by omega))
      rw [if_neg (or_f h1), step_ok hp, takeR N c span (by omega) (by omega), ob_some]
      have hmid : mid span c ⟨8, W, N⟩ = ⟨c.Now, c.Lease, c.Clocks, c.Trusts, c.Wishes, cut c.Replies N⟩ := by simp [mid]
      rw [hmid]
      generalize lget c.Replies N = r at *
      dsimp only
      rw [asrt_pos (by omega), asrt_pos (fun _ => by omega), asrt_pos (fun _ _ => by omega), asrt_pos (fun _ _ _ => by omega)]
      exact J1_eq span ⟨c.Now, c.Lease, c.Clocks, c.Trusts, c.Wishes, cut c.Replies N⟩ hnow.2 hI.clk
  · have g : ∀ k : Int, 0 ≤ k → k ≤ 8 → decide (K = k) = false := fun k h1 h2 => decide_eq_false (by omega)
    have hp : pre c ⟨K, W, N⟩ = 4 := by unfold pre; rw [if_pos hK]
    simp only [g 0 (by omega) (by omega), g 1 (by omega) (by omega), g 2 (by omega) (by omega), g 3 (by omega) (by omega), g 4 (by omega) (by omega), g 5 (by omega) (by omega), g 6 (by omega) (by omega), g 7 (by omega) (by omega), g 8 (by omega) (by omega), if_false, ob_some, Bool.false_eq_true]
    rw [step_no hp (by omega)]; rfl
end G
end Go.Proofs.Ytgflfhdbihahcaa
