/- Leases: the document's deed; what stays true of a court (NEW=2). -/
import Derived.Test.YtgflfhdbihahcaaPLeaseO
namespace Go.Proofs.Ytgflfhdbihahcaa
open Go Go.Dm
set_option linter.unusedVariables false
set_option linter.unusedSimpArgs false
namespace G
theorem copyCourt_eq {m : Nat} (hm : m ≤ 8) {c : Court} (hI : CInv m c) : R_CopyCourt c = some (ct c) := by
  have hcl := hI.cl
  have htl := hI.tl
  have hwl := hI.wl
  have hrl := hI.rl
  unfold R_CopyCourt
  rw [asrt_pos (by omega), asrt_pos (by omega), asrt_pos (by omega), asrt_pos (by omega)]; rfl
theorem rend_loop (c : Court) (b : Bool) (hl : c.Clocks.length ≤ 1000) : R_CourtStep_L1 (ct c) (b, 0) = some (rt ((if (b || c.Clocks.any (fun x => decide (900000000 < x))) = true then 9 else 0), c)) := by
  have := loop_run (step := fun y => R_CourtStep_B1 (ct c) y) c.Clocks.length (fun k => (b || (c.Clocks.take k).any (fun x => decide (900000000 < x)), (k : Int))) (r := rt ((if (b || c.Clocks.any (fun x => decide (900000000 < x))) = true then 9 else 0), c)) ?_ ?_
  · have e : ((c.Clocks.take 0).any (fun x => decide (900000000 < x))) = false := rfl
    simp only [e, Bool.or_false] at this
    exact this
  · intro k hk
    have hw : w64 ((k : Int) + 1) = ((k + 1 : Nat) : Int) := by rw [w64_id (by omega) (by omega)]; omega
    show R_CourtStep_B1 (ct c) (b || (c.Clocks.take k).any (fun x => decide (900000000 < x)), (k : Int)) = _
    dsimp only [R_CourtStep_B1, ct]
    rw [if_pos (d_t (by omega)), asrt_pos (fun _ => by omega), asrt_pos (fun _ => by omega), hw, lget_take _ _ hk, List.any_append]
    simp [Bool.or_assoc]
  · show R_CourtStep_B1 (ct c) (b || (c.Clocks.take c.Clocks.length).any (fun x => decide (900000000 < x)), (c.Clocks.length : Int)) = _
    dsimp only [R_CourtStep_B1, ct]
    rw [if_neg (d_f (by omega)), List.take_length]
    unfold R_CourtStep_J1
    cases hb : (b || c.Clocks.any (fun x => decide (900000000 < x))) <;> rfl
theorem rend_eq (c : Court) (hl : c.Clocks.length ≤ 1000) : R_CourtStep_L1 (ct c) (((decide (900000000 < c.Now)) || (decide (100 < (c.Wishes.length : Int)))) || (decide (100 < (c.Replies.length : Int))), 0) = some (rt (fin c, c)) := by
  rw [rend_loop c _ hl]
  have : (((decide (900000000 < c.Now) || decide (100 < (c.Wishes.length : Int))) || decide (100 < (c.Replies.length : Int))) || c.Clocks.any (fun x => decide (900000000 < x))) = true ↔ (900000000 < c.Now ∨ 100 < c.Wishes.length ∨ 100 < c.Replies.length ∨ c.Clocks.any (fun x => decide (900000000 < x)) = true) := by
    have i1 : (100 < (c.Wishes.length : Int)) ↔ 100 < c.Wishes.length := by omega
    have i2 : (100 < (c.Replies.length : Int)) ↔ 100 < c.Replies.length := by omega
    simp only [Bool.or_eq_true, decide_eq_true_eq, i1, i2, or_assoc]
  unfold fin
  by_cases h : (900000000 < c.Now ∨ 100 < c.Wishes.length ∨ 100 < c.Replies.length ∨ c.Clocks.any (fun x => decide (900000000 < x)) = true)
  · rw [if_pos (this.2 h), if_pos h]
  · rw [if_neg (fun g => h (this.1 g)), if_neg h]
theorem cutW {α : Type} [Inhabited α] (l : List α) (n : Int) (h : 0 ≤ n ∧ n < (l.length : Int)) (hl : l.length ≤ 1000) : l.take n.toNat ++ ((l.drop ((w64 (n + 1)).toNat)).take (l.length - (w64 (n + 1)).toNat)) = cut l n := by
  have hw : w64 (n + 1) = n + 1 := w64_id (by omega) (by omega)
  have : (n + 1).toNat = n.toNat + 1 := by omega
  rw [hw, take_rest, this]; rfl
theorem rstep_eq {m : Nat} (hm : m ≤ 8) {span : Int} (hs : 4 ≤ span ∧ span ≤ 1000000) {c : Court} (hI : CInv m c) (d : Deed) :
    R_CourtStep c span d = some (rt (step span c d)) := by
  obtain ⟨K, W, N⟩ := d
  have hcl := hI.cl
  have htl := hI.tl
  have hwl := hI.wl
  have hrl := hI.rl
  have hnow := hI.now
  unfold R_CourtStep
  rw [copyCourt_eq hm hI, ob_some]
  have e1 : (ct c).1 = c.Now := rfl
  have e2 : (ct c).2.1 = c.Lease.Holder := rfl
  have e3 : (ct c).2.2.1 = c.Lease.Epoch := rfl
  have e4 : (ct c).2.2.2.1 = c.Lease.Until := rfl
  have e5 : (ct c).2.2.2.2.1 = c.Clocks := rfl
  have e6 : (ct c).2.2.2.2.2.1 = c.Trusts := rfl
  have e7 : (ct c).2.2.2.2.2.2.1 = c.Wishes := rfl
  have e8 : (ct c).2.2.2.2.2.2.2 = c.Replies := rfl
  rw [e1, e2, e3, e4, e5, e6, e7, e8]
  dsimp only
  by_cases p1 : K < 0 ∨ 8 < K
  · have hp : pre c ⟨K, W, N⟩ = 4 := by unfold pre; rw [if_pos p1]
    rw [if_pos (or_t p1), step_no hp (by omega)]; rfl
  rw [if_neg (or_f p1)]
  by_cases p2 : (K = 1 ∨ K = 2 ∨ K = 5) ∧ (W < 0 ∨ (c.Clocks.length : Int) ≤ W)
  · have hp : pre c ⟨K, W, N⟩ = 3 := by unfold pre; rw [if_neg p1, if_pos p2]
    rw [if_pos (by simp only [Bool.and_eq_true, Bool.or_eq_true, decide_eq_true_eq]; omega), step_no hp (by omega)]; rfl
  rw [if_neg (by simp only [Bool.and_eq_true, Bool.or_eq_true, decide_eq_true_eq]; omega)]
  by_cases p3 : K < 2 ∧ (N < 0 ∨ 1000000 < N)
  · have hp : pre c ⟨K, W, N⟩ = 3 := by unfold pre; rw [if_neg p1, if_neg p2, if_pos p3]
    rw [if_pos (by simp only [Bool.and_eq_true, Bool.or_eq_true, decide_eq_true_eq]; omega), step_no hp (by omega)]; rfl
  rw [if_neg (by simp only [Bool.and_eq_true, Bool.or_eq_true, decide_eq_true_eq]; omega)]
  by_cases p4 : (K = 3 ∨ K = 6 ∨ K = 7) ∧ (N < 0 ∨ (c.Wishes.length : Int) ≤ N)
  · have hp : pre c ⟨K, W, N⟩ = 3 := by unfold pre; rw [if_neg p1, if_neg p2, if_neg p3, if_pos p4]
    rw [if_pos (by simp only [Bool.and_eq_true, Bool.or_eq_true, decide_eq_true_eq]; omega), step_no hp (by omega)]; rfl
  rw [if_neg (by simp only [Bool.and_eq_true, Bool.or_eq_true, decide_eq_true_eq]; omega)]
  by_cases p5 : (K = 4 ∨ K = 8) ∧ (N < 0 ∨ (c.Replies.length : Int) ≤ N)
  · have hp : pre c ⟨K, W, N⟩ = 3 := by unfold pre; rw [if_neg p1, if_neg p2, if_neg p3, if_neg p4, if_pos p5]
    rw [if_pos (by simp only [Bool.and_eq_true, Bool.or_eq_true, decide_eq_true_eq]; omega), step_no hp (by omega)]; rfl
  rw [if_neg (by simp only [Bool.and_eq_true, Bool.or_eq_true, decide_eq_true_eq]; omega)]
  have hp : pre c ⟨K, W, N⟩ = 0 := by unfold pre; rw [if_neg p1, if_neg p2, if_neg p3, if_neg p4, if_neg p5]
  rw [step_ok hp]
  have fin_ : ∀ {e : Option CT} (c' : Court), c'.Clocks.length ≤ 1000 → e = some (ct c') → mid span c ⟨K, W, N⟩ = c' → (ob e fun (v : CT) =>
            lt (((decide (900000000 < v.1)) || (decide (100 < (v.2.2.2.2.2.2.1.length : Int)))) || (decide (100 < (v.2.2.2.2.2.2.2.length : Int)))) fun (v10 : Bool) =>
            R_CourtStep_L1 v (v10, 0)) = some (rt (fin (mid span c ⟨K, W, N⟩), mid span c ⟨K, W, N⟩)) := by
    intro e c' hl he hmid
    rw [he, ob_some, hmid]
    exact rend_eq c' hl
  have hcase : K = 0 ∨ K = 1 ∨ K = 2 ∨ K = 3 ∨ K = 4 ∨ K = 5 ∨ K = 6 ∨ K = 7 ∨ K = 8 := by omega
  rcases hcase with rfl | rfl | rfl | rfl | rfl | rfl | rfl | rfl | rfl
  · refine fin_ ⟨c.Now + N, c.Lease, c.Clocks, c.Trusts, c.Wishes, c.Replies⟩ (show c.Clocks.length ≤ _ by omega) ?_ (by simp [mid])
    simp only [Int.reduceEq, decide_true, decide_false, if_true, if_false, Bool.true_and, Bool.false_and, Bool.false_or, ob_some, Bool.false_eq_true]
    rw [w64_id (by omega) (by omega)]; rfl
  · have hx := hI.clk _ (lget_mem c.Clocks W (by omega))
    refine fin_ ⟨c.Now, c.Lease, lset c.Clocks W (lget c.Clocks W + N), c.Trusts, c.Wishes, c.Replies⟩ (show (lset c.Clocks W (lget c.Clocks W + N)).length ≤ _ by rw [lset_len]; omega) ?_ (by simp [mid])
    simp only [Int.reduceEq, decide_true, decide_false, if_true, if_false, Bool.true_and, Bool.false_and, Bool.false_or, ob_some, Bool.false_eq_true]
    rw [asrt_pos (by omega), asrt_pos (by omega), asrt_pos (by omega), asrt_pos (by omega), w64_id (by omega) (by omega)]; rfl
  · refine fin_ ⟨c.Now, c.Lease, c.Clocks, c.Trusts, c.Wishes ++ [⟨W, lget c.Clocks W, if lget c.Clocks W < (lget c.Trusts W).Until then (lget c.Trusts W).Epoch else 0⟩], c.Replies⟩ (show c.Clocks.length ≤ _ by omega) ?_ (by simp [mid])
    simp only [Int.reduceEq, decide_true, decide_false, if_true, if_false, Bool.true_and, Bool.false_and, Bool.false_or, ob_some, Bool.false_eq_true]
    rw [asrt_pos (by omega), asrt_pos (by omega), asrt_pos (by omega), asrt_pos (by omega), asrt_pos (by omega), asrt_pos (by omega)]
    by_cases h : lget c.Clocks W < (lget c.Trusts W).Until
    · rw [if_pos (d_t h), asrt_pos (by omega), asrt_pos (by omega), ob_some, asrt_pos (by rw [List.length_append, List.length_singleton]; omega), if_pos h]; rfl
    · rw [if_neg (d_f h), ob_some, asrt_pos (by rw [List.length_append, List.length_singleton]; omega), if_neg h]; rfl
  · obtain ⟨a1, a2, a3, a4⟩ := arrive_low span ⟨c.Now, c.Lease, c.Clocks, c.Trusts, cut c.Wishes N, c.Replies⟩ (lget c.Wishes N)
    refine fin_ (arrive span ⟨c.Now, c.Lease, c.Clocks, c.Trusts, cut c.Wishes N, c.Replies⟩ (lget c.Wishes N)) (by rw [a2]; show c.Clocks.length ≤ _; omega) ?_ (by simp [mid])
    simp only [Int.reduceEq, decide_true, decide_false, if_true, if_false, Bool.true_and, Bool.false_and, Bool.false_or, ob_some, Bool.false_eq_true]
    have hx := hI.wh _ (lget_mem c.Wishes N (by omega))
    have hc := cut_len c.Wishes N (by omega)
    have hw : w64 (N + 1) = N + 1 := w64_id (by omega) (by omega)
    obtain ⟨s1, s2, s3, s4⟩ := sure_eq span hs
    rw [asrt_pos (by omega), asrt_pos (by omega), asrt_pos (by omega), asrt_pos (by omega), cutW _ _ (by omega) (by omega), asrt_pos (by omega), asrt_pos (by omega), asrt_pos (by omega)]
    generalize lget c.Wishes N = w at *
    have hw1 : w64 (w.Who + 1) = w.Who + 1 := w64_id (by omega) (by omega)
    have hl : (⟨c.Lease.Holder, c.Lease.Epoch, c.Lease.Until⟩ : Lease) = c.Lease := rfl
    have ha : ask span ⟨c.Now, c.Lease, c.Clocks, c.Trusts, cut c.Wishes N, c.Replies⟩ w = if w.Epoch = 0 then R_Granted c.Lease (w.Who + 1) c.Now span else R_Renewed c.Lease (w.Who + 1) w.Epoch c.Now span := rfl
    have key : (if (decide (0 < w.Epoch)) = true then
                            lt (R_Renewed c.Lease (w.Who + 1) w.Epoch c.Now span) fun x2 =>
                            some (x2.1, x2.2)
                          else
                            some ((R_Granted c.Lease (w.Who + 1) c.Now span).1, (R_Granted c.Lease (w.Who + 1) c.Now span).2)) = some (ask span ⟨c.Now, c.Lease, c.Clocks, c.Trusts, cut c.Wishes N, c.Replies⟩ w) := by
      rw [ha]
      by_cases h : w.Epoch = 0
      · rw [if_neg (d_f (by omega)), if_pos h]
      · rw [if_pos (d_t (by omega)), if_neg h]; rfl
    dsimp only [lt] at key ⊢
    rw [hw1, hl, key, ob_some]
    unfold arrive
    generalize ask span ⟨c.Now, c.Lease, c.Clocks, c.Trusts, cut c.Wishes N, c.Replies⟩ w = p at *
    have hsum : w64 (w64 (w.Sent + span) - w64 (Int.tdiv span 4)) = w.Sent + sureN span := by
      rw [s2, w64_id (x := w.Sent + span) (by omega) (by omega), w64_id (by omega) (by omega)]; unfold sureN; omega
    by_cases h : p.2.Code = 0
    · rw [if_pos (d_t h), if_pos h, hsum, asrt_pos (by rw [List.length_append, List.length_singleton]; omega)]; rfl
    · rw [if_neg (d_f h), if_neg h]; rfl
  · obtain ⟨b1, b2, b3, b4, b5⟩ := hear_low ⟨c.Now, c.Lease, c.Clocks, c.Trusts, c.Wishes, cut c.Replies N⟩ (lget c.Replies N)
    refine fin_ (hear ⟨c.Now, c.Lease, c.Clocks, c.Trusts, c.Wishes, cut c.Replies N⟩ (lget c.Replies N)) (by rw [b2]; show c.Clocks.length ≤ _; omega) ?_ (by simp [mid])
    simp only [Int.reduceEq, decide_true, decide_false, if_true, if_false, Bool.true_and, Bool.false_and, Bool.false_or, ob_some, Bool.false_eq_true]
    have hx := hI.rp _ (lget_mem c.Replies N (by omega))
    have hc := cut_len c.Replies N (by omega)
    have hw : w64 (N + 1) = N + 1 := w64_id (by omega) (by omega)
    rw [asrt_pos (by omega), asrt_pos (by omega), asrt_pos (by omega), asrt_pos (by omega), cutW _ _ (by omega) (by omega), asrt_pos (by omega), asrt_pos (by omega), asrt_pos (by omega)]
    generalize lget c.Replies N = r at *
    dsimp only [lt]
    rw [asrt_pos (by omega), asrt_pos (by omega)]
    have hb : ((decide (((lget c.Trusts r.Who).Epoch) < r.Trust.Epoch)) || ((decide (r.Trust.Epoch = ((lget c.Trusts r.Who).Epoch))) && (decide (((lget c.Trusts r.Who).Until) < r.Trust.Until)))) = decide (newer (lget c.Trusts r.Who) r.Trust) := by
      rw [Bool.eq_iff_iff, decide_eq_true_iff]; simp [newer]
    rw [hb]
    unfold hear
    by_cases hn : newer (lget c.Trusts r.Who) r.Trust
    · rw [if_pos (d_t hn), asrt_pos (by omega), asrt_pos (by omega), if_pos hn]; rfl
    · rw [if_neg (d_f hn), if_neg hn]; rfl
  · refine fin_ ⟨c.Now, c.Lease, c.Clocks, lset c.Trusts W ⟨0, 0⟩, c.Wishes, c.Replies⟩ (show c.Clocks.length ≤ _ by omega) ?_ (by simp [mid])
    simp only [Int.reduceEq, decide_true, decide_false, if_true, if_false, Bool.true_and, Bool.false_and, Bool.false_or, ob_some, Bool.false_eq_true]
    rw [asrt_pos (by omega), asrt_pos (by omega)]; rfl
  · refine fin_ ⟨c.Now, c.Lease, c.Clocks, c.Trusts, c.Wishes ++ [lget c.Wishes N], c.Replies⟩ (show c.Clocks.length ≤ _ by omega) ?_ (by simp [mid])
    simp only [Int.reduceEq, decide_true, decide_false, if_true, if_false, Bool.true_and, Bool.false_and, Bool.false_or, ob_some, Bool.false_eq_true]
    rw [asrt_pos (by omega), asrt_pos (by omega), asrt_pos (by rw [List.length_append, List.length_singleton]; omega)]; rfl
  · refine fin_ ⟨c.Now, c.Lease, c.Clocks, c.Trusts, cut c.Wishes N, c.Replies⟩ (show c.Clocks.length ≤ _ by omega) ?_ (by simp [mid])
    simp only [Int.reduceEq, decide_true, decide_false, if_true, if_false, Bool.true_and, Bool.false_and, Bool.false_or, ob_some, Bool.false_eq_true]
    have hc := cut_len c.Wishes N (by omega)
    have hw : w64 (N + 1) = N + 1 := w64_id (by omega) (by omega)
    rw [asrt_pos (by omega), asrt_pos (by omega), asrt_pos (by omega), asrt_pos (by omega), cutW _ _ (by omega) (by omega), asrt_pos (by omega), asrt_pos (by omega), asrt_pos (by omega)]; rfl
  · refine fin_ ⟨c.Now, c.Lease, c.Clocks, c.Trusts, c.Wishes, cut c.Replies N⟩ (show c.Clocks.length ≤ _ by omega) ?_ (by simp [mid])
    simp only [Int.reduceEq, decide_true, decide_false, if_true, if_false, Bool.true_and, Bool.false_and, Bool.false_or, ob_some, Bool.false_eq_true]
    have hx := hI.rp _ (lget_mem c.Replies N (by omega))
    have hc := cut_len c.Replies N (by omega)
    have hw : w64 (N + 1) = N + 1 := w64_id (by omega) (by omega)
    rw [asrt_pos (by omega), asrt_pos (by omega), asrt_pos (by omega), asrt_pos (by omega), cutW _ _ (by omega) (by omega), asrt_pos (by omega), asrt_pos (by omega), asrt_pos (by omega)]
    dsimp only [lt]
    rw [asrt_pos (by omega), asrt_pos (by omega)]; rfl
end G
end Go.Proofs.Ytgflfhdbihahcaa
