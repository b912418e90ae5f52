/- Leases: what stays true of a court; runs of deeds (NEW=2). -/
import Derived.Test.YtgflfhdbihahcaaPLeaseR
namespace Go.Proofs.Ytgflfhdbihahcaa
open Go Go.Dm
set_option linter.unusedVariables false
set_option linter.unusedSimpArgs false
namespace G
/-- what a deed does to a court, way by way -/
inductive Did (span : Int) (c : Court) : Court → Prop
  | time (n : Int) (h : 0 ≤ n) : Did span c ⟨c.Now + n, c.Lease, c.Clocks, c.Trusts, c.Wishes, c.Replies⟩
  | clock (w n : Int) (h : 0 ≤ n) (hw : 0 ≤ w ∧ w < (c.Clocks.length : Int)) : Did span c ⟨c.Now, c.Lease, lset c.Clocks w (lget c.Clocks w + n), c.Trusts, c.Wishes, c.Replies⟩
  | wish (w e : Int) (hw : 0 ≤ w ∧ w < (c.Clocks.length : Int)) (he : e = 0 ∨ e = (lget c.Trusts w).Epoch) : Did span c ⟨c.Now, c.Lease, c.Clocks, c.Trusts, c.Wishes ++ [⟨w, lget c.Clocks w, e⟩], c.Replies⟩
  | arrive (n : Int) (hn : 0 ≤ n ∧ n < (c.Wishes.length : Int)) : Did span c (arrive span ⟨c.Now, c.Lease, c.Clocks, c.Trusts, cut c.Wishes n, c.Replies⟩ (lget c.Wishes n))
  | hear (n : Int) (hn : 0 ≤ n ∧ n < (c.Replies.length : Int)) : Did span c (hear ⟨c.Now, c.Lease, c.Clocks, c.Trusts, c.Wishes, cut c.Replies n⟩ (lget c.Replies n))
  | anew (w : Int) (hw : 0 ≤ w ∧ w < (c.Clocks.length : Int)) : Did span c ⟨c.Now, c.Lease, c.Clocks, lset c.Trusts w ⟨0, 0⟩, c.Wishes, c.Replies⟩
  | again (n : Int) (hn : 0 ≤ n ∧ n < (c.Wishes.length : Int)) : Did span c ⟨c.Now, c.Lease, c.Clocks, c.Trusts, c.Wishes ++ [lget c.Wishes n], c.Replies⟩
  | lostW (n : Int) (hn : 0 ≤ n ∧ n < (c.Wishes.length : Int)) : Did span c ⟨c.Now, c.Lease, c.Clocks, c.Trusts, cut c.Wishes n, c.Replies⟩
  | lostR (n : Int) (hn : 0 ≤ n ∧ n < (c.Replies.length : Int)) : Did span c ⟨c.Now, c.Lease, c.Clocks, c.Trusts, c.Wishes, cut c.Replies n⟩
theorem did {span : Int} {c : Court} {d : Deed} (hp : pre c d = 0) : Did span c (mid span c d) := by
  obtain ⟨K, W, N⟩ := d
  unfold pre at hp
  dsimp only at hp
  split at hp
  · cases hp
  split at hp
  · cases hp
  split at hp
  · cases hp
  split at hp
  · cases hp
  split at hp
  · cases hp
  rename_i p1 p2 p3 p4 p5
  have hcase : K = 0 ∨ K = 1 ∨ K = 2 ∨ K = 3 ∨ K = 4 ∨ K = 5 ∨ K = 6 ∨ K = 7 ∨ K = 8 := by omega
  rcases hcase with rfl | rfl | rfl | rfl | rfl | rfl | rfl | rfl | rfl
  · exact .time N (by omega)
  · exact .clock W N (by omega) (by omega)
  · refine .wish W _ (by omega) ?_
    split
    · exact .inr rfl
    · exact .inl rfl
  · exact .arrive N (by omega)
  · exact .hear N (by omega)
  · exact .anew W (by omega)
  · exact .again N (by omega)
  · exact .lostW N (by omega)
  · exact .lostR N (by omega)
theorem fin_zero {c : Court} (h0 : fin c = 0) : c.Now ≤ 900000000 ∧ c.Wishes.length ≤ 100 ∧ c.Replies.length ≤ 100 ∧ ∀ x ∈ c.Clocks, x ≤ 900000000 := by
  have h : ¬ (900000000 < c.Now ∨ 100 < c.Wishes.length ∨ 100 < c.Replies.length ∨ c.Clocks.any (fun x => decide (900000000 < x)) = true) := by
    intro g; unfold fin at h0; rw [if_pos g] at h0; cases h0
  have h1 : ¬ 900000000 < c.Now := fun g => h (.inl g)
  have h2 : ¬ 100 < c.Wishes.length := fun g => h (.inr (.inl g))
  have h3 : ¬ 100 < c.Replies.length := fun g => h (.inr (.inr (.inl g)))
  have h4 : c.Clocks.any (fun x => decide (900000000 < x)) = false := by
    cases hb : c.Clocks.any (fun x => decide (900000000 < x)) with
    | false => rfl
    | true => exact absurd (.inr (.inr (.inr hb))) h
  refine ⟨by omega, by omega, by omega, fun x hx => ?_⟩
  have := List.any_eq_false.1 h4 x hx
  simp at this; omega
theorem mem_lset {α : Type} {l : List α} {n : Int} {x y : α} (h : y ∈ lset l n x) : y ∈ l ∨ y = x := by
  unfold lset at h; exact List.mem_or_eq_of_mem_set h
theorem ask_epoch {span : Int} {c : Court} {w : Wish} (he : 0 ≤ w.Epoch) (h : (ask span c w).2.Code = 0) : 0 ≤ (ask span c w).1.Epoch := by
  unfold ask at h ⊢
  split
  · rename_i h0
    rw [if_pos h0] at h
    obtain ⟨h1, h2, _⟩ := granted_c _ _ _ _ h
    rw [h1]; show 0 ≤ c.Lease.Epoch + 1; omega
  · rename_i h0
    rw [if_neg h0] at h
    obtain ⟨h1, _, h2, _⟩ := renewed_c _ _ _ _ _ h
    rw [h1]; show 0 ≤ c.Lease.Epoch; omega
theorem did_inv {m : Nat} {span : Int} {c c' : Court} (hI : CInv m c) (h : Did span c c') (hf : fin c' = 0) : CInv m c' ∧ c.Now ≤ c'.Now ∧ ∀ i : Nat, i < m → lget c.Clocks (i : Int) ≤ lget c'.Clocks (i : Int) := by
  obtain ⟨f1, f2, f3, f4⟩ := fin_zero hf
  have base := hI.now
  have hcl := hI.cl
  have htl := hI.tl
  have same : ∀ i : Nat, i < m → lget c.Clocks (i : Int) ≤ lget c.Clocks (i : Int) := fun _ _ => Int.le_refl _
  cases h with
  | time n h =>
    exact ⟨⟨⟨by show 0 ≤ c.Now + n; omega, f1⟩, hI.cl, hI.clk, hI.tl, hI.tr, f2, hI.wh, f3, hI.rp⟩, by show c.Now ≤ c.Now + n; omega, same⟩
  | clock w n h hw =>
    refine ⟨⟨⟨base.1, f1⟩, by show (lset _ _ _).length = m; rw [lset_len]; exact hcl, ?_, hI.tl, hI.tr, f2, hI.wh, f3, hI.rp⟩, Int.le_refl _, ?_⟩
    · intro x hx
      refine ⟨?_, f4 x hx⟩
      rcases mem_lset hx with g | rfl
      · exact (hI.clk x g).1
      · have := hI.clk _ (lget_mem c.Clocks w hw); omega
    · intro i hi
      show _ ≤ lget (lset _ _ _) _
      rw [lget_lset _ _ _ _ hw (by omega)]
      split
      · rename_i e; rw [e]; omega
      · exact Int.le_refl _
  | wish w e hw he =>
    refine ⟨⟨⟨base.1, f1⟩, hI.cl, hI.clk, hI.tl, hI.tr, f2, ?_, f3, hI.rp⟩, Int.le_refl _, same⟩
    intro x hx
    rcases List.mem_append.1 hx with g | g
    · exact hI.wh x g
    · rw [List.mem_singleton] at g
      subst g
      have h1 := hI.clk _ (lget_mem c.Clocks w hw)
      have h2 := hI.tr _ (lget_mem c.Trusts w (by omega))
      refine ⟨⟨hw.1, by show w < _; omega⟩, h1, ?_⟩
      show 0 ≤ e
      rcases he with rfl | rfl
      · omega
      · exact h2
  | arrive n hn =>
    obtain ⟨a1, a2, a3, a4⟩ := arrive_low span ⟨c.Now, c.Lease, c.Clocks, c.Trusts, cut c.Wishes n, c.Replies⟩ (lget c.Wishes n)
    have hx := hI.wh _ (lget_mem c.Wishes n hn)
    refine ⟨⟨⟨by rw [a1]; exact base.1, f1⟩, by rw [a2]; exact hI.cl, by rw [a2]; exact hI.clk, by rw [a3]; exact hI.tl, by rw [a3]; exact hI.tr, f2, ?_, f3, ?_⟩, by rw [a1]; exact Int.le_refl _, by rw [a2]; exact same⟩
    · rw [a4]; intro x hx; exact hI.wh x (cut_mem hx)
    · unfold arrive
      split
      · rename_i hk
        intro x hx'
        rcases List.mem_append.1 hx' with g | g
        · exact hI.rp x g
        · rw [List.mem_singleton] at g
          subst g
          exact ⟨hx.1, ask_epoch hx.2.2 hk⟩
      · exact hI.rp
  | hear n hn =>
    obtain ⟨b1, b2, b3, b4, b5⟩ := hear_low ⟨c.Now, c.Lease, c.Clocks, c.Trusts, c.Wishes, cut c.Replies n⟩ (lget c.Replies n)
    have hx := hI.rp _ (lget_mem c.Replies n hn)
    refine ⟨⟨⟨by rw [b1]; exact base.1, f1⟩, by rw [b2]; exact hI.cl, by rw [b2]; exact hI.clk, ?_, ?_, f2, by rw [b4]; exact hI.wh, f3, ?_⟩, by rw [b1]; exact Int.le_refl _, by rw [b2]; exact same⟩
    · unfold G.hear; split
      · show (lset _ _ _).length = m; rw [lset_len]; exact hI.tl
      · exact hI.tl
    · unfold G.hear; split
      · intro x hx'
        rcases mem_lset hx' with g | rfl
        · exact hI.tr x g
        · exact hx.2
      · exact hI.tr
    · rw [b5]; intro x hx'; exact hI.rp x (cut_mem hx')
  | anew w hw =>
    refine ⟨⟨⟨base.1, f1⟩, hI.cl, hI.clk, by show (lset _ _ _).length = m; rw [lset_len]; exact htl, ?_, f2, hI.wh, f3, hI.rp⟩, Int.le_refl _, same⟩
    intro x hx
    rcases mem_lset hx with g | rfl
    · exact hI.tr x g
    · exact Int.le_refl _
  | again n hn =>
    refine ⟨⟨⟨base.1, f1⟩, hI.cl, hI.clk, hI.tl, hI.tr, f2, ?_, f3, hI.rp⟩, Int.le_refl _, same⟩
    intro x hx
    rcases List.mem_append.1 hx with g | g
    · exact hI.wh x g
    · rw [List.mem_singleton] at g
      subst g
      exact hI.wh _ (lget_mem c.Wishes n hn)
  | lostW n hn => exact ⟨⟨⟨base.1, f1⟩, hI.cl, hI.clk, hI.tl, hI.tr, f2, fun x hx => hI.wh x (cut_mem hx), f3, hI.rp⟩, Int.le_refl _, same⟩
  | lostR n hn => exact ⟨⟨⟨base.1, f1⟩, hI.cl, hI.clk, hI.tl, hI.tr, f2, hI.wh, f3, fun x hx => hI.rp x (cut_mem hx)⟩, Int.le_refl _, same⟩
theorem step_did {span : Int} {c : Court} {d : Deed} (h : (step span c d).1 = 0) : Did span c (step span c d).2 ∧ fin (step span c d).2 = 0 := by
  unfold step at h ⊢
  split
  · rename_i hp; rw [if_pos hp] at h; exact ⟨did hp, h⟩
  · rename_i hp; rw [if_neg hp] at h; exact absurd h hp
/- runs -/
noncomputable def st (span : Int) (m : Nat) (ds : List Deed) : Nat → Court
  | 0 => ⟨0, ⟨0, 0, 0⟩, List.replicate m 0, List.replicate m ⟨0, 0⟩, [], []⟩
  | k + 1 => if (step span (st span m ds k) (lget ds (k : Int))).1 = 0 then (step span (st span m ds k) (lget ds (k : Int))).2 else st span m ds k
noncomputable def cd (span : Int) (m : Nat) (ds : List Deed) (k : Nat) : Int := (step span (st span m ds k) (lget ds (k : Int))).1
theorem st_step {span : Int} {m : Nat} {ds : List Deed} {k : Nat} (h : cd span m ds k = 0) : step span (st span m ds k) (lget ds (k : Int)) = (0, st span m ds (k + 1)) := by
  have h' : (step span (st span m ds k) (lget ds (k : Int))).1 = 0 := h
  rw [st, if_pos h']
  exact Prod.ext h' rfl
theorem st_inv (span : Int) (m : Nat) (ds : List Deed) : ∀ k, CInv m (st span m ds k)
  | 0 => ⟨⟨Int.le_refl _, by show (0 : Int) ≤ _; omega⟩, by simp [st], by simp [st], by simp [st], by simp [st], by simp [st], by simp [st], by simp [st], by simp [st]⟩
  | k + 1 => by
    have ih := st_inv span m ds k
    rw [st]
    split
    · rename_i h
      obtain ⟨h1, h2⟩ := step_did h
      exact (did_inv ih h1 h2).1
    · exact ih
theorem st_le (span : Int) (m : Nat) (ds : List Deed) (k : Nat) : (st span m ds k).Now ≤ (st span m ds (k + 1)).Now ∧ ∀ i : Nat, i < m → lget (st span m ds k).Clocks (i : Int) ≤ lget (st span m ds (k + 1)).Clocks (i : Int) := by
  have ih := st_inv span m ds k
  rw [st]
  split
  · rename_i h
    obtain ⟨h1, h2⟩ := step_did h
    exact (did_inv ih h1 h2).2
  · exact ⟨Int.le_refl _, fun _ _ => Int.le_refl _⟩
theorem st_mono (span : Int) (m : Nat) (ds : List Deed) {j k : Nat} (h : j ≤ k) : (st span m ds j).Now ≤ (st span m ds k).Now ∧ ∀ i : Nat, i < m → lget (st span m ds j).Clocks (i : Int) ≤ lget (st span m ds k).Clocks (i : Int) := by
  induction h with
  | refl => exact ⟨Int.le_refl _, fun _ _ => Int.le_refl _⟩
  | step h ih =>
    have := st_le span m ds ‹Nat›
    exact ⟨Int.le_trans ih.1 (st_le span m ds _).1, fun i hi => Int.le_trans (ih.2 i hi) ((st_le span m ds _).2 i hi)⟩
/-- where a run stops -/
theorem stop (p : Nat → Prop) (n : Nat) : ∃ j, j ≤ n ∧ (∀ k, k < j → p k) ∧ (j = n ∨ (j < n ∧ ¬ p j)) := by
  induction n with
  | zero => exact ⟨0, Nat.le_refl _, fun k hk => by omega, .inl rfl⟩
  | succ n ih =>
    obtain ⟨j, h1, h2, h3⟩ := ih
    rcases h3 with rfl | ⟨h3, h4⟩
    · by_cases c : p j
      · refine ⟨j + 1, Nat.le_refl _, fun k hk => ?_, .inl rfl⟩
        by_cases e : k = j
        · rw [e]; exact c
        · exact h2 k (by omega)
      · exact ⟨j, by omega, h2, .inr ⟨by omega, c⟩⟩
    · exact ⟨j, by omega, h2, .inr ⟨by omega, h4⟩⟩
end G
end Go.Proofs.Ytgflfhdbihahcaa
