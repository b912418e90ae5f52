/- Trust stays apart: at most one client trusts under fair clocks; an epoch is one client's (NEW=2). -/
import Derived.Test.YtgflfhdbihahcaaPLeaseU
namespace Go.Proofs.Ytgflfhdbihahcaa
open Go Go.Dm
set_option linter.unusedVariables false
set_option linter.unusedSimpArgs false
set_option linter.unusedSectionVars false
namespace G
theorem asrt_dup {β : Type} (p : Prop) (k : Option β) : asrt p (asrt p k) = asrt p k := by
  by_cases h : p
  · rw [asrt_pos h]
  · unfold asrt; simp [h]
theorem run3B (ds : List Deed) (y) : lease_run_v3_B1 ds y = lease_run_B1 ds y := by
  unfold lease_run_v3_B1 lease_run_B1
  rw [asrt_dup]; rfl
theorem run3 (span clients : Int) (ds : List Deed) : lease_run_v3 span clients ds = lease_run span clients ds := by
  have h : ∀ v, lease_run_v3_L1 ds v = lease_run_L1 ds v := fun v => by
    unfold lease_run_v3_L1 lease_run_L1
    have : (fun y => lease_run_v3_B1 ds y) = (fun y => lease_run_B1 ds y) := funext fun y => run3B ds y
    rw [this]
  unfold lease_run_v3 lease_run
  rw [h]
theorem play3 (span clients : Int) (ds : List Deed) : lease_Play_v3 span clients ds = lease_Play_v1 span clients ds := by
  unfold lease_Play_v3 lease_Play_v1; rw [run3]
theorem run2B (ds : List Deed) (y) : lease_run_v2_B1 ds y = lease_run_v1_B1 ds y := by
  unfold lease_run_v2_B1 lease_run_v1_B1
  rw [asrt_dup]; rfl
theorem run2 (span clients : Int) (ds : List Deed) (a : List Int) (b : List (List Int)) : lease_run_v2 span clients ds a b = lease_run_v1 span clients ds a b := by
  have h : ∀ v, lease_run_v2_L1 ds v = lease_run_v1_L1 ds v := fun v => by
    unfold lease_run_v2_L1 lease_run_v1_L1
    have : (fun y => lease_run_v2_B1 ds y) = (fun y => lease_run_v1_B1 ds y) := funext fun y => run2B ds y
    rw [this]
  unfold lease_run_v2 lease_run_v1
  rw [h]
theorem fair1 (span clients : Int) (ds : List Deed) : lease_Fair_v1 span clients ds = lease_Fair span clients ds := by
  unfold lease_Fair_v1 lease_Fair
  simp only [run2]; rfl
/- what ties trust to the court's time -/
section
variable (span : Int) (S : Nat → Court)
def Tok (own : Int → Int) (k : Nat) (lE lU now who : Int) (t : Trust) : Prop :=
  1 ≤ t.Epoch ∧ t.Epoch ≤ lE ∧ who = own t.Epoch ∧ ∃ i, i ≤ k ∧ t.Until = lget (S i).Clocks who + sureN span ∧ (t.Epoch = lE → (S i).Now + span ≤ lU) ∧ (t.Epoch < lE → (S i).Now + span ≤ now)
theorem Tok.up {span : Int} {S : Nat → Court} {own own' : Int → Int} {k : Nat} {lE lU now lE' lU' now' who : Int} {t : Trust} (h : Tok span S own k lE lU now who t)
    (h1 : ∀ e, 1 ≤ e → e ≤ lE → own' e = own e) (h2 : lE ≤ lE') (h3 : now ≤ now') (h4 : lE' = lE → lU ≤ lU') (h5 : lE < lE' → 1 ≤ lE → lU ≤ now') : Tok span S own' (k + 1) lE' lU' now' who t := by
  obtain ⟨a1, a2, a3, i, a4, a5, a6, a7⟩ := h
  refine ⟨a1, by omega, by rw [h1 _ a1 a2]; exact a3, i, by omega, a5, fun g => ?_, fun g => ?_⟩
  · have : lE' = lE := by omega
    have := a6 (by omega)
    have := h4 (by omega)
    omega
  · by_cases hE : t.Epoch = lE
    · have := a6 hE
      have := h5 (by omega) (by omega)
      omega
    · have := a7 (by omega)
      omega
structure AInv (m : Nat) (own : Int → Int) (k : Nat) (c : Court) : Prop where
  e0 : 0 ≤ c.Lease.Epoch
  h : 1 ≤ c.Lease.Epoch → c.Lease.Holder = own c.Lease.Epoch + 1 ∧ 0 ≤ own c.Lease.Epoch
  w : ∀ w ∈ c.Wishes, ∃ i, i ≤ k ∧ w.Sent = lget (S i).Clocks w.Who
  r : ∀ r ∈ c.Replies, Tok span S own k c.Lease.Epoch c.Lease.Until c.Now r.Who r.Trust
  t : ∀ i : Nat, i < m → lget c.Trusts (i : Int) = ⟨0, 0⟩ ∨ Tok span S own k c.Lease.Epoch c.Lease.Until c.Now (i : Int) (lget c.Trusts (i : Int))
end
/-- a court that keeps its lease -/
theorem keep_ainv {span : Int} {S : Nat → Court} {m : Nat} {own : Int → Int} {k : Nat} {c c' : Court} (hA : AInv span S m own k c) (hl : c'.Lease = c.Lease) (hn : c.Now ≤ c'.Now)
    (hw : ∀ w ∈ c'.Wishes, w ∈ c.Wishes ∨ ∃ i, i ≤ k + 1 ∧ w.Sent = lget (S i).Clocks w.Who) (hr : ∀ r ∈ c'.Replies, r ∈ c.Replies)
    (ht : ∀ i : Nat, i < m → lget c'.Trusts (i : Int) = lget c.Trusts (i : Int) ∨ lget c'.Trusts (i : Int) = ⟨0, 0⟩ ∨ ∃ r ∈ c.Replies, r.Who = (i : Int) ∧ lget c'.Trusts (i : Int) = r.Trust) :
    ∃ own', AInv span S m own' (k + 1) c' ∧ (∀ e, 1 ≤ e → e ≤ c.Lease.Epoch → own' e = own e) ∧ c.Lease.Epoch ≤ c'.Lease.Epoch := by
  have up : ∀ who t, Tok span S own k c.Lease.Epoch c.Lease.Until c.Now who t → Tok span S own (k + 1) c'.Lease.Epoch c'.Lease.Until c'.Now who t := by
    intro who t h
    rw [hl]
    exact h.up (fun _ _ _ => rfl) (Int.le_refl _) hn (fun _ => Int.le_refl _) (fun g => by omega)
  refine ⟨own, ⟨by rw [hl]; exact hA.e0, by rw [hl]; exact hA.h, ?_, fun r h => up _ _ (hA.r r (hr r h)), ?_⟩, fun _ _ _ => rfl, by rw [hl]; exact Int.le_refl _⟩
  · intro w h
    rcases hw w h with g | g
    · obtain ⟨i, h1, h2⟩ := hA.w w g; exact ⟨i, by omega, h2⟩
    · exact g
  · intro i hi
    rcases ht i hi with g | g | ⟨r, g1, g2, g3⟩
    · rw [g]
      rcases hA.t i hi with q | q
      · exact .inl q
      · exact .inr (up _ _ q)
    · exact .inl g
    · rw [g3]; refine .inr (up _ _ ?_)
      have := hA.r r g1
      rwa [g2] at this
theorem did_ainv {span : Int} {S : Nat → Court} {m : Nat} {own : Int → Int} {k : Nat} {c c' : Court} (hk : S k = c) (hmono : ∀ i, i ≤ k → (S i).Now ≤ c.Now) (hI : CInv m c) (hA : AInv span S m own k c) (h : Did span c c') :
    ∃ own', AInv span S m own' (k + 1) c' ∧ (∀ e, 1 ≤ e → e ≤ c.Lease.Epoch → own' e = own e) ∧ c.Lease.Epoch ≤ c'.Lease.Epoch := by
  have hcl := hI.cl
  have htl := hI.tl
  cases h with
  | time n h => exact keep_ainv hA rfl (by show c.Now ≤ c.Now + n; omega) (fun w h => .inl h) (fun r h => h) (fun i hi => .inl rfl)
  | clock w n h hw => exact keep_ainv hA rfl (Int.le_refl _) (fun w h => .inl h) (fun r h => h) (fun i hi => .inl rfl)
  | wish w e hw he =>
    refine keep_ainv hA rfl (Int.le_refl _) (fun x h => ?_) (fun r h => h) (fun i hi => .inl rfl)
    rcases List.mem_append.1 h with g | g
    · exact .inl g
    · rw [List.mem_singleton] at g
      subst g
      exact .inr ⟨k, by omega, by rw [hk]⟩
  | hear n hn =>
    obtain ⟨b1, b2, b3, b4, b5⟩ := hear_low ⟨c.Now, c.Lease, c.Clocks, c.Trusts, c.Wishes, cut c.Replies n⟩ (lget c.Replies n)
    have hx := hI.rp _ (lget_mem c.Replies n hn)
    refine keep_ainv hA b3 (by rw [b1]; exact Int.le_refl _) (fun w h => .inl (by rw [b4] at h; exact h)) (fun r h => by rw [b5] at h; exact cut_mem h) (fun i hi => ?_)
    unfold G.hear
    split
    · show lget (lset c.Trusts _ _) _ = _ ∨ _
      rw [lget_lset _ _ _ _ (by omega) (by omega)]
      split
      · rename_i g
        refine .inr (.inr ⟨_, lget_mem c.Replies n hn, g.symm, rfl⟩)
      · exact .inl rfl
    · exact .inl rfl
  | anew w hw =>
    refine keep_ainv hA rfl (Int.le_refl _) (fun w h => .inl h) (fun r h => h) (fun i hi => ?_)
    show lget (lset c.Trusts _ _) _ = _ ∨ lget (lset c.Trusts _ _) _ = _ ∨ _
    rw [lget_lset _ _ _ _ (by omega) (by omega)]
    split
    · exact .inr (.inl rfl)
    · exact .inl rfl
  | again n hn =>
    refine keep_ainv hA rfl (Int.le_refl _) (fun x h => .inl ?_) (fun r h => h) (fun i hi => .inl rfl)
    rcases List.mem_append.1 h with g | g
    · exact g
    · rw [List.mem_singleton] at g
      subst g
      exact lget_mem c.Wishes n hn
  | lostW n hn => exact keep_ainv hA rfl (Int.le_refl _) (fun w h => .inl (cut_mem h)) (fun r h => h) (fun i hi => .inl rfl)
  | lostR n hn => exact keep_ainv hA rfl (Int.le_refl _) (fun w h => .inl h) (fun r h => cut_mem h) (fun i hi => .inl rfl)
  | arrive n hn =>
    obtain ⟨i0, hi0, hsent⟩ := hA.w _ (lget_mem c.Wishes n hn)
    have hw0 := hI.wh _ (lget_mem c.Wishes n hn)
    generalize hw' : lget c.Wishes n = w at *
    have hnow0 := hmono i0 hi0
    by_cases hc : (ask span ⟨c.Now, c.Lease, c.Clocks, c.Trusts, cut c.Wishes n, c.Replies⟩ w).2.Code = 0
    · have e : G.arrive span ⟨c.Now, c.Lease, c.Clocks, c.Trusts, cut c.Wishes n, c.Replies⟩ w = ⟨c.Now, (ask span ⟨c.Now, c.Lease, c.Clocks, c.Trusts, cut c.Wishes n, c.Replies⟩ w).1, c.Clocks, c.Trusts, cut c.Wishes n, c.Replies ++ [⟨w.Who, ⟨(ask span ⟨c.Now, c.Lease, c.Clocks, c.Trusts, cut c.Wishes n, c.Replies⟩ w).1.Epoch, w.Sent + sureN span⟩⟩]⟩ := by unfold G.arrive; rw [if_pos hc]
      rw [e]
      -- what both ways need
      have fin_ : ∀ (L : Lease) (own' : Int → Int), (∀ e, 1 ≤ e → e ≤ c.Lease.Epoch → own' e = own e) → c.Lease.Epoch ≤ L.Epoch → 1 ≤ L.Epoch → (L.Epoch = c.Lease.Epoch → c.Lease.Until ≤ L.Until) → (c.Lease.Epoch < L.Epoch → 1 ≤ c.Lease.Epoch → c.Lease.Until ≤ c.Now) →
          L.Holder = own' L.Epoch + 1 → own' L.Epoch = w.Who → c.Now + span ≤ L.Until →
          AInv span S m own' (k + 1) ⟨c.Now, L, c.Clocks, c.Trusts, cut c.Wishes n, c.Replies ++ [⟨w.Who, ⟨L.Epoch, w.Sent + sureN span⟩⟩]⟩ := by
        intro L own' g1 g2 g3 g4 g5 g6 g7 g8
        have up : ∀ who t, Tok span S own k c.Lease.Epoch c.Lease.Until c.Now who t → Tok span S own' (k + 1) L.Epoch L.Until c.Now who t := fun who t h => h.up g1 g2 (Int.le_refl _) g4 g5
        refine ⟨by show 0 ≤ L.Epoch; omega, fun _ => ⟨g6, by show 0 ≤ own' L.Epoch; rw [g7]; exact hw0.1.1⟩, ?_, ?_, ?_⟩
        · intro x hx
          obtain ⟨i, h1, h2⟩ := hA.w x (cut_mem hx)
          exact ⟨i, by omega, h2⟩
        · intro r hr
          rcases List.mem_append.1 hr with g | g
          · exact up _ _ (hA.r r g)
          · rw [List.mem_singleton] at g
            subst g
            refine ⟨g3, Int.le_refl _, g7.symm, i0, by omega, ?_, fun _ => ?_, fun g => ?_⟩
            · show w.Sent + sureN span = _; rw [hsent]
            · show (S i0).Now + span ≤ L.Until; omega
            · have : L.Epoch < L.Epoch := g
              omega
        · intro i hi
          rcases hA.t i hi with q | q
          · exact .inl q
          · exact .inr (up _ _ q)
      unfold ask at hc ⊢
      by_cases he : w.Epoch = 0
      · rw [if_pos he] at hc ⊢
        obtain ⟨r1, r2, r3, r4⟩ := granted_c _ _ _ _ hc
        rw [r1]
        refine ⟨fun x => if x = c.Lease.Epoch + 1 then w.Who else own x, fin_ ⟨w.Who + 1, c.Lease.Epoch + 1, c.Now + span⟩ _ ?_ ?_ ?_ ?_ ?_ ?_ ?_ ?_, ?_, ?_⟩
        · intro x _ h2; show (if _ then _ else _) = _; rw [if_neg (by omega)]
        · show c.Lease.Epoch ≤ c.Lease.Epoch + 1; omega
        · show 1 ≤ c.Lease.Epoch + 1; have : 0 ≤ c.Lease.Epoch := r2; omega
        · intro g; have : c.Lease.Epoch + 1 = c.Lease.Epoch := g; omega
        · intro _ h1
          have := hA.h h1
          rcases r3 with r3 | r3
          · have : c.Lease.Holder = 0 := r3; omega
          · exact r3
        · show w.Who + 1 = (if _ then _ else _) + 1; rw [if_pos rfl]
        · show (if _ then _ else _) = _; rw [if_pos rfl]
        · exact Int.le_refl _
        · intro x _ h2; show (if _ then _ else _) = _; rw [if_neg (by omega)]
        · show c.Lease.Epoch ≤ c.Lease.Epoch + 1; omega
      · rw [if_neg he] at hc ⊢
        obtain ⟨r1, r2, r3, r4⟩ := renewed_c _ _ _ _ _ hc
        have r2' : c.Lease.Holder = w.Who + 1 := r2
        have r3' : c.Lease.Epoch = w.Epoch := r3
        rw [r1]
        have hE : 1 ≤ c.Lease.Epoch := by have := hw0.2.2; omega
        have hh := hA.h hE
        refine ⟨own, fin_ ⟨c.Lease.Holder, c.Lease.Epoch, max c.Lease.Until (c.Now + span)⟩ own (fun _ _ _ => rfl) (Int.le_refl _) hE (fun _ => ?_) (fun g => ?_) hh.1 ?_ ?_, fun _ _ _ => rfl, Int.le_refl _⟩
        · show c.Lease.Until ≤ max _ _; omega
        · have : c.Lease.Epoch < c.Lease.Epoch := g
          omega
        · show own c.Lease.Epoch = _; omega
        · show _ ≤ max _ _; omega
    · have e : G.arrive span ⟨c.Now, c.Lease, c.Clocks, c.Trusts, cut c.Wishes n, c.Replies⟩ w = ⟨c.Now, c.Lease, c.Clocks, c.Trusts, cut c.Wishes n, c.Replies⟩ := by unfold G.arrive; rw [if_neg hc]
      rw [e]
      exact keep_ainv hA rfl (Int.le_refl _) (fun w h => .inl (cut_mem h)) (fun r h => h) (fun i hi => .inl rfl)
/-- who trusts -/
def trusts (c : Court) (i : Int) : Prop := lget c.Clocks i < (lget c.Trusts i).Until
instance (c : Court) (i : Int) : Decidable (trusts c i) := inferInstanceAs (Decidable (_ < _))
theorem trusts_tok {span : Int} {S : Nat → Court} {m : Nat} {own : Int → Int} {k : Nat} {c : Court} (hI : CInv m c) (hA : AInv span S m own k c) {i : Nat} (hi : i < m) (ht : trusts c (i : Int)) : Tok span S own k c.Lease.Epoch c.Lease.Until c.Now (i : Int) (lget c.Trusts (i : Int)) := by
  rcases hA.t i hi with h | h
  · exfalso
    unfold trusts at ht
    rw [h] at ht
    have hcl := hI.cl
    have := (hI.clk _ (lget_mem c.Clocks (i : Int) (by omega))).1
    have ht' : lget c.Clocks (i : Int) < 0 := ht
    omega
  · exact h
theorem apart {span : Int} {S : Nat → Court} {m : Nat} {own : Int → Int} {k n : Nat} (hI : CInv m (S k)) (hA : AInv span S m own k (S k)) (hf : fairP span m S n) (hk : k ≤ n) {i : Nat} (hi : i < m) (ht : trusts (S k) (i : Int)) : (i : Int) = own (S k).Lease.Epoch := by
  obtain ⟨a1, a2, a3, j, a4, a5, a6, a7⟩ := trusts_tok hI hA hi ht
  by_cases h : (lget (S k).Trusts (i : Int)).Epoch = (S k).Lease.Epoch
  · rw [← h]; exact a3
  · exfalso
    have h1 := a7 (by omega)
    have h2 := hf j k a4 hk (by omega) i hi
    unfold trusts at ht
    omega
theorem ainv0 (span : Int) (m : Nat) (ds : List Deed) : AInv span (st span m ds) m (fun _ => 0) 0 (st span m ds 0) := by
  refine ⟨Int.le_refl _, fun h => ?_, fun w h => by simp [st] at h, fun r h => by simp [st] at h, fun i hi => .inl ?_⟩
  · have : (1 : Int) ≤ 0 := h
    omega
  · show lget (List.replicate m (⟨0, 0⟩ : Trust)) (i : Int) = _
    rw [lget_nat _ _ (by simpa using hi)]; simp
end G
end Go.Proofs.Ytgflfhdbihahcaa
