/- The law LeaseApart (NEW=2). -/
import Derived.Test.YtgflfhdbihahcaaPLeaseApart
namespace Go.Proofs.Ytgflfhdbihahcaa
open Go Go.Dm
set_option linter.unusedVariables false
set_option linter.unusedSimpArgs false
set_option linter.unusedSectionVars false
namespace G
def trl (c : Court) (m : Nat) : List Int := ((List.range m).filter (fun (i : Nat) => decide (trusts c (i : Int)))).map (fun (i : Nat) => (i : Int))
theorem trl_succ (c : Court) (m : Nat) : trl c (m + 1) = if trusts c (m : Int) then trl c m ++ [(m : Int)] else trl c m := by
  unfold trl
  rw [List.range_succ, List.filter_append, List.map_append]
  by_cases h : trusts c (m : Int)
  · rw [if_pos h]; simp [h]
  · rw [if_neg h]; simp [h]
theorem trl_len (c : Court) (m : Nat) : (trl c m).length ≤ m := by
  unfold trl
  rw [List.length_map]
  have := List.length_filter_le (fun (i : Nat) => decide (trusts c (i : Int))) (List.range m)
  rw [List.length_range] at this; exact this
theorem trl_mem {c : Court} {m : Nat} {x : Int} (h : x ∈ trl c m) : ∃ i : Nat, i < m ∧ x = (i : Int) ∧ trusts c (i : Int) := by
  unfold trl at h
  rw [List.mem_map] at h
  obtain ⟨i, h1, rfl⟩ := h
  rw [List.mem_filter, List.mem_range] at h1
  exact ⟨i, h1.1, rfl, of_decide_eq_true h1.2⟩
theorem trl_nodup (c : Court) (m : Nat) : (trl c m).Nodup := by
  unfold trl
  refine List.Pairwise.map _ (R := fun a b : Nat => a ≠ b) (fun a b h => by omega) ?_
  exact List.Pairwise.filter _ List.nodup_range
theorem one_of {l : List Int} (hn : l.Nodup) (a : Int) (h : ∀ x ∈ l, x = a) : l.length ≤ 1 := by
  match l, hn, h with
  | [], _, _ => simp
  | [x], _, _ => simp
  | x :: y :: r, hn, h =>
    have h1 := h x (by simp)
    have h2 := h y (by simp)
    rw [List.nodup_cons] at hn
    exact absurd (by rw [h1, h2]; simp) hn.1
theorem trusting_eq {m : Nat} (hm : m ≤ 8) {c : Court} (hI : CInv m c) : R_Trusting_v1 c = some (trl c m) := by
  have hcl := hI.cl
  have htl := hI.tl
  refine loop_run (step := fun y => R_Trusting_v1_B1 c y) m (fun k => (trl c k, (k : Int))) (fun k hk => ?_) ?_
  · have hw : w64 ((k : Int) + 1) = ((k + 1 : Nat) : Int) := by rw [w64_id (by omega) (by omega)]; omega
    have hl := trl_len c k
    show R_Trusting_v1_B1 c (trl c k, (k : Int)) = _
    unfold R_Trusting_v1_B1
    dsimp only
    rw [if_pos (d_t (by omega)), asrt_pos (by omega), asrt_pos (by omega), hw, trl_succ]
    by_cases h : trusts c (k : Int)
    · rw [if_pos (d_t (by exact h)), asrt_pos (by rw [List.length_append, List.length_singleton]; omega), ob_some, if_pos h]
    · rw [if_neg (d_f (by exact h)), ob_some, if_neg h]
  · show R_Trusting_v1_B1 c (trl c m, (m : Int)) = _
    unfold R_Trusting_v1_B1
    rw [if_neg (d_f (by dsimp only; omega))]; rfl
def MInv (own : Int → Int) (mp : List (Int × Int)) (lE : Int) : Prop := ∀ e c, mget mp e = some c → own e = c ∧ 1 ≤ e ∧ e ≤ lE
theorem apart_L2 {span : Int} {S : Nat → Court} {m : Nat} (hm : m ≤ 8) {own : Int → Int} {k0 : Nat} {x2 : Court × Fault} (hI : CInv m x2.1) (hA : AInv span S m own k0 x2.1) (v1 : (List (Int × Int)) × Int × Int) (l : List Int) (hl : ∀ x ∈ l, ∃ i : Nat, i < m ∧ x = (i : Int) ∧ trusts x2.1 (i : Int)) (hlen : l.length ≤ 8) :
    ∀ (r k : Nat) (mp : List (Int × Int)), l.length - k = r → k ≤ l.length → MInv own mp x2.1.Lease.Epoch → ∃ mp', MInv own mp' x2.1.Lease.Epoch ∧ law_LeaseApart_L2 v1 x2 l (mp, (k : Int)) = some (.inl (mp', x2.1.Lease.Epoch, w64 (v1.2.2 + 1)))
  | 0, k, mp, hr, hk, hM => by
    refine ⟨mp, hM, loopO_inr ?_⟩
    unfold law_LeaseApart_B2
    rw [if_neg (d_f (by dsimp only; omega))]; rfl
  | r + 1, k, mp, hr, hk, hM => by
    have hlt : k < l.length := by omega
    have hw : w64 ((k : Int) + 1) = ((k + 1 : Nat) : Int) := by rw [w64_id (by omega) (by omega)]; omega
    obtain ⟨i, h1, h2, h3⟩ := hl _ (lget_mem l (k : Int) (by omega))
    obtain ⟨a1, a2, a3, _⟩ := trusts_tok hI hA h1 h3
    have htl := hI.tl
    have hM' : MInv own (mput mp (lget x2.1.Trusts (i : Int)).Epoch (i : Int)) x2.1.Lease.Epoch := by
      intro e c h
      rw [mget_mput] at h
      split at h
      · rename_i g
        simp only [Option.some.injEq] at h
        rw [← g, ← h]; exact ⟨a3.symm, a1, a2⟩
      · exact hM e c h
    obtain ⟨mp', q1, q2⟩ := apart_L2 hm hI hA v1 l hl hlen r (k + 1) _ (by omega) (by omega) hM'
    refine ⟨mp', q1, (loopO_inl (y := (mput mp (lget x2.1.Trusts (i : Int)).Epoch (i : Int), ((k + 1 : Nat) : Int))) ?_).trans q2⟩
    unfold law_LeaseApart_B2
    dsimp only
    rw [h2, if_pos (d_t (by omega)), asrt_pos (by omega), asrt_pos (by omega), asrt_pos (fun _ _ => by omega)]
    have e1 : decide ((lget x2.1.Trusts (i : Int)).Epoch < 1) = false := decide_eq_false (by omega)
    have e2 : decide (x2.1.Lease.Epoch < (lget x2.1.Trusts (i : Int)).Epoch) = false := decide_eq_false (by omega)
    have e3 : ((mget mp (lget x2.1.Trusts (i : Int)).Epoch).isSome && (!decide ((mget mp (lget x2.1.Trusts (i : Int)).Epoch).getD (0 : Int) = (i : Int)))) = false := by
      cases hg : mget mp (lget x2.1.Trusts (i : Int)).Epoch with
      | none => rfl
      | some c =>
        have := (hM _ c hg).1
        have hci : c = (i : Int) := by rw [← this]; exact a3.symm
        simp [hci]
    rw [e1, e2, e3, if_neg (by simp), asrt_pos (by omega), hw]; rfl
theorem st_take (span : Int) (m : Nat) (ds : List Deed) (k : Nat) : ∀ i, i ≤ k → st span m (ds.take k) i = st span m ds i
  | 0, _ => rfl
  | i + 1, h => by
    have ih := st_take span m ds k i (by omega)
    have e : lget (ds.take k) (i : Int) = lget ds (i : Int) := by
      have := lget_ltake ds (k : Int) (i : Int) (by omega)
      rwa [ltake_nat] at this
    rw [st, st, ih, e]
theorem play_take (span clients : Int) (ds : List Deed) (h : (headF span clients ds.length).Code = 0) (hok : ∀ k, k < ds.length → cd span clients.toNat ds k = 0) (k : Nat) (hk : k ≤ ds.length) : lease_Play_v1 span clients (ltake ds (k : Int)) = some (st span clients.toNat ds k, ⟨0, 0⟩) := by
  obtain ⟨h1, h2, h3, h4⟩ := headF_ok h
  have hlen : (ds.take k).length = k := by rw [List.length_take]; omega
  have hst : Stop span clients.toNat (ds.take k) k := by
    refine ⟨by omega, fun i hi => ?_, .inl hlen.symm⟩
    have e : lget (ds.take k) (i : Int) = lget ds (i : Int) := by
      have := lget_ltake ds (k : Int) (i : Int) (by omega)
      rwa [ltake_nat] at this
    have := hok i (by omega)
    unfold cd at this ⊢
    rw [st_take span clients.toNat ds k i (by omega), e]; exact this
  have hh : (headF span clients (ds.take k).length).Code = 0 := by
    unfold headF
    rw [if_pos h1, if_neg (show ¬ (clients < 1 ∨ 8 < clients) by omega), if_neg (show ¬ 2000 < (ds.take k).length by omega)]
  rw [ltake_nat, play_eq span clients (ds.take k) hst, if_pos hh]
  have e1 : endC span clients.toNat (ds.take k) k = st span clients.toNat ds k := by
    unfold endC; rw [if_pos hlen.symm]; exact st_take _ _ _ _ _ (Nat.le_refl _)
  have e2 : endF span clients.toNat (ds.take k) k = ⟨0, 0⟩ := by unfold endF; rw [if_pos hlen.symm]
  rw [e1, e2]
theorem apart_L1 (span clients : Int) (ds : List Deed) (h : (headF span clients ds.length).Code = 0) (hok : ∀ k, k < ds.length → cd span clients.toNat ds k = 0) (b : Bool) (hb : b = true → fairP span clients.toNat (st span clients.toNat ds) ds.length) :
    ∀ (r k : Nat) (mp : List (Int × Int)) (last : Int) (own : Int → Int), ds.length + 1 - k = r → k ≤ ds.length + 1 → (k ≤ ds.length → AInv span (st span clients.toNat ds) clients.toNat own k (st span clients.toNat ds k)) → MInv own mp last → (k ≤ ds.length → last ≤ (st span clients.toNat ds k).Lease.Epoch) →
      law_LeaseApart_L1 span clients ds (b, ⟨0, 0⟩) (mp, last, (k : Int)) = some true
  | 0, k, mp, last, own, hr, hk, hA, hM, hla => by
    refine loopO_inr ?_
    unfold law_LeaseApart_B1
    rw [if_neg (d_f (by dsimp only; omega))]; rfl
  | r + 1, k, mp, last, own, hr, hk, hA, hM, hla => by
    have hk' : k ≤ ds.length := by omega
    obtain ⟨h1, h2, h3, h4⟩ := headF_ok h
    have hm : clients.toNat ≤ 8 := by omega
    have hA' := hA hk'
    have hI := st_inv span clients.toNat ds k
    have hcl := hI.cl
    have htl := hI.tl
    have hw : w64 ((k : Int) + 1) = ((k + 1 : Nat) : Int) := by rw [w64_id (by omega) (by omega)]; omega
    have hMk : MInv own mp (st span clients.toNat ds k).Lease.Epoch := fun e c g => by
      obtain ⟨q1, q2, q3⟩ := hM e c g
      exact ⟨q1, q2, Int.le_trans q3 (hla hk')⟩
    have htl8 := trl_len (st span clients.toNat ds k) clients.toNat
    obtain ⟨mp', p1, p2⟩ := apart_L2 hm (x2 := (st span clients.toNat ds k, ⟨0, 0⟩)) hI hA' (mp, last, (k : Int)) (trl (st span clients.toNat ds k) clients.toNat) (fun x hx => trl_mem hx) (by omega) (trl (st span clients.toNat ds k) clients.toNat).length 0 mp (by omega) (by omega) hMk
    have hB : law_LeaseApart_B1 span clients ds (b, ⟨0, 0⟩) (mp, last, (k : Int)) = some (.inl (mp', (st span clients.toNat ds k).Lease.Epoch, ((k + 1 : Nat) : Int))) := by
      unfold law_LeaseApart_B1
      dsimp only
      have hle := hla hk'
      rw [if_pos (d_t (by omega)), asrt_pos (by omega), play3, play_take span clients ds h hok k hk', ob_some, if_neg, trusting_eq hm hI, ob_some, if_neg]
      · have p2' : law_LeaseApart_L2 (mp, last, (k : Int)) (st span clients.toNat ds k, ⟨0, 0⟩) (trl (st span clients.toNat ds k) clients.toNat) (mp, 0) = _ := p2
        rw [p2', hw]
      · intro g
        simp only [Bool.and_eq_true, decide_eq_true_eq] at g
        have := one_of (trl_nodup (st span clients.toNat ds k) clients.toNat) (own (st span clients.toNat ds k).Lease.Epoch) (fun x hx => by
          obtain ⟨i, q1, q2, q3⟩ := trl_mem hx
          rw [q2]; exact apart hI hA' (hb g.1) hk' q1 q3)
        omega
      · have e1 : ((st span clients.toNat ds k).Clocks.length : Int) = clients := by omega
        have e2 : ((st span clients.toNat ds k).Trusts.length : Int) = clients := by omega
        have e3 : decide ((st span clients.toNat ds k).Lease.Epoch < last) = false := decide_eq_false (by omega)
        dsimp only
        rw [e1, e2, e3]; simp
    refine (loopO_inl hB).trans ?_
    by_cases hlast : k < ds.length
    · have hs := st_step (hok k hlast)
      have hd := step_did (span := span) (c := st span clients.toNat ds k) (d := lget ds (k : Int)) (by rw [hs])
      rw [hs] at hd
      obtain ⟨own', q1, q2, q3⟩ := did_ainv (S := st span clients.toNat ds) rfl (fun i hi => (st_mono span clients.toNat ds hi).1) hI hA' hd.1
      exact apart_L1 span clients ds h hok b hb r (k + 1) mp' _ own' (by omega) (by omega) (fun _ => q1) (fun e c g => by
        obtain ⟨z1, z2, z3⟩ := p1 e c g
        exact ⟨by rw [q2 e z2 z3]; exact z1, z2, z3⟩) (fun _ => q3)
    · exact apart_L1 span clients ds h hok b hb r (k + 1) mp' _ own (by omega) (by omega) (fun g => absurd g (by omega)) p1 (fun g => absurd g (by omega))
theorem LeaseApart_eq (span clients : Int) (ds : List Deed) : law_LeaseApart span clients ds = some true := by
  have hbeg : law_leaseBegun = true := by decide +kernel
  unfold law_LeaseApart
  dsimp only [lt]
  rw [hbeg, if_neg (by simp)]
  by_cases hbig : 150 < (ds.length : Int)
  · rw [if_pos (d_t hbig)]
  · rw [if_neg (d_f hbig), fair1]
    obtain ⟨j, hj⟩ := stops span clients.toNat ds
    by_cases h : (headF span clients ds.length).Code = 0
    · obtain ⟨b, r1, r2, r3⟩ := fair_ok span clients ds hj h
      rw [r1, ob_some]
      dsimp only
      by_cases hc : (endF span clients.toNat ds j).Code = 0
      · obtain ⟨g1, g2⟩ := r2 hc
        have hE : endF span clients.toNat ds j = ⟨0, 0⟩ := by unfold endF; rw [if_pos g1]
        rw [if_neg (n_f hc), hE]
        exact apart_L1 span clients ds h (fun k hk => hj.ok k (by omega)) b (fun q => by rw [← g1]; exact g2.1 q) (ds.length + 1) 0 [] 0 (fun _ => 0) (by omega) (by omega) (fun _ => ainv0 span clients.toNat ds) (fun e c g => by simp [mget] at g) (fun _ => Int.le_refl _)
      · rw [if_pos (n_t hc), r3 hc]; rfl
    · rw [fair_no span clients ds h, ob_some]
      dsimp only
      rw [if_pos (n_t h)]; rfl
end G
end Go.Proofs.Ytgflfhdbihahcaa
