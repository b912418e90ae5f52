/- Leases: runs, as the program and as the document have them (NEW=2). -/
import Derived.Test.YtgflfhdbihahcaaPLeaseS
namespace Go.Proofs.Ytgflfhdbihahcaa
open Go Go.Dm
set_option linter.unusedVariables false
set_option linter.unusedSimpArgs false
namespace G
noncomputable def headF (span clients : Int) (n : Nat) : Fault := if (R_Spanned span).Code = 0 then (if clients < 1 ∨ 8 < clients then ⟨3, -1⟩ else if 2000 < n then ⟨2, -1⟩ else ⟨0, 0⟩) else R_Spanned span
theorem spanned_eq (span : Int) : lease_spanned span = R_Spanned span := rfl
theorem spanned_ok {span : Int} (h : (R_Spanned span).Code = 0) : 4 ≤ span ∧ span ≤ 1000000 := by
  unfold R_Spanned at h
  by_cases c : span < 4 ∨ 1000000 < span
  · rw [if_pos (or_t c)] at h; cases h
  · omega
theorem headF_ok {span clients : Int} {n : Nat} (h : (headF span clients n).Code = 0) : (R_Spanned span).Code = 0 ∧ (4 ≤ span ∧ span ≤ 1000000) ∧ (1 ≤ clients ∧ clients ≤ 8) ∧ n ≤ 2000 := by
  unfold headF at h
  by_cases c1 : (R_Spanned span).Code = 0
  · rw [if_pos c1] at h
    by_cases c2 : clients < 1 ∨ 8 < clients
    · rw [if_pos c2] at h; cases h
    · rw [if_neg c2] at h
      by_cases c3 : 2000 < n
      · rw [if_pos c3] at h; cases h
      · exact ⟨c1, spanned_ok c1, by omega, by omega⟩
  · rw [if_neg c1] at h; exact absurd h c1
theorem deed_eta (d : Deed) : (⟨d.Kind, d.Who, d.N⟩ : Deed) = d := rfl
theorem court_eta (c : Court) : (⟨c.Now, (⟨c.Lease.Holder, c.Lease.Epoch, c.Lease.Until⟩ : Lease), c.Clocks, c.Trusts, c.Wishes, c.Replies⟩ : Court) = c := rfl
def rn (c : Court) (f : Fault) : Int × Int × Int × Int × List Int × List Trust × List Wish × List Reply × Fault := (c.Now, c.Lease.Holder, c.Lease.Epoch, c.Lease.Until, c.Clocks, c.Trusts, c.Wishes, c.Replies, f)
def court0 : Court := ⟨0, ⟨0, 0, 0⟩, [], [], [], []⟩
def rs (span : Int) (c : Court) (k : Int) : Int × Int × Int × Int × List Int × List Trust × List Wish × List Reply × Int × Int := (c.Now, c.Lease.Holder, c.Lease.Epoch, c.Lease.Until, c.Clocks, c.Trusts, c.Wishes, c.Replies, span, k)
theorem run_step {m : Nat} (hm : m ≤ 8) {span : Int} (hs : 4 ≤ span ∧ span ≤ 1000000) (ds : List Deed) (hd : ds.length ≤ 2000) {k : Nat} (hk : k < ds.length) :
    (cd span m ds k = 0 → lease_run_B1 ds (rs span (st span m ds k) k) = some (.inl (rs span (st span m ds (k + 1)) ((k + 1 : Nat) : Int)))) ∧
    (cd span m ds k ≠ 0 → lease_run_B1 ds (rs span (st span m ds k) k) = some (.inr (rn court0 ⟨cd span m ds k, k⟩))) := by
  have hw : w64 ((k : Int) + 1) = ((k + 1 : Nat) : Int) := by rw [w64_id (by omega) (by omega)]; omega
  have hdo := does_eq hm hs (st_inv span m ds k) (lget ds (k : Int))
  constructor
  · intro hc
    rw [st_step hc] at hdo
    dsimp only [lease_run_B1, rs]
    rw [if_pos (d_t (by omega)), asrt_pos (by omega), asrt_pos (by omega), deed_eta, hdo, ob_some]
    rw [if_neg (by simp [dt]), hw]; rfl
  · intro hc
    have hc' : (step span (st span m ds k) (lget ds (k : Int))).1 = cd span m ds k := rfl
    dsimp only [lease_run_B1, rs]
    rw [if_pos (d_t (by omega)), asrt_pos (by omega), asrt_pos (by omega), deed_eta, hdo, ob_some]
    rw [if_pos (n_t (by exact hc))]; rfl
theorem run_end {m : Nat} {span : Int} (ds : List Deed) : lease_run_B1 ds (rs span (st span m ds ds.length) (ds.length : Int)) = some (.inr (rn (st span m ds ds.length) ⟨0, 0⟩)) := by
  dsimp only [lease_run_B1, rs]
  rw [if_neg (d_f (by omega))]; rfl
/-- what a run of deeds comes to -/
noncomputable def endF (span : Int) (m : Nat) (ds : List Deed) (j : Nat) : Fault := if j = ds.length then ⟨0, 0⟩ else ⟨cd span m ds j, j⟩
noncomputable def endC (span : Int) (m : Nat) (ds : List Deed) (j : Nat) : Court := if j = ds.length then st span m ds j else court0
structure Stop (span : Int) (m : Nat) (ds : List Deed) (j : Nat) : Prop where
  le : j ≤ ds.length
  ok : ∀ k, k < j → cd span m ds k = 0
  ends : j = ds.length ∨ (j < ds.length ∧ cd span m ds j ≠ 0)
theorem stops (span : Int) (m : Nat) (ds : List Deed) : ∃ j, Stop span m ds j := by
  obtain ⟨j, h1, h2, h3⟩ := stop (fun k => cd span m ds k = 0) ds.length
  exact ⟨j, h1, h2, h3⟩
theorem run_loop {m : Nat} (hm : m ≤ 8) {span : Int} (hs : 4 ≤ span ∧ span ≤ 1000000) {ds : List Deed} (hd : ds.length ≤ 2000) {j : Nat} (hj : Stop span m ds j) :
    lease_run_L1 ds (rs span (st span m ds 0) 0) = some (rn (endC span m ds j) (endF span m ds j)) := by
  refine loop_run (step := fun y => lease_run_B1 ds y) j (fun k => rs span (st span m ds k) (k : Int)) (fun k hk => (run_step hm hs ds hd (by have := hj.le; omega)).1 (hj.ok k hk)) ?_
  rcases hj.ends with h | ⟨h1, h2⟩
  · unfold endC endF; rw [if_pos h, if_pos h, h]; exact run_end ds
  · unfold endC endF; rw [if_neg (by omega), if_neg (by omega)]; exact (run_step hm hs ds hd h1).2 h2
theorem st0 (span clients : Int) (ds : List Deed) (h : 1 ≤ clients ∧ clients ≤ 8) : st span clients.toNat ds 0 = ⟨0, ⟨0, 0, 0⟩, List.replicate clients.toNat 0, List.replicate clients.toNat ⟨0, 0⟩, [], []⟩ := rfl
theorem run_eq (span clients : Int) (ds : List Deed) {j : Nat} (hj : Stop span clients.toNat ds j) :
    lease_run span clients ds = some (if (headF span clients ds.length).Code = 0 then rn (endC span clients.toNat ds j) (endF span clients.toNat ds j) else rn court0 (headF span clients ds.length)) := by
  unfold lease_run
  by_cases h : (headF span clients ds.length).Code = 0
  · obtain ⟨h1, h2, h3, h4⟩ := headF_ok h
    rw [if_pos h]
    dsimp only [lt]
    rw [spanned_eq, if_neg (n_f h1), if_neg (or_f (by omega)), if_neg (d_f (by omega)), asrt_pos (by omega), asrt_pos (by omega)]
    exact run_loop (by omega) h2 h4 hj
  · rw [if_neg h]
    unfold headF at h ⊢
    dsimp only [lt]
    rw [spanned_eq]
    by_cases c1 : (R_Spanned span).Code = 0
    · rw [if_pos c1] at h ⊢
      rw [if_neg (n_f c1)]
      by_cases c2 : clients < 1 ∨ 8 < clients
      · rw [if_pos (or_t c2), if_pos c2]; rfl
      · rw [if_neg c2] at h ⊢
        rw [if_neg (or_f c2)]
        by_cases c3 : 2000 < ds.length
        · rw [if_pos (d_t (by omega)), if_pos c3]; rfl
        · rw [if_neg c3] at h; exact absurd rfl h
    · rw [if_pos (n_t c1), if_neg c1]; rfl
theorem play_eq (span clients : Int) (ds : List Deed) {j : Nat} (hj : Stop span clients.toNat ds j) :
    lease_Play_v1 span clients ds = some (if (headF span clients ds.length).Code = 0 then (endC span clients.toNat ds j, endF span clients.toNat ds j) else (court0, headF span clients ds.length)) := by
  unfold lease_Play_v1
  rw [run_eq span clients ds hj, ob_some]
  split <;> rfl
/- watched runs -/
noncomputable def nows (span : Int) (m : Nat) (ds : List Deed) (k : Nat) : List Int := (List.range (k + 1)).map (fun i => (st span m ds i).Now)
noncomputable def clks (span : Int) (m : Nat) (ds : List Deed) (k : Nat) : List (List Int) := (List.range (k + 1)).map (fun i => (st span m ds i).Clocks)
theorem nows_succ (span : Int) (m : Nat) (ds : List Deed) (k : Nat) : nows span m ds (k + 1) = nows span m ds k ++ [(st span m ds (k + 1)).Now] := by
  unfold nows; rw [List.range_succ, List.map_append]; rfl
theorem clks_succ (span : Int) (m : Nat) (ds : List Deed) (k : Nat) : clks span m ds (k + 1) = clks span m ds k ++ [(st span m ds (k + 1)).Clocks] := by
  unfold clks; rw [List.range_succ, List.map_append]; rfl
theorem nows_len (span : Int) (m : Nat) (ds : List Deed) (k : Nat) : (nows span m ds k).length = k + 1 := by simp [nows]
theorem clks_len (span : Int) (m : Nat) (ds : List Deed) (k : Nat) : (clks span m ds k).length = k + 1 := by simp [clks]
theorem nows_get (span : Int) (m : Nat) (ds : List Deed) (k i : Nat) (h : i ≤ k) : lget (nows span m ds k) (i : Int) = (st span m ds i).Now := by
  rw [lget_nat _ _ (by rw [nows_len]; omega)]; simp [nows]
theorem clks_get (span : Int) (m : Nat) (ds : List Deed) (k i : Nat) (h : i ≤ k) : lget (clks span m ds k) (i : Int) = (st span m ds i).Clocks := by
  rw [lget_nat _ _ (by rw [clks_len]; omega)]; simp [clks]
theorem clone_eq (l : List Int) (hl : l.length ≤ 1000) : slices_Clone_int_int l = some l := by
  unfold slices_Clone_int_int
  refine wp_is.1 (wp_ubO.2 ⟨fun h => ?_, wp_is.2 ?_⟩)
  · have : l = [] := List.length_eq_zero_iff.1 (of_decide_eq_true h)
    subst this
    rw [asrt_pos (by simp)]; rfl
  · rw [List.nil_append, asrt_pos (by omega)]
def ws (a : List Int) (b : List (List Int)) (span : Int) (c : Court) (k : Int) : List Int × List (List Int) × Int × Int × Int × Int × List Int × List Trust × List Wish × List Reply × Int × Int := (a, b, c.Now, c.Lease.Holder, c.Lease.Epoch, c.Lease.Until, c.Clocks, c.Trusts, c.Wishes, c.Replies, span, k)
def wn (a : List Int) (b : List (List Int)) (c : Court) (f : Fault) : Int × Int × Int × Int × List Int × List Trust × List Wish × List Reply × Fault × List Int × List (List Int) := (c.Now, c.Lease.Holder, c.Lease.Epoch, c.Lease.Until, c.Clocks, c.Trusts, c.Wishes, c.Replies, f, a, b)
theorem wrun_step {m : Nat} (hm : m ≤ 8) {span : Int} (hs : 4 ≤ span ∧ span ≤ 1000000) (ds : List Deed) (hd : ds.length ≤ 2000) {k : Nat} (hk : k < ds.length) :
    (cd span m ds k = 0 → lease_run_v1_B1 ds (ws (nows span m ds k) (clks span m ds k) span (st span m ds k) k) = some (.inl (ws (nows span m ds (k + 1)) (clks span m ds (k + 1)) span (st span m ds (k + 1)) ((k + 1 : Nat) : Int)))) ∧
    (cd span m ds k ≠ 0 → lease_run_v1_B1 ds (ws (nows span m ds k) (clks span m ds k) span (st span m ds k) k) = some (.inr (wn (nows span m ds k) (clks span m ds k) court0 ⟨cd span m ds k, k⟩))) := by
  have hw : w64 ((k : Int) + 1) = ((k + 1 : Nat) : Int) := by rw [w64_id (by omega) (by omega)]; omega
  have hdo := does_eq hm hs (st_inv span m ds k) (lget ds (k : Int))
  have hcl := (st_inv span m ds (k + 1)).cl
  have hn := nows_len span m ds k
  have hcn := clks_len span m ds k
  constructor
  · intro hc
    rw [st_step hc] at hdo
    dsimp only [lease_run_v1_B1, ws]
    rw [if_pos (d_t (by omega)), asrt_pos (by omega), asrt_pos (by omega), deed_eta, hdo, ob_some]
    rw [if_neg (by simp [dt]), hw]
    dsimp only [dt]
    unfold lease_Fair_1
    rw [asrt_pos (by rw [List.length_append, List.length_singleton]; omega), clone_eq _ (by omega), ob_some, asrt_pos (by rw [List.length_append, List.length_singleton]; omega), ob_some, nows_succ, clks_succ]
  · intro hc
    have hc' : (step span (st span m ds k) (lget ds (k : Int))).1 = cd span m ds k := rfl
    dsimp only [lease_run_v1_B1, ws]
    rw [if_pos (d_t (by omega)), asrt_pos (by omega), asrt_pos (by omega), deed_eta, hdo, ob_some]
    rw [if_pos (n_t (by exact hc))]; rfl
theorem wrun_end {m : Nat} {span : Int} (ds : List Deed) (a : List Int) (b : List (List Int)) : lease_run_v1_B1 ds (ws a b span (st span m ds ds.length) (ds.length : Int)) = some (.inr (wn a b (st span m ds ds.length) ⟨0, 0⟩)) := by
  dsimp only [lease_run_v1_B1, ws]
  rw [if_neg (d_f (by omega))]; rfl
theorem wrun_loop {m : Nat} (hm : m ≤ 8) {span : Int} (hs : 4 ≤ span ∧ span ≤ 1000000) {ds : List Deed} (hd : ds.length ≤ 2000) {j : Nat} (hj : Stop span m ds j) :
    lease_run_v1_L1 ds (ws (nows span m ds 0) (clks span m ds 0) span (st span m ds 0) 0) = some (wn (nows span m ds j) (clks span m ds j) (endC span m ds j) (endF span m ds j)) := by
  refine loop_run (step := fun y => lease_run_v1_B1 ds y) j (fun k => ws (nows span m ds k) (clks span m ds k) span (st span m ds k) (k : Int)) (fun k hk => (wrun_step hm hs ds hd (by have := hj.le; omega)).1 (hj.ok k hk)) ?_
  rcases hj.ends with h | ⟨h1, h2⟩
  · unfold endC endF; rw [if_pos h, if_pos h, h]; exact wrun_end ds _ _
  · unfold endC endF; rw [if_neg (by omega), if_neg (by omega)]; exact (wrun_step hm hs ds hd h1).2 h2
theorem wrun_ok (span clients : Int) (ds : List Deed) {j : Nat} (hj : Stop span clients.toNat ds j) (h : (headF span clients ds.length).Code = 0) :
    lease_run_v1 span clients ds [0] [List.replicate clients.toNat 0] = some (wn (nows span clients.toNat ds j) (clks span clients.toNat ds j) (endC span clients.toNat ds j) (endF span clients.toNat ds j)) := by
  unfold lease_run_v1
  obtain ⟨h1, h2, h3, h4⟩ := headF_ok h
  dsimp only [lt]
  rw [spanned_eq, if_neg (n_f h1), if_neg (or_f (by omega)), if_neg (d_f (by omega)), asrt_pos (by omega), asrt_pos (by omega)]
  exact wrun_loop (by omega) h2 h4 hj
theorem wrun_no (span clients : Int) (ds : List Deed) (a : List Int) (b : List (List Int)) (h : (headF span clients ds.length).Code ≠ 0) :
    lease_run_v1 span clients ds a b = some (wn a b court0 (headF span clients ds.length)) := by
  unfold lease_run_v1
  unfold headF at h ⊢
  dsimp only [lt]
  rw [spanned_eq]
  by_cases c1 : (R_Spanned span).Code = 0
  · rw [if_pos c1] at h ⊢
    rw [if_neg (n_f c1)]
    by_cases c2 : clients < 1 ∨ 8 < clients
    · rw [if_pos (or_t c2), if_pos c2]; rfl
    · rw [if_neg c2] at h ⊢
      rw [if_neg (or_f c2)]
      by_cases c3 : 2000 < ds.length
      · rw [if_pos (d_t (by omega)), if_pos c3]; rfl
      · rw [if_neg c3] at h; exact absurd rfl h
  · rw [if_pos (n_t c1), if_neg c1]; rfl
end G
end Go.Proofs.Ytgflfhdbihahcaa
