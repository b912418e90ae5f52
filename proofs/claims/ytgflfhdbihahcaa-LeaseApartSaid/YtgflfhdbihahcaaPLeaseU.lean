/- Leases: the document's run, sameness of courts, fairness (NEW=2). -/
import Derived.Test.YtgflfhdbihahcaaPLeaseT
namespace Go.Proofs.Ytgflfhdbihahcaa
open Go Go.Dm
set_option linter.unusedVariables false
set_option linter.unusedSimpArgs false
set_option linter.unusedSectionVars false
namespace G
noncomputable def cts (span : Int) (m : Nat) (ds : List Deed) (k : Nat) : List Court := (List.range (k + 1)).map (st span m ds)
theorem cts_succ (span : Int) (m : Nat) (ds : List Deed) (k : Nat) : cts span m ds (k + 1) = cts span m ds k ++ [st span m ds (k + 1)] := by
  unfold cts; rw [List.range_succ, List.map_append]; rfl
theorem cts_len (span : Int) (m : Nat) (ds : List Deed) (k : Nat) : (cts span m ds k).length = k + 1 := by simp [cts]
theorem cts_get (span : Int) (m : Nat) (ds : List Deed) (k i : Nat) (h : i ≤ k) : lget (cts span m ds k) (i : Int) = st span m ds i := by
  rw [lget_nat _ _ (by rw [cts_len]; omega)]; simp [cts]
theorem courts_step {m : Nat} (hm : m ≤ 8) {span : Int} (hs : 4 ≤ span ∧ span ≤ 1000000) (ds : List Deed) (hd : ds.length ≤ 2000) {k : Nat} (hk : k < ds.length) :
    (cd span m ds k = 0 → R_Courts_v1_B1 span ds (cts span m ds k, (k : Int)) = some (.inl (cts span m ds (k + 1), ((k + 1 : Nat) : Int)))) ∧
    (cd span m ds k ≠ 0 → R_Courts_v1_B1 span ds (cts span m ds k, (k : Int)) = some (.inr ([], ⟨cd span m ds k, k⟩))) := by
  have hw : w64 ((k : Int) + 1) = ((k + 1 : Nat) : Int) := by rw [w64_id (by omega) (by omega)]; omega
  have hl := cts_len span m ds k
  have hdo := rstep_eq hm hs (st_inv span m ds k) (lget ds (k : Int))
  constructor
  · intro hc
    rw [st_step hc] at hdo
    dsimp only [R_Courts_v1_B1]
    rw [if_pos (d_t (by omega)), asrt_pos (by omega), asrt_pos (by omega), asrt_pos (by omega), deed_eta, court_eta, cts_get _ _ _ _ _ (Nat.le_refl _), hdo, ob_some]
    rw [if_neg (by simp [rt]), asrt_pos (by rw [List.length_append, List.length_singleton]; omega), hw, cts_succ]; rfl
  · intro hc
    dsimp only [R_Courts_v1_B1]
    rw [if_pos (d_t (by omega)), asrt_pos (by omega), asrt_pos (by omega), asrt_pos (by omega), deed_eta, court_eta, cts_get _ _ _ _ _ (Nat.le_refl _), hdo, ob_some]
    rw [if_pos (n_t (by exact hc))]; rfl
theorem courts_loop {m : Nat} (hm : m ≤ 8) {span : Int} (hs : 4 ≤ span ∧ span ≤ 1000000) {ds : List Deed} (hd : ds.length ≤ 2000) {j : Nat} (hj : Stop span m ds j) :
    R_Courts_v1_L1 span ds (cts span m ds 0, 0) = some (if j = ds.length then (cts span m ds j, ⟨0, 0⟩) else ([], ⟨cd span m ds j, j⟩)) := by
  refine loop_run (step := fun y => R_Courts_v1_B1 span ds y) j (fun k => (cts span m ds k, (k : Int))) (fun k hk => (courts_step hm hs ds hd (by have := hj.le; omega)).1 (hj.ok k hk)) ?_
  rcases hj.ends with h | ⟨h1, h2⟩
  · rw [if_pos h, h]
    show R_Courts_v1_B1 span ds (cts span m ds ds.length, (ds.length : Int)) = _
    dsimp only [R_Courts_v1_B1]
    rw [if_neg (d_f (by omega))]; rfl
  · rw [if_neg (by omega)]; exact (courts_step hm hs ds hd h1).2 h2
theorem courts_eq (span clients : Int) (ds : List Deed) {j : Nat} (hj : Stop span clients.toNat ds j) :
    R_Courts_v1 span clients ds = some (if (headF span clients ds.length).Code = 0 then (if j = ds.length then (cts span clients.toNat ds j, ⟨0, 0⟩) else ([], ⟨cd span clients.toNat ds j, j⟩)) else ([], headF span clients ds.length)) := by
  unfold R_Courts_v1
  by_cases h : (headF span clients ds.length).Code = 0
  · obtain ⟨h1, h2, h3, h4⟩ := headF_ok h
    rw [if_pos h]
    dsimp only [lt]
    rw [if_neg (n_f h1), if_neg (or_f (by omega)), if_neg (d_f (by omega)), asrt_pos (by omega), asrt_pos (by omega)]
    exact courts_loop (by omega) h2 h4 hj
  · rw [if_neg h]
    unfold headF at h ⊢
    dsimp only [lt]
    by_cases c1 : (R_Spanned span).Code = 0
    · rw [if_pos c1] at h ⊢
      rw [if_neg (n_f c1)]
      by_cases c2 : clients < 1 ∨ 8 < clients
      · rw [if_pos (or_t c2), if_pos c2]; rfl
      · rw [if_neg c2] at h ⊢
        rw [if_neg (or_f c2)]
        by_cases c3 : 2000 < ds.length
        · rw [if_pos (d_t (by omega)), if_pos c3]; rfl
        · rw [if_neg c3] at h; exact absurd rfl h
    · rw [if_pos (n_t c1), if_neg c1]
/- sameness -/
theorem same_l1 (c : Court) (h : c.Replies.length ≤ 1000000) : R_SameCourt_L1 c c 0 = some true := by
  refine loop_run (step := fun y => R_SameCourt_B1 c c y) c.Replies.length (fun k => (k : Int)) (fun k hk => ?_) ?_
  · have hw : w64 ((k : Int) + 1) = ((k + 1 : Nat) : Int) := by rw [w64_id (by omega) (by omega)]; omega
    show R_SameCourt_B1 c c (k : Int) = _
    dsimp only [R_SameCourt_B1]
    rw [if_pos (d_t (by omega)), asrt_pos (by omega), asrt_pos (by omega), if_neg (by simp), hw]
  · show R_SameCourt_B1 c c (c.Replies.length : Int) = _
    dsimp only [R_SameCourt_B1]
    rw [if_neg (d_f (by omega))]; rfl
theorem same_l2 (c : Court) (h : c.Replies.length ≤ 1000000) (h2 : c.Wishes.length ≤ 1000000) : R_SameCourt_L2 c c 0 = some true := by
  refine loop_run (step := fun y => R_SameCourt_B2 c c y) c.Wishes.length (fun k => (k : Int)) (fun k hk => ?_) ?_
  · have hw : w64 ((k : Int) + 1) = ((k + 1 : Nat) : Int) := by rw [w64_id (by omega) (by omega)]; omega
    show R_SameCourt_B2 c c (k : Int) = _
    dsimp only [R_SameCourt_B2]
    rw [if_pos (d_t (by omega)), asrt_pos (by omega), asrt_pos (by omega), if_neg (by simp), hw]
  · show R_SameCourt_B2 c c (c.Wishes.length : Int) = _
    dsimp only [R_SameCourt_B2]
    rw [if_neg (d_f (by omega))]
    unfold R_SameCourt_J2
    rw [same_l1 c h]; rfl
theorem same_l3 (c : Court) (h : c.Replies.length ≤ 1000000) (h2 : c.Wishes.length ≤ 1000000) (h3 : c.Trusts.length ≤ 1000000) : R_SameCourt_L3 c c 0 = some true := by
  refine loop_run (step := fun y => R_SameCourt_B3 c c y) c.Trusts.length (fun k => (k : Int)) (fun k hk => ?_) ?_
  · have hw : w64 ((k : Int) + 1) = ((k + 1 : Nat) : Int) := by rw [w64_id (by omega) (by omega)]; omega
    show R_SameCourt_B3 c c (k : Int) = _
    dsimp only [R_SameCourt_B3]
    rw [if_pos (d_t (by omega)), asrt_pos (by omega), asrt_pos (by omega), if_neg (by simp), hw]
  · show R_SameCourt_B3 c c (c.Trusts.length : Int) = _
    dsimp only [R_SameCourt_B3]
    rw [if_neg (d_f (by omega))]
    unfold R_SameCourt_J1
    rw [same_l2 c h h2]; rfl
theorem ints_self (l : List Int) (h : l.length ≤ 1000000) : R_Ints l l = some true := by
  unfold R_Ints
  rw [if_neg (by simp)]
  refine loop_run (step := fun y => R_Ints_B1 l l y) l.length (fun k => (k : Int)) (fun k hk => ?_) ?_
  · have hw : w64 ((k : Int) + 1) = ((k + 1 : Nat) : Int) := by rw [w64_id (by omega) (by omega)]; omega
    show R_Ints_B1 l l (k : Int) = _
    dsimp only [R_Ints_B1]
    rw [if_pos (d_t (by omega)), asrt_pos (by omega), asrt_pos (by omega), if_neg (by simp), hw]
  · show R_Ints_B1 l l (l.length : Int) = _
    dsimp only [R_Ints_B1]
    rw [if_neg (d_f (by omega))]; rfl
structure Small (c : Court) : Prop where
  k : c.Clocks.length ≤ 1000000
  t : c.Trusts.length ≤ 1000000
  w : c.Wishes.length ≤ 1000000
  r : c.Replies.length ≤ 1000000
theorem same_self (c : Court) (h : Small c) : R_SameCourt c c = some true := by
  unfold R_SameCourt
  rw [if_pos (by simp), ints_self _ h.k, ob_some, if_neg (by simp)]
  exact same_l3 c h.r h.w h.t
theorem small_inv {m : Nat} (hm : m ≤ 8) {c : Court} (h : CInv m c) : Small c := ⟨by have := h.cl; omega, by have := h.tl; omega, by have := h.wl; omega, by have := h.rl; omega⟩
theorem small0 : Small court0 := ⟨by simp [court0], by simp [court0], by simp [court0], by simp [court0]⟩
/- fairness -/
/-- clocks of clients run no slower than three quarters of the court's, over spans and longer -/
def fairP (span : Int) (m : Nat) (S : Nat → Court) (n : Nat) : Prop := ∀ i j, i ≤ j → j ≤ n → span ≤ (S j).Now - (S i).Now → ∀ c, c < m → sureN span ≤ lget (S j).Clocks (c : Int) - lget (S i).Clocks (c : Int)
section
variable (span : Int) (hs : 4 ≤ span ∧ span ≤ 1000000) (m : Nat) (hm : m ≤ 8) (S : Nat → Court) (hS : ∀ k, CInv m (S k)) (l : List Court) (n : Nat) (hn : n ≤ 2000) (hl : l.length = n + 1) (hg : ∀ i, i ≤ n → lget l (i : Int) = S i)
include hs hm hS hn hl hg
theorem fc_L3 (i j : Nat) (hi : i ≤ n) (hj : j ≤ n) : ((∃ c, c < m ∧ lget (S j).Clocks (c : Int) - lget (S i).Clocks (c : Int) < sureN span) ∧ R_FairCourts_L3 l span (i : Int) (j : Int) 0 = some (.inr (.inr false))) ∨ ((∀ c, c < m → ¬ lget (S j).Clocks (c : Int) - lget (S i).Clocks (c : Int) < sureN span) ∧ R_FairCourts_L3 l span (i : Int) (j : Int) 0 = some (.inl ((j + 1 : Nat) : Int))) := by
  have hwj : w64 ((j : Int) + 1) = ((j + 1 : Nat) : Int) := by rw [w64_id (by omega) (by omega)]; omega
  obtain ⟨s1, s2, s3, s4⟩ := sure_eq span hs
  have hci := (hS i).cl
  have hcj := (hS j).cl
  have hsu : w64 (span - w64 (Int.tdiv span 4)) = sureN span := by rw [s2]; unfold sureN at *; exact w64_id (by omega) (by omega)
  have stp : ∀ c : Nat, c < m → R_FairCourts_B3 l span (i : Int) (j : Int) (c : Int) = if lget (S j).Clocks (c : Int) - lget (S i).Clocks (c : Int) < sureN span then some (.inr (.inr (.inr false))) else some (.inl ((c + 1 : Nat) : Int)) := by
    intro c hc
    have hw : w64 ((c : Int) + 1) = ((c + 1 : Nat) : Int) := by rw [w64_id (by omega) (by omega)]; omega
    have h1 := (hS i).clk _ (lget_mem (S i).Clocks (c : Int) (by omega))
    have h2 := (hS j).clk _ (lget_mem (S j).Clocks (c : Int) (by omega))
    unfold R_FairCourts_B3
    rw [hg i hi, hg j hj, asrt_pos (by omega), if_pos (d_t (by omega)), asrt_pos (by omega), asrt_pos (by omega), asrt_pos (by omega), asrt_pos (by omega), hsu, w64_id (x := lget (S j).Clocks (c : Int) - lget (S i).Clocks (c : Int)) (by omega) (by omega), hw]
    by_cases c1 : lget (S j).Clocks (c : Int) - lget (S i).Clocks (c : Int) < sureN span
    · rw [if_pos (d_t c1), if_pos c1]
    · rw [if_neg (d_f c1), if_neg c1]
  exact loop_any (step := fun y => R_FairCourts_B3 l span (i : Int) (j : Int) y) m (fun c => (c : Int)) (fun c => lget (S j).Clocks (c : Int) - lget (S i).Clocks (c : Int) < sureN span)
    (fun c hc hb => (stp c hc).trans (if_neg hb)) (fun c hc hb => (stp c hc).trans (if_pos hb)) (by
      show R_FairCourts_B3 l span (i : Int) (j : Int) (m : Int) = _
      unfold R_FairCourts_B3
      rw [hg i hi, asrt_pos (by omega), if_neg (d_f (by omega))]
      unfold R_FairCourts_J4 R_FairCourts_J3
      rw [hwj]; rfl)
def badIJ (i j : Nat) : Prop := span ≤ (S j).Now - (S i).Now ∧ ∃ c, c < m ∧ lget (S j).Clocks (c : Int) - lget (S i).Clocks (c : Int) < sureN span
theorem fc_L2 (i : Nat) (hi : i ≤ n) : ((∃ j, i ≤ j ∧ j < n + 1 ∧ badIJ span m S i j) ∧ R_FairCourts_L2 l span (i : Int) (i : Int) = some (.inr false)) ∨ ((∀ j, i ≤ j → j < n + 1 → ¬ badIJ span m S i j) ∧ R_FairCourts_L2 l span (i : Int) (i : Int) = some (.inl ((i + 1 : Nat) : Int))) := by
  have hwi : w64 ((i : Int) + 1) = ((i + 1 : Nat) : Int) := by rw [w64_id (by omega) (by omega)]; omega
  have hni := (hS i).now
  have stp : ∀ j : Nat, j < n + 1 → (badIJ span m S i j → R_FairCourts_B2 l span (i : Int) (j : Int) = some (.inr (.inr false))) ∧ (¬ badIJ span m S i j → R_FairCourts_B2 l span (i : Int) (j : Int) = some (.inl ((j + 1 : Nat) : Int))) := by
    intro j hj
    have hw : w64 ((j : Int) + 1) = ((j + 1 : Nat) : Int) := by rw [w64_id (by omega) (by omega)]; omega
    have hnj := (hS j).now
    have e : R_FairCourts_B2 l span (i : Int) (j : Int) = if (S j).Now - (S i).Now < span then some (.inl ((j + 1 : Nat) : Int)) else R_FairCourts_L3 l span (i : Int) (j : Int) 0 := by
      unfold R_FairCourts_B2
      rw [if_pos (d_t (by omega)), hg i hi, hg j (by omega), asrt_pos (by omega), asrt_pos (by omega), w64_id (x := (S j).Now - (S i).Now) (by omega) (by omega)]
      by_cases c1 : (S j).Now - (S i).Now < span
      · rw [if_pos (d_t c1), if_pos c1]; unfold R_FairCourts_J3; rw [hw]
      · rw [if_neg (d_f c1), if_neg c1]
    rcases fc_L3 span hs m hm S hS l n hn hl hg i j hi (by omega) with ⟨h1, h2⟩ | ⟨h1, h2⟩
    · constructor
      · intro hb
        have c1 : ¬ (S j).Now - (S i).Now < span := by have := hb.1; omega
        rw [e, if_neg c1, h2]
      · intro hb
        by_cases c1 : (S j).Now - (S i).Now < span
        · rw [e, if_pos c1]
        · exact absurd ⟨by omega, h1⟩ hb
    · constructor
      · intro hb
        obtain ⟨_, c, hc, hb⟩ := hb
        exact absurd hb (h1 c hc)
      · intro hb
        rw [e]
        split
        · rfl
        · exact h2
  rcases loop_first' (step := fun y => R_FairCourts_B2 l span (i : Int) y) (n + 1) (fun j => (j : Int)) (fun j => badIJ span m S i j) (fun _ => (.inr false : Int ⊕ Bool)) (r := .inl ((i + 1 : Nat) : Int))
    (fun j hj hb => (stp j hj).2 hb) (fun j hj hb => (stp j hj).1 hb) (by
      show R_FairCourts_B2 l span (i : Int) ((n + 1 : Nat) : Int) = _
      unfold R_FairCourts_B2
      rw [if_neg (d_f (by omega))]
      unfold R_FairCourts_J2
      rw [hwi]; rfl) i (by omega) with ⟨j, h1, h2, h3, _, h5⟩ | ⟨h1, h2⟩
  · exact .inl ⟨⟨j, h1, h2, h3⟩, h5⟩
  · exact .inr ⟨h1, h2⟩
theorem fairCourts_eq : ∃ b, R_FairCourts l span = some b ∧ (b = true ↔ fairP span m S n) := by
  have stp : ∀ i : Nat, i < n + 1 → R_FairCourts_B1 l span (i : Int) = R_FairCourts_L2 l span (i : Int) (i : Int) := by
    intro i hi
    unfold R_FairCourts_B1
    rw [if_pos (d_t (by omega))]
  rcases loop_any (step := fun y => R_FairCourts_B1 l span y) (n + 1) (fun i => (i : Int)) (fun i => ∃ j, i ≤ j ∧ j < n + 1 ∧ badIJ span m S i j) (rb := false) (r := true)
    (fun i hi hb => (stp i hi).trans (by
      rcases fc_L2 span hs m hm S hS l n hn hl hg i (by omega) with ⟨h1, h2⟩ | ⟨h1, h2⟩
      · exact absurd h1 hb
      · exact h2)) (fun i hi hb => (stp i hi).trans (by
      rcases fc_L2 span hs m hm S hS l n hn hl hg i (by omega) with ⟨h1, h2⟩ | ⟨h1, h2⟩
      · exact h2
      · obtain ⟨j, g1, g2, g3⟩ := hb; exact absurd g3 (h1 j g1 g2))) (by
      show R_FairCourts_B1 l span ((n + 1 : Nat) : Int) = _
      unfold R_FairCourts_B1
      rw [if_neg (d_f (by omega))]; rfl) with ⟨⟨i, h1, j, h2, h3, h4, c, h5, h6⟩, h7⟩ | ⟨h1, h2⟩
  · refine ⟨false, h7, ⟨fun h => absurd h (by simp), fun h => ?_⟩⟩
    have := h i j h2 (by omega) h4 c h5
    omega
  · refine ⟨true, h2, ⟨fun _ => ?_, fun _ => rfl⟩⟩
    intro i j hij hj hsp c hc
    have := h1 i (by omega)
    by_cases hlt : lget (S j).Clocks (c : Int) - lget (S i).Clocks (c : Int) < sureN span
    · exact absurd ⟨j, hij, by omega, hsp, c, hc, hlt⟩ this
    · omega
end
section
variable (span : Int) (hs : 4 ≤ span ∧ span ≤ 1000000) (m : Nat) (hm : m ≤ 8) (S : Nat → Court) (hS : ∀ k, CInv m (S k)) (hM : ∀ j k, j ≤ k → (S j).Now ≤ (S k).Now ∧ ∀ i : Nat, i < m → lget (S j).Clocks (i : Int) ≤ lget (S k).Clocks (i : Int))
  (A : List Int) (B : List (List Int)) (n : Nat) (hn : n ≤ 2000) (hA : A.length = n + 1) (hB : B.length = n + 1) (gA : ∀ i : Nat, i ≤ n → lget A (i : Int) = (S i).Now) (gB : ∀ i : Nat, i ≤ n → lget B (i : Int) = (S i).Clocks) (e : Court) (f : Fault)
include hs hm hS hM hn hA hB gA gB
theorem pf_L2 (i j : Nat) (hi : i ≤ n) (hj : j ≤ n) (v : Int × Int) (hv : v.2 = (i : Int)) : ((∃ c, c < m ∧ lget (S j).Clocks (c : Int) - lget (S i).Clocks (c : Int) < sureN span) ∧ lease_Fair_L2 span (wn A B e f) v (j : Int) 0 = some (.inr (false, f))) ∨ ((∀ c, c < m → ¬ lget (S j).Clocks (c : Int) - lget (S i).Clocks (c : Int) < sureN span) ∧ lease_Fair_L2 span (wn A B e f) v (j : Int) 0 = some (.inl ((j : Int), ((i + 1 : Nat) : Int)))) := by
  have hwi : w64 ((i : Int) + 1) = ((i + 1 : Nat) : Int) := by rw [w64_id (by omega) (by omega)]; omega
  obtain ⟨s1, s2, s3, s4⟩ := sure_eq span hs
  have hci := (hS i).cl
  have hcj := (hS j).cl
  have x1 : (wn A B e f).2.2.2.2.2.2.2.2.2.2 = B := rfl
  have x2 : (wn A B e f).2.2.2.2.2.2.2.2.1 = f := rfl
  have stp : ∀ c : Nat, c < m → lease_Fair_B2 span (wn A B e f) v (j : Int) (c : Int) = if lget (S j).Clocks (c : Int) - lget (S i).Clocks (c : Int) < sureN span then some (.inr (.inr (false, f))) else some (.inl ((c + 1 : Nat) : Int)) := by
    intro c hc
    have hw : w64 ((c : Int) + 1) = ((c + 1 : Nat) : Int) := by rw [w64_id (by omega) (by omega)]; omega
    have h1 := (hS i).clk _ (lget_mem (S i).Clocks (c : Int) (by omega))
    have h2 := (hS j).clk _ (lget_mem (S j).Clocks (c : Int) (by omega))
    unfold lease_Fair_B2
    rw [x1, x2, hv, gB i hi, gB j hj, if_pos (d_t (by omega)), asrt_pos (by omega), asrt_pos (by omega), asrt_pos (by omega), asrt_pos (by omega), asrt_pos (by omega), asrt_pos (by omega), s1]
    dsimp only [lt]
    rw [w64_id (x := lget (S j).Clocks (c : Int) - lget (S i).Clocks (c : Int)) (by omega) (by omega), hw]
    by_cases c1 : lget (S j).Clocks (c : Int) - lget (S i).Clocks (c : Int) < sureN span
    · rw [if_pos (d_t c1), if_pos c1]
    · rw [if_neg (d_f c1), if_neg c1]
  exact loop_any (step := fun y => lease_Fair_B2 span (wn A B e f) v (j : Int) y) m (fun c => (c : Int)) (fun c => lget (S j).Clocks (c : Int) - lget (S i).Clocks (c : Int) < sureN span)
    (fun c hc hb => (stp c hc).trans (if_neg hb)) (fun c hc hb => (stp c hc).trans (if_pos hb)) (by
      show lease_Fair_B2 span (wn A B e f) v (j : Int) (m : Int) = _
      unfold lease_Fair_B2
      rw [x1, hv, gB i hi, if_neg (d_f (by omega))]
      unfold lease_Fair_J3
      rw [hv, hwi]; rfl)
/-- one turn: the first place so far behind -/
theorem pf_turn (i j0 : Nat) (hi : i ≤ n) (hj0 : j0 ≤ n + 1) (hk : ∀ k, k < j0 → (S k).Now < (S i).Now + span) :
    (lease_Fair_L3 span (wn A B e f) ((j0 : Int), (i : Int)) (j0 : Int) = some (.inr (true, f)) ∧ ∀ k, k ≤ n → (S k).Now < (S i).Now + span) ∨
    (∃ j, j0 ≤ j ∧ j ≤ n ∧ (∀ k, k < j → (S k).Now < (S i).Now + span) ∧ (S i).Now + span ≤ (S j).Now ∧
      (((∃ c, c < m ∧ lget (S j).Clocks (c : Int) - lget (S i).Clocks (c : Int) < sureN span) ∧ lease_Fair_L3 span (wn A B e f) ((j0 : Int), (i : Int)) (j0 : Int) = some (.inr (false, f))) ∨
       ((∀ c, c < m → ¬ lget (S j).Clocks (c : Int) - lget (S i).Clocks (c : Int) < sureN span) ∧ lease_Fair_L3 span (wn A B e f) ((j0 : Int), (i : Int)) (j0 : Int) = some (.inl ((j : Int), ((i + 1 : Nat) : Int)))))) := by
  have x0 : (wn A B e f).2.2.2.2.2.2.2.2.2.1 = A := rfl
  have x1 : (wn A B e f).2.2.2.2.2.2.2.2.2.2 = B := rfl
  have x2 : (wn A B e f).2.2.2.2.2.2.2.2.1 = f := rfl
  have hni := (hS i).now
  have stp : ∀ j : Nat, j < n + 1 → lease_Fair_B3 span (wn A B e f) ((j0 : Int), (i : Int)) (j : Int) = if (S j).Now < (S i).Now + span then some (.inl ((j + 1 : Nat) : Int)) else inrO (lease_Fair_L2 span (wn A B e f) ((j0 : Int), (i : Int)) (j : Int) 0) := by
    intro j hj
    have hw : w64 ((j : Int) + 1) = ((j + 1 : Nat) : Int) := by rw [w64_id (by omega) (by omega)]; omega
    unfold lease_Fair_B3
    rw [x0]
    dsimp only
    rw [asrt_pos (fun _ => by omega), asrt_pos (fun _ => by omega), asrt_pos (fun _ => by omega), asrt_pos (fun _ => by omega), gA i hi, gA j (by omega), w64_id (x := (S i).Now + span) (by omega) (by omega), hw]
    by_cases c1 : (S j).Now < (S i).Now + span
    · rw [if_pos (an_t ⟨by omega, c1⟩), if_pos c1]
    · rw [if_neg (an_f (fun h => c1 h.2)), if_neg c1]
      unfold lease_Fair_J2
      rw [x0, x1, if_neg (d_f (by omega))]
      dsimp only
      rw [asrt_pos (by omega), asrt_pos (by omega)]
  have hend : lease_Fair_B3 span (wn A B e f) ((j0 : Int), (i : Int)) ((n + 1 : Nat) : Int) = some (.inr (.inr (true, f))) := by
    have hd : decide (((n + 1 : Nat) : Int) < (A.length : Int)) = false := decide_eq_false (by omega)
    unfold lease_Fair_B3
    rw [x0]
    dsimp only
    rw [asrt_pos (fun h => by rw [hd] at h; cases h), asrt_pos (fun h => by rw [hd] at h; cases h), asrt_pos (fun h => by rw [hd] at h; cases h), asrt_pos (fun h => by rw [hd] at h; cases h), hd, if_neg (by simp)]
    unfold lease_Fair_J2
    rw [x0, if_pos (d_t (by omega))]
    unfold lease_Fair_J1
    rw [x2]; rfl
  by_cases hex : ∃ j, j0 ≤ j ∧ j ≤ n ∧ (S i).Now + span ≤ (S j).Now
  · -- the first of them
    have hfirst : ∃ j, j0 ≤ j ∧ j ≤ n ∧ (S i).Now + span ≤ (S j).Now ∧ ∀ k, j0 ≤ k → k < j → (S k).Now < (S i).Now + span := by
      obtain ⟨j, h1, h2, h3⟩ := hex
      induction j using Nat.strongRecOn with
      | _ j ih =>
        by_cases hb : ∃ k, j0 ≤ k ∧ k < j ∧ (S i).Now + span ≤ (S k).Now
        · obtain ⟨k, g1, g2, g3⟩ := hb
          exact ih k g2 g1 (by omega) g3
        · refine ⟨j, h1, h2, h3, fun k g1 g2 => ?_⟩
          by_cases hlt : (S k).Now < (S i).Now + span
          · exact hlt
          · exact absurd ⟨k, g1, g2, by omega⟩ hb
    obtain ⟨j, h1, h2, h3, h4⟩ := hfirst
    refine .inr ⟨j, h1, h2, fun k hkj => ?_, h3, ?_⟩
    · by_cases hk0 : k < j0
      · exact hk k hk0
      · exact h4 k (by omega) hkj
    have hrun : ∀ r, lease_Fair_L2 span (wn A B e f) ((j0 : Int), (i : Int)) (j : Int) 0 = some r → lease_Fair_L3 span (wn A B e f) ((j0 : Int), (i : Int)) (j0 : Int) = some r := by
      intro r hr
      have := loop_run (step := fun y => lease_Fair_B3 span (wn A B e f) ((j0 : Int), (i : Int)) y) (j - j0) (fun k => ((j0 + k : Nat) : Int)) (r := r) (fun k hkk => ?_) ?_
      · exact this
      · show lease_Fair_B3 span (wn A B e f) ((j0 : Int), (i : Int)) ((j0 + k : Nat) : Int) = _
        rw [stp (j0 + k) (by omega), if_pos (h4 _ (by omega) (by omega))]; rfl
      · have e1 : j0 + (j - j0) = j := by omega
        show lease_Fair_B3 span (wn A B e f) ((j0 : Int), (i : Int)) ((j0 + (j - j0) : Nat) : Int) = _
        rw [e1, stp j (by omega), if_neg (by omega), hr]; rfl
    rcases pf_L2 span hs m hm S hS hM A B n hn hA hB gA gB e f i j hi h2 ((j0 : Int), (i : Int)) rfl with ⟨g1, g2⟩ | ⟨g1, g2⟩
    · exact .inl ⟨g1, hrun _ g2⟩
    · exact .inr ⟨g1, hrun _ g2⟩
  · have hall : ∀ k, j0 ≤ k → k ≤ n → (S k).Now < (S i).Now + span := fun k g1 g2 => by
      by_cases hlt : (S k).Now < (S i).Now + span
      · exact hlt
      · exact absurd ⟨k, g1, g2, by omega⟩ hex
    refine .inl ⟨?_, fun k hkn => ?_⟩
    · have := loop_run (step := fun y => lease_Fair_B3 span (wn A B e f) ((j0 : Int), (i : Int)) y) (n + 1 - j0) (fun k => ((j0 + k : Nat) : Int)) (r := .inr (true, f)) (fun k hkk => ?_) ?_
      · exact this
      · show lease_Fair_B3 span (wn A B e f) ((j0 : Int), (i : Int)) ((j0 + k : Nat) : Int) = _
        rw [stp (j0 + k) (by omega), if_pos (hall _ (by omega) (by omega))]; rfl
      · have e1 : j0 + (n + 1 - j0) = n + 1 := by omega
        show lease_Fair_B3 span (wn A B e f) ((j0 : Int), (i : Int)) ((j0 + (n + 1 - j0) : Nat) : Int) = _
        rw [e1]; exact hend
    · by_cases hk0 : k < j0
      · exact hk k hk0
      · exact hall k (by omega) hkn
theorem pf_L1 : ∀ (q i j0 : Nat), n + 1 - i = q → i ≤ n + 1 → j0 ≤ n + 1 → (i ≤ n → ∀ k, k < j0 → (S k).Now < (S i).Now + span) → (∀ i' j, i' < i → i' ≤ j → j ≤ n → span ≤ (S j).Now - (S i').Now → ∀ c, c < m → sureN span ≤ lget (S j).Clocks (c : Int) - lget (S i').Clocks (c : Int)) →
    ∃ b, lease_Fair_L1 span (wn A B e f) ((j0 : Int), (i : Int)) = some (b, f) ∧ (b = true ↔ fairP span m S n)
  | 0, i, j0, hq, hi, hj0, hinv, hgood => by
    have hie : i = n + 1 := by omega
    refine ⟨true, loopO_inr ?_, ⟨fun _ i' j h1 h2 h3 c hc => hgood i' j (by omega) h1 h2 h3 c hc, fun _ => rfl⟩⟩
    have x0 : (wn A B e f).2.2.2.2.2.2.2.2.2.1 = A := rfl
    unfold lease_Fair_B1
    rw [x0]
    dsimp only
    rw [if_neg (d_f (by omega))]; rfl
  | q + 1, i, j0, hq, hi, hj0, hinv, hgood => by
    have hi' : i ≤ n := by omega
    have x0 : (wn A B e f).2.2.2.2.2.2.2.2.2.1 = A := rfl
    have hB1 : lease_Fair_B1 span (wn A B e f) ((j0 : Int), (i : Int)) = lease_Fair_L3 span (wn A B e f) ((j0 : Int), (i : Int)) (j0 : Int) := by
      unfold lease_Fair_B1
      rw [x0]
      dsimp only
      rw [if_pos (d_t (by omega))]
    rcases pf_turn span hs m hm S hS hM A B n hn hA hB gA gB e f i j0 hi' hj0 (hinv hi') with ⟨h1, h2⟩ | ⟨j, h1, h2, h3, h4, h5 | h5⟩
    · refine ⟨true, loopO_inr (hB1.trans h1), ⟨fun _ i' j g1 g2 g3 c hc => ?_, fun _ => rfl⟩⟩
      by_cases hlt : i' < i
      · exact hgood i' j hlt g1 g2 g3 c hc
      · have := h2 j g2
        have := (hM i i' (by omega)).1
        omega
    · obtain ⟨⟨c, hc, hb⟩, h6⟩ := h5
      refine ⟨false, loopO_inr (hB1.trans h6), ⟨fun h => absurd h (by simp), fun h => ?_⟩⟩
      have hij : i ≤ j := by
        by_cases hlt : j < i
        · have := (hM j i (by omega)).1; omega
        · omega
      have := h i j hij h2 (by omega) c hc
      omega
    · obtain ⟨h5, h6⟩ := h5
      obtain ⟨b, r1, r2⟩ := pf_L1 q (i + 1) j (by omega) (by omega) (by omega) (fun hi1 k hk => by
        have := h3 k hk
        have := (hM i (i + 1) (by omega)).1
        omega) (fun i' j' g0 g1 g2 g3 c hc => by
        by_cases hlt : i' < i
        · exact hgood i' j' hlt g1 g2 g3 c hc
        · have : i' = i := by omega
          subst this
          have hjj : j ≤ j' := by
            by_cases hlt : j' < j
            · have := h3 j' hlt; omega
            · omega
          have g4 := (hM j j' hjj).2 c hc
          have g5 := h5 c hc
          omega)
      exact ⟨b, (loopO_inl (hB1.trans h6)).trans r1, r2⟩
end
theorem fair_ok (span clients : Int) (ds : List Deed) {j : Nat} (hj : Stop span clients.toNat ds j) (h : (headF span clients ds.length).Code = 0) :
    ∃ b, lease_Fair span clients ds = some (b, endF span clients.toNat ds j) ∧ ((endF span clients.toNat ds j).Code = 0 → j = ds.length ∧ (b = true ↔ fairP span clients.toNat (st span clients.toNat ds) j)) ∧ ((endF span clients.toNat ds j).Code ≠ 0 → b = false) := by
  obtain ⟨h1, h2, h3, h4⟩ := headF_ok h
  have hmax : max 0 (min clients 8) = clients := by omega
  unfold lease_Fair
  rw [hmax, asrt_pos (by omega)]
  dsimp only [lt]
  rw [wrun_ok span clients ds hj h, ob_some]
  have x2 : (wn (nows span clients.toNat ds j) (clks span clients.toNat ds j) (endC span clients.toNat ds j) (endF span clients.toNat ds j)).2.2.2.2.2.2.2.2.1 = endF span clients.toNat ds j := rfl
  rw [x2]
  by_cases hc : (endF span clients.toNat ds j).Code = 0
  · rw [if_neg (n_f hc)]
    have hjn := hj.le
    have he : j = ds.length := by
      rcases hj.ends with h5 | ⟨h5, h6⟩
      · exact h5
      · unfold endF at hc; rw [if_neg (by omega)] at hc; exact absurd hc h6
    obtain ⟨b, r1, r2⟩ := pf_L1 span h2 clients.toNat (by omega) (st span clients.toNat ds) (st_inv span clients.toNat ds) (fun a b hab => st_mono span clients.toNat ds hab) (nows span clients.toNat ds j) (clks span clients.toNat ds j) j (by omega) (nows_len _ _ _ _) (clks_len _ _ _ _) (fun i hi => nows_get _ _ _ _ _ hi) (fun i hi => clks_get _ _ _ _ _ hi) (endC span clients.toNat ds j) (endF span clients.toNat ds j) (j + 1) 0 0 (by omega) (by omega) (by omega) (fun _ k hk => by omega) (fun i' j' hh => by omega)
    exact ⟨b, r1, fun _ => ⟨he, r2⟩, fun g => absurd hc g⟩
  · rw [if_pos (n_t hc)]
    exact ⟨false, rfl, fun g => absurd g hc, fun _ => rfl⟩
theorem fair_no (span clients : Int) (ds : List Deed) (h : (headF span clients ds.length).Code ≠ 0) :
    lease_Fair span clients ds = some (false, headF span clients ds.length) := by
  unfold lease_Fair
  rw [asrt_pos (by omega)]
  dsimp only [lt]
  rw [wrun_no span clients ds _ _ h, ob_some]
  have x2 : ∀ a b, (wn a b court0 (headF span clients ds.length)).2.2.2.2.2.2.2.2.1 = headF span clients ds.length := fun _ _ => rfl
  rw [x2, if_pos (n_t h)]
end G
end Go.Proofs.Ytgflfhdbihahcaa
