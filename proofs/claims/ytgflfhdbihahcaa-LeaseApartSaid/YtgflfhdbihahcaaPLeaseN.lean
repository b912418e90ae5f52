/- Leases: one deed is done as the document says (NEW=2). -/
import Derived.Test.YtgflfhdbihahcaaEm40
import Derived.Test.YtgflfhdbihahcaaGf5
namespace Go.Proofs.Ytgflfhdbihahcaa
open Go Go.Dm
set_option linter.unusedVariables false
set_option linter.unusedSimpArgs false
namespace G
theorem asked_eq (l : Lease) (who now span : Int) : lease_asked l who now span = R_Wished l who now span := by
  simp only [lease_asked, R_Wished, lease_Check, lease_number, R_Num, lease_fault, R_F, lease_spanned, R_Spanned, lt]
  grind
theorem wished_c (l : Lease) (who now span : Int) : (R_Wished l who now span).Code = 0 → R_Wished l who now span = ⟨0, 0⟩ ∧ 0 ≤ l.Holder ∧ l.Holder ≤ 1000000000 ∧ 0 ≤ l.Epoch ∧ l.Epoch ≤ 1000000000 ∧ 0 ≤ l.Until ∧ l.Until ≤ 1000000000 ∧ 1 ≤ who ∧ who ≤ 1000000000 ∧ 0 ≤ now ∧ now ≤ 1000000000 ∧ 4 ≤ span ∧ span ≤ 1000000 := by
  simp only [R_Wished, R_Num, R_F, R_Spanned, lt, Bool.or_eq_true, Bool.and_eq_true, Bool.not_eq_true', decide_eq_true_eq, Bool.and_eq_false_imp, decide_eq_false_iff_not]
  repeat' split
  all_goals (simp; try omega)
theorem grant_eq (l : Lease) (who now span : Int) : lease_Grant l who now span = R_Granted l who now span := by
  simp only [lease_Grant, R_Granted, asked_eq, lt]
  have h := wished_c l who now span
  have w1 := @w64_id (l.Epoch + 1)
  have w2 := @w64_id (now + span)
  generalize R_Wished l who now span = f at *
  by_cases hc : f.Code = 0
  · obtain ⟨rfl, h⟩ := h hc
    rw [w1 (by omega) (by omega), w2 (by omega) (by omega)]
    simp only [lease_held, lease_Check, lease_number, lease_fault, R_F, lt]
    grind
  · grind
theorem renew_eq (l : Lease) (who epoch now span : Int) : lease_Renew l who epoch now span = R_Renewed l who epoch now span := by
  simp only [lease_Renew, R_Renewed, asked_eq, lt]
  have h := wished_c l who now span
  have w2 := @w64_id (now + span)
  generalize R_Wished l who now span = f at *
  by_cases hc : f.Code = 0
  · obtain ⟨rfl, h⟩ := h hc
    rw [w2 (by omega) (by omega)]
    obtain ⟨lh, le, lu⟩ := l
    simp only [lease_held, lease_Check, lease_number, lease_fault, R_F, lt]
    have h : 0 ≤ lh ∧ lh ≤ 1000000000 ∧ 0 ≤ le ∧ le ≤ 1000000000 ∧ 0 ≤ lu ∧ lu ≤ 1000000000 ∧ 1 ≤ who ∧ who ≤ 1000000000 ∧ 0 ≤ now ∧ now ≤ 1000000000 ∧ 4 ≤ span ∧ span ≤ 1000000 := (h rfl).2
    have hns : now + span ≥ 4 := by omega
    clear w2
    generalize now + span = ns at *
    by_cases h1 : lh = who
    · by_cases h2 : le = epoch
      · by_cases h3 : lu ≤ now
        · have h3' : ¬ now < lu := by omega
          simp [h1, h2, h3, h3']
        · have h3' : now < lu := by omega
          have h4 : ¬ lh = 0 := by omega
          have h4' : ¬ who = 0 := by omega
          have h5 : 0 ≤ who ∧ who ≤ 1000000000 ∧ 0 ≤ epoch ∧ epoch ≤ 1000000000 := by omega
          have h6 : max lu ns = if lu < ns then ns else lu := by
            rw [Int.max_def]; split <;> split <;> omega
          rw [h6]
          subst h1; subst h2
          simp [h3, h3', h4, h5]
          grind
      · have h2' : ¬ epoch = le := fun h => h2 h.symm
        simp [h1, h2]
    · simp [h1]
  · grind
/-- what a granted lease is -/
theorem granted_c (l : Lease) (who now span : Int) : (R_Granted l who now span).2.Code = 0 → (R_Granted l who now span).1 = ⟨who, l.Epoch + 1, now + span⟩ ∧ 0 ≤ l.Epoch ∧ (l.Holder = 0 ∨ l.Until ≤ now) ∧ 1 ≤ who := by
  intro h
  simp only [R_Granted, lt] at h ⊢
  have hw := wished_c l who now span
  have w1 := @w64_id (l.Epoch + 1)
  have w2 := @w64_id (now + span)
  generalize R_Wished l who now span = f at *
  by_cases hc : f.Code = 0
  · obtain ⟨rfl, hw⟩ := hw hc
    rw [w1 (by omega) (by omega), w2 (by omega) (by omega)] at h ⊢
    simp only [R_F] at h ⊢
    grind
  · grind
theorem renewed_c (l : Lease) (who epoch now span : Int) : (R_Renewed l who epoch now span).2.Code = 0 → (R_Renewed l who epoch now span).1 = ⟨l.Holder, l.Epoch, max l.Until (now + span)⟩ ∧ l.Holder = who ∧ l.Epoch = epoch ∧ now < l.Until := by
  intro h
  simp only [R_Renewed, lt] at h ⊢
  have hw := wished_c l who now span
  have w2 := @w64_id (now + span)
  generalize R_Wished l who now span = f at *
  by_cases hc : f.Code = 0
  · obtain ⟨rfl, hw⟩ := hw hc
    rw [w2 (by omega) (by omega)] at h ⊢
    have h6 : max l.Until (now + span) = if l.Until < now + span then now + span else l.Until := by
      rw [Int.max_def]; split <;> split <;> omega
    rw [h6]
    clear h6 w2 hw
    by_cases h1 : l.Holder = who
    · by_cases h2 : l.Epoch = epoch
      · by_cases h3 : l.Until ≤ now
        · simp [h1, h2, h3, R_F] at h
        · by_cases h4 : 1000000000 < now + span
          · simp [h1, h2, h3, h4, R_F] at h
          · have h5 : now < l.Until := by omega
            by_cases h7 : l.Until < now + span
            · simp [h1, h2, h3, h4, h5, h7, R_F]
            · simp [h1, h2, h3, h4, h5, h7, R_F]
              cases l; simp_all
      · simp [h1, h2, R_F] at h
    · simp [h1, R_F] at h
  · grind
/- a deed -/
def fin (c : Court) : Int := if 900000000 < c.Now ∨ 100 < c.Wishes.length ∨ 100 < c.Replies.length ∨ c.Clocks.any (fun x => decide (900000000 < x)) = true then 9 else 0
def pre (c : Court) (d : Deed) : Int :=
  if d.Kind < 0 ∨ 8 < d.Kind then 4
  else if (d.Kind = 1 ∨ d.Kind = 2 ∨ d.Kind = 5) ∧ (d.Who < 0 ∨ (c.Clocks.length : Int) ≤ d.Who) then 3
  else if d.Kind < 2 ∧ (d.N < 0 ∨ 1000000 < d.N) then 3
  else if (d.Kind = 3 ∨ d.Kind = 6 ∨ d.Kind = 7) ∧ (d.N < 0 ∨ (c.Wishes.length : Int) ≤ d.N) then 3
  else if (d.Kind = 4 ∨ d.Kind = 8) ∧ (d.N < 0 ∨ (c.Replies.length : Int) ≤ d.N) then 3 else 0
noncomputable def ask (span : Int) (c : Court) (w : Wish) : Lease × Fault := if w.Epoch = 0 then R_Granted c.Lease (w.Who + 1) c.Now span else R_Renewed c.Lease (w.Who + 1) w.Epoch c.Now span
def sureN (span : Int) : Int := span - span / 4
noncomputable def arrive (span : Int) (c : Court) (w : Wish) : Court := if (ask span c w).2.Code = 0 then ⟨c.Now, (ask span c w).1, c.Clocks, c.Trusts, c.Wishes, c.Replies ++ [⟨w.Who, ⟨(ask span c w).1.Epoch, w.Sent + sureN span⟩⟩]⟩ else c
def newer (t u : Trust) : Prop := t.Epoch < u.Epoch ∨ (u.Epoch = t.Epoch ∧ t.Until < u.Until)
instance (t u : Trust) : Decidable (newer t u) := inferInstanceAs (Decidable (_ ∨ _))
noncomputable def hear (c : Court) (r : Reply) : Court := if newer (lget c.Trusts r.Who) r.Trust then ⟨c.Now, c.Lease, c.Clocks, lset c.Trusts r.Who r.Trust, c.Wishes, c.Replies⟩ else c
def cut {α : Type} (l : List α) (n : Int) : List α := l.take n.toNat ++ l.drop (n.toNat + 1)
noncomputable def mid (span : Int) (c : Court) (d : Deed) : Court :=
  if d.Kind = 0 then ⟨c.Now + d.N, c.Lease, c.Clocks, c.Trusts, c.Wishes, c.Replies⟩
  else if d.Kind = 1 then ⟨c.Now, c.Lease, lset c.Clocks d.Who (lget c.Clocks d.Who + d.N), c.Trusts, c.Wishes, c.Replies⟩
  else if d.Kind = 2 then ⟨c.Now, c.Lease, c.Clocks, c.Trusts, c.Wishes ++ [⟨d.Who, lget c.Clocks d.Who, if lget c.Clocks d.Who < (lget c.Trusts d.Who).Until then (lget c.Trusts d.Who).Epoch else 0⟩], c.Replies⟩
  else if d.Kind = 3 then arrive span ⟨c.Now, c.Lease, c.Clocks, c.Trusts, cut c.Wishes d.N, c.Replies⟩ (lget c.Wishes d.N)
  else if d.Kind = 4 then hear ⟨c.Now, c.Lease, c.Clocks, c.Trusts, c.Wishes, cut c.Replies d.N⟩ (lget c.Replies d.N)
  else if d.Kind = 5 then ⟨c.Now, c.Lease, c.Clocks, lset c.Trusts d.Who ⟨0, 0⟩, c.Wishes, c.Replies⟩
  else if d.Kind = 6 then ⟨c.Now, c.Lease, c.Clocks, c.Trusts, c.Wishes ++ [lget c.Wishes d.N], c.Replies⟩
  else if d.Kind = 7 then ⟨c.Now, c.Lease, c.Clocks, c.Trusts, cut c.Wishes d.N, c.Replies⟩
  else ⟨c.Now, c.Lease, c.Clocks, c.Trusts, c.Wishes, cut c.Replies d.N⟩
noncomputable def step (span : Int) (c : Court) (d : Deed) : Int × Court := if pre c d = 0 then (fin (mid span c d), mid span c d) else (pre c d, c)
structure CInv (m : Nat) (c : Court) : Prop where
  now : 0 ≤ c.Now ∧ c.Now ≤ 900000000
  cl : c.Clocks.length = m
  clk : ∀ x ∈ c.Clocks, 0 ≤ x ∧ x ≤ 900000000
  tl : c.Trusts.length = m
  tr : ∀ t ∈ c.Trusts, 0 ≤ t.Epoch
  wl : c.Wishes.length ≤ 100
  wh : ∀ w ∈ c.Wishes, (0 ≤ w.Who ∧ w.Who < m) ∧ (0 ≤ w.Sent ∧ w.Sent ≤ 900000000) ∧ 0 ≤ w.Epoch
  rl : c.Replies.length ≤ 100
  rp : ∀ r ∈ c.Replies, (0 ≤ r.Who ∧ r.Who < m) ∧ 0 ≤ r.Trust.Epoch
abbrev CT := Int × Int × Int × Int × List Int × List Trust × List Wish × List Reply
def ct (c : Court) : CT := (c.Now, c.Lease.Holder, c.Lease.Epoch, c.Lease.Until, c.Clocks, c.Trusts, c.Wishes, c.Replies)
def dt (span : Int) (p : Int × Court) : Int × Int × Int × Int × Int × List Int × List Trust × List Wish × List Reply × Int := (p.1, p.2.Now, p.2.Lease.Holder, p.2.Lease.Epoch, p.2.Lease.Until, p.2.Clocks, p.2.Trusts, p.2.Wishes, p.2.Replies, span)
def rt (p : Int × Court) : Int × Int × Int × Int × List Int × List Trust × List Wish × List Reply × Int := (p.2.Now, p.2.Lease.Holder, p.2.Lease.Epoch, p.2.Lease.Until, p.2.Clocks, p.2.Trusts, p.2.Wishes, p.2.Replies, p.1)
theorem lclear_end {α : Type} (l : List α) (n : Nat) (z : α) : lclear l l.length n z = l := by
  simp [lclear]
theorem take_rest {α : Type} (l : List α) (n : Nat) : (l.drop n).take (l.length - n) = l.drop n := List.take_of_length_le (by simp)
theorem cut_len {α : Type} (l : List α) (n : Int) (h : 0 ≤ n ∧ n < (l.length : Int)) : (cut l n).length + 1 = l.length := by
  unfold cut; simp only [List.length_append, List.length_take, List.length_drop]; omega
theorem cut_mem {α : Type} {l : List α} {n : Int} {x : α} (h : x ∈ cut l n) : x ∈ l := by
  unfold cut at h
  rcases List.mem_append.1 h with h | h
  · exact List.mem_of_mem_take h
  · exact List.mem_of_mem_drop h
theorem delW (l : List Wish) (n : Int) (h : 0 ≤ n ∧ n < (l.length : Int)) (hl : l.length ≤ 1000000) : slices_Delete_api_Wish_api_Wish_v2 n (w64 (n + 1)) l = some (cut l n) := by
  have hw : w64 (n + 1) = n + 1 := w64_id (by omega) (by omega)
  have hc := cut_len l n h
  have e : l.take n.toNat ++ ((l.drop (n + 1).toNat).take (l.length - (n + 1).toNat)) = cut l n := by
    have : (n + 1).toNat = n.toNat + 1 := by omega
    rw [take_rest, this]; rfl
  unfold slices_Delete_api_Wish_api_Wish_v2
  rw [hw, e, asrt_pos (by omega), if_neg (d_f (by omega)), asrt_pos (by omega), asrt_pos (by omega), asrt_pos (by omega), asrt_pos (by omega), asrt_pos (by omega), asrt_pos (by rw [List.length_map]; omega)]
  have e2 : ((cut l n).length : Int).toNat = (cut l n).length := by omega
  rw [e2, lclear_end]; rfl
theorem delR (l : List Reply) (n : Int) (h : 0 ≤ n ∧ n < (l.length : Int)) (hl : l.length ≤ 1000000) : slices_Delete_api_Reply_api_Reply_v2 n (w64 (n + 1)) l = some (cut l n) := by
  have hw : w64 (n + 1) = n + 1 := w64_id (by omega) (by omega)
  have hc := cut_len l n h
  have e : l.take n.toNat ++ ((l.drop (n + 1).toNat).take (l.length - (n + 1).toNat)) = cut l n := by
    have : (n + 1).toNat = n.toNat + 1 := by omega
    rw [take_rest, this]; rfl
  unfold slices_Delete_api_Reply_api_Reply_v2
  rw [hw, e, asrt_pos (by omega), if_neg (d_f (by omega)), asrt_pos (by omega), asrt_pos (by omega), asrt_pos (by omega), asrt_pos (by omega), asrt_pos (by omega), asrt_pos (by rw [List.length_map]; omega)]
  have e2 : ((cut l n).length : Int).toNat = (cut l n).length := by omega
  rw [e2, lclear_end]; rfl
theorem sure_eq (span : Int) (h : 4 ≤ span ∧ span ≤ 1000000) : lease_sure span = sureN span ∧ w64 (Int.tdiv span 4) = span / 4 ∧ 3 ≤ sureN span ∧ sureN span ≤ span := by
  have t2 : Int.tdiv span 4 = span / 4 := Int.tdiv_eq_ediv_of_nonneg (by omega)
  have h3 : w64 (span / 4) = span / 4 := w64_id (by omega) (by omega)
  unfold lease_sure sureN
  rw [t2, h3, w64_id (by omega) (by omega)]
  exact ⟨rfl, rfl, by omega, by omega⟩
end G
end Go.Proofs.Ytgflfhdbihahcaa
