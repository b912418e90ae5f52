/- A deed in a vault, as one step. -/
import Derived.Test.YteckapomkemglaaPSealF
namespace Go.Proofs.Yteckapomkemglaa
open Go Go.Dm
set_option linter.unusedVariables false
set_option linter.unusedSimpArgs false
namespace G
def st0 (recs : List (List UInt8)) (v : Vault) : Int × Vault :=
  if v.Wrote.length = recs.length then (6, v) else (0, ⟨v.Copies, v.Wrote ++ [lget recs (v.Wrote.length : Int)], v.Took ++ [[]], v.Heals⟩)
def st1 (v : Vault) (d : Deed) : Int × Vault :=
  if d.N < 0 ∨ (v.Wrote.length : Int) ≤ d.N then (3, v)
  else if (apF (lget v.Copies d.Who) 1 d.N (lget v.Wrote d.N)).Code = 0 then (0, ⟨lset v.Copies d.Who (apC (lget v.Copies d.Who) 1 d.N (lget v.Wrote d.N)), v.Wrote, lset v.Took d.N (onceS (lget v.Took d.N) d.Who), v.Heals⟩)
  else (0, v)
def st2 (v : Vault) (d : Deed) : Int × Vault :=
  if d.N < 2 ∨ 1000000000 < d.N then (3, v)
  else if anyE v.Heals d.N = true then (10, v)
  else if v.Heals.length = 20 then (9, v)
  else (0, ⟨v.Copies, v.Wrote, v.Took, v.Heals ++ [⟨d.N, [], [], false, [], []⟩]⟩)
def st3 (v : Vault) (d : Deed) : Int × Vault :=
  let h := lget v.Heals d.N
  if (askS (lget v.Copies d.Who) h.Epoch F0).Code = 0 then
    let c := clC (lget v.Copies d.Who) h.Epoch
    (0, ⟨lset v.Copies d.Who c, v.Wrote, v.Took, if h.Has = false ∧ d.Who ∉ h.Heard then lset v.Heals d.N ⟨h.Epoch, h.Heard ++ [d.Who], h.Said ++ [c], h.Has, h.Recs, h.Ends⟩ else v.Heals⟩)
  else (0, v)
def st4 (v : Vault) (d : Deed) : Int × Vault :=
  let h := lget v.Heals d.N
  let a := chS (v.Copies.length : Int) h.Said
  if a.2.Code = 0 ∧ h.Has = false then (0, ⟨v.Copies, v.Wrote, v.Took, lset v.Heals d.N ⟨h.Epoch, h.Heard, h.Said, true, a.1, h.Ends⟩⟩) else (0, v)
def st5 (v : Vault) (d : Deed) : Int × Vault :=
  let h := lget v.Heals d.N
  if h.Has = false then (0, v)
  else if (askS (lget v.Copies d.Who) h.Epoch (recF h.Recs)).Code = 0 then
    (0, ⟨lset v.Copies d.Who (enC (lget v.Copies d.Who) h.Epoch h.Recs), v.Wrote, v.Took, lset v.Heals d.N ⟨h.Epoch, h.Heard, h.Said, h.Has, h.Recs, onceS h.Ends d.Who⟩⟩)
  else (0, v)
/-- a deed: its code, and the vault behind it -/
def stepS (recs : List (List UInt8)) (v : Vault) (d : Deed) : Int × Vault :=
  if d.Kind < 0 ∨ 5 < d.Kind then (4, v)
  else if (d.Kind = 1 ∨ d.Kind = 3 ∨ d.Kind = 5) ∧ (d.Who < 0 ∨ (v.Copies.length : Int) ≤ d.Who) then (3, v)
  else if 2 < d.Kind ∧ (d.N < 0 ∨ (v.Heals.length : Int) ≤ d.N) then (3, v)
  else if d.Kind = 0 then st0 recs v
  else if d.Kind = 1 then st1 v d
  else if d.Kind = 2 then st2 v d
  else if d.Kind = 3 then st3 v d
  else if d.Kind = 4 then st4 v d
  else st5 v d
structure VB (v : Vault) (m : Nat) : Prop where
  tk : v.Took.length = v.Wrote.length
  wr : v.Wrote.length ≤ m
  tl : ∀ t ∈ v.Took, t.length ≤ m
  cn : v.Copies.length ≤ 7
  cp : ∀ c ∈ v.Copies, c.Recs.length ≤ 1000
  hl : v.Heals.length ≤ m
  hh : ∀ h ∈ v.Heals, h.Heard.length ≤ m ∧ h.Said.length ≤ m ∧ h.Ends.length ≤ m ∧ h.Recs.length ≤ 1000 ∧ ∀ c ∈ h.Said, c.Recs.length ≤ 1000
abbrev Out : Type := Int × List Copy × List (List UInt8) × List (List Int) × List Heal × List (List UInt8)
def out (recs : List (List UInt8)) (p : Int × Vault) : Option Out := some (p.1, p.2.Copies, p.2.Wrote, p.2.Took, p.2.Heals, recs)
theorem mem_at {α : Type} [Inhabited α] {l : List α} {n : Int} (h : 0 ≤ n ∧ n < (l.length : Int)) : lget l n ∈ l := by
  obtain ⟨k, rfl⟩ : ∃ k : Nat, n = (k : Int) := ⟨n.toNat, by omega⟩
  exact mem_lget.2 ⟨k, by omega, rfl⟩
theorem d10 : decide ((1 : Int) = 0) = false := rfl
theorem d20 : decide ((2 : Int) = 0) = false := rfl
theorem d30 : decide ((3 : Int) = 0) = false := rfl
theorem d40 : decide ((4 : Int) = 0) = false := rfl
theorem d50 : decide ((5 : Int) = 0) = false := rfl
theorem d21 : decide ((2 : Int) = 1) = false := rfl
theorem d31 : decide ((3 : Int) = 1) = false := rfl
theorem d41 : decide ((4 : Int) = 1) = false := rfl
theorem d51 : decide ((5 : Int) = 1) = false := rfl
theorem d32 : decide ((3 : Int) = 2) = false := rfl
theorem d42 : decide ((4 : Int) = 2) = false := rfl
theorem d52 : decide ((5 : Int) = 2) = false := rfl
theorem d43 : decide ((4 : Int) = 3) = false := rfl
theorem d53 : decide ((5 : Int) = 3) = false := rfl
theorem d54 : decide ((5 : Int) = 4) = false := rfl
section
variable {recs : List (List UInt8)} {v : Vault} {m : Nat} {d : Deed} {b : Bool × Int} {q : Bool × Bool × Int}
theorem does_0 (hv : VB v m) (hm : m ≤ 100000) (hr : recs.length ≤ 1000) (hw : v.Wrote.length ≤ recs.length) (hk : d.Kind = 0) : seal_vault_does_v1_J1 d recs v.Copies v.Wrote v.Took v.Heals b q = out recs (st0 recs v) := by
  have h1 := hv.wr
  have h2 := hv.tk
  unfold seal_vault_does_v1_J1 st0
  rw [hk, if_pos (show decide ((0 : Int) = 0) = true from rfl)]
  by_cases h : v.Wrote.length = recs.length
  · rw [if_pos (d_t (by omega)), if_pos h]; rfl
  · rw [if_neg (d_f (by omega)), if_neg h, asrt_pos (by omega), asrt_pos (by simp; omega), asrt_pos (by simp; omega)]; rfl
theorem does_1 (hv : VB v m) (hm : m ≤ 100000) (hk : d.Kind = 1) (hc : 0 ≤ d.Who ∧ d.Who < (v.Copies.length : Int)) (hb : b = (true, d.Who)) (hq : q.1 = true) : seal_vault_does_v1_J1 d recs v.Copies v.Wrote v.Took v.Heals b q = out recs (st1 v d) := by
  have h1 := hv.wr
  have h2 := hv.tk
  subst hb
  unfold seal_vault_does_v1_J1 st1
  simp only [hk, d10, Bool.false_eq_true, if_false, decide_true, if_true]
  by_cases h : d.N < 0 ∨ (v.Wrote.length : Int) ≤ d.N
  · rw [if_pos (by simpa using h), if_pos h]; rfl
  · rw [if_neg (by simpa using h), if_neg h, asrt_pos hq, asrt_pos hc, asrt_pos (by omega), asrt_pos (by omega)]
    rw [show (⟨(lget v.Copies d.Who).Epoch, (lget v.Copies d.Who).Closed, (lget v.Copies d.Who).Recs, (lget v.Copies d.Who).Ended⟩ : Copy) = lget v.Copies d.Who from rfl,
      append_eq _ _ _ _ (by have := hv.cp _ (mem_at hc); omega), ob_some]
    dsimp only
    by_cases hf : (apF (lget v.Copies d.Who) 1 d.N (lget v.Wrote d.N)).Code = 0
    · have := hv.tl _ (mem_at (l := v.Took) (n := d.N) (by omega))
      rw [if_pos (d_t hf), if_pos hf, asrt_pos (by omega), asrt_pos (by omega), once_eq _ _ (by omega), ob_some, asrt_pos hc, asrt_pos (by omega), asrt_pos (by omega)]; rfl
    · rw [if_neg (d_f hf), if_neg hf]; rfl
theorem does_2 (hv : VB v m) (hm : m ≤ 100000) (hk : d.Kind = 2) : seal_vault_does_v1_J1 d recs v.Copies v.Wrote v.Took v.Heals b q = out recs (st2 v d) := by
  have h1 := hv.hl
  unfold seal_vault_does_v1_J1 st2
  simp only [hk, d20, d21, Bool.false_eq_true, if_false, decide_true, if_true]
  by_cases h : d.N < 2 ∨ 1000000000 < d.N
  · rw [if_pos (by simpa using h), if_pos h]; rfl
  · rw [if_neg (by simpa using h), if_neg h, containsF_eq _ _ (by omega), ob_some]
    by_cases ha : anyE v.Heals d.N = true
    · rw [if_pos ha, if_pos ha]; rfl
    · rw [if_neg ha, if_neg ha]
      by_cases h20 : v.Heals.length = 20
      · rw [if_pos (d_t (by omega)), if_pos h20]; rfl
      · rw [if_neg (d_f (by omega)), if_neg h20, asrt_pos (by simp; omega)]; rfl
theorem does_3 (hv : VB v m) (hm : m ≤ 100000) (hk : d.Kind = 3) (hc : 0 ≤ d.Who ∧ d.Who < (v.Copies.length : Int)) (hn : 0 ≤ d.N ∧ d.N < (v.Heals.length : Int)) (hb : b = (true, d.Who)) (hq : q = (true, true, d.N)) :
    seal_vault_does_v1_J1 d recs v.Copies v.Wrote v.Took v.Heals b q = out recs (st3 v d) := by
  obtain ⟨g1, g2, g3, g4, g5⟩ := hv.hh _ (mem_at hn)
  have g6 := hv.cp _ (mem_at hc)
  subst hb; subst hq
  unfold seal_vault_does_v1_J1 st3
  simp only [hk, d30, d31, d32, Bool.false_eq_true, if_false, decide_true, if_true]
  rw [asrt_pos trivial, asrt_pos trivial, asrt_pos hc, asrt_pos hn]
  rw [show (⟨(lget v.Copies d.Who).Epoch, (lget v.Copies d.Who).Closed, (lget v.Copies d.Who).Recs, (lget v.Copies d.Who).Ended⟩ : Copy) = lget v.Copies d.Who from rfl, close_eq _ _ (by omega), ob_some]
  dsimp only
  by_cases hf : (askS (lget v.Copies d.Who) (lget v.Heals d.N).Epoch F0).Code = 0
  · rw [if_pos (d_t hf), if_pos hf, asrt_pos hc, asrt_pos hn, asrt_pos (fun _ => hn)]
    rw [contains_eq _ _ (by omega)]
    have hcl : (clC (lget v.Copies d.Who) (lget v.Heals d.N).Epoch).Recs.length ≤ 1000 := by unfold clC; rw [if_neg (by simp [hf])]; exact g6
    cases hH : (lget v.Heals d.N).Has with
    | true =>
      rw [if_neg (by simp), ob_some, if_neg (by simp), if_neg (by simp)]; rfl
    | false =>
      rw [if_pos (by simp), ob_some]
      by_cases hm2 : d.Who ∈ (lget v.Heals d.N).Heard
      · rw [if_neg (by simp [hm2]), if_neg (by simp [hm2])]; rfl
      · rw [if_pos (by simp [hm2]), if_pos ⟨rfl, hm2⟩, asrt_pos hn, asrt_pos (by simp; omega), asrt_pos hn]
        unfold seal_own
        rw [clone_eq _ (by show (clC _ _).Recs.length ≤ _; omega), ob_some, ob_some, asrt_pos (by simp; omega), asrt_pos hn, asrt_pos hn]; rfl
  · rw [if_neg (d_f hf), if_neg hf]; rfl
theorem chS_recs {n : Int} {said : List Copy} (h : ∀ c ∈ said, c.Recs.length ≤ 1000) : (chS n said).1.length ≤ 1000 := by
  unfold chS
  split
  · simp
  · split
    · simp
    · rcases firstFrom_cases (badF said) (chR n said) said.length 0 with ⟨h1, h2⟩ | ⟨j, x, h1, h2, h3, h4, h5⟩
      · rw [h2]; unfold chR
        split
        · simp
        · rcases Nat.eq_zero_or_pos said.length with h0 | h0
          · omega
          · exact h _ (bB_mem said _ (by omega))
      · rw [h5]
        unfold badF at h3
        repeat' split at h3
        all_goals first | (cases h3; simp; done) | cases h3
theorem does_4 (hv : VB v m) (hm : m ≤ 100000) (hk : d.Kind = 4) (hn : 0 ≤ d.N ∧ d.N < (v.Heals.length : Int)) (hq : q = (b.1, true, d.N)) :
    seal_vault_does_v1_J1 d recs v.Copies v.Wrote v.Took v.Heals b q = out recs (st4 v d) := by
  obtain ⟨g1, g2, g3, g4, g5⟩ := hv.hh _ (mem_at hn)
  subst hq
  unfold seal_vault_does_v1_J1 st4
  simp only [hk, d40, d41, d42, d43, Bool.false_eq_true, if_false, decide_true, if_true]
  rw [asrt_pos trivial, asrt_pos hn, choose_eq _ _ (fun c hc => by have := g5 c hc; omega), ob_some, asrt_pos (fun _ => hn)]
  by_cases hf : (chS (v.Copies.length : Int) (lget v.Heals d.N).Said).2.Code = 0 ∧ (lget v.Heals d.N).Has = false
  · rw [if_pos (by simpa using hf), if_pos hf, asrt_pos hn, asrt_pos (by simpa [lset] using hn)]
    simp only [lt, seal_vault_does_v1_J2, out]
    have e : ∀ (x y : Heal), lget (lset v.Heals d.N x) d.N = x ∧ lset (lset v.Heals d.N x) d.N y = lset v.Heals d.N y := fun x y => by
      obtain ⟨k, hk2⟩ : ∃ k : Nat, d.N = (k : Int) := ⟨d.N.toNat, by omega⟩
      rw [hk2] at hn ⊢
      have : k < v.Heals.length := by omega
      exact ⟨by simp [lget, lset, List.getD, this], by simp [lset]⟩
    simp only [(e _ default).1, (e _ _).2]
  · rw [if_neg (by simpa using hf), if_neg hf]; rfl
theorem does_5 (hv : VB v m) (hm : m ≤ 100000) (hk : d.Kind = 5) (hc : 0 ≤ d.Who ∧ d.Who < (v.Copies.length : Int)) (hn : 0 ≤ d.N ∧ d.N < (v.Heals.length : Int)) (hb : b = (true, d.Who)) (hq : q = (true, true, d.N)) :
    seal_vault_does_v1_J1 d recs v.Copies v.Wrote v.Took v.Heals b q = out recs (st5 v d) := by
  obtain ⟨g1, g2, g3, g4, g5⟩ := hv.hh _ (mem_at hn)
  have g6 := hv.cp _ (mem_at hc)
  subst hb; subst hq
  unfold seal_vault_does_v1_J1 st5
  simp only [hk, d50, d51, d52, d53, d54, Bool.false_eq_true, if_false, decide_true, if_true]
  rw [asrt_pos trivial, asrt_pos hn]
  cases hH : (lget v.Heals d.N).Has with
  | false => rw [if_pos (by simp), if_pos rfl]; rfl
  | true =>
    rw [if_neg (by simp), if_neg (by simp), asrt_pos trivial, asrt_pos hc, asrt_pos hn, asrt_pos hn]
    rw [show (⟨(lget v.Copies d.Who).Epoch, (lget v.Copies d.Who).Closed, (lget v.Copies d.Who).Recs, (lget v.Copies d.Who).Ended⟩ : Copy) = lget v.Copies d.Who from rfl, end_eq _ _ _ (by omega) (by omega), ob_some]
    dsimp only
    by_cases hf : (askS (lget v.Copies d.Who) (lget v.Heals d.N).Epoch (recF (lget v.Heals d.N).Recs)).Code = 0
    · rw [if_pos (d_t hf), if_pos hf, asrt_pos hn, once_eq _ _ (by omega), ob_some, asrt_pos hc, asrt_pos hn]; rfl
    · rw [if_neg (d_f hf), if_neg hf]; rfl
end
end G
end Go.Proofs.Yteckapomkemglaa
