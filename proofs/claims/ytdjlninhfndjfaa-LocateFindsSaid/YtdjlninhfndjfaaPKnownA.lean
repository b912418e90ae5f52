/- What is known: Check, Look. -/
import Derived.Test.YtdjlninhfndjfaaPFirst
namespace Go.Proofs.Ytdjlninhfndjfaa
open Go Go.Dm
set_option linter.unusedVariables false
set_option linter.unusedSimpArgs false
namespace G
theorem kn_eta (k : Known) : (⟨⟨k.Part.From, k.Part.To, k.Part.ID⟩, k.Host, k.Turn⟩ : Known) = k := rfl
theorem code_same (k : Known) : locate_code k = R_KnownCode k := rfl
def ptOk (p : Part) : Prop := p.From.length ≤ 40 ∧ p.To.length ≤ 40 ∧ (p.To = [] ∨ Op.bytesLess p.From p.To = true)
theorem kcode_zero {k : Known} : R_KnownCode k = 0 ↔ ptOk k.Part := by
  unfold R_KnownCode ptOk
  by_cases c1 : 40 < k.Part.From.length ∨ 40 < k.Part.To.length
  · rw [if_pos (or_t (by omega))]
    exact ⟨fun h => absurd h (by decide), fun h => by omega⟩
  · rw [if_neg (or_f (by omega))]
    by_cases c2 : k.Part.To = []
    · rw [if_neg (by simp [c2])]
      exact ⟨fun _ => ⟨by omega, by omega, .inl c2⟩, fun _ => rfl⟩
    · cases c3 : Op.bytesLess k.Part.From k.Part.To with
      | true => rw [if_neg (by simp)]; exact ⟨fun _ => ⟨by omega, by omega, .inr rfl⟩, fun _ => rfl⟩
      | false =>
        rw [if_pos (by simp [c2])]
        exact ⟨fun h => absurd h (by decide), fun h => by rcases h.2.2 with g | g; exact absurd g c2; cases g⟩
/-- one stands wholly ahead of another -/
def ahd (a b : Known) : Prop := a.Part.To ≠ [] ∧ Op.bytesLess b.Part.From a.Part.To = false
instance (a b : Known) : Decidable (ahd a b) := by unfold ahd; infer_instance
noncomputable def knF (l : List Known) (k : Nat) : Option Fault :=
  if ¬ R_KnownCode (lget l (k : Int)) = 0 then some ⟨R_KnownCode (lget l (k : Int)), k⟩
  else if 0 < k ∧ ¬ ahd (lget l ((k - 1 : Nat) : Int)) (lget l (k : Int)) then some ⟨10, k⟩ else none
noncomputable def knownF (l : List Known) : Fault := if 200 < l.length then ⟨2, -1⟩ else firstFrom (knF l) ⟨0, 0⟩ 0 l.length
theorem ahd_b (a b : Known) : ((decide (a.Part.To = ([] : List UInt8))) || (Op.bytesLess b.Part.From a.Part.To)) = decide (¬ ahd a b) := by
  refine b_iff ?_
  unfold ahd
  by_cases c : a.Part.To = []
  · simp [c]
  · simp [c]
theorem kcheck_eq (l : List Known) : locate_Check l = some (knownF l) := by
  unfold locate_Check knownF
  by_cases c : 200 < l.length
  · rw [if_pos (d_t (by omega)), if_pos c]; rfl
  · rw [if_neg (d_f (by omega)), if_neg c]
    refine loop_firstF (step := fun y => locate_Check_B1 l y) (knF l) ⟨0, 0⟩ l.length (fun k hk => ?_) ?_
    · have hw : w64 ((k : Int) + 1) = ((k + 1 : Nat) : Int) := by rw [w64_id (by omega) (by omega)]; omega
      show locate_Check_B1 l (k : Int) = _
      unfold locate_Check_B1 knF locate_Check_J2
      rw [if_pos (d_t (by omega)), asrt_pos (by omega), kn_eta, code_same]
      dsimp only [lt]
      rw [hw]
      by_cases g : R_KnownCode (lget l (k : Int)) = 0
      · rw [if_neg (n_f g), if_neg (not_not_intro g)]
        by_cases z : 0 < k
        · have hw2 : w64 ((k : Int) - 1) = ((k - 1 : Nat) : Int) := by rw [w64_id (by omega) (by omega)]; omega
          rw [if_pos (d_t (by omega)), hw2, asrt_pos (by omega), ahd_b]
          by_cases g2 : ahd (lget l ((k - 1 : Nat) : Int)) (lget l (k : Int))
          · rw [if_neg (d_f (not_not_intro g2)), if_neg (fun h => h.2 g2)]
          · rw [if_pos (d_t g2), if_pos ⟨z, g2⟩]; rfl
        · rw [if_neg (d_f (by omega)), if_neg (fun h => z h.1)]
      · rw [if_pos (n_t g), if_pos g]; rfl
    · show locate_Check_B1 l (l.length : Int) = _
      unfold locate_Check_B1
      rw [if_neg (d_f (by omega))]; rfl
/-- what is known is fine -/
structure KGood (l : List Known) : Prop where
  len : l.length ≤ 200
  ok : ∀ k ∈ l, ptOk k.Part
  up : l.Pairwise ahd
theorem ahd_trans {a b c : Known} (hb : ptOk b.Part) (h1 : ahd a b) (h2 : ahd b c) : ahd a c := by
  unfold ahd at *
  refine ⟨h1.1, ?_⟩
  have h3 := hb.2.2.resolve_left h2.1
  cases h : Op.bytesLess c.Part.From a.Part.To with
  | false => rfl
  | true =>
    exfalso
    rcases bl_tri a.Part.To b.Part.From with g | g | g
    · have := bl_trans (bl_trans h g) h3; rw [h2.2] at this; cases this
    · rw [g] at h; have := bl_trans h h3; rw [h2.2] at this; cases this
    · rw [h1.2] at g; cases g
theorem ahd_chain {l : List Known} {n : Nat} (hn : n ≤ l.length) (hc : ∀ k : Nat, k < n → ptOk (lget l (k : Int)).Part) (hs : ∀ k : Nat, 0 < k → k < n → ahd (lget l ((k - 1 : Nat) : Int)) (lget l (k : Int))) : ∀ {j k : Nat}, j < k → k < n → ahd (lget l (j : Int)) (lget l (k : Int)) := by
  intro j k hjk hk
  obtain ⟨d, rfl⟩ : ∃ d, k = j + 1 + d := ⟨k - j - 1, by omega⟩
  clear hjk
  induction d with
  | zero => have := hs (j + 1) (by omega) hk; rw [show j + 1 - 1 = j by omega] at this; exact this
  | succ d ih =>
    have := hs (j + 1 + (d + 1)) (by omega) hk
    rw [show j + 1 + (d + 1) - 1 = j + 1 + d by omega] at this
    exact ahd_trans (hc _ (by omega)) (ih (by omega)) this
theorem knF_none {l : List Known} {k : Nat} : knF l k = none ↔ ptOk (lget l (k : Int)).Part ∧ (0 < k → ahd (lget l ((k - 1 : Nat) : Int)) (lget l (k : Int))) := by
  unfold knF
  by_cases g : R_KnownCode (lget l (k : Int)) = 0
  · rw [if_neg (not_not_intro g)]
    by_cases g2 : 0 < k ∧ ¬ ahd (lget l ((k - 1 : Nat) : Int)) (lget l (k : Int))
    · rw [if_pos g2]
      exact ⟨fun h => (by cases h), fun h => absurd (h.2 g2.1) g2.2⟩
    · rw [if_neg g2]
      exact ⟨fun _ => ⟨kcode_zero.1 g, fun z => Decidable.byContradiction fun h => g2 ⟨z, h⟩⟩, fun _ => rfl⟩
  · rw [if_pos g]
    exact ⟨fun h => (by cases h), fun h => absurd (kcode_zero.2 h.1) g⟩
theorem knF_code {l : List Known} {k : Nat} {x : Fault} (h : knF l k = some x) : x.Code ≠ 0 := by
  unfold knF at h
  split at h
  · rename_i g; cases h; exact g
  · split at h
    · cases h; show (10 : Int) ≠ 0; decide
    · cases h
theorem knownF_good {l : List Known} : (knownF l).Code = 0 ↔ KGood l := by
  unfold knownF
  by_cases c : 200 < l.length
  · rw [if_pos c]
    exact ⟨fun h => absurd h (by decide), fun h => by have := h.len; omega⟩
  · rw [if_neg c]
    rcases firstFrom_cases (knF l) ⟨0, 0⟩ l.length 0 with ⟨h1, h2⟩ | ⟨j, x, h1, h2, h3, _, h5⟩
    · rw [h2]
      refine ⟨fun _ => ?_, fun _ => rfl⟩
      have hk := fun k (hk : k < l.length) => knF_none.1 (h1 k (Nat.zero_le _) (by omega))
      refine ⟨by omega, all_lget.2 fun k hkl => (hk k hkl).1, ?_⟩
      rw [List.pairwise_iff_getElem]
      intro i j hi hj hij
      have := ahd_chain (l := l) (n := l.length) (Nat.le_refl _) (fun k hkl => (hk k hkl).1) (fun k z hkl => (hk k hkl).2 z) hij hj
      rwa [lget_nat l i hi, lget_nat l j hj] at this
    · rw [h5]
      refine ⟨fun h => absurd h (knF_code h3), fun h => ?_⟩
      have : knF l j = none := knF_none.2 ⟨h.ok _ (lget_mem l (j : Int) (by omega)), fun z => by
        have hp := h.up
        rw [List.pairwise_iff_getElem] at hp
        have := hp (j - 1) j (by omega) (by omega) (by omega)
        rwa [← lget_nat l (j - 1) (by omega), ← lget_nat l j (by omega)] at this⟩
      rw [this] at h3; cases h3
theorem knownF_zero {l : List Known} (h : (knownF l).Code = 0) : knownF l = ⟨0, 0⟩ := by
  have hg := knownF_good.1 h
  unfold knownF at h ⊢
  rw [if_neg (by have := hg.len; omega)] at h ⊢
  rcases firstFrom_cases (knF l) ⟨0, 0⟩ l.length 0 with ⟨h1, h2⟩ | ⟨j, x, h1, h2, h3, _, h5⟩
  · exact h2
  · rw [h5] at h; exact absurd h (knF_code h3)
/-- the document's -/
noncomputable def knG (l : List Known) (k : Nat) : Option Fault :=
  if ¬ R_KnownCode (lget l (k : Int)) = 0 then some ⟨R_KnownCode (lget l (k : Int)), k⟩
  else if ∃ j, j < k ∧ ¬ ahd (lget l (j : Int)) (lget l (k : Int)) then some ⟨10, k⟩ else none
theorem firstFrom_same {ρ : Type} {f g : Nat → Option ρ} {r : ρ} {n : Nat} (h : ∀ k, k < n → (∀ i, i < k → f i = none ∧ g i = none) → f k = g k) : firstFrom f r 0 n = firstFrom g r 0 n := by
  have : ∀ m k, k + m = n → (∀ i, i < k → f i = none ∧ g i = none) → firstFrom f r k m = firstFrom g r k m := by
    intro m
    induction m with
    | zero => intro k _ _; rfl
    | succ m ih =>
      intro k e hi
      have hk := h k (by omega) hi
      rw [firstFrom, firstFrom, ← hk]
      cases hf : f k with
      | some x => rfl
      | none =>
        rw [Option.getD_none, Option.getD_none]
        exact ih (k + 1) (by omega) fun i hi2 => by
          by_cases e2 : i = k
          · rw [e2]; exact ⟨hf, by rw [← hk]; exact hf⟩
          · exact hi i (by omega)
  exact this n 0 (by omega) fun i hi => by omega
theorem rknown_eq (l : List Known) : R_KnownFault l = some (knownF l) := by
  unfold R_KnownFault knownF
  by_cases c : 200 < l.length
  · rw [if_pos (d_t (by omega)), if_pos c]; rfl
  · rw [if_neg (d_f (by omega)), if_neg c]
    have hs : firstFrom (knF l) ⟨0, 0⟩ 0 l.length = firstFrom (knG l) ⟨0, 0⟩ 0 l.length := by
      refine firstFrom_same fun k hk hi => ?_
      unfold knF knG
      by_cases g : R_KnownCode (lget l (k : Int)) = 0
      · rw [if_neg (not_not_intro g), if_neg (not_not_intro g)]
        have hf := fun i hik => knF_none.1 (hi i hik).1
        have e : (0 < k ∧ ¬ ahd (lget l ((k - 1 : Nat) : Int)) (lget l (k : Int))) ↔ ∃ j, j < k ∧ ¬ ahd (lget l (j : Int)) (lget l (k : Int)) := by
          constructor
          · rintro ⟨z, h⟩; exact ⟨k - 1, by omega, h⟩
          · rintro ⟨j, hj, h⟩
            refine ⟨by omega, fun h2 => h ?_⟩
            by_cases ej : j = k - 1
            · rw [ej]; exact h2
            · exact ahd_trans (hf (k - 1) (by omega)).1 (ahd_chain (l := l) (n := k) (by omega) (fun i hik => (hf i hik).1) (fun i z hik => (hf i hik).2 z) (show j < k - 1 by omega) (by omega)) h2
        by_cases h : 0 < k ∧ ¬ ahd (lget l ((k - 1 : Nat) : Int)) (lget l (k : Int))
        · rw [if_pos h, if_pos (e.1 h)]
        · rw [if_neg h, if_neg (fun h2 => h (e.2 h2))]
      · rw [if_pos g, if_pos g]
    rw [hs]
    refine loop_firstF (step := fun y => R_KnownFault_B1 l y) (knG l) ⟨0, 0⟩ l.length (fun k hk => ?_) ?_
    · have hw : w64 ((k : Int) + 1) = ((k + 1 : Nat) : Int) := by rw [w64_id (by omega) (by omega)]; omega
      have hL : R_KnownFault_L2 l (k : Int) 0 = some (if ∃ j, j < k ∧ ¬ ahd (lget l (j : Int)) (lget l (k : Int)) then .inr ⟨10, k⟩ else .inl ((k + 1 : Nat) : Int)) := by
        have := loop_any (step := fun y => R_KnownFault_B2 l (k : Int) y) k (fun j => (j : Int)) (fun j => ¬ ahd (lget l (j : Int)) (lget l (k : Int))) (rb := .inr ⟨10, k⟩) (r := .inl ((k + 1 : Nat) : Int))
          (fun j hj hb => by
            have hw : w64 ((j : Int) + 1) = ((j + 1 : Nat) : Int) := by rw [w64_id (by omega) (by omega)]; omega
            show R_KnownFault_B2 l (k : Int) (j : Int) = _
            unfold R_KnownFault_B2
            rw [if_pos (d_t (by omega)), asrt_pos (by omega), asrt_pos (fun _ => by omega), asrt_pos (fun _ => by omega), ahd_b, if_neg (d_f hb), hw])
          (fun j hj hb => by
            show R_KnownFault_B2 l (k : Int) (j : Int) = _
            unfold R_KnownFault_B2
            rw [if_pos (d_t (by omega)), asrt_pos (by omega), asrt_pos (fun _ => by omega), asrt_pos (fun _ => by omega), ahd_b, if_pos (d_t hb)]; rfl)
          (by
            show R_KnownFault_B2 l (k : Int) (k : Int) = _
            unfold R_KnownFault_B2
            rw [if_neg (d_f (by omega))]
            unfold R_KnownFault_J2
            rw [hw]; rfl)
        rcases this with ⟨h1, e⟩ | ⟨h1, e⟩
        · rw [if_pos h1]; exact e
        · rw [if_neg (fun ⟨j, hj, h⟩ => h1 j hj h)]; exact e
      show R_KnownFault_B1 l (k : Int) = _
      unfold R_KnownFault_B1 knG
      rw [if_pos (d_t (by omega)), asrt_pos (by omega), kn_eta]
      dsimp only [lt]
      rw [asrt_pos (by omega), hL]
      by_cases g : R_KnownCode (lget l (k : Int)) = 0
      · rw [if_neg (n_f g), if_neg (not_not_intro g)]
        by_cases h : ∃ j, j < k ∧ ¬ ahd (lget l (j : Int)) (lget l (k : Int))
        · rw [if_pos h, if_pos h]
        · rw [if_neg h, if_neg h]
      · rw [if_pos (n_t g), if_pos g]; rfl
    · show R_KnownFault_B1 l (l.length : Int) = _
      unfold R_KnownFault_B1
      rw [if_neg (d_f (by omega))]; rfl
end G
end Go.Proofs.Ytdjlninhfndjfaa
