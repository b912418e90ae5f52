/- What is put is there. -/
import Derived.Test.YtcnngkigpfpalaaPEntryB
namespace Go.Proofs.Ytcnngkigpfpalaa
open Go Go.Dm
set_option linter.unusedVariables false
set_option linter.unusedSimpArgs false
namespace G
theorem begun : law_entryBegun = some true := by
  unfold law_entryBegun
  rw [put_eq]
  have h : putS [(⟨1, ([97] : List UInt8)⟩ : Entry), (⟨1, ([98] : List UInt8)⟩ : Entry)] 1 1 [(⟨2, ([99] : List UInt8)⟩ : Entry)] = ([(⟨1, ([97] : List UInt8)⟩ : Entry), (⟨2, ([99] : List UInt8)⟩ : Entry)], true, ⟨0, 0⟩) := rfl
  rw [h]
  simp [ob_some, samelog_eq]
theorem stays_loop (a b : List Entry) (p : Nat) (t : Int) (l : List Entry) (f z : Fault) (hp : p ≤ 1000) (ha : a.length ≤ 1000) (hb : b.length ≤ 1000) (hl : p + b.length ≤ l.length) (hl2 : l.length ≤ 1000) :
    ∀ (m k : Nat) (fl : Bool), b.length - k = m → k ≤ b.length → there (p + k) l (b.drop k) → (fl = true → p + b.length ≤ a.length) →
      ∃ fl', law_EntryStays_L1 a b (p : Int) t (l, true, f) (z, fl, (k : Int)) = law_EntryStays_J1 a b (p : Int) t (l, true, f) (z, fl') ∧ (fl' = true ↔ fl = true ∧ there (p + k) a (b.drop k))
  | 0, k, fl, hm, hk, ht, hf => by
    have : k = b.length := by omega
    subst this
    refine ⟨fl, ?_, by simp [there]; intro h; have := hf h; omega⟩
    cases hj : law_EntryStays_J1 a b (p : Int) t (l, true, f) (z, fl) with
    | none =>
      unfold law_EntryStays_L1
      rw [loopO_eq]
      simp [law_EntryStays_B1, hj, inrO]
    | some r =>
      refine loopO_inr ?_
      simp [law_EntryStays_B1, hj, inrO]
  | m + 1, k, fl, hm, hk, ht, hf => by
    have hlt : k < b.length := by omega
    rw [lget_drop b k hlt] at ht ⊢
    obtain ⟨h1, h2, h3⟩ := ht
    have hw : w64 ((k : Int) + 1) = ((k + 1 : Nat) : Int) := by rw [w64_id (by omega) (by omega)]; omega
    have hw2 : w64 ((p : Int) + (k : Int)) = ((p + k : Nat) : Int) := by rw [w64_id (by omega) (by omega)]; omega
    have h0 : (0 : Int) ≤ (k : Int) ∧ (k : Int) < (b.length : Int) := by omega
    have hk1 : (k : Int) < (b.length : Int) := by omega
    obtain ⟨fl', e, i⟩ := stays_loop a b p t l f z hp ha hb hl hl2 m (k + 1) (fl && decide ((lget a ((p + k : Nat) : Int)).Term = (lget b (k : Int)).Term)) (by omega) (by omega) h3 (fun h => hf (by simp at h; exact h.1))
    refine ⟨fl', ?_, ?_⟩
    · refine (loopO_inl (y := (z, (fl && decide ((lget a ((p + k : Nat) : Int)).Term = (lget b (k : Int)).Term)), ((k + 1 : Nat) : Int))) ?_).trans e
      simp only [law_EntryStays_B1, hw2, hw]
      have h2 : (lget l ((p + k : Nat) : Int)).Term = (lget b (k : Int)).Term := h2
      rw [if_pos (d_t hk1), asrt_pos (by omega), asrt_pos h0, if_neg (by rw [h2]; simp), asrt_pos (fun h => by have := hf h; omega), asrt_pos (fun _ => h0)]
      rfl
    · rw [i]
      simp only [Bool.and_eq_true, decide_eq_true_eq, there]
      constructor
      · intro ⟨⟨x, y⟩, w⟩
        have := hf x
        exact ⟨x, by omega, y, w⟩
      · intro ⟨x, y, w, v⟩
        exact ⟨⟨x, w⟩, v⟩
theorem tat_take {l l' : List Entry} {p : Nat} (h : l.take p = l'.take p) (h1 : p ≤ l.length) (h2 : p ≤ l'.length) : tat l (p : Int) = tat l' (p : Int) := by
  unfold tat
  by_cases c : (p : Int) < 1
  · rw [if_pos (.inl c), if_pos (.inl c)]
  · rw [if_neg (by omega), if_neg (by omega)]
    have e : (p : Int) - 1 = ((p - 1 : Nat) : Int) := by omega
    rw [e, lget_of_take h (by omega)]
theorem EntryStays_eq (a b : List Entry) (p t : Int) : law_EntryStays a b p t = some true := by
  unfold law_EntryStays
  simp only [begun, ob_some, Bool.not_true, Bool.false_eq_true, if_false, lt, law_vastLog]
  by_cases v : 300 < (a.length : Int) ∨ 300 < (b.length : Int)
  · have hv : (decide (300 < (a.length : Int)) || decide (300 < (b.length : Int))) = true := or_t v
    simp only [hv, if_true]
  · have hv : (decide (300 < (a.length : Int)) || decide (300 < (b.length : Int))) = false := by simp; omega
    simp only [hv, Bool.false_eq_true, if_false]
    rw [put_eq, ob_some]
    unfold putS
    by_cases c : (putF a p t b).Code = 0
    · rw [if_pos c]
      obtain ⟨g1, g2, g3, g4, g5, g6⟩ := putF_good c
      by_cases hf : fits a p t
      · rw [if_pos hf]
        by_cases hg : (fof (put p.toNat a b)).Code = 0
        · rw [if_pos hg]
          obtain ⟨q, rfl⟩ : ∃ q : Nat, p = (q : Int) := ⟨p.toNat, by omega⟩
          have hq : (q : Int).toNat = q := by omega
          simp only [hq] at hg ⊢
          obtain ⟨o1, o2, o3⟩ := fof_good hg
          obtain ⟨b1, b2, b3⟩ := fof_good g3
          obtain ⟨a1, a2, a3⟩ := fof_good g2
          have hqa : q ≤ a.length := by have := hf.1; omega
          have p1 := put_len b q a hqa
          have p2 := put_take b q a hqa
          have p3 := put_there b q a hqa
          generalize hL : put q a b = L at *
          have hw : w64 ((q : Int) + (b.length : Int)) = ((q + b.length : Nat) : Int) := by rw [w64_id (by omega) (by omega)]; omega
          have hcond : ((decide ((q : Int) < 0) || decide ((a.length : Int) < (q : Int))) || decide ((L.length : Int) < ((q + b.length : Nat) : Int))) = false := by simp; omega
          have hsame : R_SameLog (ltake L (q : Int)) (ltake a (q : Int)) = some true := by
            rw [samelog_eq _ _ (by simp [ltake]; omega), ltake_nat, ltake_nat, p2]; simp
          simp only [hw, hcond, hg, Bool.not_true, Bool.not_false, decide_true, Bool.false_eq_true, if_false, if_true, hsame, ob_some, Bool.false_or]
          rw [asrt_pos (fun _ => by omega), asrt_pos (fun _ => by omega)]
          obtain ⟨fl, e, i⟩ := stays_loop a b q t L (fof L) (fof L) (by omega) (by omega) (by omega) p1.1 (by omega) b.length 0 (decide (((q + b.length : Nat) : Int) ≤ (a.length : Int))) (by omega) (by omega) (by simpa using p3) (fun h => by simp at h; omega)
          have h0 : ((0 : Nat) : Int) = 0 := rfl
          rw [h0] at e
          rw [e]
          unfold law_EntryStays_J1
          simp only [Nat.add_zero, List.drop_zero, decide_eq_true_eq] at i
          have hput : entry_Put_v1 L (q : Int) t b = some (L, true, fof L) := by
            rw [put_eq]
            unfold putS
            have f1 : (putF L (q : Int) t b).Code = 0 := by
              unfold putF
              have : (two L b).Code = 0 := by unfold two; rw [if_pos hg, if_pos g3]; exact g3
              rw [if_pos this]; exact g6
            have f2 : fits L (q : Int) t := ⟨by omega, by rw [tat_take p2 (by omega) hqa]; exact hf.2⟩
            rw [if_pos f1, if_pos f2, hq, there_put b q L p3, if_pos hg]
          simp only [hput, ob_some, samelog_eq L L (by omega), hg, decide_true, Bool.true_and, if_true, Bool.and_true, check_fof, hw]
          cases fl with
          | true =>
            have := i.1 rfl
            have hLa : L = a := by rw [← hL]; exact there_put b q a this.2
            have ss : R_SameLog L a = some true := by rw [samelog_eq L a (by omega), hLa]; simp
            simp [ss, ob_some, lt]
          | false =>
            have hn : ¬ there q a b := fun h => by
              have h1 := there_len b q a h
              have := i.2 ⟨by omega, h⟩
              cases this
            have := p1.2 hn
            simp [ob_some, this, lt]
        · rw [if_neg hg]
          simp [hg]
      · rw [if_neg hf]
        obtain ⟨a1, a2, a3⟩ := fof_good g2
        simp [c, samelog_eq a a (by omega), ob_some]
    · rw [if_neg c]
      simp [c]
end G
end Go.Proofs.Ytcnngkigpfpalaa
