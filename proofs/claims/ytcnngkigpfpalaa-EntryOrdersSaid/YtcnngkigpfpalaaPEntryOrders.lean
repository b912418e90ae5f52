/- Logs: which one is older. -/
import Derived.Test.YtcnngkigpfpalaaPEntryA
namespace Go.Proofs.Ytcnngkigpfpalaa
open Go Go.Dm
set_option linter.unusedVariables false
set_option linter.unusedSimpArgs false
namespace G
/-- the term of the last entry -/
def lastT (l : List Entry) : Int := if l.length = 0 then 0 else (lget l ((l.length : Int) - 1)).Term
theorem lastTerm_eq (l : List Entry) (hl : l.length ≤ 1000) : R_LastTerm l = some (lastT l) := by
  unfold R_LastTerm lastT
  by_cases h : l.length = 0
  · simp [h]
  · have h' : ¬ (l.length : Int) = 0 := by omega
    rw [if_neg (d_f h'), if_neg h, w64_id (by omega) (by omega), asrt_pos (by omega)]
theorem termAt_last (l : List Entry) (hl : l.length ≤ 1000) : entry_TermAt l (l.length : Int) = some (lastT l) := by
  unfold entry_TermAt lastT
  by_cases h : l.length = 0
  · rw [if_pos (or_t (.inl (by omega))), if_pos h]
  · rw [if_neg (or_f (by omega)), if_neg h, w64_id (by omega) (by omega), asrt_pos (by omega)]
theorem lastT_in (l : List Entry) (h : ∀ e ∈ l, 1 ≤ e.Term ∧ e.Term ≤ 1000000000) : 0 ≤ lastT l ∧ lastT l ≤ 1000000000 := by
  unfold lastT
  split
  · omega
  · rename_i hn
    have : lget l ((l.length : Int) - 1) ∈ l := by
      have e : ((l.length : Int) - 1).toNat = l.length - 1 := by omega
      have hlt : l.length - 1 < l.length := by omega
      simp [lget, List.getD, e, hlt]
    have := h _ this
    omega
/-- a log is older than another one -/
def older (a : List Entry) (n t : Int) : Prop := lastT a < t ∨ lastT a = t ∧ (a.length : Int) < n
instance (a : List Entry) (n t : Int) : Decidable (older a n t) := by unfold older; infer_instance
theorem older_eq (l : List Entry) (hl : l.length ≤ 100) (hc : chk l 0 0 = ⟨0, 0⟩) (n t : Int) (hn : 0 ≤ n ∧ n ≤ 1000000000) (ht : 0 ≤ t ∧ t ≤ 1000000000) : entry_Older l n t = some (decide (older l n t), ⟨0, 0⟩) := by
  unfold entry_Older
  rw [check_eq, if_neg (by omega), hc]
  have e1 : entry_ranged n t = ⟨0, 0⟩ := by simp [entry_ranged, entry_number, lt, hn, ht]
  have e2 : entry_IsOlder l n t = some (decide (older l n t)) := by
    unfold entry_IsOlder
    rw [termAt_last l (by omega)]
    simp only [ob_some, lt, older]
    congr 1
    rw [Bool.eq_iff_iff]
    simp only [Bool.or_eq_true, Bool.and_eq_true, decide_eq_true_eq]
    exact decide_eq_true_iff.symm
  simp [ob, lt, e1, e2]
theorem begun : law_entryBegun = some true := by
  have hput : entry_Put_v1 [(⟨1, ([97] : List UInt8)⟩ : Entry), (⟨1, ([98] : List UInt8)⟩ : Entry)] 1 1 [(⟨2, ([99] : List UInt8)⟩ : Entry)] = some ([(⟨1, ([97] : List UInt8)⟩ : Entry), (⟨2, ([99] : List UInt8)⟩ : Entry)], true, ⟨0, 0⟩) := by
    have w0 : w64 0 = 0 := by decide
    have w1 : w64 1 = 1 := by decide
    have w2 : w64 2 = 2 := by decide
    have c1 : entry_Check [(⟨1, ([97] : List UInt8)⟩ : Entry), (⟨1, ([98] : List UInt8)⟩ : Entry)] = some ⟨0, 0⟩ := by rw [check_eq]; rfl
    have c2 : entry_Check [(⟨2, ([99] : List UInt8)⟩ : Entry)] = some ⟨0, 0⟩ := by rw [check_eq]; rfl
    have c3 : entry_Check [(⟨1, ([97] : List UInt8)⟩ : Entry), (⟨2, ([99] : List UInt8)⟩ : Entry)] = some ⟨0, 0⟩ := by rw [check_eq]; rfl
    have cl : slices_Clone_api_Entry_api_Entry [(⟨1, ([97] : List UInt8)⟩ : Entry), (⟨1, ([98] : List UInt8)⟩ : Entry)] = some [(⟨1, ([97] : List UInt8)⟩ : Entry), (⟨1, ([98] : List UInt8)⟩ : Entry)] := by
      simp [slices_Clone_api_Entry_api_Entry, ubO, asrt]
    have f : entry_Fits [(⟨1, ([97] : List UInt8)⟩ : Entry), (⟨1, ([98] : List UInt8)⟩ : Entry)] 1 1 = some true := by
      simp [entry_Fits, entry_TermAt, asrt, w0, ob, lget]
    have l1 : entry_Put_v1_L1 1 [(⟨2, ([99] : List UInt8)⟩ : Entry)] (⟨0, 0⟩, ⟨0, 0⟩, [(⟨1, ([97] : List UInt8)⟩ : Entry), (⟨1, ([98] : List UInt8)⟩ : Entry)], 0) = some ([(⟨1, ([97] : List UInt8)⟩ : Entry), (⟨2, ([99] : List UInt8)⟩ : Entry)], true, ⟨0, 0⟩) := by
      refine (loopO_inl (y := (⟨0, 0⟩, ⟨0, 0⟩, [(⟨1, ([97] : List UInt8)⟩ : Entry), (⟨2, ([99] : List UInt8)⟩ : Entry)], 1)) ?_).trans (loopO_inr ?_)
      · simp [entry_Put_v1_B1, asrt, w0, w1, ob, lt, lget, show min (1 : Int) 2 = 1 by decide]
      · simp [entry_Put_v1_B1, inrO, entry_Put_v1_J1, c3, ob]
    simp [entry_Put_v1, entry_two, c1, c2, ob, entry_ranged, entry_number, lt, cl, f, l1]
  have hs : R_SameLog [(⟨1, ([97] : List UInt8)⟩ : Entry), (⟨2, ([99] : List UInt8)⟩ : Entry)] [(⟨1, ([97] : List UInt8)⟩ : Entry), (⟨2, ([99] : List UInt8)⟩ : Entry)] = some true := by
    have w1 : w64 1 = 1 := by decide
    have w2 : w64 2 = 2 := by decide
    unfold R_SameLog
    simp only [List.length_cons, List.length_nil, decide_true, Bool.not_true, Bool.false_eq_true, if_false]
    refine (loopO_inl (y := 1) ?_).trans ((loopO_inl (y := 2) ?_).trans (loopO_inr ?_))
    · simp [R_SameLog_B1, asrt, w1, lget]
    · simp [R_SameLog_B1, asrt, w2, lget]
    · simp [R_SameLog_B1, inrO, R_SameLog_J1]
  simp [law_entryBegun, hput, ob, hs]
theorem EntryOrders_eq (a b c : List Entry) (ha : a.length ≤ 9223372036854775807) (hb : b.length ≤ 9223372036854775807) (hc : c.length ≤ 9223372036854775807) : law_EntryOrders a b c = some true := by
  unfold law_EntryOrders
  simp only [begun, ob_some, Bool.not_true, Bool.false_eq_true, if_false, lt, law_vastLog]
  by_cases v : 300 < (a.length : Int) ∨ 300 < (b.length : Int) ∨ 300 < (c.length : Int)
  · have : (decide (300 < (a.length : Int)) || decide (300 < (b.length : Int)) || decide (300 < (c.length : Int))) = true := by simpa [or_assoc] using v
    simp [this, ob]
  · have : (decide (300 < (a.length : Int)) || decide (300 < (b.length : Int)) || decide (300 < (c.length : Int))) = false := by simp; omega
    simp only [this, Bool.not_false, if_true, rlog_eq, ob_some, Bool.false_or]
    generalize hfa : (if 100 < (a.length : Int) then (⟨2, -1⟩ : Fault) else chk a 0 0) = fa
    generalize hfb : (if 100 < (b.length : Int) then (⟨2, -1⟩ : Fault) else chk b 0 0) = fb
    generalize hfc : (if 100 < (c.length : Int) then (⟨2, -1⟩ : Fault) else chk c 0 0) = fc
    by_cases ca : fa.Code = 0
    · by_cases cb : fb.Code = 0
      · by_cases cc : fc.Code = 0
        · have good : ∀ (l : List Entry) (f : Fault), (if 100 < (l.length : Int) then (⟨2, -1⟩ : Fault) else chk l 0 0) = f → f.Code = 0 → l.length ≤ 100 ∧ chk l 0 0 = ⟨0, 0⟩ ∧ ∀ e ∈ l, 1 ≤ e.Term ∧ e.Term ≤ 1000000000 := by
            intro l f h h0
            split at h
            · subst h; cases h0
            · subst h
              obtain ⟨h1, h2⟩ := chk_zero l 0 0 h0
              exact ⟨by omega, h1, h2⟩
          obtain ⟨a1, a2, a3⟩ := good a fa hfa ca
          obtain ⟨b1, b2, b3⟩ := good b fb hfb cb
          obtain ⟨c1, c2, c3⟩ := good c fc hfc cc
          have ta := lastT_in a a3
          have tb := lastT_in b b3
          have tc := lastT_in c c3
          simp only [ca, cb, cc, decide_true, Bool.not_true, Bool.or_false, Bool.false_eq_true, if_false, if_true, ob_some, Bool.not_false, lastTerm_eq a (by omega), lastTerm_eq b (by omega), lastTerm_eq c (by omega),
            older_eq a a1 a2 _ _ (show 0 ≤ (b.length : Int) ∧ (b.length : Int) ≤ 1000000000 by omega) tb, older_eq b b1 b2 _ _ (show 0 ≤ (a.length : Int) ∧ (a.length : Int) ≤ 1000000000 by omega) ta,
            older_eq b b1 b2 _ _ (show 0 ≤ (c.length : Int) ∧ (c.length : Int) ≤ 1000000000 by omega) tc, older_eq a a1 a2 _ _ (show 0 ≤ (c.length : Int) ∧ (c.length : Int) ≤ 1000000000 by omega) tc, Bool.false_or]
          have k1 : ¬ (older a b.length (lastT b) ∧ older b a.length (lastT a)) := by unfold older; omega
          have k2 : older a b.length (lastT b) → older b c.length (lastT c) → older a c.length (lastT c) := by unfold older; omega
          by_cases o1 : older a b.length (lastT b)
          · have o2 : ¬ older b a.length (lastT a) := fun h => k1 ⟨o1, h⟩
            by_cases o3 : older b c.length (lastT c)
            · simp [o1, o2, o3, k2 o1 o3]
            · simp [o1, o2, o3]
          · simp [o1]
        · simp [ca, cb, cc, ob]
      · simp [ca, cb, ob]
    · simp [ca, ob]
end G
end Go.Proofs.Ytcnngkigpfpalaa
