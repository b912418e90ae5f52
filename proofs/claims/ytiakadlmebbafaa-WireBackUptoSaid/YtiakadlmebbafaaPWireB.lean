/- Texts as bytes. -/
import Derived.Test.YtiakadlmebbafaaPWireA
namespace Go.Proofs.Ytiakadlmebbafaa
open Go Go.Dm
set_option linter.unusedVariables false
set_option linter.unusedSimpArgs false
namespace G
theorem addText_eq (s r : List UInt8) (hs : s.length ≤ 1000000000) (hr : r.length ≤ 1000000000) : wire_AddText_v2 s r = some (r ++ wrT s) := by
  have h5 := num_len5 hs
  unfold wire_AddText_v2
  rw [addNum_eq s.length r (by omega), ob_some, asrt_pos (by simp; omega), List.append_assoc]; rfl
theorem wrT_len (s : List UInt8) (hs : s.length ≤ 1000000000) : (wrT s).length ≤ s.length + 5 ∧ s.length < (wrT s).length := by
  have h5 := num_len5 hs
  have h1 := num_pos s.length
  unfold wrT
  simp; omega
def encT (l : List (List UInt8)) : List UInt8 := wrAll wrT l
theorem encT_cons (s : List UInt8) (l : List (List UInt8)) : encT (s :: l) = wrT s ++ encT l := by simp [encT, wrAll]
def textsS (l : List (List UInt8)) : List UInt8 × Fault :=
  if 1000 < l.length then ([], ⟨2, 0⟩) else if 60000 < (encT l).length then ([], ⟨9, 0⟩) else (encT l, ⟨0, 0⟩)
theorem texts_loop (l : List (List UInt8)) (hl : l.length ≤ 1000) (hs : ∀ s ∈ l, s.length ≤ 1000000000) (z : Fault) : ∀ (m k : Nat) (acc : List UInt8), l.length - k = m → k ≤ l.length → acc.length ≤ 60000 →
    wire_Texts_v1_L1 l (z, acc, (k : Int)) = some (if 60000 < (acc ++ encT (l.drop k)).length then ([], ⟨9, 0⟩) else (acc ++ encT (l.drop k), ⟨0, 0⟩))
  | 0, k, acc, e, hk, ha => by
    have : k = l.length := by omega
    subst this
    have e0 : acc ++ encT (l.drop l.length) = acc := by simp [encT, wrAll]
    rw [e0, if_neg (by omega)]
    refine loopO_inr ?_
    simp only [wire_Texts_v1_B1]
    rw [if_neg (d_f (by omega))]
    rfl
  | m + 1, k, acc, e, hk, ha => by
    have hlt : k < l.length := by omega
    have hw : w64 ((k : Int) + 1) = ((k + 1 : Nat) : Int) := by rw [w64_id (by omega) (by omega)]; omega
    have hx := hs _ (lget_mem l (k : Int) (by omega))
    rw [lget_drop l k hlt, encT_cons, ← List.append_assoc]
    have h1 := addText_eq (lget l (k : Int)) acc hx (by omega)
    generalize hacc : acc ++ wrT (lget l (k : Int)) = acc' at *
    by_cases c : 60000 < acc'.length
    · rw [if_pos (by rw [List.length_append]; omega)]
      refine loopO_inr ?_
      simp only [wire_Texts_v1_B1]
      rw [if_pos (d_t (by omega)), asrt_pos (by omega), h1, ob_some, if_pos (d_t (by omega))]; rfl
    · refine (loopO_inl (y := (z, acc', ((k + 1 : Nat) : Int))) ?_).trans (texts_loop l hl hs z m (k + 1) acc' (by omega) (by omega) (by omega))
      simp only [wire_Texts_v1_B1]
      rw [if_pos (d_t (by omega)), asrt_pos (by omega), h1, ob_some, if_neg (d_f (by omega)), hw]
theorem texts_eq (l : List (List UInt8)) (hs : ∀ s ∈ l, s.length ≤ 1000000000) : wire_Texts_v1 l = some (textsS l) := by
  unfold wire_Texts_v1 textsS
  by_cases c : 1000 < l.length
  · rw [if_pos (d_t (by omega)), if_pos c]; rfl
  · rw [if_neg (d_f (by omega)), if_neg c]
    have := texts_loop l (by omega) hs ⟨0, 0⟩ l.length 0 [] (by omega) (by omega) (by simp)
    simpa using this
def tfin : Option (List UInt8 × List UInt8) → List UInt8 × Reader
  | some (s, r) => (s, ⟨r, false⟩)
  | none => ([], ⟨[], true⟩)
theorem text_eq (b : List UInt8) (hb : b.length ≤ 1000000000) : wire_Reader_Text ⟨b, false⟩ = some (tfin (rdT b)) := by
  have h0 := num_eq b false (by omega)
  unfold wire_Reader_Text
  cases hd : rdN b with
  | none =>
    have e : rdT b = none := by simp [rdT, hd]
    have h1 : wire_Reader_Num ⟨b, false⟩ = some (0, ⟨[], true⟩) := by rw [h0, hd]; rfl
    rw [h1, ob_some, e]; rfl
  | some p =>
    obtain ⟨n, r⟩ := p
    have hn := (rdN_some hd).2
    have h1 : wire_Reader_Num ⟨b, false⟩ = some ((n : Int), ⟨r, false⟩) := by rw [h0, hd]; rfl
    rw [h1, ob_some]
    dsimp only
    rw [Bool.false_or]
    by_cases c : n ≤ r.length
    · have e : rdT b = some (r.take n, r.drop n) := by simp [rdT, hd, c]
      rw [if_neg (d_f (by omega)), asrt_pos (by omega), asrt_pos (by omega), ltake_nat, ldrop_nat, e]; rfl
    · have e : rdT b = none := by simp [rdT, hd, c]
      rw [if_pos (d_t (by omega)), e]; rfl
def rtS : List (List UInt8) ⊕ Nat → List (List UInt8) × Fault
  | .inl l => if 1000 < l.length then ([], ⟨2, 0⟩) else (l, ⟨0, 0⟩)
  | .inr n => ([], ⟨5, n⟩)
theorem readTexts_J1 (z : Fault) (l : List (List UInt8)) : wire_ReadTexts_v1_J1 (z, l) = some (rtS (.inl l)) := by
  simp only [wire_ReadTexts_v1_J1, rtS]
  by_cases c : 1000 < l.length
  · rw [if_pos (d_t (by omega))]; simp only [if_pos c]; rfl
  · rw [if_neg (d_f (by omega))]; simp only [if_neg c]
theorem rdT_len {b s r : List UInt8} (h : rdT b = some (s, r)) : r.length < b.length := by
  obtain ⟨h1, h2⟩ := rdT_some h
  have := (wrT_len s h2).2
  rw [h1, List.length_append]; omega
theorem readTexts_loop (z : Fault) : ∀ (k : Nat) (b : List UInt8) (acc : List (List UInt8)), b.length ≤ k → acc.length + b.length ≤ 1000000 →
    wire_ReadTexts_v1_L1 (z, acc, ⟨b, false⟩) = some (rtS (rdAll rdT k b acc))
  | k, [], acc, hk, ha => by
    rw [rdAll_nil]
    refine loopO_inr ?_
    simp [wire_ReadTexts_v1_B1, wire_Reader_More, lt, readTexts_J1, inrO]
  | 0, x :: b, acc, hk, ha => by simp at hk
  | k + 1, x :: b, acc, hk, ha => by
    rw [rdAll, if_neg (by simp)]
    have hm : wire_Reader_More ⟨x :: b, false⟩ = true := by simp [wire_Reader_More]
    have hb : (x :: b).length ≤ 1000000 := by omega
    generalize hbb : x :: b = bb at *
    cases hd : rdT bb with
    | none =>
      refine loopO_inr ?_
      simp only [wire_ReadTexts_v1_B1, hm, lt, if_true]
      rw [text_eq bb (by omega), hd, ob_some]
      rfl
    | some p =>
      obtain ⟨s, r⟩ := p
      have h3 := rdT_len hd
      refine (loopO_inl (y := (z, acc ++ [s], ⟨r, false⟩)) ?_).trans (readTexts_loop z k r (acc ++ [s]) (by omega) (by simp; omega))
      simp only [wire_ReadTexts_v1_B1, hm, lt, if_true]
      rw [text_eq bb (by omega), hd, ob_some]
      simp only [tfin, Bool.false_eq_true, if_false]
      rw [asrt_pos (by simp; omega)]
def readTextsS (b : List UInt8) : List (List UInt8) × Fault := if 60000 < b.length then ([], ⟨8, 0⟩) else rtS (rdAll rdT b.length b [])
theorem readTexts_eq (b : List UInt8) : wire_ReadTexts_v1 b = some (readTextsS b) := by
  unfold wire_ReadTexts_v1 readTextsS
  by_cases c : 60000 < b.length
  · rw [if_pos (d_t (by omega)), if_pos c]; rfl
  · rw [if_neg (d_f (by omega)), if_neg c]
    exact readTexts_loop _ b.length b [] (Nat.le_refl _) (by simp; omega)
theorem sameTexts_loop (a b : List (List UInt8)) (hl : a.length = b.length) (hb : a.length ≤ 1000000) : ∀ (m k : Nat), a.length - k = m → k ≤ a.length → R_SameTexts_L1 a b (k : Int) = some (decide (a.drop k = b.drop k))
  | 0, k, e, hk => by
    have : k = a.length := by omega
    refine loopO_inr ?_
    simp only [R_SameTexts_B1]
    rw [if_neg (d_f (by omega))]
    have e1 : a.drop k = [] := List.drop_eq_nil_of_le (by omega)
    have e2 : b.drop k = [] := List.drop_eq_nil_of_le (by omega)
    simp [inrO, R_SameTexts_J1, e1, e2]
  | m + 1, k, e, hk => by
    have hw : w64 ((k : Int) + 1) = ((k + 1 : Nat) : Int) := by rw [w64_id (by omega) (by omega)]; omega
    have ih := sameTexts_loop a b hl hb m (k + 1) (by omega) (by omega)
    rw [lget_drop a k (by omega), lget_drop b k (by omega)]
    by_cases c : lget a (k : Int) = lget b (k : Int)
    · refine (loopO_inl (y := ((k + 1 : Nat) : Int)) ?_).trans (ih.trans (by simp [c]))
      simp only [R_SameTexts_B1]
      rw [if_pos (d_t (by omega)), asrt_pos (by omega), asrt_pos (by omega), if_neg (by simp [c]), hw]
    · refine loopO_inr ?_
      simp only [R_SameTexts_B1]
      rw [if_pos (d_t (by omega)), asrt_pos (by omega), asrt_pos (by omega), if_pos (by simp [c])]
      simp [c]
theorem sameTexts_eq (a b : List (List UInt8)) (hb : a.length ≤ 1000000) : R_SameTexts a b = some (decide (a = b)) := by
  unfold R_SameTexts
  by_cases c : a.length = b.length
  · rw [if_neg (by simp [c])]
    have := sameTexts_loop a b c hb a.length 0 (by omega) (by omega)
    simpa using this
  · rw [if_pos (by simp; omega)]
    have : a ≠ b := fun h => c (by rw [h])
    simp [this]
end G
end Go.Proofs.Ytiakadlmebbafaa
