/- Texts are written and read as the document says. -/
import Derived.Test.YtiakadlmebbafaaPWireB
namespace Go.Proofs.Ytiakadlmebbafaa
open Go Go.Dm
set_option linter.unusedVariables false
set_option linter.unusedSimpArgs false
namespace G
theorem written_eq (s : List UInt8) (hs : s.length ≤ 1000000000) : R_Written_v1 s = some (wrT s) := by
  have h5 := num_len5 hs
  unfold R_Written_v1
  rw [rnumber s.length (by omega), ob_some, asrt_pos (by simp; omega)]; rfl
def rtR : List (List UInt8) ⊕ Nat → List (List UInt8) × Int
  | .inl l => (l, -1)
  | .inr n => ([], n)
theorem readWritten_loop : ∀ (k : Nat) (b : List UInt8) (acc : List (List UInt8)), b.length ≤ k → acc.length + b.length ≤ 1000000 →
    R_ReadWritten_v1_L1 (b, acc) = some (rtR (rdAll rdT k b acc))
  | k, [], acc, hk, ha => by
    rw [rdAll_nil]
    refine loopO_inr ?_
    simp [R_ReadWritten_v1_B1, R_ReadWritten_v1_J1, inrO, rtR]
  | 0, x :: b, acc, hk, ha => by simp at hk
  | k + 1, x :: b, acc, hk, ha => by
    rw [rdAll, if_neg (by simp)]
    have hpos : 0 < (x :: b).length := by simp
    have hb : (x :: b).length ≤ 1000000 := by omega
    generalize hbb : x :: b = bb at *
    cases hd : rdN bb with
    | none =>
      have e : rdT bb = none := by simp [rdT, hd]
      have e2 : rnat bb = (0, 0) := by simp [rnat, hd]
      rw [e]
      refine loopO_inr ?_
      simp only [R_ReadWritten_v1_B1]
      rw [if_pos (d_t (by omega)), numAt_eq bb (by omega), ob_some, e2, if_pos (by simp)]
      rfl
    | some p =>
      obtain ⟨n, r⟩ := p
      have e2 : rnat bb = ((n : Int), ((num n).length : Int)) := by simp [rnat, hd]
      obtain ⟨h1, hn⟩ := rdN_some hd
      have h2 := num_pos n
      have h3 : bb.length = (num n).length + r.length := by rw [h1, List.length_append]
      have hw1 : w64 ((bb.length : Int) - ((num n).length : Int)) = (r.length : Int) := by rw [w64_id (by omega) (by omega)]; omega
      by_cases c : n ≤ r.length
      · have e : rdT bb = some (r.take n, r.drop n) := by simp [rdT, hd, c]
        have hw2 : w64 (((num n).length : Int) + (n : Int)) = (((num n).length + n : Nat) : Int) := by rw [w64_id (by omega) (by omega)]; omega
        have h4 : (bb.take ((num n).length + n)).drop (num n).length = r.take n := by
          rw [h1]; simp [List.take_append, List.drop_append]
        have h5 : bb.drop ((num n).length + n) = r.drop n := by
          rw [h1]; simp [List.drop_append]
        rw [e]
        refine (loopO_inl (y := (r.drop n, acc ++ [r.take n])) ?_).trans (readWritten_loop k (r.drop n) (acc ++ [r.take n]) (by simp; omega) (by simp; omega))
        simp only [R_ReadWritten_v1_B1]
        rw [if_pos (d_t (by omega)), numAt_eq bb (by omega), ob_some, e2]
        dsimp only
        rw [hw1, hw2, if_neg (or_f (by omega)), asrt_pos (by omega), ltake_nat, ldrop_nat, ldrop_nat, h4, h5, asrt_pos (by simp; omega)]
        dsimp only [lt]
        rw [asrt_pos (by omega)]
      · have e : rdT bb = none := by simp [rdT, hd, c]
        rw [e]
        refine loopO_inr ?_
        simp only [R_ReadWritten_v1_B1]
        rw [if_pos (d_t (by omega)), numAt_eq bb (by omega), ob_some, e2]
        dsimp only
        rw [hw1, if_pos (or_t (.inr (by omega)))]
        rfl
theorem readWritten_eq (b : List UInt8) (hb : b.length ≤ 60000) : R_ReadWritten_v1 b = some (rtR (rdAll rdT b.length b [])) :=
  readWritten_loop b.length b [] (Nat.le_refl _) (by simp; omega)
def lens (l : List (List UInt8)) : Nat := (l.map List.length).sum
theorem lens_cons (s : List UInt8) (l : List (List UInt8)) : lens (s :: l) = s.length + lens l := by simp [lens]
theorem lens_mem {l : List (List UInt8)} {s : List UInt8} (h : s ∈ l) : s.length ≤ lens l := by
  induction l with
  | nil => cases h
  | cons x l ih =>
    rw [lens_cons]
    rcases List.mem_cons.1 h with rfl | h
    · omega
    · have := ih h; omega
theorem encT_len (l : List (List UInt8)) (h : ∀ s ∈ l, s.length ≤ 1000000000) : (encT l).length ≤ lens l + 5 * l.length := by
  induction l with
  | nil => simp [encT, wrAll]
  | cons s l ih =>
    have h1 := ih fun x hx => h x (by simp [hx])
    have h2 := wrT_len s (h s (by simp))
    rw [encT_cons, lens_cons]; simp; omega
theorem sum_loop (l : List (List UInt8)) (b : List UInt8) (hl : l.length ≤ 3000) (hs : ∀ s ∈ l, s.length ≤ 140737488351232) : ∀ (m k a : Nat), l.length - k = m → k ≤ l.length → a ≤ k * 140737488351232 →
    law_WireTexts_L2 l b ((a : Int), (k : Int)) = law_WireTexts_J1 l b ((a + lens (l.drop k) : Nat) : Int)
  | 0, k, a, e, hk, ha => by
    have : k = l.length := by omega
    subst this
    have e0 : lens (l.drop l.length) = 0 := by simp [lens]
    rw [e0, Nat.add_zero]
    unfold law_WireTexts_L2
    rw [loopO_eq]
    simp only [law_WireTexts_B2]
    rw [if_neg (d_f (by omega))]
    cases law_WireTexts_J1 l b (a : Int) <;> rfl
  | m + 1, k, a, e, hk, ha => by
    have hlt : k < l.length := by omega
    have hw : w64 ((k : Int) + 1) = ((k + 1 : Nat) : Int) := by rw [w64_id (by omega) (by omega)]; omega
    have hx := hs _ (lget_mem l (k : Int) (by omega))
    have hw2 : w64 ((a : Int) + ((lget l (k : Int)).length : Int)) = ((a + (lget l (k : Int)).length : Nat) : Int) := by rw [w64_id (by omega) (by omega)]; omega
    have ih := sum_loop l b hl hs m (k + 1) (a + (lget l (k : Int)).length) (by omega) (by omega) (by omega)
    rw [lget_drop l k hlt, lens_cons, ← Nat.add_assoc]
    refine (loopO_inl (y := (((a + (lget l (k : Int)).length : Nat) : Int), ((k + 1 : Nat) : Int))) ?_).trans ih
    simp only [law_WireTexts_B2]
    rw [if_pos (d_t (by omega)), asrt_pos (by omega), hw2, hw]
theorem all_loop (l : List (List UInt8)) (b : List UInt8) (x1 : List UInt8 × Fault) (x3 : List (List UInt8) × Fault) (f1 f2 : Fault) (hl : l.length ≤ 3000) (hs : ∀ s ∈ l, s.length ≤ 1000000) : ∀ (m k : Nat) (acc : List UInt8), l.length - k = m → k ≤ l.length → acc.length ≤ k * 1000005 →
    law_WireTexts_L1 l b x1 x3 (f1, f2, acc, (k : Int)) = law_WireTexts_J2 l b x1 x3 (f1, f2, acc ++ encT (l.drop k))
  | 0, k, acc, e, hk, ha => by
    have : k = l.length := by omega
    subst this
    have e0 : acc ++ encT (l.drop l.length) = acc := by simp [encT, wrAll]
    rw [e0]
    unfold law_WireTexts_L1
    rw [loopO_eq]
    simp only [law_WireTexts_B1]
    rw [if_neg (d_f (by omega))]
    cases law_WireTexts_J2 l b x1 x3 (f1, f2, acc) <;> rfl
  | m + 1, k, acc, e, hk, ha => by
    have hlt : k < l.length := by omega
    have hw : w64 ((k : Int) + 1) = ((k + 1 : Nat) : Int) := by rw [w64_id (by omega) (by omega)]; omega
    have hx := hs _ (lget_mem l (k : Int) (by omega))
    have h2 := wrT_len (lget l (k : Int)) (by omega)
    have ih := all_loop l b x1 x3 f1 f2 hl hs m (k + 1) (acc ++ wrT (lget l (k : Int))) (by omega) (by omega) (by simp; omega)
    rw [lget_drop l k hlt, encT_cons, ← List.append_assoc]
    refine (loopO_inl (y := (f1, f2, acc ++ wrT (lget l (k : Int)), ((k + 1 : Nat) : Int))) ?_).trans ih
    simp only [law_WireTexts_B1]
    rw [if_pos (d_t (by omega)), asrt_pos (by omega), written_eq _ (by omega), ob_some, asrt_pos (by simp; omega), hw]
def wantT (l : List (List UInt8)) : Fault := if 1000 < l.length then ⟨2, 0⟩ else if 60000 < (encT l).length then ⟨9, 0⟩ else ⟨0, 0⟩
theorem bytesT_eq (l : List (List UInt8)) : law_bytesAs_v1 (textsS l).1 (textsS l).2 (wantT l) (encT l) = true := by
  unfold law_bytesAs_v1 textsS wantT
  by_cases c : 1000 < l.length
  · simp [c]
  · by_cases c2 : 60000 < (encT l).length
    · simp [c, c2]
    · simp [c, c2, lt, R_Same]
theorem texts_J2 (l : List (List UInt8)) (b : List UInt8) : law_WireTexts_J2 l b (textsS l) (readTextsS b) ((textsS l).2, (readTextsS b).2, encT l) = some true := by
  have hw : (if decide (1000 < (l.length : Int)) = true then lt (R_F 2 0) fun x4 => some ((textsS l).2, (readTextsS b).2, x4) else if decide (60000 < ((encT l).length : Int)) = true then lt (R_F 9 0) fun x5 => some ((textsS l).2, (readTextsS b).2, x5) else some ((textsS l).2, (readTextsS b).2, (⟨0, 0⟩ : Fault))) = some ((textsS l).2, (readTextsS b).2, wantT l) := by
    unfold wantT
    by_cases c : 1000 < l.length
    · rw [if_pos (d_t (by omega)), if_pos c]; rfl
    · rw [if_neg (d_f (by omega)), if_neg c]
      by_cases c2 : 60000 < (encT l).length
      · rw [if_pos (d_t (by omega)), if_pos c2]; rfl
      · rw [if_neg (d_f (by omega)), if_neg c2]
  simp only [law_WireTexts_J2]
  rw [hw, ob_some]
  simp only [lt]
  rw [bytesT_eq, if_neg (by simp)]
  by_cases c : 60000 < b.length
  · rw [if_pos (d_t (by omega))]
    simp [readTextsS, c, R_F]
  · rw [if_neg (d_f (by omega)), readWritten_eq b (by omega), ob_some]
    simp only [readTextsS, if_neg c]
    cases hr : rdAll rdT b.length b [] with
    | inr n => simp [rtS, rtR, R_F]
    | inl m =>
      have h1 : ¬ (0 : Int) ≤ -1 := by omega
      by_cases c2 : 1000 < m.length
      · have e1 : rtS (.inl m) = ([], ⟨2, 0⟩) := by simp [rtS, c2]
        have e2 : rtR (.inl m) = (m, -1) := rfl
        rw [e1, e2]
        dsimp only
        rw [if_neg (d_f h1), if_pos (d_t (by omega))]
        simp [R_F]
      · have e1 : rtS (.inl m) = (m, ⟨0, 0⟩) := by simp [rtS, c2]
        have e2 : rtR (.inl m) = (m, -1) := rfl
        rw [e1, e2]
        dsimp only
        rw [if_neg (d_f h1), if_neg (d_f (by omega))]
        simp [sameTexts_eq m m (by omega), ob_some]
theorem WireTexts_eq (l : List (List UInt8)) (b : List UInt8) (hs : ∀ s ∈ l, s.length ≤ 140737488351232) : law_WireTexts l b = some true := by
  unfold law_WireTexts
  simp only [wbegun, ob_some, Bool.not_true, Bool.false_eq_true, if_false]
  by_cases v : 3000 < (l.length : Int) ∨ 100000 < (b.length : Int)
  · rw [if_pos (or_t v)]
  · rw [if_neg (or_f v)]
    have h0 := sum_loop l b (by omega) hs l.length 0 0 (by omega) (by omega) (by omega)
    have h1 : law_WireTexts_L2 l b (0, 0) = law_WireTexts_J1 l b ((lens l : Nat) : Int) := by simpa using h0
    rw [h1]
    unfold law_WireTexts_J1
    by_cases c : 300000 < lens l
    · rw [if_pos (d_t (by omega))]
    · have hs' : ∀ s ∈ l, s.length ≤ 1000000 := fun s h => by have := lens_mem h; omega
      rw [if_neg (d_f (by omega)), asrt_pos (by omega), texts_eq l (fun s h => by have := hs' s h; omega), ob_some]
      unfold law_ownBytes_v1
      rw [asrt_pos (by omega), ob_some, readTexts_eq, ob_some]
      have h2 := all_loop l b (textsS l) (readTextsS b) (textsS l).2 (readTextsS b).2 (by omega) hs' l.length 0 [] (by omega) (by omega) (by simp)
      have h3 : law_WireTexts_L1 l b (textsS l) (readTextsS b) ((textsS l).2, (readTextsS b).2, [], 0) = law_WireTexts_J2 l b (textsS l) (readTextsS b) ((textsS l).2, (readTextsS b).2, encT l) := by simpa using h2
      rw [h3, texts_J2]
end G
end Go.Proofs.Ytiakadlmebbafaa
