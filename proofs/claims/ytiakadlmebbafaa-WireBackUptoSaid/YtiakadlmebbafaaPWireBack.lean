/- There and back. -/
import Derived.Test.YtiakadlmebbafaaPWireB
namespace Go.Proofs.Ytiakadlmebbafaa
open Go Go.Dm
set_option linter.unusedVariables false
set_option linter.unusedSimpArgs false
namespace G
theorem bad_none : ∀ (l : List Int) (i : Int), bad l i = none → ∀ x ∈ l, 0 ≤ x ∧ x ≤ 1000000000
  | [], i, h => by simp
  | n :: l, i, h => by
    rw [bad] at h
    by_cases c : n < 0 ∨ 1000000000 < n
    · rw [if_pos c] at h; cases h
    · rw [if_neg c] at h
      intro x hx
      rcases List.mem_cons.1 hx with rfl | hx
      · omega
      · exact bad_none l _ h x hx
theorem none_bad : ∀ (l : List Int) (i : Int), (∀ x ∈ l, 0 ≤ x ∧ x ≤ 1000000000) → bad l i = none
  | [], i, h => rfl
  | n :: l, i, h => by
    have := h n (by simp)
    rw [bad, if_neg (by omega)]
    exact none_bad l _ fun x hx => h x (by simp [hx])
theorem encN_len (l : List Int) (h : ∀ x ∈ l, 0 ≤ x ∧ x ≤ 1000000000) : (encN l).length ≤ 5 * l.length := by
  induction l with
  | nil => simp [encN, wrAll]
  | cons n l ih =>
    have h1 := ih fun x hx => h x (by simp [hx])
    have h2 := h n (by simp)
    have h3 := num_len5 (n := n.toNat) (by omega)
    rw [encN_cons]; simp; omega
/-- what is written is read -/
theorem nums_read {l : List Int} (h : (numsS l).2.Code = 0) : l.length ≤ 1000 ∧ (numsS l).2 = ⟨0, 0⟩ ∧ readNumsS (numsS l).1 = (l, ⟨0, 0⟩) := by
  unfold numsS at *
  by_cases c : 1000 < l.length
  · rw [if_pos c] at h; cases h
  · simp only [if_neg c] at h ⊢
    cases hb : bad l 0 with
    | some i => rw [hb] at h; cases h
    | none =>
      have hr := bad_none l 0 hb
      have hl := encN_len l hr
      have := rdAll_wrAll (f := rdI) (w := fun n => num n.toNat) (fun x => 0 ≤ x ∧ x ≤ 1000000000) (fun x r h => rdI_num h.1 h.2 r) (fun x h => num_pos _) l (encN l).length [] hr (Nat.le_refl _)
      have e : rdAll rdI (encN l).length (encN l) [] = .inl l := by simpa [encN] using this
      refine ⟨by omega, rfl, ?_⟩
      show readNumsS (encN l) = _
      unfold readNumsS
      rw [if_neg (by omega), e]
      simp [rnS, c]
/-- what is read is written -/
theorem read_nums {b : List UInt8} (h : (readNumsS b).2.Code = 0) : (numsS (readNumsS b).1).2.Code = 0 ∧ (numsS (readNumsS b).1).1 = b := by
  unfold readNumsS at *
  by_cases c : 60000 < b.length
  · rw [if_pos c] at h; cases h
  · rw [if_neg c] at h ⊢
    cases hr : rdAll rdI b.length b [] with
    | inr n => rw [hr] at h; cases h
    | inl l =>
      rw [hr] at h
      by_cases c2 : 1000 < l.length
      · simp [rnS, c2] at h
      · have e1 : rnS (.inl l) = (l, ⟨0, 0⟩) := by simp [rnS, c2]
        rw [e1]
        obtain ⟨m, hm1, hm2⟩ := wrAll_rdAll (f := rdI) (w := fun n => num n.toNat) (fun b x r h => (rdI_some h).1) b.length b [] l (Nat.le_refl _) (fun b x r h => num_pos _) hr
        have hlm : l = m := by simpa using hm1
        subst hlm
        have hrange : ∀ x ∈ l, 0 ≤ x ∧ x ≤ 1000000000 := by
          have key : ∀ (k : Nat) (b : List UInt8) (acc l : List Int), rdAll rdI k b acc = .inl l → (∀ x ∈ acc, 0 ≤ x ∧ x ≤ 1000000000) → ∀ x ∈ l, 0 ≤ x ∧ x ≤ 1000000000 := by
            intro k
            induction k with
            | zero => intro b acc l h ha; simp only [rdAll, Sum.inl.injEq] at h; subst h; exact ha
            | succ k ih =>
              intro b acc l h ha
              rw [rdAll] at h
              split at h
              · simp only [Sum.inl.injEq] at h; subst h; exact ha
              · split at h
                · rename_i x r e
                  refine ih _ _ _ h fun y hy => ?_
                  rcases List.mem_append.1 hy with hy | hy
                  · exact ha y hy
                  · simp only [List.mem_singleton] at hy; subst hy; exact (rdI_some e).2
                · cases h
          exact key _ _ _ _ hr (by simp)
        have hb := none_bad l 0 hrange
        have e2 : numsS l = (encN l, ⟨0, 0⟩) := by simp [numsS, c2, hb]
        rw [e2]
        exact ⟨rfl, hm2.symm⟩
theorem texts_read {l : List (List UInt8)} (hs : ∀ s ∈ l, s.length ≤ 1000000000) (h : (textsS l).2.Code = 0) : l.length ≤ 1000 ∧ readTextsS (textsS l).1 = (l, ⟨0, 0⟩) := by
  unfold textsS at *
  by_cases c : 1000 < l.length
  · rw [if_pos c] at h; cases h
  · rw [if_neg c] at h ⊢
    by_cases c2 : 60000 < (encT l).length
    · rw [if_pos c2] at h; cases h
    · rw [if_neg c2] at h ⊢
      have := rdAll_wrAll (f := rdT) (w := wrT) (fun s => s.length ≤ 1000000000) (fun x r h => rdT_wrT h r) (fun x h => by have := (wrT_len x h).2; omega) l (encT l).length [] hs (Nat.le_refl _)
      have e : rdAll rdT (encT l).length (encT l) [] = .inl l := by simpa [encT] using this
      refine ⟨by omega, ?_⟩
      unfold readTextsS
      rw [if_neg c2, e]
      simp [rtS, c]
theorem read_texts {b : List UInt8} (h : (readTextsS b).2.Code = 0) : (∀ s ∈ (readTextsS b).1, s.length ≤ 1000000000) ∧ (textsS (readTextsS b).1).2.Code = 0 ∧ (textsS (readTextsS b).1).1 = b := by
  unfold readTextsS at *
  by_cases c : 60000 < b.length
  · rw [if_pos c] at h; cases h
  · rw [if_neg c] at h ⊢
    cases hr : rdAll rdT b.length b [] with
    | inr n => rw [hr] at h; cases h
    | inl l =>
      rw [hr] at h
      by_cases c2 : 1000 < l.length
      · simp [rtS, c2] at h
      · have e1 : rtS (.inl l) = (l, ⟨0, 0⟩) := by simp [rtS, c2]
        rw [e1]
        obtain ⟨m, hm1, hm2⟩ := wrAll_rdAll (f := rdT) (w := wrT) (fun b x r h => (rdT_some h).1) b.length b [] l (Nat.le_refl _) (fun b x r h => by have := (wrT_len x (rdT_some h).2).2; omega) hr
        have hlm : l = m := by simpa using hm1
        subst hlm
        have hrange : ∀ x ∈ l, x.length ≤ 1000000000 := by
          have key : ∀ (k : Nat) (b : List UInt8) (acc l : List (List UInt8)), rdAll rdT k b acc = .inl l → (∀ x ∈ acc, x.length ≤ 1000000000) → ∀ x ∈ l, x.length ≤ 1000000000 := by
            intro k
            induction k with
            | zero => intro b acc l h ha; simp only [rdAll, Sum.inl.injEq] at h; subst h; exact ha
            | succ k ih =>
              intro b acc l h ha
              rw [rdAll] at h
              split at h
              · simp only [Sum.inl.injEq] at h; subst h; exact ha
              · split at h
                · rename_i x r e
                  refine ih _ _ _ h fun y hy => ?_
                  rcases List.mem_append.1 hy with hy | hy
                  · exact ha y hy
                  · simp only [List.mem_singleton] at hy; subst hy; exact (rdT_some e).2
                · cases h
          exact key _ _ _ _ hr (by simp)
        have hb : encT l = b := hm2.symm
        have e2 : textsS l = (encT l, ⟨0, 0⟩) := by simp [textsS, c2, hb, c]
        rw [e2]
        exact ⟨hrange, rfl, hb⟩
theorem back_J3 (b : List UInt8) (f : Fault) : law_WireBack_J3 b f = some true := by
  unfold law_WireBack_J3
  rw [readTexts_eq, ob_some]
  by_cases c : (readTextsS b).2.Code = 0
  · obtain ⟨h1, h2, h3⟩ := read_texts c
    rw [if_neg (by simp [c]), texts_eq _ h1, ob_some]
    simp [lt, R_Same, h2, h3]
  · rw [if_pos (by simp [c])]
theorem back_J2 (b : List UInt8) (f : Fault) : law_WireBack_J2 b f = some true := by
  unfold law_WireBack_J2
  rw [readNums_eq, ob_some]
  by_cases c : (readNumsS b).2.Code = 0
  · obtain ⟨h2, h3⟩ := read_nums c
    rw [if_pos (d_t c), nums_eq, ob_some]
    simp only [lt, R_Same, h2, h3, decide_true, Bool.not_true, Bool.or_self, Bool.false_eq_true, if_false]
    exact back_J3 b _
  · rw [if_neg (d_f c)]; exact back_J3 b _
theorem back_J1 (t : List (List UInt8)) (hs : ∀ s ∈ t, s.length ≤ 1000000000) (b : List UInt8) (f : Fault) : law_WireBack_J1 t b f = some true := by
  unfold law_WireBack_J1
  rw [texts_eq t hs, ob_some]
  by_cases c : (textsS t).2.Code = 0
  · obtain ⟨h2, h3⟩ := texts_read hs c
    rw [if_pos (d_t c), readTexts_eq, ob_some, h3]
    simp only [decide_true, Bool.not_true, Bool.not_false, if_true, sameTexts_eq t t (by omega), ob_some, Bool.or_self, Bool.false_eq_true, if_false]
    exact back_J2 b _
  · rw [if_neg (d_f c)]; exact back_J2 b _
theorem WireBack_eq (l : List Int) (t : List (List UInt8)) (b : List UInt8) (hs : ∀ s ∈ t, s.length ≤ 1000000000) : law_WireBack l t b = some true := by
  unfold law_WireBack
  simp only [wbegun, ob_some, Bool.not_true, Bool.false_eq_true, if_false]
  rw [nums_eq, ob_some]
  by_cases c : (numsS l).2.Code = 0
  · obtain ⟨h1, h2, h3⟩ := nums_read c
    rw [if_pos (d_t c), readNums_eq, ob_some, h3]
    simp only [decide_true, Bool.not_true, Bool.not_false, if_true, ints_eq l l (by omega), ob_some, Bool.or_self, Bool.false_eq_true, if_false]
    exact back_J1 t hs b _
  · rw [if_neg (d_f c)]; exact back_J1 t hs b _
end G
end Go.Proofs.Ytiakadlmebbafaa
