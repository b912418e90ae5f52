/- Logs: what Check says, both ways (forms that keep what is known). -/
import Derived.Test.YtcnngkigpfpalaaEm40
import Derived.Test.YtcnngkigpfpalaaGf3
namespace Go.Proofs.Ytcnngkigpfpalaa
open Go Go.Dm
set_option linter.unusedVariables false
set_option linter.unusedSimpArgs false
namespace G
def chk : List Entry → Int → Int → Fault
  | [], _, _ => ⟨0, 0⟩
  | e :: l, last, i => if e.Term < 1 ∨ 1000000000 < e.Term then ⟨3, i⟩ else if e.Term < last then ⟨11, i⟩ else if 200 < (e.Text.length : Int) then ⟨8, i⟩ else chk l e.Term (i + 1)
theorem echeck_loop (l : List Entry) (hl : l.length ≤ 1000) : ∀ (m n : Nat) (last : Int), l.length - n = m → n ≤ l.length → entry_Check_L1 l (last, (n : Int)) = some (chk (l.drop n) last n)
  | 0, n, last, hm, hn => by
    have : n = l.length := by omega
    subst this
    refine loopO_inr ?_
    simp only [entry_Check_B1]
    rw [if_neg (d_f (by omega))]
    simp [inrO, entry_Check_J1, chk]
  | m + 1, n, last, hm, hn => by
    have hlt : n < l.length := by omega
    have ih := echeck_loop l hl m (n + 1) (lget l (n : Int)).Term (by omega) (by omega)
    rw [lget_drop l n hlt, chk]
    have hw : w64 ((n : Int) + 1) = ((n + 1 : Nat) : Int) := by rw [w64_id (by omega) (by omega)]; omega
    have h0 : (0 : Int) ≤ (n : Int) ∧ (n : Int) < (l.length : Int) := by omega
    have h1 : (n : Int) < (l.length : Int) := by omega
    by_cases c1 : (lget l (n : Int)).Term < 1 ∨ 1000000000 < (lget l (n : Int)).Term
    · rw [if_pos c1]
      refine loopO_inr ?_
      simp only [entry_Check_B1]
      rw [if_pos (d_t h1), asrt_pos h0, if_pos (or_t c1)]; rfl
    · rw [if_neg c1]
      by_cases c2 : (lget l (n : Int)).Term < last
      · rw [if_pos c2]
        refine loopO_inr ?_
        simp only [entry_Check_B1]
        rw [if_pos (d_t h1), asrt_pos h0, if_neg (or_f c1), if_pos (d_t c2)]; rfl
      · rw [if_neg c2]
        by_cases c3 : 200 < ((lget l (n : Int)).Text.length : Int)
        · rw [if_pos c3]
          refine loopO_inr ?_
          simp only [entry_Check_B1]
          rw [if_pos (d_t h1), asrt_pos h0, if_neg (or_f c1), if_neg (d_f c2), if_pos (d_t c3)]; rfl
        · rw [if_neg c3]
          refine (loopO_inl (y := ((lget l (n : Int)).Term, ((n + 1 : Nat) : Int))) ?_).trans ?_
          · simp only [entry_Check_B1]
            rw [if_pos (d_t h1), asrt_pos h0, if_neg (or_f c1), if_neg (d_f c2), if_neg (d_f c3), hw]
          · have : (n : Int) + 1 = ((n + 1 : Nat) : Int) := by omega
            rw [this]; exact ih
theorem echeck_eq0 (l : List Entry) : entry_Check l = some (if 100 < (l.length : Int) then ⟨2, -1⟩ else chk l 0 0) := by
  unfold entry_Check
  by_cases h : 100 < (l.length : Int)
  · simp [h, lt, entry_fault]
  · have := echeck_loop l (by omega) l.length 0 0 (by omega) (by omega)
    simp only [Int.ofNat_zero, List.drop_zero, Int.natCast_zero] at this
    simp [h, this]
def prevT (l : List Entry) (n : Nat) : Int := if n = 0 then 0 else (lget l ((n : Int) - 1)).Term
theorem rlog_loop (l : List Entry) (hl : l.length ≤ 1000) : ∀ (m n : Nat), l.length - n = m → n ≤ l.length → R_LogFault_L1 l (n : Int) = some (chk (l.drop n) (prevT l n) n)
  | 0, n, hm, hn => by
    have : n = l.length := by omega
    subst this
    refine loopO_inr ?_
    simp only [R_LogFault_B1]
    rw [if_neg (d_f (by omega))]
    simp [inrO, R_LogFault_J1, chk]
  | m + 1, n, hm, hn => by
    have hlt : n < l.length := by omega
    have ih := rlog_loop l hl m (n + 1) (by omega) (by omega)
    rw [lget_drop l n hlt, chk]
    have hw : w64 ((n : Int) + 1) = ((n + 1 : Nat) : Int) := by rw [w64_id (by omega) (by omega)]; omega
    have hw2 : w64 ((n : Int) - 1) = (n : Int) - 1 := w64_id (by omega) (by omega)
    have h0 : (0 : Int) ≤ (n : Int) ∧ (n : Int) < (l.length : Int) := by omega
    have h1 : (n : Int) < (l.length : Int) := by omega
    have h2 : decide (0 < (n : Int)) = true → 0 ≤ w64 ((n : Int) - 1) ∧ w64 ((n : Int) - 1) < (l.length : Int) := fun h => by rw [hw2]; simp at h; omega
    have h3 : ∀ b : Bool, b = true → (0 : Int) ≤ (n : Int) ∧ (n : Int) < (l.length : Int) := fun _ _ => h0
    by_cases c1 : (lget l (n : Int)).Term < 1 ∨ 1000000000 < (lget l (n : Int)).Term
    · rw [if_pos c1]
      refine loopO_inr ?_
      simp only [R_LogFault_B1]
      rw [if_pos (d_t h1), asrt_pos h0, asrt_pos (h3 _), if_pos (or_t c1)]; rfl
    · rw [if_neg c1]
      have c2' : (decide (0 < (n : Int)) && decide ((lget l (n : Int)).Term < (lget l (w64 ((n : Int) - 1))).Term)) = decide ((lget l (n : Int)).Term < prevT l n) := by
        rw [hw2]
        unfold prevT
        by_cases hn0 : n = 0
        · subst hn0
          simp
          have : ¬ ((lget l 0).Term < 1 ∨ 1000000000 < (lget l 0).Term) := by simpa using c1
          omega
        · have : 0 < (n : Int) := by omega
          simp [hn0, this]
          intro _; omega
      by_cases c2 : (lget l (n : Int)).Term < prevT l n
      · rw [if_pos c2]
        refine loopO_inr ?_
        simp only [R_LogFault_B1]
        rw [if_pos (d_t h1), asrt_pos h0, asrt_pos (h3 _), if_neg (or_f c1), asrt_pos (h3 _), asrt_pos h2, c2', if_pos (d_t c2)]; rfl
      · rw [if_neg c2]
        by_cases c3 : 200 < ((lget l (n : Int)).Text.length : Int)
        · rw [if_pos c3]
          refine loopO_inr ?_
          simp only [R_LogFault_B1]
          rw [if_pos (d_t h1), asrt_pos h0, asrt_pos (h3 _), if_neg (or_f c1), asrt_pos (h3 _), asrt_pos h2, c2', if_neg (d_f c2), asrt_pos h0, if_pos (d_t c3)]; rfl
        · rw [if_neg c3]
          refine (loopO_inl (y := ((n + 1 : Nat) : Int)) ?_).trans ?_
          · simp only [R_LogFault_B1]
            rw [if_pos (d_t h1), asrt_pos h0, asrt_pos (h3 _), if_neg (or_f c1), asrt_pos (h3 _), asrt_pos h2, c2', if_neg (d_f c2), asrt_pos h0, if_neg (d_f c3), hw]
          · have e1 : (n : Int) + 1 = ((n + 1 : Nat) : Int) := by omega
            have e : prevT l (n + 1) = (lget l (n : Int)).Term := by
              unfold prevT
              simp
            rw [e] at ih
            rw [e1]; exact ih
theorem rlog_eq0 (l : List Entry) : R_LogFault l = some (if 100 < (l.length : Int) then ⟨2, -1⟩ else chk l 0 0) := by
  unfold R_LogFault
  by_cases h : 100 < (l.length : Int)
  · simp [h, lt, R_F]
  · have := rlog_loop l (by omega) l.length 0 (by omega) (by omega)
    simp only [Int.ofNat_zero, List.drop_zero, Int.natCast_zero] at this
    simp [h, this, prevT]
theorem chk_zero : ∀ (l : List Entry) (last i : Int), (chk l last i).Code = 0 → chk l last i = ⟨0, 0⟩ ∧ ∀ e ∈ l, 1 ≤ e.Term ∧ e.Term ≤ 1000000000
  | [], last, i, _ => ⟨rfl, by simp⟩
  | e :: l, last, i, h => by
    simp only [chk] at h ⊢
    by_cases c1 : e.Term < 1 ∨ 1000000000 < e.Term
    · rw [if_pos c1] at h; cases h
    · rw [if_neg c1] at h ⊢
      by_cases c2 : e.Term < last
      · rw [if_pos c2] at h; cases h
      · rw [if_neg c2] at h ⊢
        by_cases c3 : 200 < (e.Text.length : Int)
        · rw [if_pos c3] at h; cases h
        · rw [if_neg c3] at h ⊢
          obtain ⟨h1, h2⟩ := chk_zero l e.Term (i + 1) h
          refine ⟨h1, fun e' he => ?_⟩
          rcases List.mem_cons.1 he with rfl | he
          · omega
          · exact h2 e' he
def fof (l : List Entry) : Fault := if 100 < (l.length : Int) then ⟨2, -1⟩ else chk l 0 0
theorem echeck_eq (l : List Entry) : entry_Check l = some (fof l) := echeck_eq0 l
theorem rlog_eq (l : List Entry) : R_LogFault l = some (fof l) := rlog_eq0 l
theorem fof_good {l : List Entry} (h : (fof l).Code = 0) : l.length ≤ 100 ∧ fof l = ⟨0, 0⟩ ∧ ∀ e ∈ l, 1 ≤ e.Term ∧ e.Term ≤ 1000000000 := by
  unfold fof at *
  by_cases c : 100 < (l.length : Int)
  · rw [if_pos c] at h; cases h
  · rw [if_neg c] at h ⊢
    have := chk_zero l 0 0 h
    exact ⟨by omega, this.1, this.2⟩
theorem eclone_eq (l : List Entry) (h : l.length ≤ 1000000) : slices_Clone_api_Entry_api_Entry l = some l := by
  refine wp_is.1 ?_
  simp only [slices_Clone_api_Entry_api_Entry, wp_ubO, wp_asrt, wp_some, List.nil_append]
  refine ⟨fun hl => ?_, ⟨by omega, trivial⟩⟩
  have : l = [] := List.length_eq_zero_iff.1 (of_decide_eq_true hl)
  subst this
  rw [asrt_pos (by simp)]
def tat (l : List Entry) (p : Int) : Int := if p < 1 ∨ (l.length : Int) < p then 0 else (lget l (p - 1)).Term
theorem tat_eq (l : List Entry) (hl : l.length ≤ 1000000) (p : Int) : entry_TermAt l p = some (tat l p) := by
  unfold entry_TermAt tat
  by_cases c : p < 1 ∨ (l.length : Int) < p
  · rw [if_pos (or_t c), if_pos c]
  · rw [if_neg (or_f c), if_neg c, w64_id (by omega) (by omega), asrt_pos (by omega)]
theorem iclone_eq (l : List Int) (h : l.length ≤ 1000000) : slices_Clone_int_int l = some l := by
  refine wp_is.1 ?_
  simp only [slices_Clone_int_int, wp_ubO, wp_asrt, wp_some, List.nil_append]
  refine ⟨fun hl => ?_, ⟨by omega, trivial⟩⟩
  have : l = [] := List.length_eq_zero_iff.1 (of_decide_eq_true hl)
  subst this
  rw [asrt_pos (by simp)]
theorem last_eq (l : List Entry) (hl : l.length ≤ 1000000) : R_LastTerm l = some (tat l (l.length : Int)) := by
  unfold R_LastTerm tat
  by_cases c : l.length = 0
  · rw [if_pos (d_t (by omega)), if_pos (by omega)]
  · rw [if_neg (d_f (by omega)), if_neg (by omega), w64_id (by omega) (by omega), asrt_pos (by omega)]
end G
end Go.Proofs.Ytcnngkigpfpalaa
