/- Histories: what is wrong with one: the program's test, and the document's. -/
import Derived.Test.YtnibbgjoanbnmaaPFirst
import Derived.Test.YtnibbgjoanbnmaaEmD
namespace Go.Proofs.Ytnibbgjoanbnmaa
open Go Go.Dm
set_option linter.unusedVariables false
set_option linter.unusedSimpArgs false
set_option linter.unusedSectionVars false
namespace G
def kindBad (s : Span) : Prop := ¬ (s.Kind = 1 ∨ s.Kind = 2)
def rngBad (s : Span) : Prop := s.Value < 0 ∨ 1000000000 < s.Value ∨ (s.Kind = 1 ∧ s.Value = 0) ∨ s.From < 0 ∨ 1000000000 < s.From ∨ (s.To ≠ -1 ∧ (s.To < s.From ∨ 1000000000 < s.To))
instance (s : Span) : Decidable (kindBad s) := by unfold kindBad; infer_instance
instance (s : Span) : Decidable (rngBad s) := by unfold rngBad; infer_instance
def twice (l : List Span) (k : Nat) : Prop := (lget l (k : Int)).Kind = 1 ∧ ∃ j : Nat, j < k ∧ (lget l (j : Int)).Kind = 1 ∧ (lget l (j : Int)).Value = (lget l (k : Int)).Value
noncomputable instance (l : List Span) (k : Nat) : Decidable (twice l k) := Classical.propDecidable _
noncomputable def fS (l : List Span) (k : Nat) : Option Fault :=
  if kindBad (lget l (k : Int)) then some ⟨4, k⟩ else if rngBad (lget l (k : Int)) then some ⟨3, k⟩ else if twice l k then some ⟨10, k⟩ else none
noncomputable def chk (l : List Span) : Fault := if 200 < l.length then ⟨2, -1⟩ else firstFrom (fS l) ⟨0, 0⟩ 0 l.length
theorem kind_b (s : Span) : ((!decide (s.Kind = 1)) && (!decide (s.Kind = 2))) = decide (kindBad s) := b_iff (by unfold kindBad; simp)
theorem kind_b2 (s : Span) : ((decide (s.Kind < 1)) || (decide (2 < s.Kind))) = decide (kindBad s) := b_iff (by unfold kindBad; simp; omega)
theorem rng_b (s : Span) : ((((((decide (s.Value < 0)) || (decide (1000000000 < s.Value))) || ((decide (s.Kind = 1)) && (decide (s.Value = 0)))) || (decide (s.From < 0))) || (decide (1000000000 < s.From))) || ((!decide (s.To = (-1))) && ((decide (s.To < s.From)) || (decide (1000000000 < s.To))))) = decide (rngBad s) :=
  b_iff (by unfold rngBad; simp; omega)
theorem num_eq (n : Int) : R_Num n = decide (0 ≤ n ∧ n ≤ 1000000000) := b_iff (by unfold R_Num; simp)
theorem rng_b2 (s : Span) : ((((!decide (0 ≤ s.Value ∧ s.Value ≤ 1000000000)) || ((decide (s.Kind = 1)) && (decide (s.Value = 0)))) || (!decide (0 ≤ s.From ∧ s.From ≤ 1000000000))) || ((!decide (s.To = (-1))) && ((decide (s.To < s.From)) || (!decide (0 ≤ s.To ∧ s.To ≤ 1000000000))))) = decide (rngBad s) :=
  b_iff (by unfold rngBad; simp; omega)
/-- the numbers that were written so far -/
def wrt (l : List Span) (k : Nat) : List Int := ((l.take k).filter fun s => decide (s.Kind = 1)).map fun s => s.Value
theorem wrt_succ (l : List Span) (k : Nat) (h : k < l.length) : wrt l (k + 1) = if (lget l (k : Int)).Kind = 1 then wrt l k ++ [(lget l (k : Int)).Value] else wrt l k := by
  unfold wrt
  rw [lget_take l k h, List.filter_append, List.map_append]
  by_cases c : (lget l (k : Int)).Kind = 1
  · rw [if_pos c]; simp [c]
  · rw [if_neg c]; simp [c]
theorem mem_wrt (l : List Span) (k : Nat) (h : k ≤ l.length) (v : Int) : v ∈ wrt l k ↔ ∃ j : Nat, j < k ∧ (lget l (j : Int)).Kind = 1 ∧ (lget l (j : Int)).Value = v := by
  unfold wrt
  simp only [List.mem_map, List.mem_filter, mem_take_lget h, decide_eq_true_eq]
  constructor
  · rintro ⟨s, ⟨⟨j, h1, rfl⟩, h2⟩, h3⟩; exact ⟨j, h1, h2, h3⟩
  · rintro ⟨j, h1, h2, h3⟩; exact ⟨_, ⟨⟨j, h1, rfl⟩, h2⟩, h3⟩
theorem check_eq (l : List Span) : history_Check l = some (chk l) := by
  unfold history_Check chk
  by_cases c : 200 < l.length
  · rw [if_pos (d_t (by omega)), if_pos c]; rfl
  · rw [if_neg (d_f (by omega)), if_neg c]
    refine loop_firstG (step := fun y => history_Check_B1 l y) (fun k => (seenM (wrt l k), (k : Int))) (fS l) ⟨0, 0⟩ l.length (fun k hk => ?_) ?_
    · have hw : w64 ((k : Int) + 1) = ((k + 1 : Nat) : Int) := by rw [w64_id (by omega) (by omega)]; omega
      show history_Check_B1 l (seenM (wrt l k), (k : Int)) = _
      unfold history_Check_B1 fS
      rw [if_pos (d_t (by omega)), asrt_pos (by omega)]
      simp only [kind_b, rng_b]
      by_cases g1 : kindBad (lget l (k : Int))
      · rw [if_pos (d_t g1), if_pos g1]; rfl
      rw [if_neg (d_f g1), if_neg g1]
      by_cases g2 : rngBad (lget l (k : Int))
      · rw [if_pos (d_t g2), if_pos g2]; rfl
      rw [if_neg (d_f g2), if_neg g2]
      have ht : ((decide ((lget l (k : Int)).Kind = 1)) && (decide (0 < ((mget (seenM (wrt l k)) (lget l (k : Int)).Value).getD (0 : Int))))) = decide (twice l k) := by
        refine Bool.eq_iff_iff.2 ?_
        rw [seenM_get, decide_eq_true_iff, Bool.and_eq_true, decide_eq_true_iff, decide_eq_true_iff]
        unfold twice
        rw [← mem_wrt l k (by omega)]
        by_cases q : (lget l (k : Int)).Value ∈ wrt l k
        · simp [q]
        · simp [q]
      rw [ht]
      by_cases g3 : twice l k
      · rw [if_pos (d_t g3), if_pos g3]; rfl
      rw [if_neg (d_f g3), if_neg g3]
      rw [hw, wrt_succ l k hk]
      by_cases g4 : (lget l (k : Int)).Kind = 1
      · rw [if_pos (d_t g4), if_pos g4, seenM_snoc]; rfl
      · rw [if_neg (d_f g4), if_neg g4]; rfl
    · show history_Check_B1 l (_, (l.length : Int)) = _
      unfold history_Check_B1
      rw [if_neg (d_f (by simp))]; rfl
theorem spans_eq (l : List Span) : R_SpansFault l = some (chk l) := by
  unfold R_SpansFault chk
  by_cases c : 200 < l.length
  · rw [if_pos (d_t (by omega)), if_pos c]; rfl
  · rw [if_neg (d_f (by omega)), if_neg c]
    refine loop_firstF (step := fun y => R_SpansFault_B1 l y) (fS l) ⟨0, 0⟩ l.length (fun k hk => ?_) ?_
    · have hw : w64 ((k : Int) + 1) = ((k + 1 : Nat) : Int) := by rw [w64_id (by omega) (by omega)]; omega
      show R_SpansFault_B1 l (k : Int) = _
      unfold R_SpansFault_B1 fS
      rw [if_pos (d_t (by omega)), asrt_pos (by omega)]
      simp only [kind_b2, lt, num_eq, rng_b2]
      by_cases g1 : kindBad (lget l (k : Int))
      · rw [if_pos (d_t g1), if_pos g1]; rfl
      rw [if_neg (d_f g1), if_neg g1]
      by_cases g2 : rngBad (lget l (k : Int))
      · rw [if_pos (d_t g2), if_pos g2]; rfl
      rw [if_neg (d_f g2), if_neg g2]
      unfold R_SpansFault_L2
      have hin : ∀ j : Nat, j < k → ∀ q : Prop, [Decidable q] → (q ↔ ((lget l (k : Int)).Kind = 1 ∧ (lget l (j : Int)).Kind = 1 ∧ (lget l (j : Int)).Value = (lget l (k : Int)).Value)) →
          R_SpansFault_B2 l (k : Int) (j : Int) = if q then some (.inr (.inr ⟨10, k⟩)) else some (.inl ((j + 1 : Nat) : Int)) := fun j hj q _ hq => by
        have hw2 : w64 ((j : Int) + 1) = ((j + 1 : Nat) : Int) := by rw [w64_id (by omega) (by omega)]; omega
        unfold R_SpansFault_B2
        rw [if_pos (d_t (by omega)), asrt_pos (fun _ => by omega), asrt_pos (fun _ => by omega), hw2]
        have e : (((decide ((lget l (k : Int)).Kind = 1)) && (decide ((lget l (j : Int)).Kind = 1))) && (decide ((lget l (j : Int)).Value = (lget l (k : Int)).Value))) = decide q := b_iff (by rw [hq]; simp [and_assoc])
        rw [e]
        by_cases hq2 : q
        · rw [if_pos (d_t hq2), if_pos hq2]; rfl
        · rw [if_neg (d_f hq2), if_neg hq2]
      have he : R_SpansFault_B2 l (k : Int) (k : Int) = some (.inr (.inl ((k + 1 : Nat) : Int))) := by
        unfold R_SpansFault_B2 R_SpansFault_J2 inrO
        rw [if_neg (d_f (by omega)), hw]
      rcases loop_any (step := fun y => R_SpansFault_B2 l (k : Int) y) k (fun j => (j : Int)) (fun j => (lget l (k : Int)).Kind = 1 ∧ (lget l (j : Int)).Kind = 1 ∧ (lget l (j : Int)).Value = (lget l (k : Int)).Value) (rb := .inr ⟨10, k⟩) (r := .inl ((k + 1 : Nat) : Int))
        (fun j hj hn => by rw [hin j hj _ Iff.rfl, if_neg hn]) (fun j hj hn => by rw [hin j hj _ Iff.rfl, if_pos hn]) he with ⟨⟨j, h1, h2⟩, h3⟩ | ⟨h1, h3⟩
      · have g3 : twice l k := ⟨h2.1, j, h1, h2.2⟩
        rw [if_pos g3]; exact h3
      · have g3 : ¬ twice l k := fun ⟨a, j, b, d⟩ => h1 j b ⟨a, d⟩
        rw [if_neg g3]; exact h3
    · show R_SpansFault_B1 l (l.length : Int) = _
      unfold R_SpansFault_B1
      rw [if_neg (d_f (by simp))]; rfl
/-- a history that is fine -/
structure Good (l : List Span) : Prop where
  len : l.length ≤ 200
  kind : ∀ k : Nat, k < l.length → (lget l (k : Int)).Kind = 1 ∨ (lget l (k : Int)).Kind = 2
  rng : ∀ k : Nat, k < l.length → ¬ rngBad (lget l (k : Int))
  one : ∀ j k : Nat, j < l.length → k < l.length → (lget l (j : Int)).Kind = 1 → (lget l (k : Int)).Kind = 1 → (lget l (j : Int)).Value = (lget l (k : Int)).Value → j = k
theorem good_of {l : List Span} (h : (chk l).Code = 0) : Good l := by
  unfold chk at h
  by_cases c : 200 < l.length
  · rw [if_pos c] at h; cases h
  rw [if_neg c] at h
  have key : ∀ k, k < l.length → fS l k = none := by
    rcases firstFrom_cases (fS l) (⟨0, 0⟩ : Fault) l.length 0 with ⟨h1, _⟩ | ⟨j, x, _, _, h3, _, h5⟩
    · exact fun k hk => h1 k (Nat.zero_le _) (by omega)
    · rw [h5] at h
      unfold fS at h3
      repeat' split at h3
      all_goals first | (cases h3; cases h; done) | cases h3
  have k1 : ∀ k, k < l.length → ¬ kindBad (lget l (k : Int)) ∧ ¬ rngBad (lget l (k : Int)) ∧ ¬ twice l k := fun k hk => by
    have := key k hk
    unfold fS at this
    split at this
    · cases this
    · split at this
      · cases this
      · split at this
        · cases this
        · exact ⟨‹_›, ‹_›, ‹_›⟩
  refine ⟨by omega, fun k hk => Decidable.not_not.1 (k1 k hk).1, fun k hk => (k1 k hk).2.1, fun j k hj hk h1 h2 h3 => ?_⟩
  rcases Nat.lt_trichotomy j k with q | q | q
  · exact absurd ⟨h2, j, q, h1, h3⟩ (k1 k hk).2.2
  · exact q
  · exact absurd ⟨h1, k, q, h2, h3.symm⟩ (k1 j hj).2.2
theorem chk_zero {l : List Span} (h : (chk l).Code = 0) : chk l = ⟨0, 0⟩ := by
  unfold chk at h ⊢
  by_cases c : 200 < l.length
  · rw [if_pos c] at h; cases h
  rw [if_neg c] at h ⊢
  rcases firstFrom_cases (fS l) (⟨0, 0⟩ : Fault) l.length 0 with ⟨_, h2⟩ | ⟨j, x, _, _, h3, _, h5⟩
  · exact h2
  · rw [h5] at h
    unfold fS at h3
    repeat' split at h3
    all_goals first | (cases h3; cases h; done) | cases h3
end G
end Go.Proofs.Ytnibbgjoanbnmaa
