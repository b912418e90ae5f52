/- Histories: numbers that clash with themselves, and two that clash: the document's and the program's. -/
import Derived.Test.YtnibbgjoanbnmaaPHistE
namespace Go.Proofs.Ytnibbgjoanbnmaa
open Go Go.Dm
set_option linter.unusedVariables false
set_option linter.unusedSimpArgs false
set_option linter.unusedSectionVars false
namespace G
def wrK (l : List Span) (v : Int) (i : Nat) : Prop := knd l i = 1 ∧ val l i = v
instance (l : List Span) (v : Int) (i : Nat) : Decidable (wrK l v i) := by unfold wrK; infer_instance
def SC (l : List Span) (v : Int) : Prop := v ≠ 0 ∧ ((∀ i, i < l.length → ¬ wrK l v i) ∨ ∃ w i : Nat, w < l.length ∧ wrK l v w ∧ i < l.length ∧ rdK l v i ∧ too l i < frm0 l w)
noncomputable instance (l : List Span) (v : Int) : Decidable (SC l v) := Classical.propDecidable _
def wIdx (l : List Span) (v : Int) : Nat → Int
  | 0 => -1
  | n + 1 => if wrK l v n then (n : Int) else wIdx l v n
theorem wIdx_spec (l : List Span) (v : Int) : ∀ n, (wIdx l v n = -1 ∧ ∀ i, i < n → ¬ wrK l v i) ∨ ∃ i : Nat, i < n ∧ wrK l v i ∧ wIdx l v n = i
  | 0 => .inl ⟨rfl, fun i hi => by omega⟩
  | n + 1 => by
    rw [wIdx]
    by_cases c : wrK l v n
    · rw [if_pos c]; exact .inr ⟨n, by omega, c, rfl⟩
    · rw [if_neg c]
      rcases wIdx_spec l v n with ⟨h1, h2⟩ | ⟨i, h1, h2⟩
      · refine .inl ⟨h1, fun i hi => ?_⟩
        by_cases q : i = n
        · rw [q]; exact c
        · exact h2 i (by omega)
      · exact .inr ⟨i, by omega, h2⟩
theorem self_eq {l : List Span} (hg : Good l) (v : Int) : R_SelfClash l v = some (decide (SC l v)) := by
  have hl := hg.len
  unfold R_SelfClash
  by_cases c : v = 0
  · rw [if_pos (d_t c)]
    have : ¬ SC l v := fun h => h.1 c
    rw [decide_eq_false this]
  rw [if_neg (d_f c)]
  unfold R_SelfClash_L2
  refine loop_run (step := fun y => R_SelfClash_B2 l v y) l.length (fun k => (wIdx l v k, (k : Int))) (fun k hk => ?_) ?_
  · have hw : w64 ((k : Int) + 1) = ((k + 1 : Nat) : Int) := by rw [w64_id (by omega) (by omega)]; omega
    show R_SelfClash_B2 l v (wIdx l v k, (k : Int)) = _
    unfold R_SelfClash_B2
    dsimp only
    rw [if_pos (d_t (by omega)), asrt_pos (by omega), asrt_pos (fun _ => by omega), hw, wIdx]
    have e : ((decide ((lget l (k : Int)).Kind = 1)) && (decide ((lget l (k : Int)).Value = v))) = decide (wrK l v k) := b_iff (by simp [wrK])
    rw [e]
    by_cases q : wrK l v k
    · rw [if_pos (d_t q), if_pos q]; rfl
    · rw [if_neg (d_f q), if_neg q]; rfl
  · show R_SelfClash_B2 l v (wIdx l v l.length, (l.length : Int)) = _
    unfold R_SelfClash_B2
    rw [if_neg (d_f (by show ¬ (l.length : Int) < _; omega))]
    show inrO (R_SelfClash_J1 l v (wIdx l v l.length)) = _
    unfold R_SelfClash_J1
    rcases wIdx_spec l v l.length with ⟨h1, h2⟩ | ⟨w, h1, h2, h3⟩
    · rw [if_pos (d_t (by omega))]
      have : SC l v := ⟨c, .inl h2⟩
      rw [decide_eq_true this]; rfl
    · rw [if_neg (d_f (by omega)), h3]
      unfold R_SelfClash_L1
      have hst : ∀ k : Nat, k < l.length → R_SelfClash_B1 l v (w : Int) (k : Int) = if rdK l v k ∧ too l k < frm0 l w then some (.inr true) else some (.inl ((k + 1 : Nat) : Int)) := fun k hk => by
        have hw : w64 ((k : Int) + 1) = ((k + 1 : Nat) : Int) := by rw [w64_id (by omega) (by omega)]; omega
        unfold R_SelfClash_B1
        rw [if_pos (d_t (by omega)), asrt_pos (by omega), asrt_pos (fun _ => by omega), asrt_pos (fun _ => by omega), asrt_pos (fun _ => by omega), hw]
        have e : ((((decide ((lget l (k : Int)).Kind = 2)) && (decide ((lget l (k : Int)).Value = v))) && (R_SpanAhead (⟨(lget l (k : Int)).Kind, (lget l (k : Int)).Value, (lget l (k : Int)).From, (lget l (k : Int)).To⟩ : Span) (⟨(lget l (w : Int)).Kind, (lget l (w : Int)).Value, (lget l (w : Int)).From, (lget l (w : Int)).To⟩ : Span)))) = decide (rdK l v k ∧ too l k < frm0 l w) := by
          refine b_iff ?_
          unfold R_SpanAhead rdK
          simp only [Bool.and_eq_true, decide_eq_true_eq, knd, val, too, frm0]
          constructor
          · rintro ⟨⟨a, b⟩, c, d⟩; exact ⟨⟨a, b, c⟩, d⟩
          · rintro ⟨⟨a, b, c⟩, d⟩; exact ⟨⟨a, b⟩, c, d⟩
        dsimp only [lt] at e ⊢
        rw [e]
        by_cases q : rdK l v k ∧ too l k < frm0 l w
        · rw [if_pos (d_t q), if_pos q]
        · rw [if_neg (d_f q), if_neg q]
      have he : R_SelfClash_B1 l v (w : Int) (l.length : Int) = some (.inr false) := by
        unfold R_SelfClash_B1
        rw [if_neg (d_f (by omega))]; rfl
      rcases loop_any (step := fun y => R_SelfClash_B1 l v (w : Int) y) l.length (fun k => (k : Int)) (fun k => rdK l v k ∧ too l k < frm0 l w) (rb := true) (r := false) (fun k hk hn => by rw [hst k hk, if_neg hn]) (fun k hk hn => by rw [hst k hk, if_pos hn]) he with ⟨⟨j, a, b⟩, h5⟩ | ⟨a, h5⟩
      · have : SC l v := ⟨c, .inr ⟨w, j, h1, h2, a, b⟩⟩
        rw [decide_eq_true this]
        have h5 : loopO (fun y => R_SelfClash_B1 l v (w : Int) y) 0 = some true := h5
        rw [h5]; rfl
      · have : ¬ SC l v := by
          rintro ⟨_, h | ⟨w', i, b1, b2, b3, b4⟩⟩
          · exact h w h1 h2
          · have hww := hg.one w' w b1 h1 b2.1 h2.1 (b2.2.trans h2.2.symm)
            subst hww
            exact a i b3 b4
        rw [decide_eq_false this]
        have h5 : loopO (fun y => R_SelfClash_B1 l v (w : Int) y) 0 = some false := h5
        rw [h5]; rfl
/-- the program's word for it -/
theorem contains_eq {l : List Span} {ar : List bunch} {b : Nat} (hl : l.length ≤ 200) (hb : b < ar.length) {w : Nat} (hw : (lget ar (b : Int)).write = w) (hwl : w < l.length) (xs : List Int) (hx : xs.length ≤ 400) (hin : ∀ z ∈ xs, 0 ≤ z ∧ z < (l.length : Int)) :
    slices_ContainsFunc_int_int xs l b ar = some (xs.any fun z => decide ((lget l z).To < frm0 l w)) := by
  unfold slices_ContainsFunc_int_int slices_IndexFunc_int_int slices_IndexFunc_int_int_L1
  have hst : ∀ k : Nat, k < xs.length → slices_IndexFunc_int_int_B1 xs l b ar (k : Int) = if (lget l (lget xs (k : Int))).To < frm0 l w then some (.inr (k : Int)) else some (.inl ((k + 1 : Nat) : Int)) := fun k hk => by
    have hw2 : w64 ((k : Int) + 1) = ((k + 1 : Nat) : Int) := by rw [w64_id (by omega) (by omega)]; omega
    have hz := hin _ (lget_mem xs (k : Int) (by omega))
    unfold slices_IndexFunc_int_int_B1 history_bunch_alone_1
    rw [if_pos (d_t (by omega)), asrt_pos (by omega), asrt_pos hz, asrt_pos (by omega), asrt_pos (by rw [hw]; omega), hw, hw2]
    show (if decide ((lget l (lget xs (k : Int))).To < frm0 l w) = true then _ else _) = _
    by_cases q : (lget l (lget xs (k : Int))).To < frm0 l w
    · rw [if_pos (d_t q), if_pos q]
    · rw [if_neg (d_f q), if_neg q]
  have he : slices_IndexFunc_int_int_B1 xs l b ar (xs.length : Int) = some (.inr (-1)) := by
    unfold slices_IndexFunc_int_int_B1
    rw [if_neg (d_f (by omega))]; rfl
  rcases loop_first (step := fun y => slices_IndexFunc_int_int_B1 xs l b ar y) xs.length (fun k => (k : Int)) (fun k => (lget l (lget xs (k : Int))).To < frm0 l w) (fun k => (k : Int)) (r := -1) (fun k hk hn => by rw [hst k hk, if_neg hn]) (fun k hk hn => by rw [hst k hk, if_pos hn]) he with ⟨j, a, c, _, h5⟩ | ⟨a, h5⟩
  · have h5 : loopO (fun y => slices_IndexFunc_int_int_B1 xs l b ar y) 0 = some (j : Int) := h5
    rw [h5]
    show some (decide (0 ≤ (j : Int))) = _
    rw [d_t (by omega)]
    congr 1
    symm
    rw [List.any_eq_true]
    exact ⟨_, lget_mem xs (j : Int) (by omega), d_t c⟩
  · have h5 : loopO (fun y => slices_IndexFunc_int_int_B1 xs l b ar y) 0 = some (-1) := h5
    rw [h5]
    show some false = _
    congr 1
    symm
    rw [List.any_eq_false]
    intro z hz
    obtain ⟨k, hk, rfl⟩ := mem_lget.1 hz
    simpa using a k hk
theorem mem_rds {l : List Span} {n : Nat} {v z : Int} : z ∈ rds l n v ↔ ∃ i : Nat, i < n ∧ rdv l v i ∧ z = i := by
  unfold rds
  simp only [List.mem_map, List.mem_filter, List.mem_range, decide_eq_true_eq]
  exact ⟨fun ⟨i, ⟨a, b⟩, c⟩ => ⟨i, a, b, c.symm⟩, fun ⟨i, a, b, c⟩ => ⟨i, ⟨a, b⟩, c.symm⟩⟩
theorem rds_len (l : List Span) (n : Nat) (v : Int) : (rds l n v).length ≤ n := by
  unfold rds
  rw [List.length_map]
  have := List.length_filter_le (fun i => decide (rdv l v i)) (List.range n)
  simpa using this
theorem alone_eq {l : List Span} (hg : Good l) {b : Nat} (hb : b < (BB l).length) : history_bunch_alone b l (BB l) = some (decide (SC l (lget (BB l) (b : Int)).value)) := by
  have hok := bb_ok hg b hb
  unfold history_bunch_alone
  rw [asrt_pos (by omega)]
  by_cases c : (lget (BB l) (b : Int)).value = 0
  · rw [if_pos (d_t c)]
    have : ¬ SC l (lget (BB l) (b : Int)).value := fun h => h.1 c
    rw [decide_eq_false this]
  rw [if_neg (d_f c), asrt_pos (by omega), asrt_pos (fun _ => by omega)]
  rcases hok.wr with ⟨h1, h2⟩ | ⟨w, h1, h2, h3, h4⟩
  · rw [h1]
    have : SC l (lget (BB l) (b : Int)).value := ⟨c, .inl fun i hi => h2 i hi⟩
    rw [decide_eq_true this]; rfl
  · have e : (decide ((lget (BB l) (b : Int)).write < 0)) = false := decide_eq_false (by omega)
    rw [e, if_pos (by rfl)]
    rw [contains_eq hg.len hb h4 h1 _ (by rw [hok.rd]; have := rds_len l l.length (lget (BB l) (b : Int)).value; have := hg.len; omega) (fun z hz => by
      rw [hok.rd] at hz
      obtain ⟨i, a, _, rfl⟩ := mem_rds.1 hz
      omega)]
    show some (false || _) = _
    rw [Bool.false_or]
    congr 1
    rw [hok.rd]
    refine Bool.eq_iff_iff.2 ?_
    rw [List.any_eq_true, decide_eq_true_iff]
    constructor
    · rintro ⟨z, hz, h5⟩
      obtain ⟨i, a, d, rfl⟩ := mem_rds.1 hz
      exact ⟨c, .inr ⟨w, i, h1, ⟨h2, h3⟩, a, (rdK_iff hg a _).2 d, of_decide_eq_true h5⟩⟩
    · rintro ⟨_, h | ⟨w', i, b1, b2, b3, b4, b5⟩⟩
      · exact absurd ⟨h2, h3⟩ (h w h1)
      · have hww := hg.one w' w b1 h1 b2.1 h2 (b2.2.trans h3.symm)
        subst hww
        exact ⟨i, mem_rds.2 ⟨i, b3, (rdK_iff hg b3 _).1 b4, rfl⟩, decide_eq_true b5⟩
/-- two numbers that clash -/
def CL (l : List Span) (a b : Int) : Prop := if a = b then SC l a else feV l a < lbV l b ∧ feV l b < lbV l a
noncomputable instance (l : List Span) (a b : Int) : Decidable (CL l a b) := Classical.propDecidable _
theorem clash_eq {l : List Span} (hg : Good l) {a b : Nat} (ha : a < (BB l).length) (hb : b < (BB l).length) : history_clash a b (BB l) = some (decide (feV l (lget (BB l) (a : Int)).value < lbV l (lget (BB l) (b : Int)).value ∧ feV l (lget (BB l) (b : Int)).value < lbV l (lget (BB l) (a : Int)).value)) := by
  unfold history_clash
  rw [asrt_pos (by omega), asrt_pos (by omega), asrt_pos (fun _ => by omega), asrt_pos (fun _ => by omega)]
  rw [fe_bunch hg (bb_ok hg a ha), fe_bunch hg (bb_ok hg b hb), lb_bunch hg (bb_ok hg a ha), lb_bunch hg (bb_ok hg b hb)]
  show some (_ && _) = _
  congr 1
  exact b_iff (by simp)
end G
end Go.Proofs.Ytnibbgjoanbnmaa
