/- Memos; a deed of a ledger as the program and as the document have it. -/
import Derived.Test.YtipeimcdjijkgaaPOnceB
namespace Go.Proofs.Ytipeimcdjijkgaa
open Go Go.Dm
set_option linter.unusedVariables false
set_option linter.unusedSimpArgs false
namespace G
def numOk (n : Int) : Prop := 1 ≤ n ∧ n ≤ 1000000000
instance (n : Int) : Decidable (numOk n) := by unfold numOk; infer_instance
theorem number_eq (n : Int) : once_number n = decide (numOk n) := by
  refine b_iff ?_
  unfold once_number numOk
  simp only [Bool.and_eq_true, decide_eq_true_eq]
theorem one_eq (n : Int) : R_One n = decide (numOk n) := by
  refine b_iff ?_
  unfold R_One R_Num numOk
  dsimp only [lt]
  simp only [Bool.and_eq_true, decide_eq_true_eq]
  omega
theorem bad_n (p q : Prop) [Decidable p] [Decidable q] : (!decide p || !decide q) = decide (¬ p ∨ ¬ q) := by
  refine b_iff ?_
  simp only [Bool.or_eq_true, Bool.not_eq_true', decide_eq_false_iff_not]
def memF (l : List Memo) (k : Nat) : Option Fault :=
  if ¬ numOk (lget l (k : Int)).Client ∨ ¬ numOk (lget l (k : Int)).Seq then some ⟨3, -1000 - k⟩
  else if 201 < (lget l (k : Int)).Said.length then some ⟨8, -1000 - k⟩
  else if 0 < k ∧ (lget l (k : Int)).Client ≤ (lget l ((k - 1 : Nat) : Int)).Client then some ⟨10, -1000 - k⟩ else none
theorem memF_code {l : List Memo} : ∀ k x, memF l k = some x → x.Code ≠ 0 := by
  intro k x h
  unfold memF at h
  split at h
  · cases h; show (3 : Int) ≠ 0; decide
  · split at h
    · cases h; show (8 : Int) ≠ 0; decide
    · split at h
      · cases h; show (10 : Int) ≠ 0; decide
      · cases h
def ledF (l : Ledger) : Fault := if ¬ (rowsF l.Rows).Code = 0 then rowsF l.Rows else if 1000 < l.Memos.length then ⟨2, -2⟩ else firstFrom (memF l.Memos) ⟨0, 0⟩ 0 l.Memos.length
theorem ocheck_eq (l : Ledger) : once_Check l = some (ledF l) := by
  unfold once_Check ledF
  rw [crows_eq, ob_some]
  by_cases c0 : (rowsF l.Rows).Code = 0
  · rw [if_neg (n_f c0), if_neg (not_not_intro c0)]
    by_cases c : 1000 < l.Memos.length
    · rw [if_pos (d_t (by omega)), if_pos c]; rfl
    · rw [if_neg (d_f (by omega)), if_neg c]
      refine loop_firstF (step := fun y => once_Check_B1 l y) (memF l.Memos) ⟨0, 0⟩ l.Memos.length (fun k hk => ?_) ?_
      · have hw : w64 ((k : Int) + 1) = ((k + 1 : Nat) : Int) := by rw [w64_id (by omega) (by omega)]; omega
        have hw2 : w64 ((-1000) - (k : Int)) = -1000 - (k : Int) := w64_id (by omega) (by omega)
        show once_Check_B1 l (k : Int) = _
        unfold once_Check_B1 memF
        rw [if_pos (d_t (by omega)), asrt_pos (by omega)]
        dsimp only [lt]
        rw [number_eq, number_eq, hw, hw2, bad_n]
        by_cases g : ¬ numOk (lget l.Memos (k : Int)).Client ∨ ¬ numOk (lget l.Memos (k : Int)).Seq
        · rw [if_pos (d_t g), if_pos g]; rfl
        · rw [if_neg (d_f g), if_neg g]
          by_cases g2 : 201 < (lget l.Memos (k : Int)).Said.length
          · rw [if_pos (d_t (by omega)), if_pos g2]; rfl
          · rw [if_neg (d_f (by omega)), if_neg g2]
            by_cases z : 0 < k
            · have hw3 : w64 ((k : Int) - 1) = ((k - 1 : Nat) : Int) := by rw [w64_id (by omega) (by omega)]; omega
              rw [hw3, asrt_pos (fun _ => by omega)]
              by_cases g3 : (lget l.Memos (k : Int)).Client ≤ (lget l.Memos ((k - 1 : Nat) : Int)).Client
              · rw [if_pos (an_t ⟨by omega, g3⟩), if_pos ⟨z, g3⟩]; rfl
              · rw [if_neg (an_f (fun h => g3 h.2)), if_neg (fun h => g3 h.2)]
            · rw [asrt_pos (fun h => by simp at h; omega), if_neg (an_f (fun h => z (by omega))), if_neg (fun h => z h.1)]
      · show once_Check_B1 l (l.Memos.length : Int) = _
        unfold once_Check_B1
        rw [if_neg (d_f (by omega))]; rfl
  · rw [if_pos (n_t c0), if_pos c0]
theorem rledger_eq (l : Ledger) : R_LedgerFault l = some (ledF l) := by
  unfold R_LedgerFault ledF
  rw [rrows_eq, ob_some]
  by_cases c0 : (rowsF l.Rows).Code = 0
  · rw [if_neg (n_f c0), if_neg (not_not_intro c0)]
    by_cases c : 1000 < l.Memos.length
    · rw [if_pos (d_t (by omega)), if_pos c]; rfl
    · rw [if_neg (d_f (by omega)), if_neg c]
      refine loop_firstF (step := fun y => R_LedgerFault_B1 l y) (memF l.Memos) ⟨0, 0⟩ l.Memos.length (fun k hk => ?_) ?_
      · have hw : w64 ((k : Int) + 1) = ((k + 1 : Nat) : Int) := by rw [w64_id (by omega) (by omega)]; omega
        have hw2 : w64 ((-1000) - (k : Int)) = -1000 - (k : Int) := w64_id (by omega) (by omega)
        show R_LedgerFault_B1 l (k : Int) = _
        unfold R_LedgerFault_B1 memF
        rw [if_pos (d_t (by omega)), asrt_pos (by omega)]
        dsimp only [lt]
        rw [one_eq, one_eq, hw, hw2, bad_n]
        by_cases g : ¬ numOk (lget l.Memos (k : Int)).Client ∨ ¬ numOk (lget l.Memos (k : Int)).Seq
        · rw [if_pos (d_t g), if_pos g]; rfl
        · rw [if_neg (d_f g), if_neg g]
          by_cases g2 : 201 < (lget l.Memos (k : Int)).Said.length
          · rw [if_pos (d_t (by omega)), if_pos g2]; rfl
          · rw [if_neg (d_f (by omega)), if_neg g2]
            by_cases z : 0 < k
            · have hw3 : w64 ((k : Int) - 1) = ((k - 1 : Nat) : Int) := by rw [w64_id (by omega) (by omega)]; omega
              rw [hw3, asrt_pos (fun _ => by omega)]
              by_cases g3 : (lget l.Memos (k : Int)).Client ≤ (lget l.Memos ((k - 1 : Nat) : Int)).Client
              · rw [if_pos (an_t ⟨by omega, g3⟩), if_pos ⟨z, g3⟩]; rfl
              · rw [if_neg (an_f (fun h => g3 h.2)), if_neg (fun h => g3 h.2)]
            · rw [asrt_pos (fun h => by simp at h; omega), if_neg (an_f (fun h => z (by omega))), if_neg (fun h => z h.1)]
      · show R_LedgerFault_B1 l (l.Memos.length : Int) = _
        unfold R_LedgerFault_B1
        rw [if_neg (d_f (by omega))]; rfl
  · rw [if_pos (n_t c0), if_pos c0]
structure MS (l : List Memo) : Prop where
  len : l.length ≤ 1000
  num : ∀ k : Nat, k < l.length → numOk (lget l (k : Int)).Client ∧ numOk (lget l (k : Int)).Seq ∧ (lget l (k : Int)).Said.length ≤ 201
  up1 : ∀ k : Nat, k + 1 < l.length → (lget l (k : Int)).Client < (lget l ((k + 1 : Nat) : Int)).Client
theorem ledF_zero {l : Ledger} : (ledF l).Code = 0 ↔ RS l.Rows ∧ MS l.Memos := by
  unfold ledF
  by_cases c0 : (rowsF l.Rows).Code = 0
  · rw [if_neg (not_not_intro c0)]
    have hr := rowsF_zero.1 c0
    by_cases c : 1000 < l.Memos.length
    · rw [if_pos c]
      exact ⟨fun h => absurd h (by decide), fun h => by have := h.2.len; omega⟩
    · rw [if_neg c, firstFrom_zero memF_code]
      constructor
      · intro h
        have hk : ∀ k : Nat, k < l.Memos.length → (numOk (lget l.Memos (k : Int)).Client ∧ numOk (lget l.Memos (k : Int)).Seq) ∧ (lget l.Memos (k : Int)).Said.length ≤ 201 ∧ ¬ (0 < k ∧ (lget l.Memos (k : Int)).Client ≤ (lget l.Memos ((k - 1 : Nat) : Int)).Client) := by
          intro k hk
          have := h k (by omega) (by omega)
          unfold memF at this
          split at this
          · cases this
          · rename_i h1
            split at this
            · cases this
            · rename_i h2
              split at this
              · cases this
              · rename_i h3
                rw [not_or, Decidable.not_not, Decidable.not_not] at h1
                exact ⟨h1, by omega, h3⟩
        refine ⟨hr, by omega, fun k hkl => ⟨(hk k hkl).1.1, (hk k hkl).1.2, (hk k hkl).2.1⟩, fun k hkl => ?_⟩
        have := (hk (k + 1) hkl).2.2
        rw [show k + 1 - 1 = k by omega] at this
        omega
      · rintro ⟨_, h⟩ j _ hj
        unfold memF
        obtain ⟨h1, h2, h3⟩ := h.num j (by omega)
        rw [if_neg (by rintro (g | g); exact g h1; exact g h2), if_neg (by omega), if_neg]
        rintro ⟨g1, g2⟩
        have := h.up1 (j - 1) (by omega)
        rw [show j - 1 + 1 = j by omega] at this
        omega
  · rw [if_pos c0]
    exact ⟨fun h => absurd h c0, fun h => rowsF_zero.2 h.1⟩
theorem ledF_fine {l : Ledger} (h : (ledF l).Code = 0) : ledF l = ⟨0, 0⟩ := by
  have h0 := h
  have hr := rowsF_zero.2 (ledF_zero.1 h).1
  unfold ledF at h ⊢
  rw [if_neg (not_not_intro hr)] at h ⊢
  split
  · rename_i c; rw [if_pos c] at h; exact absurd h (by decide)
  · rename_i c; rw [if_neg c] at h; exact firstFrom_fine memF_code h
theorem MS.up {l : List Memo} (h : MS l) : ∀ {j k : Nat}, j < k → k < l.length → (lget l (j : Int)).Client < (lget l (k : Int)).Client := by
  intro j k hjk hk
  obtain ⟨d, rfl⟩ : ∃ d, k = j + 1 + d := ⟨k - j - 1, by omega⟩
  clear hjk
  induction d with
  | zero => exact h.up1 j hk
  | succ d ih => exact Int.lt_trans (ih (by omega)) (h.up1 _ hk)
structure MAt (l : List Memo) (id : Int) (pos : Nat) (f : Bool) : Prop where
  le : pos ≤ l.length
  lo : ∀ k : Nat, k < pos → (lget l (k : Int)).Client < id
  hi : ∀ k : Nat, pos ≤ k → k < l.length → ¬ (lget l (k : Int)).Client < id
  is : f = true ↔ pos < l.length ∧ (lget l (pos : Int)).Client = id
theorem MAt.ex {l : List Memo} (h : MS l) (id : Int) : ∃ pos f, MAt l id pos f := by
  obtain ⟨pos, h1, h2, h3⟩ := split_pos (fun k => (lget l (k : Int)).Client < id) l.length (fun i j a b c => Int.lt_trans (h.up a b) c)
  exact ⟨pos, decide (pos < l.length ∧ (lget l (pos : Int)).Client = id), h1, h2, h3, by simp⟩
theorem memo_eta (m : Memo) : (⟨m.Client, m.Seq, m.Said⟩ : Memo) = m := rfl
def mE : Memo := ⟨0, 0, []⟩
theorem memoOf_eq {l : List Memo} (hl : l.length ≤ 100000) {id : Int} {pos : Nat} {f : Bool} (h : MAt l id pos f) : R_MemoOf l id = some (if f = true then lget l (pos : Int) else mE, (pos : Int)) := by
  unfold R_MemoOf
  have hle := h.le
  refine loop_run (step := fun y => R_MemoOf_B1 l id y) pos (fun k => (k : Int)) (fun k hk => ?_) ?_
  · have hw : w64 ((k : Int) + 1) = ((k + 1 : Nat) : Int) := by rw [w64_id (by omega) (by omega)]; omega
    have hlo := h.lo k hk
    show R_MemoOf_B1 l id (k : Int) = _
    unfold R_MemoOf_B1
    rw [if_pos (d_t (by omega)), asrt_pos (by omega), if_neg (d_f (by omega)), asrt_pos (by omega), if_neg (d_f (by omega)), hw]
  · show R_MemoOf_B1 l id (pos : Int) = _
    unfold R_MemoOf_B1
    cases hf : f with
    | true =>
      have hp := h.is.1 hf
      rw [if_pos (d_t (by omega)), asrt_pos (by omega), if_pos (d_t hp.2), asrt_pos (by omega), if_pos rfl]
    | false =>
      rw [if_neg (by decide : ¬ (false = true))]
      by_cases c : pos < l.length
      · have hne : ¬ (lget l (pos : Int)).Client = id := fun e => by
          have := h.is.2 ⟨c, e⟩; rw [hf] at this; cases this
        have := h.hi pos (Nat.le_refl _) c
        rw [if_pos (d_t (by omega)), asrt_pos (by omega), if_neg (d_f hne), asrt_pos (by omega), if_pos (d_t (by omega))]; rfl
      · have : pos = l.length := by omega
        rw [if_neg (d_f (by omega)), this]; rfl
theorem mclone_eq (l : List Memo) (h : l.length ≤ 100000) : slices_Clone_api_Memo_api_Memo l = some l := by
  have e : asrt (((([] : List Memo) ++ l).length : Int) * 32 ≤ 140737488351232) (some (([] : List Memo) ++ l)) = some l := by
    rw [asrt_pos (by simp; omega)]; rfl
  unfold slices_Clone_api_Memo_api_Memo ubO
  rw [e, asrt_pos]
  · split
    · rename_i c; simp at c; rw [c]
    · rfl
  · intro c; simp at c; rw [c]
theorem cmpI_lt (a b : Int) : decide (cmp_Compare_int a b < 0) = decide (a < b) := by
  refine b_iff ?_
  simp only [cmp_Compare_int, cmp_isNaN_int, lt]
  by_cases h1 : a < b <;> by_cases h2 : b < a <;> simp [h1, h2]
theorem cmpI_zero (a b : Int) : decide (cmp_Compare_int a b = 0) = decide (a = b) := by
  refine b_iff ?_
  simp only [cmp_Compare_int, cmp_isNaN_int, lt]
  by_cases h1 : a < b
  · simp [h1]; omega
  · by_cases h2 : b < a
    · simp [h1, h2]; omega
    · simp [h1, h2]; omega
theorem msearch_eq {l : List Memo} (hl : l.length ≤ 100000) {id : Int} {pos : Nat} {f : Bool} (h : MAt l id pos f) : slices_BinarySearchFunc_api_Memo_api_Memo_int id l = some ((pos : Int), f) := by
  have hle := h.le
  unfold slices_BinarySearchFunc_api_Memo_api_Memo_int
  refine bsearch (step := fun y => slices_BinarySearchFunc_api_Memo_api_Memo_int_B1 id l y) l.length pos h.le _ (fun i j hij hj => ?_) ?_
  · have hw : w64 ((((i + j) / 2 : Nat) : Int) + 1) = (((i + j) / 2 + 1 : Nat) : Int) := by rw [w64_id (by omega) (by omega)]; omega
    show slices_BinarySearchFunc_api_Memo_api_Memo_int_B1 id l ((i : Int), (j : Int)) = _
    unfold slices_BinarySearchFunc_api_Memo_api_Memo_int_B1
    dsimp only
    rw [if_pos (d_t (by omega)), half i j (by omega)]
    dsimp only [lt, once_Do_1]
    rw [asrt_pos (by omega), asrt_pos (by omega), cmpI_lt, hw]
    by_cases c : (i + j) / 2 < pos
    · rw [if_pos (d_t (h.lo _ c)), if_pos c, if_pos c]
    · rw [if_neg (d_f (h.hi _ (by omega) (by omega))), if_neg c, if_neg c]
  · show slices_BinarySearchFunc_api_Memo_api_Memo_int_B1 id l ((pos : Int), (pos : Int)) = _
    unfold slices_BinarySearchFunc_api_Memo_api_Memo_int_B1
    dsimp only
    rw [if_neg (d_f (by omega))]
    unfold slices_BinarySearchFunc_api_Memo_api_Memo_int_J1
    dsimp only [lt, once_Do_1]
    rw [asrt_pos (fun e => by simp at e; omega), asrt_pos (fun e => by simp at e; omega), cmpI_zero]
    have : (decide ((pos : Int) < (l.length : Int)) && decide ((lget l (pos : Int)).Client = id)) = f := by
      rw [Bool.eq_iff_iff, h.is]
      simp
    rw [this]; rfl
/- calls -/
def callOk (c : Call) : Prop := ((1 ≤ c.Kind ∧ c.Kind ≤ 4) ∧ numOk c.Client ∧ numOk c.Seq) ∧ rowFine c.Row ∧ c.Value.length ≤ 200 ∧ c.Old.length ≤ 200
theorem ocalled_eq (c : Call) : once_called c = R_CallFault c := by
  unfold once_called R_CallFault
  dsimp only [lt]
  simp only [number_eq, one_eq, rowed_eq, rowFine_eq]
  rfl
theorem callF_zero {c : Call} (h : (R_CallFault c).Code = 0) : callOk c ∧ R_CallFault c = ⟨0, 0⟩ := by
  unfold R_CallFault at h ⊢
  dsimp only [lt] at h ⊢
  simp only [one_eq, rowFine_eq] at h ⊢
  split at h
  · exact absurd h (by show ¬ (4 : Int) = 0; decide)
  · rename_i c1
    split at h
    · exact absurd h (by show ¬ (3 : Int) = 0; decide)
    · rename_i c2
      split at h
      · exact absurd h (by show ¬ (8 : Int) = 0; decide)
      · rename_i c3
        refine ⟨?_, by rw [if_neg c1, if_neg c2, if_neg c3]⟩
        simp only [Bool.or_eq_true, Bool.not_eq_true', decide_eq_true_eq, decide_eq_false_iff_not, not_or, Decidable.not_not] at c1 c2 c3
        exact ⟨⟨⟨by omega, by omega⟩, c2⟩, c3.1.1, by omega, by omega⟩
theorem plain_eq {l : List Pair} (hs : RS l) (c : Call) (hk : 1 ≤ c.Kind ∧ c.Kind ≤ 4) {pos : Nat} {f : Bool} (h : At l c.Row pos f) : once_plain l c = some (calledF l c pos f) := by
  have hl := hs.len
  unfold once_plain calledF
  rw [pclone_eq _ (by omega), ob_some, psearch_eq (by omega) h, ob_some]
  dsimp only
  rw [put_eq hs c h, ob_some]
  by_cases k1 : c.Kind = 1
  · rw [if_pos (d_t k1), if_pos (.inl k1)]
  · rw [if_neg (d_f k1)]
    by_cases k2 : c.Kind = 2
    · have n3 : ¬ c.Kind = 3 := by omega
      rw [if_pos (d_t k2)]
      cases hf : f with
      | true =>
        have hp := (h.is.1 hf).1
        have hv := (hs.row pos hp).2
        rw [if_neg (by decide), asrt_pos (by omega), asrt_pos (by omega), asrt_pos (by simp; omega)]
        simp [k1, k2, n3]
      | false => rw [if_pos (by decide)]; simp [k1, n3]
    · rw [if_neg (d_f k2)]
      by_cases k3 : c.Kind = 3
      · rw [if_pos (d_t k3)]
        cases hf : f with
        | true =>
          have hp := (h.is.1 hf).1
          rw [asrt_pos (fun _ => by omega), asrt_pos (fun _ => by omega)]
          by_cases ko : (lget l (pos : Int)).Value = c.Old
          · rw [if_neg (by simp [ko]), if_pos (.inr ⟨k3, rfl, ko⟩)]
          · rw [if_pos (by simp [ko])]; simp [k3, ko]
        | false =>
          rw [asrt_pos (fun e => by simp at e), asrt_pos (fun e => by simp at e), if_pos (by simp)]; simp [k3]
      · rw [if_neg (d_f k3)]
        cases hf : f with
        | true =>
          have hp := (h.is.1 hf).1
          have hw : w64 ((pos : Int) + 1) = (pos : Int) + 1 := w64_id (by omega) (by omega)
          rw [if_neg (by decide), hw, pdel_eq (by omega) pos hp, ob_some]
          simp [k1, k2, k3, withR]
        | false => rw [if_pos (by decide)]; simp [k1, k3]
end G
end Go.Proofs.Ytipeimcdjijkgaa
