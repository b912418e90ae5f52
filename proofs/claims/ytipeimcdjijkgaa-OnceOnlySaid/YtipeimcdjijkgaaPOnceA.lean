/- Ledgers: faults, places in what is sorted, what a call does to rows. -/
import Derived.Test.YtipeimcdjijkgaaEm39
import Derived.Test.YtipeimcdjijkgaaGf1
namespace Go.Proofs.Ytipeimcdjijkgaa
open Go Go.Dm
set_option linter.unusedVariables false
set_option linter.unusedSimpArgs false
namespace G
/-- the first one of which there is something, from k on, of m -/
def firstFrom {ρ : Type} (f : Nat → Option ρ) (r : ρ) : Nat → Nat → ρ
  | _, 0 => r
  | k, m + 1 => (f k).getD (firstFrom f r (k + 1) m)
theorem loop_firstF {ρ : Type} {step : Int → Option (Int ⊕ ρ)} (f : Nat → Option ρ) (r : ρ) (n : Nat) (h : ∀ k : Nat, k < n → step (k : Int) = some (match f k with | none => .inl ((k + 1 : Nat) : Int) | some x => .inr x)) (he : step (n : Int) = some (.inr r)) :
    loopO step 0 = some (firstFrom f r 0 n) := by
  have : ∀ m k : Nat, k + m = n → loopO step (k : Int) = some (firstFrom f r k m) := by
    intro m
    induction m with
    | zero =>
      intro k e
      have : k = n := by omega
      subst this
      exact loopO_inr he
    | succ m ih =>
      intro k e
      have hk := h k (by omega)
      rw [firstFrom]
      cases hf : f k with
      | none =>
        rw [hf] at hk
        rw [loopO_inl hk, ih (k + 1) (by omega)]; rfl
      | some x =>
        rw [hf] at hk
        exact loopO_inr hk
  exact this n 0 (by omega)
theorem firstFrom_congr {ρ : Type} {f g : Nat → Option ρ} {r : ρ} : ∀ {m k : Nat}, (∀ j, k ≤ j → j < k + m → f j = g j) → firstFrom f r k m = firstFrom g r k m
  | 0, _, _ => rfl
  | m + 1, k, h => by
    rw [firstFrom, firstFrom, h k (by omega) (by omega), firstFrom_congr (fun j h1 h2 => h j (by omega) (by omega))]
theorem firstFrom_zero {f : Nat → Option Fault} (hc : ∀ k x, f k = some x → x.Code ≠ 0) : ∀ {m k : Nat}, (firstFrom f ⟨0, 0⟩ k m).Code = 0 ↔ ∀ j, k ≤ j → j < k + m → f j = none
  | 0, k => ⟨fun _ j h1 h2 => by omega, fun _ => rfl⟩
  | m + 1, k => by
    rw [firstFrom]
    cases hf : f k with
    | none =>
      rw [Option.getD_none, firstFrom_zero hc]
      constructor
      · intro h j h1 h2
        by_cases e : j = k
        · rw [e]; exact hf
        · exact h j (by omega) (by omega)
      · intro h j h1 h2; exact h j (by omega) (by omega)
    | some x =>
      rw [Option.getD_some]
      constructor
      · intro h; exact absurd h (hc k x hf)
      · intro h; have := h k (by omega) (by omega); rw [hf] at this; cases this
theorem firstFrom_fine {f : Nat → Option Fault} (hc : ∀ k x, f k = some x → x.Code ≠ 0) {m k : Nat} (h : (firstFrom f ⟨0, 0⟩ k m).Code = 0) : firstFrom f ⟨0, 0⟩ k m = ⟨0, 0⟩ := by
  have h1 := (firstFrom_zero hc).1 h
  have : ∀ m k, (∀ j, k ≤ j → j < k + m → f j = none) → firstFrom f ⟨0, 0⟩ k m = ⟨0, 0⟩ := by
    intro m
    induction m with
    | zero => intro k _; rfl
    | succ m ih => intro k h; rw [firstFrom, h k (by omega) (by omega)]; exact ih _ fun j a b => h j (by omega) (by omega)
  exact this m k h1
/-- halving -/
theorem bsearch {ρ : Type} {step : Int × Int → Option ((Int × Int) ⊕ ρ)} (n pos : Nat) (hp : pos ≤ n) (r : ρ)
    (h : ∀ i j : Nat, i < j → j ≤ n → step ((i : Int), (j : Int)) = some (.inl (if (i + j) / 2 < pos then (((i + j) / 2 + 1 : Nat) : Int) else (i : Int), if (i + j) / 2 < pos then (j : Int) else (((i + j) / 2 : Nat) : Int)))) (he : step ((pos : Int), (pos : Int)) = some (.inr r)) :
    loopO step (0, (n : Int)) = some r := by
  have : ∀ m i j : Nat, j - i = m → i ≤ pos → pos ≤ j → j ≤ n → loopO step ((i : Int), (j : Int)) = some r := by
    intro m
    induction m using Nat.strongRecOn with
    | _ m ih =>
      intro i j e h1 h2 h3
      by_cases c : i < j
      · rw [loopO_inl (h i j c h3)]
        by_cases d : (i + j) / 2 < pos
        · rw [if_pos d, if_pos d]
          exact ih _ (by omega) _ j rfl (by omega) h2 h3
        · rw [if_neg d, if_neg d]
          exact ih _ (by omega) i _ rfl h1 (by omega) (by omega)
      · have : i = pos := by omega
        have : j = pos := by omega
        subst i; subst j
        exact loopO_inr he
  exact this n 0 n rfl (by omega) hp (Nat.le_refl _)
theorem half (i j : Nat) (h : i + j ≤ 1000000000000) : w64 (Int.fdiv (IntKind.u64.wrap (w64 ((i : Int) + (j : Int)))) (2 ^ (min (1 : Int).toNat 64))) = (((i + j) / 2 : Nat) : Int) := by
  have e1 : w64 ((i : Int) + (j : Int)) = ((i + j : Nat) : Int) := by rw [w64_id (by omega) (by omega)]; omega
  have e2 : IntKind.u64.wrap ((i + j : Nat) : Int) = ((i + j : Nat) : Int) := by
    show (((i + j : Nat) : Int)) % 18446744073709551616 = _
    omega
  have e3 : (2 : Int) ^ (min (1 : Int).toNat 64) = 2 := by decide
  rw [e1, e2, e3, w64_id (by
    show -9223372036854775808 ≤ Int.fdiv _ 2
    rw [Int.fdiv_eq_ediv_of_nonneg _ (by omega)]; omega) (by
    show Int.fdiv _ 2 ≤ 9223372036854775807
    rw [Int.fdiv_eq_ediv_of_nonneg _ (by omega)]; omega), Int.fdiv_eq_ediv_of_nonneg _ (by omega)]
  omega
/-- the place up to which something is so -/
theorem split_pos (P : Nat → Prop) (n : Nat) (h : ∀ i j, i < j → j < n → P j → P i) : ∃ pos, pos ≤ n ∧ (∀ k, k < pos → P k) ∧ ∀ k, pos ≤ k → k < n → ¬ P k := by
  induction n with
  | zero => exact ⟨0, by omega, fun k hk => by omega, fun k h1 h2 => by omega⟩
  | succ n ih =>
    by_cases c : P n
    · exact ⟨n + 1, by omega, fun k hk => by
        by_cases e : k = n
        · rw [e]; exact c
        · exact h k n (by omega) (by omega) c, fun k h1 h2 => by omega⟩
    · obtain ⟨p, h1, h2, h3⟩ := ih (fun i j a b => h i j a (by omega))
      exact ⟨p, by omega, h2, fun k a b => by
        by_cases e : k = n
        · rw [e]; exact c
        · exact h3 k a (by omega)⟩
/- rows -/
def rowFine (s : List UInt8) : Prop := s ≠ [] ∧ s.length ≤ 40
instance (s : List UInt8) : Decidable (rowFine s) := by unfold rowFine; infer_instance
theorem b_iff {b : Bool} {p : Prop} [Decidable p] (h : b = true ↔ p) : b = decide p := by
  rw [Bool.eq_iff_iff, h, decide_eq_true_iff]
theorem rowed_eq (s : List UInt8) : once_rowed s = decide (rowFine s) := by
  refine b_iff ?_
  unfold once_rowed rowFine
  dsimp only [lt]
  simp only [Bool.and_eq_true, Bool.not_eq_true', decide_eq_true_eq, decide_eq_false_iff_not, ne_eq]
  constructor
  · rintro ⟨h1, h2⟩; exact ⟨h1, by omega⟩
  · rintro ⟨h1, h2⟩; exact ⟨h1, by omega⟩
theorem rowFine_eq (s : List UInt8) : R_RowFine s = decide (rowFine s) := by
  refine b_iff ?_
  unfold R_RowFine rowFine
  simp only [Bool.and_eq_true, decide_eq_true_eq, ne_eq]
  constructor
  · rintro ⟨h1, h2⟩; exact ⟨fun e => by rw [e] at h1; simp at h1, by omega⟩
  · rintro ⟨h1, h2⟩; exact ⟨by have := List.length_pos_iff.2 h1; omega, by omega⟩
theorem bad_b (p : Prop) [Decidable p] (n : Nat) : ((!decide p) || decide ((200 : Int) < (n : Int))) = decide (¬ p ∨ 200 < n) := by
  refine b_iff ?_
  simp only [Bool.or_eq_true, Bool.not_eq_true', decide_eq_true_eq, decide_eq_false_iff_not]
  constructor
  · rintro (h | h)
    · exact .inl h
    · exact .inr (by omega)
  · rintro (h | h)
    · exact .inl h
    · exact .inr (by omega)
def rowF (l : List Pair) (k : Nat) : Option Fault :=
  if ¬ rowFine (lget l (k : Int)).Row ∨ 200 < (lget l (k : Int)).Value.length then some ⟨8, k⟩
  else if 0 < k ∧ Op.bytesLess (lget l ((k - 1 : Nat) : Int)).Row (lget l (k : Int)).Row = false then some ⟨10, k⟩ else none
def rowsF (l : List Pair) : Fault := if 1000 < l.length then ⟨2, -1⟩ else firstFrom (rowF l) ⟨0, 0⟩ 0 l.length
theorem rowF_code {l : List Pair} : ∀ k x, rowF l k = some x → x.Code ≠ 0 := by
  intro k x h
  unfold rowF at h
  split at h
  · cases h; show (8 : Int) ≠ 0; decide
  · split at h
    · cases h; show (10 : Int) ≠ 0; decide
    · cases h
theorem crows_eq (l : List Pair) : once_checkRows l = some (rowsF l) := by
  unfold once_checkRows rowsF
  by_cases c : 1000 < l.length
  · rw [if_pos (d_t (by omega)), if_pos c]; rfl
  · rw [if_neg (d_f (by omega)), if_neg c]
    refine loop_firstF (step := fun y => once_checkRows_B1 l y) (rowF l) ⟨0, 0⟩ l.length (fun k hk => ?_) ?_
    · have hw : w64 ((k : Int) + 1) = ((k + 1 : Nat) : Int) := by rw [w64_id (by omega) (by omega)]; omega
      show once_checkRows_B1 l (k : Int) = _
      unfold once_checkRows_B1 rowF
      rw [if_pos (d_t (by omega)), asrt_pos (by omega)]
      dsimp only [lt]
      rw [rowed_eq, hw, bad_b]
      by_cases g : ¬ rowFine (lget l (k : Int)).Row ∨ 200 < (lget l (k : Int)).Value.length
      · rw [if_pos (d_t g), if_pos g]; rfl
      · rw [if_neg (d_f g), if_neg g]
        by_cases z : 0 < k
        · have hw2 : w64 ((k : Int) - 1) = ((k - 1 : Nat) : Int) := by rw [w64_id (by omega) (by omega)]; omega
          rw [hw2, asrt_pos (fun _ => by omega), d_t (show (0 : Int) < (k : Int) by omega), Bool.true_and]
          cases hb : Op.bytesLess (lget l ((k - 1 : Nat) : Int)).Row (lget l (k : Int)).Row with
          | true => rw [if_neg (by simp), if_neg (by rintro ⟨_, h⟩; cases h)]
          | false => rw [if_pos (by simp), if_pos ⟨z, rfl⟩]; rfl
        · rw [asrt_pos (fun h => by simp at h; omega), if_neg (by simp; omega), if_neg (fun h => z h.1)]
    · show once_checkRows_B1 l (l.length : Int) = _
      unfold once_checkRows_B1
      rw [if_neg (d_f (by omega))]; rfl
theorem rrows_eq (l : List Pair) : R_RowsFault l = some (rowsF l) := by
  unfold R_RowsFault rowsF
  by_cases c : 1000 < l.length
  · rw [if_pos (d_t (by omega)), if_pos c]; rfl
  · rw [if_neg (d_f (by omega)), if_neg c]
    refine loop_firstF (step := fun y => R_RowsFault_B1 l y) (rowF l) ⟨0, 0⟩ l.length (fun k hk => ?_) ?_
    · have hw : w64 ((k : Int) + 1) = ((k + 1 : Nat) : Int) := by rw [w64_id (by omega) (by omega)]; omega
      show R_RowsFault_B1 l (k : Int) = _
      unfold R_RowsFault_B1 rowF
      rw [if_pos (d_t (by omega)), asrt_pos (by omega)]
      dsimp only [lt]
      rw [rowFine_eq, hw, asrt_pos (fun _ => by omega), bad_b]
      by_cases g : ¬ rowFine (lget l (k : Int)).Row ∨ 200 < (lget l (k : Int)).Value.length
      · rw [if_pos (d_t g), if_pos g]; rfl
      · rw [if_neg (d_f g), if_neg g]
        by_cases z : 0 < k
        · have hw2 : w64 ((k : Int) - 1) = ((k - 1 : Nat) : Int) := by rw [w64_id (by omega) (by omega)]; omega
          rw [hw2, asrt_pos (fun _ => by omega), asrt_pos (fun _ => by omega), d_t (show (0 : Int) < (k : Int) by omega), Bool.true_and]
          cases hb : Op.bytesLess (lget l ((k - 1 : Nat) : Int)).Row (lget l (k : Int)).Row with
          | true => rw [if_neg (by simp), if_neg (by rintro ⟨_, h⟩; cases h)]
          | false => rw [if_pos (by simp), if_pos ⟨z, rfl⟩]; rfl
        · rw [asrt_pos (fun h => by simp at h; omega), asrt_pos (fun h => by simp at h; omega), if_neg (by simp; omega), if_neg (fun h => z h.1)]
    · show R_RowsFault_B1 l (l.length : Int) = _
      unfold R_RowsFault_B1
      rw [if_neg (d_f (by omega))]; rfl
/-- rows that are fine -/
structure RS (l : List Pair) : Prop where
  len : l.length ≤ 1000
  row : ∀ k : Nat, k < l.length → rowFine (lget l (k : Int)).Row ∧ (lget l (k : Int)).Value.length ≤ 200
  up1 : ∀ k : Nat, k + 1 < l.length → Op.bytesLess (lget l (k : Int)).Row (lget l ((k + 1 : Nat) : Int)).Row = true
theorem rowsF_zero {l : List Pair} : (rowsF l).Code = 0 ↔ RS l := by
  unfold rowsF
  by_cases c : 1000 < l.length
  · rw [if_pos c]
    exact ⟨fun h => absurd h (by decide), fun h => by have := h.len; omega⟩
  · rw [if_neg c, firstFrom_zero rowF_code]
    constructor
    · intro h
      have hk : ∀ k : Nat, k < l.length → ¬ (¬ rowFine (lget l (k : Int)).Row ∨ 200 < (lget l (k : Int)).Value.length) ∧ ¬ (0 < k ∧ Op.bytesLess (lget l ((k - 1 : Nat) : Int)).Row (lget l (k : Int)).Row = false) := by
        intro k hk
        have := h k (by omega) (by omega)
        unfold rowF at this
        split at this
        · cases this
        · split at this
          · cases this
          · rename_i h1 h2; exact ⟨h1, h2⟩
      refine ⟨by omega, fun k hkl => ?_, fun k hkl => ?_⟩
      · have := (hk k hkl).1
        rw [not_or, Decidable.not_not] at this
        exact ⟨this.1, by omega⟩
      · have := (hk (k + 1) hkl).2
        rw [show k + 1 - 1 = k by omega] at this
        cases hb : Op.bytesLess (lget l (k : Int)).Row (lget l ((k + 1 : Nat) : Int)).Row with
        | true => rfl
        | false => exact absurd ⟨by omega, hb⟩ this
    · intro h j _ hj
      unfold rowF
      obtain ⟨h1, h2⟩ := h.row j (by omega)
      rw [if_neg (by rintro (g | g); exact g h1; omega), if_neg]
      rintro ⟨g1, g2⟩
      have := h.up1 (j - 1) (by omega)
      rw [show j - 1 + 1 = j by omega, g2] at this
      cases this
theorem rowsF_fine {l : List Pair} (h : (rowsF l).Code = 0) : rowsF l = ⟨0, 0⟩ := by
  have h0 := h
  unfold rowsF at h ⊢
  split
  · rename_i c; rw [if_pos c] at h; exact absurd h (by decide)
  · rename_i c; rw [if_neg c] at h; exact firstFrom_fine rowF_code h
theorem RS.up {l : List Pair} (h : RS l) : ∀ {j k : Nat}, j < k → k < l.length → Op.bytesLess (lget l (j : Int)).Row (lget l (k : Int)).Row = true := by
  intro j k hjk hk
  obtain ⟨d, rfl⟩ : ∃ d, k = j + 1 + d := ⟨k - j - 1, by omega⟩
  clear hjk
  induction d with
  | zero => exact h.up1 j hk
  | succ d ih => exact bl_trans (ih (by omega)) (h.up1 _ hk)
end G
end Go.Proofs.Ytipeimcdjijkgaa
