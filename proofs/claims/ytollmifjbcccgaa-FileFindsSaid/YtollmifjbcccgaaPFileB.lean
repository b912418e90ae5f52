/- Rows, their bits, and the filter. -/
import Derived.Test.YtollmifjbcccgaaPCellF
import Derived.Test.YtollmifjbcccgaaPSumF
import Derived.Test.YtollmifjbcccgaaPFileA
namespace Go.Proofs.Ytollmifjbcccgaa
open Go Go.Dm
set_option linter.unusedVariables false
set_option linter.unusedSectionVars false
set_option linter.unusedSimpArgs false
namespace G
/-- bits of a row -/
def sp (row : List UInt8) (m i : Nat) : Nat := (crc row % 65536 + i * (crc row / 65536)) % m
theorem sp_lt (row : List UInt8) (m i : Nat) (h : 0 < m) : sp row m i < m := Nat.mod_lt _ h
theorem spots_eq (row : List UInt8) (m : Nat) (hr : row.length ≤ 140737488351232) (h0 : 0 < m) (h1 : m ≤ 1000000) : file_spots row (m : Int) = some ⟨(sp row m 0 : Nat), (sp row m 1 : Nat), (sp row m 2 : Nat)⟩ := by
  have hc := crc_lt row
  have e1 : w64 ((crc row : Nat) : Int) = ((crc row : Nat) : Int) := w64_id (by omega) (by omega)
  have e2 : Int.tmod ((crc row : Nat) : Int) 65536 = ((crc row % 65536 : Nat) : Int) := rfl
  have e3 : Int.tdiv ((crc row : Nat) : Int) 65536 = ((crc row / 65536 : Nat) : Int) := rfl
  have q1 : crc row % 65536 < 65536 := Nat.mod_lt _ (by decide)
  have q2 : crc row / 65536 < 65536 := by omega
  have e4 : w64 ((crc row / 65536 : Nat) : Int) = ((crc row / 65536 : Nat) : Int) := w64_id (by omega) (by omega)
  unfold file_spots file_spots_J1 sp
  rw [asrt_pos (by omega), crc_eq row (by omega), ob_some]
  dsimp only [lt]
  rw [asrt_pos (by omega), asrt_pos (by omega), asrt_pos (by omega), e1, e2, e3, e4]
  generalize crc row % 65536 = a at *
  generalize crc row / 65536 = b at *
  have f0 : w64 ((a : Int) + w64 (0 * (b : Int))) = ((a + 0 * b : Nat) : Int) := by
    have : w64 (0 * (b : Int)) = 0 := by rw [Int.zero_mul]; rfl
    rw [this, w64_id (by omega) (by omega)]; omega
  have f1 : w64 ((a : Int) + w64 (1 * (b : Int))) = ((a + 1 * b : Nat) : Int) := by
    have : w64 (1 * (b : Int)) = b := by rw [Int.one_mul, w64_id (by omega) (by omega)]
    rw [this, w64_id (by omega) (by omega)]; omega
  have f2 : w64 ((a : Int) + w64 (2 * (b : Int))) = ((a + 2 * b : Nat) : Int) := by
    have : w64 (2 * (b : Int)) = 2 * b := w64_id (by omega) (by omega)
    rw [this, w64_id (by omega) (by omega)]; omega
  rw [f0, f1, f2]
  rfl
theorem bits_eq (row : List UInt8) (m : Nat) (hr : row.length ≤ 140737488351232) (h0 : 0 < m) (h1 : m ≤ 1000000) : R_Bits row (m : Int) = some [((sp row m 0 : Nat) : Int), ((sp row m 1 : Nat) : Int), ((sp row m 2 : Nat) : Int)] := by
  have hc := crc_lt row
  have u : ∀ x : Nat, x ≤ 10000000000 → IntKind.u64.wrap (x : Int) = (x : Int) := fun x hx => by rw [IntKind.wrap_u64]; omega
  have e2 : Int.tmod ((crc row : Nat) : Int) 65536 = ((crc row % 65536 : Nat) : Int) := rfl
  have e3 : Int.tdiv ((crc row : Nat) : Int) 65536 = ((crc row / 65536 : Nat) : Int) := rfl
  have q1 : crc row % 65536 < 65536 := Nat.mod_lt _ (by decide)
  have q2 : crc row / 65536 < 65536 := by omega
  unfold R_Bits sp
  rw [asrt_pos (by omega), rest_eq row (by omega), ob_some, u m (by omega), asrt_pos (by omega), asrt_pos (by omega), asrt_pos (by omega), u (crc row) (by omega)]
  dsimp only [lt]
  rw [e2, e3, u _ (by omega)]
  generalize crc row % 65536 = a at *
  generalize crc row / 65536 = b at *
  have g2 : (2 * (b : Int)) = ((2 * b : Nat) : Int) := by omega
  rw [g2, u _ (by omega), show (a : Int) + (b : Int) = ((a + b : Nat) : Int) by omega, show (a : Int) + ((2 * b : Nat) : Int) = ((a + 2 * b : Nat) : Int) by omega, u _ (by omega), u _ (by omega)]
  have t : ∀ x : Nat, w64 (Int.tmod (x : Int) (m : Int)) = ((x % m : Nat) : Int) := fun x => by
    have e : Int.tmod (x : Int) (m : Int) = ((x % m : Nat) : Int) := rfl
    have := Nat.mod_lt x h0
    rw [e, w64_id (by omega) (by omega)]
  rw [t, t, t, Nat.zero_mul, Nat.one_mul, Nat.add_zero]
/-- the rows of the first cells, each once -/
def rowsK (l : List Cell) : Nat → List (List UInt8)
  | 0 => []
  | k + 1 => if (rowsK l k).length = 0 ∨ lget (rowsK l k) ((rowsK l k).length - 1) ≠ (lget l (k : Int)).Row then rowsK l k ++ [(lget l (k : Int)).Row] else rowsK l k
theorem rowsK_last (l : List Cell) : ∀ k : Nat, (rowsK l (k + 1)).length ≠ 0 ∧ lget (rowsK l (k + 1)) ((rowsK l (k + 1)).length - 1) = (lget l (k : Int)).Row ∧ (rowsK l (k + 1)).length ≤ k + 1
  | 0 => by
    rw [rowsK, if_pos (.inl rfl)]
    exact ⟨by simp [rowsK], by simp [rowsK, lget], by simp [rowsK]⟩
  | k + 1 => by
    obtain ⟨h1, h2, h3⟩ := rowsK_last l k
    rw [rowsK]
    by_cases c : (rowsK l (k + 1)).length = 0 ∨ lget (rowsK l (k + 1)) ((rowsK l (k + 1)).length - 1) ≠ (lget l ((k + 1 : Nat) : Int)).Row
    · rw [if_pos c]
      refine ⟨by simp, ?_, by rw [List.length_append, List.length_singleton]; omega⟩
      rw [List.length_append, List.length_singleton, lget_app_r _ _ _ (by omega)]
      have : (((rowsK l (k + 1)).length + 1 : Nat) : Int) - 1 - ((rowsK l (k + 1)).length : Int) = 0 := by omega
      rw [this]; rfl
    · rw [if_neg c]
      exact ⟨h1, Decidable.not_not.1 (fun q => c (.inr q)), by omega⟩
theorem rowsK_len (l : List Cell) (k : Nat) : (rowsK l k).length ≤ k := by
  cases k with
  | zero => simp [rowsK]
  | succ k => exact (rowsK_last l k).2.2
theorem rowsK_mem (l : List Cell) (x : List UInt8) : ∀ k : Nat, x ∈ rowsK l k ↔ ∃ j, j < k ∧ x = (lget l (j : Int)).Row
  | 0 => by simp [rowsK]
  | k + 1 => by
    have ih := rowsK_mem l x k
    rw [rowsK]
    have hs : (∃ j, j < k + 1 ∧ x = (lget l (j : Int)).Row) ↔ (x ∈ rowsK l k ∨ x = (lget l (k : Int)).Row) := by
      rw [ih]
      constructor
      · rintro ⟨j, hj, e⟩
        by_cases c : j = k
        · subst c; exact .inr e
        · exact .inl ⟨j, by omega, e⟩
      · rintro (⟨j, hj, e⟩ | e)
        · exact ⟨j, by omega, e⟩
        · exact ⟨k, by omega, e⟩
    rw [hs]
    split
    · rw [List.mem_append, List.mem_singleton]
    · rename_i c
      constructor
      · exact .inl
      · rintro (h | h)
        · exact h
        · cases k with
          | zero => exact absurd (Or.inl rfl) c
          | succ k =>
            have := Decidable.not_not.1 (fun q => c (.inr q))
            rw [h, ← this]
            exact lget_mem _ _ (by have := (rowsK_last l k).1; omega)
/-- bits are set -/
def spP (p : Nat → Bool) (row : List UInt8) (m : Nat) : Nat → Bool := setP (setP (setP p (sp row m 0)) (sp row m 1)) (sp row m 2)
def hit (row : List UInt8) (m i : Nat) : Prop := i = sp row m 0 ∨ i = sp row m 1 ∨ i = sp row m 2
theorem spP_iff (p : Nat → Bool) (row : List UInt8) (m i : Nat) : spP p row m i = true ↔ (p i = true ∨ hit row m i) := by
  unfold spP setP hit
  simp only [Bool.or_eq_true, beq_iff_eq]
  constructor
  · rintro (((h | h) | h) | h)
    · exact .inl h
    · exact .inr (.inl h)
    · exact .inr (.inr (.inl h))
    · exact .inr (.inr (.inr h))
  · rintro (h | h | h | h)
    · exact .inl (.inl (.inl h))
    · exact .inl (.inl (.inr h))
    · exact .inl (.inr h)
    · exact .inr h
def rowP (r : List (List UInt8)) (m : Nat) : Nat → Nat → Bool
  | 0 => fun _ => false
  | k + 1 => spP (rowP r m k) (lget r (k : Int)) m
theorem rowP_iff (r : List (List UInt8)) (m i : Nat) : ∀ k : Nat, rowP r m k i = true ↔ ∃ j, j < k ∧ hit (lget r (j : Int)) m i
  | 0 => by simp [rowP]
  | k + 1 => by
    rw [rowP, spP_iff, rowP_iff r m i k]
    constructor
    · rintro (⟨j, hj, h⟩ | h)
      · exact ⟨j, by omega, h⟩
      · exact ⟨k, by omega, h⟩
    · rintro ⟨j, hj, h⟩
      by_cases c : j = k
      · subst c; exact .inr h
      · exact .inl ⟨j, by omega, h⟩
def celR (l : List Cell) : List (List UInt8) := l.map (fun c => c.Row)
theorem celR_get (l : List Cell) (k : Nat) (h : k < l.length) : lget (celR l) (k : Int) = (lget l (k : Int)).Row := by
  rw [lget_nat _ k (by simp [celR]; exact h), lget_nat _ k h]; simp [celR]
/-- how many bytes a filter has -/
def filN (l : List Cell) : Nat := max 1 (rowsK l l.length).length
def filF (l : List Cell) : List UInt8 := bytesOf (rowP (celR l) (8 * filN l) l.length) (filN l)
theorem filF_rows (l : List Cell) : filF l = bytesOf (rowP (rowsK l l.length) (8 * filN l) (rowsK l l.length).length) (filN l) := by
  unfold filF
  refine bytesOf_congr _ fun i _ => ?_
  rw [Bool.eq_iff_iff, rowP_iff, rowP_iff]
  constructor
  · rintro ⟨j, hj, h⟩
    rw [celR_get l j hj] at h
    obtain ⟨q, hq, e⟩ := mem_lget.1 ((rowsK_mem l (lget l (j : Int)).Row l.length).2 ⟨j, hj, rfl⟩)
    exact ⟨q, hq, by rw [e]; exact h⟩
  · rintro ⟨q, hq, h⟩
    obtain ⟨j, hj, e⟩ := (rowsK_mem l _ l.length).1 (lget_mem (rowsK l l.length) (q : Int) (by omega))
    exact ⟨j, hj, by rw [celR_get l j hj, ← e]; exact h⟩
theorem filN_bd (l : List Cell) : 1 ≤ filN l ∧ filN l ≤ l.length + 1 := by
  have := rowsK_len l l.length
  unfold filN; omega
/-- the program's filter -/
theorem filter_B1 (l : List Cell) (hl : l.length ≤ 100000) (hr : ∀ c ∈ l, c.Row.length ≤ 140737488351232) (n : Nat) (hn0 : 1 ≤ n) (hn : n ≤ 100001) (p : Nat → Bool) (k : Nat) (hk : k < l.length) :
    file_filter_B1 l (bytesOf p n, (k : Int)) = some (.inl (bytesOf (spP p (lget l (k : Int)).Row (8 * n)) n, ((k + 1 : Nat) : Int))) := by
  have hw : w64 ((k : Int) + 1) = ((k + 1 : Nat) : Int) := by rw [w64_id (by omega) (by omega)]; omega
  have h8 : w64 (8 * (n : Int)) = ((8 * n : Nat) : Int) := by rw [w64_id (by omega) (by omega)]; omega
  have hrow := hr _ (lget_mem l (k : Int) (by omega))
  have m0 : 0 < 8 * n := by omega
  unfold file_filter_B1
  dsimp only
  rw [bytesOf_len, if_pos (d_t (by omega)), asrt_pos (by omega), h8, spots_eq _ _ hrow m0 (by omega), ob_some]
  dsimp only [lt]
  generalize (lget l (k : Int)).Row = row at *
  have s0 := sp_lt row (8 * n) 0 m0
  have s1 := sp_lt row (8 * n) 1 m0
  have s2 := sp_lt row (8 * n) 2 m0
  unfold spP
  generalize sp row (8 * n) 0 = a at *
  generalize sp row (8 * n) 1 = b at *
  generalize sp row (8 * n) 2 = c at *
  have tm : ∀ x : Nat, 0 ≤ Int.tmod (x : Int) 8 := fun x => by have : Int.tmod (x : Int) 8 = ((x % 8 : Nat) : Int) := rfl; omega
  rw [div_w a (by omega), div_w b (by omega), div_w c (by omega), asrt_pos (by omega), asrt_pos (by omega), asrt_pos (tm a), asrt_pos (by omega), asrt_pos (by omega), or_set p n a s0, bytesOf_set p n a s0, bytesOf_len,
    asrt_pos (by omega), asrt_pos (by omega), asrt_pos (tm b), asrt_pos (by omega), asrt_pos (by omega), or_set _ n b s1, bytesOf_set _ n b s1, bytesOf_len,
    asrt_pos (by omega), asrt_pos (by omega), asrt_pos (tm c), asrt_pos (by omega), asrt_pos (by omega), or_set _ n c s2, bytesOf_set _ n c s2]
  unfold file_filter_J3
  dsimp only
  rw [hw]
theorem filter_eq (l : List Cell) (hl : l.length ≤ 100000) (hr : ∀ c ∈ l, c.Row.length ≤ 140737488351232) : file_filter l = some (filF l) := by
  have hN := filN_bd l
  unfold file_filter file_filter_L2
  refine loop_run (step := fun y => file_filter_B2 l y) l.length (fun k => (((rowsK l k).length : Int), (k : Int))) (fun k hk => ?_) ?_
  · have hw : w64 ((k : Int) + 1) = ((k + 1 : Nat) : Int) := by rw [w64_id (by omega) (by omega)]; omega
    have hrl := rowsK_len l k
    have hw2 : w64 (((rowsK l k).length : Int) + 1) = (((rowsK l k).length + 1 : Nat) : Int) := by rw [w64_id (by omega) (by omega)]; omega
    have hw3 : w64 ((k : Int) - 1) = (k : Int) - 1 := w64_id (by omega) (by omega)
    show file_filter_B2 l (_, (k : Int)) = _
    unfold file_filter_B2
    dsimp only
    rw [if_pos (d_t (by omega)), asrt_pos (by omega), hw3, hw, asrt_pos (fun q => by have h3 : ¬ ((k : Int) = 0) := (by simpa using q); omega)]
    have hc : ((decide ((k : Int) = 0)) || (!decide ((lget l (k : Int)).Row = (lget l ((k : Int) - 1)).Row))) = decide ((rowsK l k).length = 0 ∨ lget (rowsK l k) ((rowsK l k).length - 1) ≠ (lget l (k : Int)).Row) := by
      rw [Bool.eq_iff_iff]
      simp only [Bool.or_eq_true, decide_eq_true_eq, Bool.not_eq_true', decide_eq_false_iff_not]
      cases k with
      | zero => simp [rowsK]
      | succ k =>
        obtain ⟨h1, h2, _⟩ := rowsK_last l k
        have e : ((k + 1 : Nat) : Int) - 1 = (k : Int) := by omega
        rw [e, h2]
        constructor
        · rintro (q | q)
          · omega
          · exact .inr fun x => q x.symm
        · rintro (q | q)
          · exact absurd q h1
          · exact .inr fun x => q x.symm
    rw [hc, rowsK]
    by_cases c : (rowsK l k).length = 0 ∨ lget (rowsK l k) ((rowsK l k).length - 1) ≠ (lget l (k : Int)).Row
    · rw [if_pos (d_t c), if_pos c, hw2, ob_some, List.length_append, List.length_singleton]
    · rw [if_neg (d_f c), if_neg c, ob_some]
  · show file_filter_B2 l (_, (l.length : Int)) = _
    unfold file_filter_B2
    dsimp only
    rw [if_neg (d_f (by omega))]
    have hmx : (max 1 ((rowsK l l.length).length : Int)) = ((filN l : Nat) : Int) := by unfold filN; omega
    have : file_filter_J1 l ((rowsK l l.length).length : Int) = some (filF l) := by
      unfold file_filter_J1
      rw [hmx, asrt_pos (by omega), Int.toNat_natCast, bytesOf_zero]
      unfold file_filter_L1 filF
      refine loop_run (step := fun y => file_filter_B1 l y) l.length (fun k => (bytesOf (rowP (celR l) (8 * filN l) k) (filN l), (k : Int))) (fun k hk => ?_) ?_
      · show file_filter_B1 l (bytesOf _ _, (k : Int)) = _
        rw [filter_B1 l hl hr _ hN.1 (by omega) _ k hk, rowP, celR_get l k hk]
      · show file_filter_B1 l (bytesOf _ _, (l.length : Int)) = _
        unfold file_filter_B1
        dsimp only
        rw [if_neg (d_f (by omega))]; rfl
    rw [this]; rfl
end G
end Go.Proofs.Ytollmifjbcccgaa
