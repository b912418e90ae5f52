/- The document's filter. -/
import Derived.Test.YtollmifjbcccgaaPFileB
namespace Go.Proofs.Ytollmifjbcccgaa
open Go Go.Dm
set_option linter.unusedVariables false
set_option linter.unusedSectionVars false
set_option linter.unusedSimpArgs false
namespace G
theorem rrows_eq (l : List Cell) (hl : l.length ≤ 100000) : R_RowsOf l = some (rowsK l l.length) := by
  unfold R_RowsOf R_RowsOf_L1
  refine loop_run (step := fun y => R_RowsOf_B1 l y) l.length (fun k => (rowsK l k, (k : Int))) (fun k hk => ?_) ?_
  · have hw : w64 ((k : Int) + 1) = ((k + 1 : Nat) : Int) := by rw [w64_id (by omega) (by omega)]; omega
    have hrl := rowsK_len l k
    have hw3 : w64 (((rowsK l k).length : Int) - 1) = ((rowsK l k).length : Int) - 1 := w64_id (by omega) (by omega)
    show R_RowsOf_B1 l (rowsK l k, (k : Int)) = _
    unfold R_RowsOf_B1
    dsimp only
    have hz : (!(decide (((rowsK l k).length : Int) = 0))) = true → 0 < (rowsK l k).length := fun q => by
      have : ¬ (((rowsK l k).length : Int) = 0) := by simpa using q
      omega
    rw [if_pos (d_t (by omega)), hw3, hw, asrt_pos (fun q => by have := hz q; omega), asrt_pos (fun q => by have := hz q; omega), asrt_pos (fun q => by omega)]
    have hc : ((decide (((rowsK l k).length : Int) = 0)) || (!decide ((lget (rowsK l k) (((rowsK l k).length : Int) - 1)) = ((lget l (k : Int)).Row)))) = decide ((rowsK l k).length = 0 ∨ lget (rowsK l k) ((rowsK l k).length - 1) ≠ (lget l (k : Int)).Row) := by
      rw [Bool.eq_iff_iff]
      simp only [Bool.or_eq_true, decide_eq_true_eq, Bool.not_eq_true', decide_eq_false_iff_not]
      constructor
      · rintro (q | q)
        · exact .inl (by omega)
        · exact .inr q
      · rintro (q | q)
        · exact .inl (by omega)
        · exact .inr q
    rw [hc, rowsK]
    by_cases c : (rowsK l k).length = 0 ∨ lget (rowsK l k) ((rowsK l k).length - 1) ≠ (lget l (k : Int)).Row
    · rw [if_pos (d_t c), if_pos c, asrt_pos (by omega), asrt_pos (by rw [List.length_append, List.length_singleton]; omega), ob_some]
    · rw [if_neg (d_f c), if_neg c, ob_some]
  · show R_RowsOf_B1 l (rowsK l l.length, (l.length : Int)) = _
    unfold R_RowsOf_B1
    dsimp only
    rw [if_neg (d_f (by omega))]; rfl
/-- bits as a list -/
def bools (p : Nat → Bool) (m : Nat) : List Bool := (List.range m).map p
theorem bools_len (p : Nat → Bool) (m : Nat) : (bools p m).length = m := by simp [bools]
theorem bools_get (p : Nat → Bool) (m i : Nat) (h : i < m) : lget (bools p m) (i : Int) = p i := by
  rw [lget_nat _ i (by rw [bools_len]; exact h)]; simp [bools]
theorem bools_set (p : Nat → Bool) (m s : Nat) : lset (bools p m) (s : Int) true = bools (setP p s) m := by
  apply List.ext_getElem?
  intro j
  have e : lset (bools p m) (s : Int) true = (bools p m).set s true := rfl
  rw [e, List.getElem?_set, bools_len]
  by_cases hj : s = j
  · subst hj
    rw [if_pos rfl]
    by_cases h : s < m
    · rw [if_pos h]; simp [bools, h, setP]
    · rw [if_neg h]; simp [bools, h]
  · rw [if_neg hj]
    by_cases h : j < m
    · have : (j == s) = false := by rw [beq_eq_false_iff_ne]; omega
      simp [bools, h, setP, this]
    · simp [bools, h]
theorem bools_zero (m : Nat) : List.replicate m false = bools (fun _ => false) m := by
  apply List.ext_getElem?
  intro j
  by_cases h : j < m <;> simp [bools, h]
theorem rfil_L3 (v6 : List Bool × Int) (p : Nat → Bool) (m a b c : Nat) (ha : a < m) (hb : b < m) (hc : c < m) : R_FilterOf_L3 v6 [(a : Int), (b : Int), (c : Int)] (bools p m, 0) = some (.inl (bools (setP (setP (setP p a) b) c) m, w64 (v6.2 + 1))) := by
  have st : ∀ (q : Nat → Bool) (k : Nat) (x : Nat), k < 3 → lget [(a : Int), (b : Int), (c : Int)] (k : Int) = (x : Int) → x < m → R_FilterOf_B3 v6 [(a : Int), (b : Int), (c : Int)] (bools q m, (k : Int)) = some (.inl (bools (setP q x) m, ((k + 1 : Nat) : Int))) := by
    intro q k x hk hx hxm
    have hw : w64 ((k : Int) + 1) = ((k + 1 : Nat) : Int) := by rw [w64_id (by omega) (by omega)]; omega
    have hlen : (([(a : Int), (b : Int), (c : Int)] : List Int).length : Int) = 3 := rfl
    unfold R_FilterOf_B3
    dsimp only
    rw [hlen, if_pos (d_t (by omega)), asrt_pos (by omega), hx, bools_len, asrt_pos (by omega), asrt_pos (by omega), bools_set, hw]
  have e1 := loopO_inl (step := fun y => R_FilterOf_B3 v6 [(a : Int), (b : Int), (c : Int)] y) (st p 0 a (by omega) rfl ha)
  have e2 := loopO_inl (step := fun y => R_FilterOf_B3 v6 [(a : Int), (b : Int), (c : Int)] y) (st (setP p a) 1 b (by omega) rfl hb)
  have e3 := loopO_inl (step := fun y => R_FilterOf_B3 v6 [(a : Int), (b : Int), (c : Int)] y) (st (setP (setP p a) b) 2 c (by omega) rfl hc)
  have e4 : loopO (fun y => R_FilterOf_B3 v6 [(a : Int), (b : Int), (c : Int)] y) (bools (setP (setP (setP p a) b) c) m, ((2 + 1 : Nat) : Int)) = some (.inl (bools (setP (setP (setP p a) b) c) m, w64 (v6.2 + 1))) := by
    refine loopO_inr ?_
    have hlen : (([(a : Int), (b : Int), (c : Int)] : List Int).length : Int) = 3 := rfl
    unfold R_FilterOf_B3 R_FilterOf_J3
    dsimp only
    rw [hlen, if_neg (d_f (by decide))]; rfl
  exact e1.trans (e2.trans (e3.trans e4))
def pre (p : Nat → Bool) (k : Nat) : Nat → Bool := fun i => p i && decide (i < k)
theorem pre_succ (p : Nat → Bool) (k : Nat) : (p k = true → ∀ i, pre p (k + 1) i = setP (pre p k) k i) ∧ (p k = false → ∀ i, pre p (k + 1) i = pre p k i) := by
  constructor
  · intro h i
    unfold pre setP
    by_cases c : i = k
    · subst c; simp [h]
    · have e1 : (i == k) = false := by rw [beq_eq_false_iff_ne]; exact c
      have e2 : decide (i < k + 1) = decide (i < k) := by rw [decide_eq_decide]; omega
      rw [e1, e2, Bool.or_false]
  · intro h i
    unfold pre
    by_cases c : i = k
    · subst c; simp [h]
    · have e2 : decide (i < k + 1) = decide (i < k) := by rw [decide_eq_decide]; omega
      rw [e2]
theorem rfil_J1 (p : Nat → Bool) (n : Nat) (h0 : 1 ≤ n) (h1 : n ≤ 100001) : R_FilterOf_J1 (n : Int) (bools p (8 * n)) = some (bytesOf p n) := by
  unfold R_FilterOf_J1
  rw [asrt_pos (by omega), Int.toNat_natCast, bytesOf_zero]
  have e0 : bytesOf (fun _ => false) n = bytesOf (pre p 0) n := bytesOf_congr n fun i _ => by simp [pre]
  have e1 : bytesOf p n = bytesOf (pre p (8 * n)) n := bytesOf_congr n fun i hi => by simp [pre, hi]
  rw [e0, e1]
  unfold R_FilterOf_L1
  refine loop_run (step := fun y => R_FilterOf_B1 (bools p (8 * n)) y) (8 * n) (fun k => (bytesOf (pre p k) n, (k : Int))) (fun k hk => ?_) ?_
  · have hw : w64 ((k : Int) + 1) = ((k + 1 : Nat) : Int) := by rw [w64_id (by omega) (by omega)]; omega
    have tm : 0 ≤ Int.tmod (k : Int) 8 := by have : Int.tmod (k : Int) 8 = ((k % 8 : Nat) : Int) := rfl; omega
    show R_FilterOf_B1 (bools p (8 * n)) (bytesOf (pre p k) n, (k : Int)) = _
    unfold R_FilterOf_B1
    dsimp only
    rw [bools_len, bytesOf_len, if_pos (d_t (by omega)), asrt_pos (by omega), asrt_pos (by omega), bools_get p _ k hk, hw]
    cases hp : p k with
    | true =>
      rw [if_pos rfl, div_w k (by omega), asrt_pos (by omega), asrt_pos (by omega), asrt_pos tm, asrt_pos (by omega), asrt_pos (by omega), add_set _ n k hk (by simp [pre]), bytesOf_set _ n k hk]
      dsimp only [lt]
      rw [ob_some, bytesOf_congr n fun i _ => (pre_succ p k).1 hp i]
    | false =>
      rw [if_neg (by decide), ob_some, bytesOf_congr n fun i _ => (pre_succ p k).2 hp i]
  · show R_FilterOf_B1 (bools p (8 * n)) (bytesOf (pre p (8 * n)) n, ((8 * n : Nat) : Int)) = _
    unfold R_FilterOf_B1
    dsimp only
    rw [bools_len, if_neg (d_f (by omega))]; rfl
theorem rfilter_eq (l : List Cell) (hl : l.length ≤ 100000) (hr : ∀ c ∈ l, c.Row.length ≤ 140737488351232) : R_FilterOf l = some (filF l) := by
  have hN := filN_bd l
  have hrl := rowsK_len l l.length
  unfold R_FilterOf
  rw [rrows_eq l hl, ob_some]
  have hv : (if (decide (((rowsK l l.length).length : Int) = 0)) = true then (some 1 : Option Int) else some ((rowsK l l.length).length : Int)) = some ((filN l : Nat) : Int) := by
    by_cases c : ((rowsK l l.length).length : Int) = 0
    · rw [if_pos (d_t c)]; unfold filN; congr 1; omega
    · rw [if_neg (d_f c)]; unfold filN; congr 1; omega
  have h8 : w64 (8 * ((filN l : Nat) : Int)) = ((8 * filN l : Nat) : Int) := by rw [w64_id (by omega) (by omega)]; omega
  rw [hv, ob_some, h8, asrt_pos (by omega), Int.toNat_natCast, bools_zero, filF_rows]
  have hrow : ∀ x ∈ rowsK l l.length, x.length ≤ 140737488351232 := by
    intro x hx
    obtain ⟨j, hj, e⟩ := (rowsK_mem l x l.length).1 hx
    rw [e]; exact hr _ (lget_mem l (j : Int) (by omega))
  have m0 : 0 < 8 * filN l := by omega
  unfold R_FilterOf_L2
  generalize rowsK l l.length = r at *
  refine loop_run (step := fun y => R_FilterOf_B2 r ((filN l : Nat) : Int) y) r.length (fun k => (bools (rowP r (8 * filN l) k) (8 * filN l), (k : Int))) (fun k hk => ?_) ?_
  · have hw : w64 ((k : Int) + 1) = ((k + 1 : Nat) : Int) := by rw [w64_id (by omega) (by omega)]; omega
    show R_FilterOf_B2 r ((filN l : Nat) : Int) (bools _ _, (k : Int)) = _
    unfold R_FilterOf_B2
    dsimp only
    rw [if_pos (d_t (by omega)), asrt_pos (by omega), asrt_pos (by omega), h8, bits_eq _ _ (hrow _ (lget_mem r (k : Int) (by omega))) m0 (by omega), ob_some, rfil_L3 _ _ _ _ _ _ (sp_lt _ _ _ m0) (sp_lt _ _ _ m0) (sp_lt _ _ _ m0)]
    dsimp only
    rw [hw, rowP]; rfl
  · show R_FilterOf_B2 r ((filN l : Nat) : Int) (bools _ _, (r.length : Int)) = _
    unfold R_FilterOf_B2
    dsimp only
    rw [if_neg (d_f (by omega)), rfil_J1 _ _ hN.1 (by omega)]; rfl
end G
end Go.Proofs.Ytollmifjbcccgaa
