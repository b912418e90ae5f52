/- Numbers as bytes: what the program's functions and the document's answer. -/
import Derived.Test.YtiakadlmebbafaaEm38
import Derived.Test.YtiakadlmebbafaaGf2
namespace Go.Proofs.Ytiakadlmebbafaa
open Go Go.Dm
set_option linter.unusedVariables false
set_option linter.unusedSimpArgs false
namespace G
theorem addNum_loop (n : Nat) : ∀ (r : List UInt8), r.length + (num n).length ≤ 1000000000000 → wire_AddNum_v2_L1 (r, (n : Int)) = some (r ++ num n) := by
  induction n using Nat.strongRecOn with
  | _ n ih =>
    intro r h
    by_cases c : n < 128
    · rw [num_lt c] at h ⊢
      refine loopO_inr ?_
      simp only [wire_AddNum_v2_B1]
      rw [if_neg (d_f (by omega))]
      simp only [wire_AddNum_v2_J1, toU8_nat]
      rw [asrt_pos (by simp at h ⊢; omega)]; rfl
    · rw [num_ge c] at h ⊢
      have e7 : (2 : Int) ^ (min (7 : Int).toNat 64) = ((128 : Nat) : Int) := by decide
      have e8 : (UInt8.ofNat n).toNat % 128 + 128 = n % 128 + 128 := by rw [UInt8.toNat_ofNat']; omega
      refine (loopO_inl (y := (r ++ [UInt8.ofNat (n % 128 + 128)], ((n / 128 : Nat) : Int))) ?_).trans ((ih (n / 128) (by omega) _ (by simp at h ⊢; omega)).trans (by simp))
      simp only [wire_AddNum_v2_B1, or128]
      rw [toU8_nat, e8, e7, fdiv_nat, if_pos (d_t (by omega)), asrt_pos (by simp at h ⊢; omega)]
      rfl
theorem addNum_eq (n : Nat) (r : List UInt8) (h : r.length + (num n).length ≤ 1000000000000) : wire_AddNum_v2 (n : Int) r = some (r ++ num n) := addNum_loop n r h
def fault (c a : Int) : Fault := ⟨c, a⟩
/-- the first number that is out of range -/
def bad : List Int → Int → Option Int
  | [], _ => none
  | n :: l, i => if n < 0 ∨ 1000000000 < n then some i else bad l (i + 1)
def encN (l : List Int) : List UInt8 := wrAll (fun n => num n.toNat) l
def numsS (l : List Int) : List UInt8 × Fault :=
  if 1000 < l.length then ([], ⟨2, 0⟩) else match bad l 0 with
    | some i => ([], ⟨3, i⟩)
    | none => (encN l, ⟨0, 0⟩)
theorem encN_cons (n : Int) (l : List Int) : encN (n :: l) = num n.toNat ++ encN l := by simp [encN, wrAll]
theorem nums_loop (l : List Int) (hl : l.length ≤ 1000) (z : Fault) : ∀ (m k : Nat) (acc : List UInt8), l.length - k = m → k ≤ l.length → acc.length ≤ 5 * k →
    wire_Nums_v1_L1 l (z, acc, (k : Int)) = some (match bad (l.drop k) k with | some i => ([], ⟨3, i⟩) | none => (acc ++ encN (l.drop k), ⟨0, 0⟩))
  | 0, k, acc, e, hk, ha => by
    have : k = l.length := by omega
    subst this
    refine loopO_inr ?_
    simp only [wire_Nums_v1_B1]
    rw [if_neg (d_f (by omega))]
    simp [inrO, wire_Nums_v1_J1, bad, encN, wrAll]
  | m + 1, k, acc, e, hk, ha => by
    have hlt : k < l.length := by omega
    have hw : w64 ((k : Int) + 1) = ((k + 1 : Nat) : Int) := by rw [w64_id (by omega) (by omega)]; omega
    rw [lget_drop l k hlt, bad, encN_cons]
    by_cases c : lget l (k : Int) < 0 ∨ 1000000000 < lget l (k : Int)
    · rw [if_pos c]
      refine loopO_inr ?_
      simp only [wire_Nums_v1_B1]
      rw [if_pos (d_t (by omega)), asrt_pos (by omega), if_pos (or_t c)]; rfl
    · rw [if_neg c]
      obtain ⟨n, hn⟩ : ∃ n : Nat, lget l (k : Int) = (n : Int) := ⟨(lget l (k : Int)).toNat, by omega⟩
      have h5 := num_len5 (n := n) (by omega)
      have ih := nums_loop l hl z m (k + 1) (acc ++ num n) (by omega) (by omega) (by simp; omega)
      have e1 : (k : Int) + 1 = ((k + 1 : Nat) : Int) := by omega
      refine (loopO_inl (y := (z, acc ++ num n, ((k + 1 : Nat) : Int))) ?_).trans (ih.trans ?_)
      · simp only [wire_Nums_v1_B1]
        rw [if_pos (d_t (by omega)), asrt_pos (by omega), if_neg (or_f c), hn, addNum_eq n acc (by omega), ob_some, hw]
      · rw [hn, e1, Int.toNat_natCast, List.append_assoc]
theorem nums_eq (l : List Int) : wire_Nums_v1 l = some (numsS l) := by
  unfold wire_Nums_v1 numsS
  by_cases c : 1000 < l.length
  · rw [if_pos (d_t (by omega)), if_pos c]; rfl
  · rw [if_neg (d_f (by omega)), if_neg c]
    have := nums_loop l (by omega) ⟨0, 0⟩ l.length 0 [] (by omega) (by omega) (by simp)
    simpa using this
/- numbers read -/
def rfin (bd : Bool) : Option (Nat × List UInt8) → Int × Reader
  | some (n, r) => ((n : Int), ⟨r, bd⟩)
  | none => (0, ⟨[], true⟩)
theorem pow128 (i : Nat) : 128 ^ i = 2 ^ (7 * i) := by rw [Nat.pow_mul]
theorem num_loop (b : List UInt8) (bd : Bool) (hb : b.length ≤ 1000000000000) : ∀ (m i n : Nat), b.length - i = m → i ≤ b.length → i ≤ 5 → n < 128 ^ i →
    wire_Reader_Num_L1 (⟨b, bd⟩, (n : Int), b, (b.length : Int), (i : Int)) = some (rfin bd (go i n (b.drop i)))
  | 0, i, n, e, hi, h5, hn => by
    have : i = b.length := by omega
    subst this
    refine loopO_inr ?_
    simp only [wire_Reader_Num_B1]
    rw [if_neg (d_f (by omega))]
    simp [inrO, wire_Reader_Num_J1, go, rfin]
  | m + 1, i, n, e, hi, h5, hn => by
    have hlt : i < b.length := by omega
    have hw : w64 ((i : Int) + 1) = ((i + 1 : Nat) : Int) := by rw [w64_id (by omega) (by omega)]; omega
    have hw7 : w64 (7 * (i : Int)) = ((7 * i : Nat) : Int) := by rw [w64_id (by omega) (by omega)]; omega
    rw [lget_drop b i hlt, go]
    generalize hx : lget b (i : Int) = x
    by_cases c5 : 4 < i
    · rw [if_pos (.inl c5)]
      refine loopO_inr ?_
      simp only [wire_Reader_Num_B1]
      rw [if_pos (d_t (by omega)), asrt_pos (by omega), asrt_pos (by omega)]
      have c5' : decide (4 < (i : Int)) = true := d_t (by omega)
      simp only [lt, c5', Bool.true_or, if_true]
      rfl
    · have hP : 128 ^ i ≤ 128 ^ 4 := Nat.pow_le_pow_right (by omega) (by omega)
      have hP4 : (128 : Nat) ^ 4 = 268435456 := by decide
      have hy : x.toNat % 128 < 128 := by omega
      have hyP : x.toNat % 128 * 128 ^ i ≤ 127 * 128 ^ 4 := Nat.mul_le_mul (by omega) hP
      have epow : (2 : Int) ^ (min (((7 * i : Nat) : Int)).toNat 64) = ((128 ^ i : Nat) : Int) := by
        rw [Int.toNat_natCast, show min (7 * i) 64 = 7 * i by omega, pow128]; simp
      have e2 : bitsOp .or .i64 (n : Int) (w64 ((w64 ((x.toNat % 128 : Nat) : Int)) * ((128 ^ i : Nat) : Int))) = ((n + x.toNat % 128 * 128 ^ i : Nat) : Int) := by
        rw [w64_id (x := ((x.toNat % 128 : Nat) : Int)) (by omega) (by omega), ← Int.natCast_mul, w64_id (by omega) (by omega), bits_or64 (by omega) (by omega)]
        rw [pow128] at hn ⊢
        rw [or_add hn]
      by_cases cb : 1000000000 < n + x.toNat % 128 * 128 ^ i
      · rw [if_pos (.inr cb)]
        refine loopO_inr ?_
        simp only [wire_Reader_Num_B1, hw7, hx, and127, epow, e2]
        rw [if_pos (d_t (by omega)), asrt_pos (by omega), asrt_pos (by omega)]
        have cb' : decide ((1000000000 : Int) < ((n + x.toNat % 128 * 128 ^ i : Nat) : Int)) = true := d_t (by omega)
        simp only [lt, cb', Bool.or_true, if_true]
        rfl
      · rw [if_neg (by omega)]
        have cb' : (decide (4 < (i : Int)) || decide ((1000000000 : Int) < ((n + x.toNat % 128 * 128 ^ i : Nat) : Int))) = false := by rw [Bool.or_eq_false_iff]; exact ⟨decide_eq_false (by omega), decide_eq_false (by omega)⟩
        have e128 : ((128 : UInt8).toNat : Int) = 128 := by decide
        have e0 : ((0 : UInt8).toNat : Int) = 0 := by decide
        by_cases cx : x.toNat < 128
        · rw [if_pos cx]
          by_cases c0 : 0 < i ∧ x.toNat = 0
          · rw [if_pos c0]
            refine loopO_inr ?_
            simp only [wire_Reader_Num_B1, hw7, hx, and127, epow, e2, e128, e0]
            rw [if_pos (d_t (by omega)), asrt_pos (by omega), asrt_pos (by omega)]
            simp only [lt, cb', Bool.false_eq_true, if_false]
            rw [if_pos (d_t (by omega)), if_pos (by simp; omega)]
            rfl
          · rw [if_neg c0]
            refine loopO_inr ?_
            simp only [wire_Reader_Num_B1, hw7, hx, and127, epow, e2, e128, e0, hw]
            rw [if_pos (d_t (by omega)), asrt_pos (by omega), asrt_pos (by omega)]
            simp only [lt, cb', Bool.false_eq_true, if_false]
            rw [if_pos (d_t (by omega)), if_neg (by simp; omega), asrt_pos (by omega), ldrop_nat]
            rfl
        · rw [if_neg cx]
          have ih := num_loop b bd hb m (i + 1) (n + x.toNat % 128 * 128 ^ i) (by omega) (by omega) (by omega) (by
            rw [Nat.pow_succ]
            have : x.toNat % 128 * 128 ^ i ≤ 127 * 128 ^ i := Nat.mul_le_mul_right _ (by omega)
            omega)
          refine (loopO_inl (y := ((⟨b, bd⟩ : Reader), ((n + x.toNat % 128 * 128 ^ i : Nat) : Int), b, (b.length : Int), ((i + 1 : Nat) : Int))) ?_).trans ih
          simp only [wire_Reader_Num_B1, hw7, hx, and127, epow, e2, e128, e0, hw]
          rw [if_pos (d_t (by omega)), asrt_pos (by omega), asrt_pos (by omega)]
          simp only [lt, cb', Bool.false_eq_true, if_false]
          rw [if_neg (d_f (by omega))]
theorem num_eq (b : List UInt8) (bd : Bool) (hb : b.length ≤ 1000000000000) : wire_Reader_Num ⟨b, bd⟩ = some (rfin bd (rdN b)) := by
  have := num_loop b bd hb b.length 0 0 (by omega) (by omega) (by omega) (by simp)
  rw [List.drop_zero, go_rdN] at this
  exact this
def rdI (b : List UInt8) : Option (Int × List UInt8) := (rdN b).map fun p => ((p.1 : Int), p.2)
theorem rdI_some {b : List UInt8} {x : Int} {r : List UInt8} (h : rdI b = some (x, r)) : b = num x.toNat ++ r ∧ 0 ≤ x ∧ x ≤ 1000000000 := by
  unfold rdI at h
  cases hd : rdN b with
  | none => rw [hd] at h; cases h
  | some p =>
    obtain ⟨n, q⟩ := p
    rw [hd] at h
    simp only [Option.map_some, Option.some.injEq, Prod.mk.injEq] at h
    obtain ⟨rfl, rfl⟩ := h
    have := rdN_some hd
    exact ⟨by simpa using this.1, by omega, by omega⟩
theorem rdI_num {x : Int} (h0 : 0 ≤ x) (h : x ≤ 1000000000) (r : List UInt8) : rdI (num x.toNat ++ r) = some (x, r) := by
  unfold rdI
  rw [rdN_num (by omega)]
  simp; omega
def rnS : List Int ⊕ Nat → List Int × Fault
  | .inl l => if 1000 < l.length then ([], ⟨2, 0⟩) else (l, ⟨0, 0⟩)
  | .inr n => ([], ⟨5, n⟩)
theorem readNums_J1 (z : Fault) (l : List Int) : wire_ReadNums_v1_J1 (z, l) = some (rnS (.inl l)) := by
  simp only [wire_ReadNums_v1_J1, rnS]
  by_cases c : 1000 < l.length
  · rw [if_pos (d_t (by omega))]; simp only [if_pos c]; rfl
  · rw [if_neg (d_f (by omega))]; simp only [if_neg c]
theorem readNums_loop (z : Fault) : ∀ (k : Nat) (b : List UInt8) (acc : List Int), b.length ≤ k → acc.length + b.length ≤ 1000000 →
    wire_ReadNums_v1_L1 (z, acc, ⟨b, false⟩) = some (rnS (rdAll rdI k b acc))
  | k, [], acc, hk, ha => by
    rw [rdAll_nil]
    refine loopO_inr ?_
    simp [wire_ReadNums_v1_B1, wire_Reader_More, lt, readNums_J1, inrO]
  | 0, x :: b, acc, hk, ha => by simp at hk
  | k + 1, x :: b, acc, hk, ha => by
    rw [rdAll, if_neg (by simp)]
    have hm : wire_Reader_More ⟨x :: b, false⟩ = true := by simp [wire_Reader_More]
    have hb : (x :: b).length ≤ 1000000 := by omega
    generalize hbb : x :: b = bb at *
    cases hd : rdN bb with
    | none =>
      have e : rdI bb = none := by simp [rdI, hd]
      rw [e]
      refine loopO_inr ?_
      simp only [wire_ReadNums_v1_B1, hm, lt, if_true]
      rw [num_eq bb false (by omega), hd, ob_some]
      rfl
    | some p =>
      obtain ⟨n, r⟩ := p
      have e : rdI bb = some ((n : Int), r) := by simp [rdI, hd]
      rw [e]
      have h1 := (rdN_some hd).1
      have h2 := num_pos n
      have h3 : bb.length = (num n).length + r.length := by rw [h1, List.length_append]
      refine (loopO_inl (y := (z, acc ++ [(n : Int)], ⟨r, false⟩)) ?_).trans (readNums_loop z k r (acc ++ [(n : Int)]) (by omega) (by simp; omega))
      simp only [wire_ReadNums_v1_B1, hm, lt, if_true]
      rw [num_eq bb false (by omega), hd, ob_some]
      simp only [rfin, Bool.false_eq_true, if_false]
      rw [asrt_pos (by simp; omega)]
def readNumsS (b : List UInt8) : List Int × Fault := if 60000 < b.length then ([], ⟨8, 0⟩) else rnS (rdAll rdI b.length b [])
theorem readNums_eq (b : List UInt8) : wire_ReadNums_v1 b = some (readNumsS b) := by
  unfold wire_ReadNums_v1 readNumsS
  by_cases c : 60000 < b.length
  · rw [if_pos (d_t (by omega)), if_pos c]; rfl
  · rw [if_neg (d_f (by omega)), if_neg c]
    exact readNums_loop _ b.length b [] (Nat.le_refl _) (by simp; omega)
/- the document's -/
theorem rnumber (n : Nat) (hn : n ≤ 9223372036854775807) : R_Number (n : Int) = some (num n) := by
  have h1 : ∀ n : Nat, n ≤ 9223372036854775807 → 128 ≤ n → w64 (Int.tdiv (n : Int) 128) = ((n / 128 : Nat) : Int) ∧ toU8 (w64 ((Int.tmod (n : Int) 128) + 128)) = UInt8.ofNat (n % 128 + 128) := by
    intro n hn h
    have e1 : Int.tdiv (n : Int) 128 = ((n / 128 : Nat) : Int) := tdiv_nat n 128
    have e2 : Int.tmod (n : Int) 128 + 128 = ((n % 128 + 128 : Nat) : Int) := by
      have : Int.tmod (n : Int) 128 = ((n % 128 : Nat) : Int) := tmod_nat n 128
      omega
    rw [e1, e2, w64_id (by omega) (by omega), w64_id (by omega) (by omega), toU8_nat]
    exact ⟨rfl, rfl⟩
  have := recO_spec (S := fun rec (x : Int) => R_Number_S rec x) (fun x => 0 ≤ x ∧ x ≤ 9223372036854775807) (fun x => x.toNat) (fun x => num x.toNat)
    (by
      intro x f hI ih r e
      obtain ⟨n, rfl⟩ : ∃ n : Nat, x = (n : Int) := ⟨x.toNat, by omega⟩
      simp only [R_Number_S, Int.toNat_natCast] at e ih ⊢
      by_cases c : n < 128
      · rw [if_pos (d_t (by omega)), toU8_nat] at e
        rw [num_lt c]; exact (some_elim e).symm
      · rw [if_neg (d_f (by omega)), (h1 n (by omega) (by omega)).1, (h1 n (by omega) (by omega)).2] at e
        obtain ⟨y, e1, e⟩ := ob_elim e
        obtain ⟨_, e⟩ := asrt_elim e
        have := ih _ y (by omega) (by omega) e1
        rw [Int.toNat_natCast] at this
        rw [num_ge c, ← some_elim e, this]; rfl)
    (by
      intro x f hI ih
      obtain ⟨n, rfl⟩ : ∃ n : Nat, x = (n : Int) := ⟨x.toNat, by omega⟩
      simp only [R_Number_S, Int.toNat_natCast] at ih ⊢
      by_cases c : n < 128
      · rw [if_pos (d_t (by omega)), toU8_nat, num_lt c]
      · have hl := num_len 8 (n / 128) (by omega)
        have e3 := ih ((n / 128 : Nat) : Int) (by omega) (by omega)
        rw [Int.toNat_natCast] at e3
        rw [if_neg (d_f (by omega)), (h1 n (by omega) (by omega)).1, (h1 n (by omega) (by omega)).2, e3, ob_some, asrt_pos (by simp; omega), num_ge c]; rfl)
    (x := (n : Int)) (by omega)
  unfold R_Number
  rw [this, Int.toNat_natCast]
theorem rnumber1 (n : Nat) (hn : n ≤ 9223372036854775807) : R_Number_v1 (n : Int) = some (num n) := by
  unfold R_Number_v1
  by_cases c : n < 128
  · rw [if_pos (d_t (by omega)), toU8_nat, num_lt c]
  · have e1 : Int.tdiv (n : Int) 128 = ((n / 128 : Nat) : Int) := tdiv_nat n 128
    have e2 : Int.tmod (n : Int) 128 + 128 = ((n % 128 + 128 : Nat) : Int) := by
      have : Int.tmod (n : Int) 128 = ((n % 128 : Nat) : Int) := tmod_nat n 128
      omega
    have hl := num_len 8 (n / 128) (by omega)
    rw [if_neg (d_f (by omega)), e1, e2, w64_id (by omega) (by omega), w64_id (by omega) (by omega), toU8_nat, rnumber _ (by omega), ob_some, asrt_pos (by simp; omega), num_ge c]; simp
/-- bytes as a number -/
def val : List UInt8 → Nat
  | [] => 0
  | x :: l => x.toNat % 128 + 128 * val l
theorem val_num (n : Nat) : val (num n) = n := by
  induction n using Nat.strongRecOn with
  | _ n ih =>
    by_cases c : n < 128
    · rw [num_lt c]; simp only [val]; rw [u8_of (by omega)]; omega
    · rw [num_ge c]; simp only [val]; rw [ih _ (by omega), u8_of (by omega)]; omega
theorem val_lt : ∀ l : List UInt8, val l < 128 ^ l.length
  | [] => by simp [val]
  | x :: l => by
    have := val_lt l
    simp only [val, List.length_cons, Nat.pow_succ]; omega
theorem val_lt5 {l : List UInt8} (h : l.length ≤ 5) : val l < 34359738368 := by
  have h1 := val_lt l
  have h2 : 128 ^ l.length ≤ 128 ^ 5 := Nat.pow_le_pow_right (by omega) h
  have h3 : (128 : Nat) ^ 5 = 34359738368 := by decide
  omega
theorem numAt_L2 (b : List UInt8) (k : Nat) (hk : k ≤ 5) (hkb : k ≤ b.length) : ∀ (j : Nat), j ≤ k → ∀ r, R_NumberAt_J2 b (k : Int) ((val (b.take k) : Nat) : Int) = some r →
    R_NumberAt_L2 b (k : Int) ((val ((b.take k).drop j) : Nat), (j : Int) - 1) = some r
  | 0, hj, r, h => by
    refine loopO_inr ?_
    simp only [R_NumberAt_B2]
    rw [if_neg (d_f (by omega)), List.drop_zero, h]; rfl
  | j + 1, hj, r, h => by
    have ih := numAt_L2 b k hk hkb j (by omega) r h
    have hlt : j < (b.take k).length := by simp; omega
    have hv := val_lt5 (l := (b.take k).drop (j + 1)) (by simp; omega)
    have hg : lget (b.take k) (j : Int) = lget b (j : Int) := by
      have := lget_ltake b (k : Int) (j : Int) (by omega)
      rwa [ltake_nat] at this
    rw [lget_drop _ _ hlt, hg] at ih
    simp only [val] at ih
    have e1 : ((j + 1 : Nat) : Int) - 1 = (j : Int) := by omega
    rw [e1]
    refine (loopO_inl ?_).trans ih
    simp only [R_NumberAt_B2]
    have h8 := (lget b (j : Int)).toNat_lt
    have e3 : Int.tmod (((lget b (j : Int)).toNat : Nat) : Int) 128 = (((lget b (j : Int)).toNat % 128 : Nat) : Int) := tmod_nat _ 128
    rw [if_pos (d_t (by omega)), asrt_pos (by omega), w64_id (x := ((lget b (j : Int)).toNat : Int)) (by omega) (by omega), e3, w64_id (x := ((val ((b.take k).drop (j + 1)) : Nat) : Int) * 128) (by omega) (by omega), w64_id (by omega) (by omega), w64_id (by omega) (by omega)]
    have e4 : ((val ((b.take k).drop (j + 1)) : Nat) : Int) * 128 + (((lget b (j : Int)).toNat % 128 : Nat) : Int) = (((lget b (j : Int)).toNat % 128 + 128 * val ((b.take k).drop (j + 1)) : Nat) : Int) := by omega
    simp only [lt, e4]
def rnat (b : List UInt8) : Int × Int := match rdN b with
  | some (n, _) => ((n : Int), ((num n).length : Int))
  | none => (0, 0)
def hits (b : List UInt8) (j : Nat) : Prop := val (b.take j) ≤ 1000000000 ∧ num (val (b.take j)) = b.take j
theorem numAt_loop (b : List UInt8) (hb : b.length ≤ 1000000000000) : ∀ (m k : Nat), 6 - k = m → 1 ≤ k → k ≤ 6 → (∀ j, 1 ≤ j → j < k → j ≤ b.length → ¬ hits b j) → R_NumberAt_L1 b (k : Int) = some (rnat b)
  | m, k, e, h1, h6, hn => by
    by_cases c : k ≤ 5 ∧ k ≤ b.length
    · have hv := val_lt5 (l := b.take k) (by simp; omega)
      have hlk : (b.take k).length = k := by simp; omega
      have hw : w64 ((k : Int) + 1) = ((k + 1 : Nat) : Int) := by rw [w64_id (by omega) (by omega)]; omega
      have step : ∀ r, R_NumberAt_J2 b (k : Int) ((val (b.take k) : Nat) : Int) = some r → R_NumberAt_B1 b (k : Int) = some r := by
        intro r hr
        have := numAt_L2 b k c.1 c.2 k (by omega) r hr
        have e0 : (b.take k).drop k = [] := List.drop_eq_nil_of_le (by omega)
        rw [e0] at this
        simp only [R_NumberAt_B1]
        rw [if_pos (by simp; omega), w64_id (by omega) (by omega)]
        exact this
      by_cases ch : hits b k
      · refine loopO_inr ?_
        rw [step (.inr (((val (b.take k) : Nat) : Int), (k : Int)))]
        · have hd : rdN b = some (val (b.take k), b.drop k) := by
            have := rdN_num ch.1 (b.drop k)
            rwa [ch.2, List.take_append_drop] at this
          unfold rnat
          rw [hd]
          simp only [ch.2, hlk]
        · unfold R_NumberAt_J2
          rw [if_pos (d_t (by have := ch.1; omega)), rnumber1 _ (by omega), ob_some, asrt_pos (fun _ => by omega), ltake_nat]
          have hl : ((val (b.take k) : Nat) : Int) ≤ 1000000000 := by have := ch.1; omega
          simp [lt, R_Same, ch.2, hl]
      · match m, e with
        | 0, e => omega
        | m + 1, e =>
        refine (loopO_inl (y := ((k + 1 : Nat) : Int)) ?_).trans (numAt_loop b hb m (k + 1) (by omega) (by omega) (by omega) (fun j hj1 hj2 hj3 => by
          by_cases hjk : j = k
          · subst hjk; exact ch
          · exact hn j hj1 (by omega) hj3))
        refine step _ ?_
        unfold R_NumberAt_J2
        by_cases cv : val (b.take k) ≤ 1000000000
        · have cn : ¬ num (val (b.take k)) = b.take k := fun h => ch ⟨cv, h⟩
          rw [if_pos (d_t (by omega)), rnumber1 _ (by omega), ob_some, asrt_pos (fun _ => by omega), ltake_nat]
          simp [lt, R_Same, cn, hw]
        · rw [if_neg (d_f (by omega)), ob_some, asrt_pos (fun _ => by omega)]
          have : decide (((val (b.take k) : Nat) : Int) ≤ 1000000000) = false := by simp; omega
          simp [lt, this, hw]
    · refine loopO_inr ?_
      simp only [R_NumberAt_B1]
      rw [if_neg (by simp; omega)]
      have hd : rdN b = none := by
        cases hd : rdN b with
        | none => rfl
        | some p =>
          exfalso
          obtain ⟨n, r⟩ := p
          obtain ⟨h2, h3⟩ := rdN_some hd
          have hl := num_len5 h3
          have hp := num_pos n
          have hbl : b.length = (num n).length + r.length := by rw [h2, List.length_append]
          have ht : b.take (num n).length = num n := by
            have : (num n ++ r).take (num n).length = num n := by simp
            rw [← h2] at this; exact this
          exact hn (num n).length (by omega) (by omega) (by omega) ⟨by rw [ht, val_num]; exact h3, by rw [ht, val_num]⟩
      unfold rnat
      rw [hd]; rfl
theorem numAt_eq (b : List UInt8) (hb : b.length ≤ 1000000000000) : R_NumberAt b = some (rnat b) := by
  have := numAt_loop b hb 5 1 (by omega) (by omega) (by omega) (fun j h1 h2 => by omega)
  exact this
def rnR : List Int ⊕ Nat → List Int × Int
  | .inl l => (l, -1)
  | .inr n => ([], n)
theorem readNumbers_loop : ∀ (k : Nat) (b : List UInt8) (acc : List Int), b.length ≤ k → acc.length + b.length ≤ 1000000 →
    R_ReadNumbers_v1_L1 (b, acc) = some (rnR (rdAll rdI k b acc))
  | k, [], acc, hk, ha => by
    rw [rdAll_nil]
    refine loopO_inr ?_
    simp [R_ReadNumbers_v1_B1, R_ReadNumbers_v1_J1, inrO, rnR]
  | 0, x :: b, acc, hk, ha => by simp at hk
  | k + 1, x :: b, acc, hk, ha => by
    rw [rdAll, if_neg (by simp)]
    have hpos : 0 < (x :: b).length := by simp
    have hb : (x :: b).length ≤ 1000000 := by omega
    generalize hbb : x :: b = bb at *
    cases hd : rdN bb with
    | none =>
      have e : rdI bb = none := by simp [rdI, hd]
      have e2 : rnat bb = (0, 0) := by simp [rnat, hd]
      rw [e]
      refine loopO_inr ?_
      simp only [R_ReadNumbers_v1_B1]
      rw [if_pos (d_t (by omega)), numAt_eq bb (by omega), ob_some, e2, if_pos (by simp)]
      rfl
    | some p =>
      obtain ⟨n, r⟩ := p
      have e : rdI bb = some ((n : Int), r) := by simp [rdI, hd]
      have e2 : rnat bb = ((n : Int), ((num n).length : Int)) := by simp [rnat, hd]
      rw [e]
      have h1 := (rdN_some hd).1
      have h2 := num_pos n
      have h3 : bb.length = (num n).length + r.length := by rw [h1, List.length_append]
      have h4 : bb.drop (num n).length = r := by
        have : (num n ++ r).drop (num n).length = r := by simp
        rw [← h1] at this; exact this
      refine (loopO_inl (y := (r, acc ++ [(n : Int)])) ?_).trans (readNumbers_loop k r (acc ++ [(n : Int)]) (by omega) (by simp; omega))
      simp only [R_ReadNumbers_v1_B1]
      rw [if_pos (d_t (by omega)), numAt_eq bb (by omega), ob_some, e2, if_neg (d_f (by omega)), asrt_pos (by simp; omega), asrt_pos (by omega), ldrop_nat, h4]
theorem readNumbers_eq (b : List UInt8) (hb : b.length ≤ 60000) : R_ReadNumbers_v1 b = some (rnR (rdAll rdI b.length b [])) :=
  readNumbers_loop b.length b [] (Nat.le_refl _) (by simp; omega)
theorem ints_loop (a b : List Int) (hl : a.length = b.length) (hb : a.length ≤ 1000000) : ∀ (m k : Nat), a.length - k = m → k ≤ a.length → R_Ints_L1 a b (k : Int) = some (decide (a.drop k = b.drop k))
  | 0, k, e, hk => by
    have : k = a.length := by omega
    refine loopO_inr ?_
    simp only [R_Ints_B1]
    rw [if_neg (d_f (by omega))]
    have e1 : a.drop k = [] := List.drop_eq_nil_of_le (by omega)
    have e2 : b.drop k = [] := List.drop_eq_nil_of_le (by omega)
    simp [inrO, R_Ints_J1, e1, e2]
  | m + 1, k, e, hk => by
    have hw : w64 ((k : Int) + 1) = ((k + 1 : Nat) : Int) := by rw [w64_id (by omega) (by omega)]; omega
    have ih := ints_loop a b hl hb m (k + 1) (by omega) (by omega)
    rw [lget_drop a k (by omega), lget_drop b k (by omega)]
    by_cases c : lget a (k : Int) = lget b (k : Int)
    · refine (loopO_inl (y := ((k + 1 : Nat) : Int)) ?_).trans (ih.trans (by simp [c]))
      simp only [R_Ints_B1]
      rw [if_pos (d_t (by omega)), asrt_pos (by omega), asrt_pos (by omega), if_neg (by simp [c]), hw]
    · refine loopO_inr ?_
      simp only [R_Ints_B1]
      rw [if_pos (d_t (by omega)), asrt_pos (by omega), asrt_pos (by omega), if_pos (by simp [c])]
      simp [c]
theorem ints_eq (a b : List Int) (hb : a.length ≤ 1000000) : R_Ints a b = some (decide (a = b)) := by
  unfold R_Ints
  by_cases c : a.length = b.length
  · rw [if_neg (by simp [c])]
    have := ints_loop a b c hb a.length 0 (by omega) (by omega)
    simpa using this
  · rw [if_pos (by simp; omega)]
    have : a ≠ b := fun h => c (by rw [h])
    simp [this]
theorem wbegun : law_wireBegun = some true := by
  unfold law_wireBegun
  rw [nums_eq, ob_some]
  have h300 : num 300 = [172, 2] := by rw [num_ge (by omega), num_lt (by omega)]; rfl
  have h5 : num 5 = [5] := by rw [num_lt (by omega)]; rfl
  have : numsS [5, 300] = ([5, 172, 2], ⟨0, 0⟩) := by
    simp [numsS, bad, encN, wrAll, h300, h5]
  rw [this]
  simp [lt, R_Same]
end G
end Go.Proofs.Ytiakadlmebbafaa
