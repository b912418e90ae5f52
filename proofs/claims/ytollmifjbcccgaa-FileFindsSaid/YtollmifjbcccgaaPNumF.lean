/- Numbers and texts as bytes: the program's readers and writers, and the document's. -/
import Derived.Test.YtollmifjbcccgaaEmE
import Derived.Test.YtollmifjbcccgaaGf1
namespace Go.Proofs.Ytollmifjbcccgaa
open Go Go.Dm
set_option linter.unusedVariables false
set_option linter.unusedSimpArgs false
namespace G
theorem addNum_loop (n : Nat) : ∀ (r : List UInt8), r.length + (num n).length ≤ 1000000000000 → wire_AddNum_v2_L1 (r, (n : Int)) = some (r ++ num n) := by
  induction n using Nat.strongRecOn with
  | _ n ih =>
    intro r h
    by_cases c : n < 128
    · rw [num_lt c] at h ⊢
      refine loopO_inr ?_
      simp only [wire_AddNum_v2_B1]
      rw [if_neg (d_f (by omega))]
      simp only [wire_AddNum_v2_J1, toU8_nat]
      rw [asrt_pos (by simp at h ⊢; omega)]; rfl
    · rw [num_ge c] at h ⊢
      have e7 : (2 : Int) ^ (min (7 : Int).toNat 64) = ((128 : Nat) : Int) := by decide
      have e8 : (UInt8.ofNat n).toNat % 128 + 128 = n % 128 + 128 := by rw [UInt8.toNat_ofNat']; omega
      refine (loopO_inl (y := (r ++ [UInt8.ofNat (n % 128 + 128)], ((n / 128 : Nat) : Int))) ?_).trans ((ih (n / 128) (by omega) _ (by simp at h ⊢; omega)).trans (by simp))
      simp only [wire_AddNum_v2_B1, or128]
      rw [toU8_nat, e8, e7, fdiv_nat, if_pos (d_t (by omega)), asrt_pos (by simp at h ⊢; omega)]
      rfl
theorem addNum_eq (n : Nat) (r : List UInt8) (h : r.length + (num n).length ≤ 1000000000000) : wire_AddNum_v2 (n : Int) r = some (r ++ num n) := addNum_loop n r h
/- numbers read -/
def rfin (bd : Bool) : Option (Nat × List UInt8) → Int × Reader
  | some (n, r) => ((n : Int), ⟨r, bd⟩)
  | none => (0, ⟨[], true⟩)
theorem pow128 (i : Nat) : 128 ^ i = 2 ^ (7 * i) := by rw [Nat.pow_mul]
theorem num_loop (b : List UInt8) (bd : Bool) (hb : b.length ≤ 1000000000000) : ∀ (m i n : Nat), b.length - i = m → i ≤ b.length → i ≤ 5 → n < 128 ^ i →
    wire_Reader_Num_L1 (⟨b, bd⟩, (n : Int), b, (b.length : Int), (i : Int)) = some (rfin bd (go i n (b.drop i)))
  | 0, i, n, e, hi, h5, hn => by
    have : i = b.length := by omega
    subst this
    refine loopO_inr ?_
    simp only [wire_Reader_Num_B1]
    rw [if_neg (d_f (by omega))]
    simp [inrO, wire_Reader_Num_J1, go, rfin]
  | m + 1, i, n, e, hi, h5, hn => by
    have hlt : i < b.length := by omega
    have hw : w64 ((i : Int) + 1) = ((i + 1 : Nat) : Int) := by rw [w64_id (by omega) (by omega)]; omega
    have hw7 : w64 (7 * (i : Int)) = ((7 * i : Nat) : Int) := by rw [w64_id (by omega) (by omega)]; omega
    rw [lget_drop b i hlt, go]
    generalize hx : lget b (i : Int) = x
    by_cases c5 : 4 < i
    · rw [if_pos (.inl c5)]
      refine loopO_inr ?_
      simp only [wire_Reader_Num_B1]
      rw [if_pos (d_t (by omega)), asrt_pos (by omega), asrt_pos (by omega)]
      have c5' : decide (4 < (i : Int)) = true := d_t (by omega)
      simp only [lt, c5', Bool.true_or, if_true]
      rfl
    · have hP : 128 ^ i ≤ 128 ^ 4 := Nat.pow_le_pow_right (by omega) (by omega)
      have hP4 : (128 : Nat) ^ 4 = 268435456 := by decide
      have hy : x.toNat % 128 < 128 := by omega
      have hyP : x.toNat % 128 * 128 ^ i ≤ 127 * 128 ^ 4 := Nat.mul_le_mul (by omega) hP
      have epow : (2 : Int) ^ (min (((7 * i : Nat) : Int)).toNat 64) = ((128 ^ i : Nat) : Int) := by
        rw [Int.toNat_natCast, show min (7 * i) 64 = 7 * i by omega, pow128]; simp
      have e2 : bitsOp .or .i64 (n : Int) (w64 ((w64 ((x.toNat % 128 : Nat) : Int)) * ((128 ^ i : Nat) : Int))) = ((n + x.toNat % 128 * 128 ^ i : Nat) : Int) := by
        rw [w64_id (x := ((x.toNat % 128 : Nat) : Int)) (by omega) (by omega), ← Int.natCast_mul, w64_id (by omega) (by omega), bits_or64 (by omega) (by omega)]
        rw [pow128] at hn ⊢
        rw [or_add hn]
      by_cases cb : 1000000000 < n + x.toNat % 128 * 128 ^ i
      · rw [if_pos (.inr cb)]
        refine loopO_inr ?_
        simp only [wire_Reader_Num_B1, hw7, hx, and127, epow, e2]
        rw [if_pos (d_t (by omega)), asrt_pos (by omega), asrt_pos (by omega)]
        have cb' : decide ((1000000000 : Int) < ((n + x.toNat % 128 * 128 ^ i : Nat) : Int)) = true := d_t (by omega)
        simp only [lt, cb', Bool.or_true, if_true]
        rfl
      · rw [if_neg (by omega)]
        have cb' : (decide (4 < (i : Int)) || decide ((1000000000 : Int) < ((n + x.toNat % 128 * 128 ^ i : Nat) : Int))) = false := by rw [Bool.or_eq_false_iff]; exact ⟨decide_eq_false (by omega), decide_eq_false (by omega)⟩
        have e128 : ((128 : UInt8).toNat : Int) = 128 := by decide
        have e0 : ((0 : UInt8).toNat : Int) = 0 := by decide
        by_cases cx : x.toNat < 128
        · rw [if_pos cx]
          by_cases c0 : 0 < i ∧ x.toNat = 0
          · rw [if_pos c0]
            refine loopO_inr ?_
            simp only [wire_Reader_Num_B1, hw7, hx, and127, epow, e2, e128, e0]
            rw [if_pos (d_t (by omega)), asrt_pos (by omega), asrt_pos (by omega)]
            simp only [lt, cb', Bool.false_eq_true, if_false]
            rw [if_pos (d_t (by omega)), if_pos (by simp; omega)]
            rfl
          · rw [if_neg c0]
            refine loopO_inr ?_
            simp only [wire_Reader_Num_B1, hw7, hx, and127, epow, e2, e128, e0, hw]
            rw [if_pos (d_t (by omega)), asrt_pos (by omega), asrt_pos (by omega)]
            simp only [lt, cb', Bool.false_eq_true, if_false]
            rw [if_pos (d_t (by omega)), if_neg (by simp; omega), asrt_pos (by omega), ldrop_nat]
            rfl
        · rw [if_neg cx]
          have ih := num_loop b bd hb m (i + 1) (n + x.toNat % 128 * 128 ^ i) (by omega) (by omega) (by omega) (by
            rw [Nat.pow_succ]
            have : x.toNat % 128 * 128 ^ i ≤ 127 * 128 ^ i := Nat.mul_le_mul_right _ (by omega)
            omega)
          refine (loopO_inl (y := ((⟨b, bd⟩ : Reader), ((n + x.toNat % 128 * 128 ^ i : Nat) : Int), b, (b.length : Int), ((i + 1 : Nat) : Int))) ?_).trans ih
          simp only [wire_Reader_Num_B1, hw7, hx, and127, epow, e2, e128, e0, hw]
          rw [if_pos (d_t (by omega)), asrt_pos (by omega), asrt_pos (by omega)]
          simp only [lt, cb', Bool.false_eq_true, if_false]
          rw [if_neg (d_f (by omega))]
theorem num_eq (b : List UInt8) (bd : Bool) (hb : b.length ≤ 1000000000000) : wire_Reader_Num ⟨b, bd⟩ = some (rfin bd (rdN b)) := by
  have := num_loop b bd hb b.length 0 0 (by omega) (by omega) (by omega) (by simp)
  rw [List.drop_zero, go_rdN] at this
  exact this
/- the document's -/
theorem rnumber (n : Nat) (hn : n ≤ 9223372036854775807) : R_Number (n : Int) = some (num n) := by
  have h1 : ∀ n : Nat, n ≤ 9223372036854775807 → 128 ≤ n → w64 (Int.tdiv (n : Int) 128) = ((n / 128 : Nat) : Int) ∧ toU8 (w64 ((Int.tmod (n : Int) 128) + 128)) = UInt8.ofNat (n % 128 + 128) := by
    intro n hn h
    have e1 : Int.tdiv (n : Int) 128 = ((n / 128 : Nat) : Int) := tdiv_nat n 128
    have e2 : Int.tmod (n : Int) 128 + 128 = ((n % 128 + 128 : Nat) : Int) := by
      have : Int.tmod (n : Int) 128 = ((n % 128 : Nat) : Int) := tmod_nat n 128
      omega
    rw [e1, e2, w64_id (by omega) (by omega), w64_id (by omega) (by omega), toU8_nat]
    exact ⟨rfl, rfl⟩
  have := recO_spec (S := fun rec (x : Int) => R_Number_S rec x) (fun x => 0 ≤ x ∧ x ≤ 9223372036854775807) (fun x => x.toNat) (fun x => num x.toNat)
    (by
      intro x f hI ih r e
      obtain ⟨n, rfl⟩ : ∃ n : Nat, x = (n : Int) := ⟨x.toNat, by omega⟩
      simp only [R_Number_S, Int.toNat_natCast] at e ih ⊢
      by_cases c : n < 128
      · rw [if_pos (d_t (by omega)), toU8_nat] at e
        rw [num_lt c]; exact (some_elim e).symm
      · rw [if_neg (d_f (by omega)), (h1 n (by omega) (by omega)).1, (h1 n (by omega) (by omega)).2] at e
        obtain ⟨y, e1, e⟩ := ob_elim e
        obtain ⟨_, e⟩ := asrt_elim e
        have := ih _ y (by omega) (by omega) e1
        rw [Int.toNat_natCast] at this
        rw [num_ge c, ← some_elim e, this]; rfl)
    (by
      intro x f hI ih
      obtain ⟨n, rfl⟩ : ∃ n : Nat, x = (n : Int) := ⟨x.toNat, by omega⟩
      simp only [R_Number_S, Int.toNat_natCast] at ih ⊢
      by_cases c : n < 128
      · rw [if_pos (d_t (by omega)), toU8_nat, num_lt c]
      · have hl := num_len 8 (n / 128) (by omega)
        have e3 := ih ((n / 128 : Nat) : Int) (by omega) (by omega)
        rw [Int.toNat_natCast] at e3
        rw [if_neg (d_f (by omega)), (h1 n (by omega) (by omega)).1, (h1 n (by omega) (by omega)).2, e3, ob_some, asrt_pos (by simp; omega), num_ge c]; rfl)
    (x := (n : Int)) (by omega)
  unfold R_Number
  rw [this, Int.toNat_natCast]
theorem rnumber1 (n : Nat) (hn : n ≤ 9223372036854775807) : R_Number_v1 (n : Int) = some (num n) := by
  unfold R_Number_v1
  by_cases c : n < 128
  · rw [if_pos (d_t (by omega)), toU8_nat, num_lt c]
  · have e1 : Int.tdiv (n : Int) 128 = ((n / 128 : Nat) : Int) := tdiv_nat n 128
    have e2 : Int.tmod (n : Int) 128 + 128 = ((n % 128 + 128 : Nat) : Int) := by
      have : Int.tmod (n : Int) 128 = ((n % 128 : Nat) : Int) := tmod_nat n 128
      omega
    have hl := num_len 8 (n / 128) (by omega)
    rw [if_neg (d_f (by omega)), e1, e2, w64_id (by omega) (by omega), w64_id (by omega) (by omega), toU8_nat, rnumber _ (by omega), ob_some, asrt_pos (by simp; omega), num_ge c]; simp
/-- bytes as a number -/
def val : List UInt8 → Nat
  | [] => 0
  | x :: l => x.toNat % 128 + 128 * val l
theorem val_num (n : Nat) : val (num n) = n := by
  induction n using Nat.strongRecOn with
  | _ n ih =>
    by_cases c : n < 128
    · rw [num_lt c]; simp only [val]; rw [u8_of (by omega)]; omega
    · rw [num_ge c]; simp only [val]; rw [ih _ (by omega), u8_of (by omega)]; omega
theorem val_lt : ∀ l : List UInt8, val l < 128 ^ l.length
  | [] => by simp [val]
  | x :: l => by
    have := val_lt l
    simp only [val, List.length_cons, Nat.pow_succ]; omega
theorem val_lt5 {l : List UInt8} (h : l.length ≤ 5) : val l < 34359738368 := by
  have h1 := val_lt l
  have h2 : 128 ^ l.length ≤ 128 ^ 5 := Nat.pow_le_pow_right (by omega) h
  have h3 : (128 : Nat) ^ 5 = 34359738368 := by decide
  omega
theorem numAt_L2 (b : List UInt8) (k : Nat) (hk : k ≤ 5) (hkb : k ≤ b.length) : ∀ (j : Nat), j ≤ k → ∀ r, R_NumberAt_J2 b (k : Int) ((val (b.take k) : Nat) : Int) = some r →
    R_NumberAt_L2 b (k : Int) ((val ((b.take k).drop j) : Nat), (j : Int) - 1) = some r
  | 0, hj, r, h => by
    refine loopO_inr ?_
    simp only [R_NumberAt_B2]
    rw [if_neg (d_f (by omega)), List.drop_zero, h]; rfl
  | j + 1, hj, r, h => by
    have ih := numAt_L2 b k hk hkb j (by omega) r h
    have hlt : j < (b.take k).length := by simp; omega
    have hv := val_lt5 (l := (b.take k).drop (j + 1)) (by simp; omega)
    have hg : lget (b.take k) (j : Int) = lget b (j : Int) := by
      have := lget_ltake b (k : Int) (j : Int) (by omega)
      rwa [ltake_nat] at this
    rw [lget_drop _ _ hlt, hg] at ih
    simp only [val] at ih
    have e1 : ((j + 1 : Nat) : Int) - 1 = (j : Int) := by omega
    rw [e1]
    refine (loopO_inl ?_).trans ih
    simp only [R_NumberAt_B2]
    have h8 := (lget b (j : Int)).toNat_lt
    have e3 : Int.tmod (((lget b (j : Int)).toNat : Nat) : Int) 128 = (((lget b (j : Int)).toNat % 128 : Nat) : Int) := tmod_nat _ 128
    rw [if_pos (d_t (by omega)), asrt_pos (by omega), w64_id (x := ((lget b (j : Int)).toNat : Int)) (by omega) (by omega), e3, w64_id (x := ((val ((b.take k).drop (j + 1)) : Nat) : Int) * 128) (by omega) (by omega), w64_id (by omega) (by omega), w64_id (by omega) (by omega)]
    have e4 : ((val ((b.take k).drop (j + 1)) : Nat) : Int) * 128 + (((lget b (j : Int)).toNat % 128 : Nat) : Int) = (((lget b (j : Int)).toNat % 128 + 128 * val ((b.take k).drop (j + 1)) : Nat) : Int) := by omega
    simp only [lt, e4]
def rnat (b : List UInt8) : Int × Int := match rdN b with
  | some (n, _) => ((n : Int), ((num n).length : Int))
  | none => (0, 0)
def hits (b : List UInt8) (j : Nat) : Prop := val (b.take j) ≤ 1000000000 ∧ num (val (b.take j)) = b.take j
theorem numAt_loop (b : List UInt8) (hb : b.length ≤ 1000000000000) : ∀ (m k : Nat), 6 - k = m → 1 ≤ k → k ≤ 6 → (∀ j, 1 ≤ j → j < k → j ≤ b.length → ¬ hits b j) → R_NumberAt_L1 b (k : Int) = some (rnat b)
  | m, k, e, h1, h6, hn => by
    by_cases c : k ≤ 5 ∧ k ≤ b.length
    · have hv := val_lt5 (l := b.take k) (by simp; omega)
      have hlk : (b.take k).length = k := by simp; omega
      have hw : w64 ((k : Int) + 1) = ((k + 1 : Nat) : Int) := by rw [w64_id (by omega) (by omega)]; omega
      have step : ∀ r, R_NumberAt_J2 b (k : Int) ((val (b.take k) : Nat) : Int) = some r → R_NumberAt_B1 b (k : Int) = some r := by
        intro r hr
        have := numAt_L2 b k c.1 c.2 k (by omega) r hr
        have e0 : (b.take k).drop k = [] := List.drop_eq_nil_of_le (by omega)
        rw [e0] at this
        simp only [R_NumberAt_B1]
        rw [if_pos (by simp; omega), w64_id (by omega) (by omega)]
        exact this
      by_cases ch : hits b k
      · refine loopO_inr ?_
        rw [step (.inr (((val (b.take k) : Nat) : Int), (k : Int)))]
        · have hd : rdN b = some (val (b.take k), b.drop k) := by
            have := rdN_num ch.1 (b.drop k)
            rwa [ch.2, List.take_append_drop] at this
          unfold rnat
          rw [hd]
          simp only [ch.2, hlk]
        · unfold R_NumberAt_J2
          rw [if_pos (d_t (by have := ch.1; omega)), rnumber1 _ (by omega), ob_some, asrt_pos (fun _ => by omega), ltake_nat]
          have hl : ((val (b.take k) : Nat) : Int) ≤ 1000000000 := by have := ch.1; omega
          simp [lt, R_Same, ch.2, hl]
      · match m, e with
        | 0, e => omega
        | m + 1, e =>
        refine (loopO_inl (y := ((k + 1 : Nat) : Int)) ?_).trans (numAt_loop b hb m (k + 1) (by omega) (by omega) (by omega) (fun j hj1 hj2 hj3 => by
          by_cases hjk : j = k
          · subst hjk; exact ch
          · exact hn j hj1 (by omega) hj3))
        refine step _ ?_
        unfold R_NumberAt_J2
        by_cases cv : val (b.take k) ≤ 1000000000
        · have cn : ¬ num (val (b.take k)) = b.take k := fun h => ch ⟨cv, h⟩
          rw [if_pos (d_t (by omega)), rnumber1 _ (by omega), ob_some, asrt_pos (fun _ => by omega), ltake_nat]
          simp [lt, R_Same, cn, hw]
        · rw [if_neg (d_f (by omega)), ob_some, asrt_pos (fun _ => by omega)]
          have : decide (((val (b.take k) : Nat) : Int) ≤ 1000000000) = false := by simp; omega
          simp [lt, this, hw]
    · refine loopO_inr ?_
      simp only [R_NumberAt_B1]
      rw [if_neg (by simp; omega)]
      have hd : rdN b = none := by
        cases hd : rdN b with
        | none => rfl
        | some p =>
          exfalso
          obtain ⟨n, r⟩ := p
          obtain ⟨h2, h3⟩ := rdN_some hd
          have hl := num_len5 h3
          have hp := num_pos n
          have hbl : b.length = (num n).length + r.length := by rw [h2, List.length_append]
          have ht : b.take (num n).length = num n := by
            have : (num n ++ r).take (num n).length = num n := by simp
            rw [← h2] at this; exact this
          exact hn (num n).length (by omega) (by omega) (by omega) ⟨by rw [ht, val_num]; exact h3, by rw [ht, val_num]⟩
      unfold rnat
      rw [hd]; rfl
theorem numAt_eq (b : List UInt8) (hb : b.length ≤ 1000000000000) : R_NumberAt b = some (rnat b) := by
  have := numAt_loop b hb 5 1 (by omega) (by omega) (by omega) (fun j h1 h2 => by omega)
  exact this
theorem addText_eq (s r : List UInt8) (hs : s.length ≤ 1000000000) (hr : r.length ≤ 1000000000) : wire_AddText_v2 s r = some (r ++ wrT s) := by
  have h5 := num_len5 hs
  unfold wire_AddText_v2
  rw [addNum_eq s.length r (by omega), ob_some, asrt_pos (by simp; omega), List.append_assoc]; rfl
theorem wrT_len (s : List UInt8) (hs : s.length ≤ 1000000000) : (wrT s).length ≤ s.length + 5 ∧ s.length < (wrT s).length := by
  have h5 := num_len5 hs
  have h1 := num_pos s.length
  unfold wrT
  simp; omega
def tfin : Option (List UInt8 × List UInt8) → List UInt8 × Reader
  | some (s, r) => (s, ⟨r, false⟩)
  | none => ([], ⟨[], true⟩)
theorem text_eq (b : List UInt8) (hb : b.length ≤ 1000000000) : wire_Reader_Text ⟨b, false⟩ = some (tfin (rdT b)) := by
  have h0 := num_eq b false (by omega)
  unfold wire_Reader_Text
  cases hd : rdN b with
  | none =>
    have e : rdT b = none := by simp [rdT, hd]
    have h1 : wire_Reader_Num ⟨b, false⟩ = some (0, ⟨[], true⟩) := by rw [h0, hd]; rfl
    rw [h1, ob_some, e]; rfl
  | some p =>
    obtain ⟨n, r⟩ := p
    have hn := (rdN_some hd).2
    have h1 : wire_Reader_Num ⟨b, false⟩ = some ((n : Int), ⟨r, false⟩) := by rw [h0, hd]; rfl
    rw [h1, ob_some]
    dsimp only
    rw [Bool.false_or]
    by_cases c : n ≤ r.length
    · have e : rdT b = some (r.take n, r.drop n) := by simp [rdT, hd, c]
      rw [if_neg (d_f (by omega)), asrt_pos (by omega), asrt_pos (by omega), ltake_nat, ldrop_nat, e]; rfl
    · have e : rdT b = none := by simp [rdT, hd, c]
      rw [if_pos (d_t (by omega)), e]; rfl
theorem rdT_len {b s r : List UInt8} (h : rdT b = some (s, r)) : r.length < b.length := by
  obtain ⟨h1, h2⟩ := rdT_some h
  have := (wrT_len s h2).2
  rw [h1, List.length_append]; omega
end G
end Go.Proofs.Ytollmifjbcccgaa
