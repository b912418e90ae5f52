/- Sums and frames, as they are read: the program's and the document's. -/
import Derived.Test.YtollmifjbcccgaaEmE
import Derived.Test.YtollmifjbcccgaaGf1
namespace Go.Proofs.Ytollmifjbcccgaa
open Go Go.Dm
set_option linter.unusedVariables false
set_option linter.unusedSimpArgs false
namespace G
theorem xor_max {v : Nat} (h : v < 2 ^ 32) : 4294967295 ^^^ v = 4294967295 - v := by
  have h1 := BitVec.toNat_not (x := BitVec.ofNat 32 v)
  rw [BitVec.not_def, BitVec.toNat_xor, BitVec.toNat_allOnes, BitVec.toNat_ofNat, Nat.mod_eq_of_lt h] at h1
  simpa using h1
theorem pow1_32 : (2 : Int) ^ (min (1 : Int).toNat 32) = ((2 : Nat) : Int) := by decide
theorem crc_step_eq (c : Nat) (h : c < 2 ^ 32) :
    (if (decide ((bitsOp .and .u32 (c : Int) 1) = 1)) = true then lt (bitsOp .xor .u32 (Int.fdiv (c : Int) (2 ^ (min (1 : Int).toNat 32))) 3988292384) fun (v6 : Int) => some v6 else some (Int.fdiv (c : Int) (2 ^ (min (1 : Int).toNat 32)))) = some ((crcS c : Nat) : Int) := by
  have e1 : bitsOp .and .u32 (c : Int) 1 = ((c % 2 : Nat) : Int) := by
    have := bits_and32 (a := c) (b := 1) h (by omega)
    rw [and_one] at this; exact this
  have e2 : bitsOp .xor .u32 (((c / 2 : Nat)) : Int) 3988292384 = (((c / 2) ^^^ crcP : Nat) : Int) := bits_xor32 (a := c / 2) (b := crcP) (by omega) (by unfold crcP; omega)
  rw [pow1_32, fdiv_nat, e1, e2]
  unfold crcS
  by_cases c2 : c % 2 = 1
  · rw [if_pos (d_t (by omega)), if_pos c2]; rfl
  · rw [if_neg (d_f (by omega)), if_neg c2]
theorem crc_L2 (v : Int × Int) : ∀ (m k c : Nat), 8 - k = m → k ≤ 8 → c < 2 ^ 32 → wire_Crc_L2 v ((c : Int), (k : Int)) = some (.inl (((crcN (8 - k) c : Nat) : Int), w64 (v.2 + 1)))
  | 0, k, c, e, hk, hc => by
    have : k = 8 := by omega
    subst this
    refine loopO_inr ?_
    simp only [wire_Crc_B2]
    rw [if_neg (d_f (by omega))]; rfl
  | m + 1, k, c, e, hk, hc => by
    have hw : w64 ((k : Int) + 1) = ((k + 1 : Nat) : Int) := by rw [w64_id (by omega) (by omega)]; omega
    have ih := crc_L2 v m (k + 1) (crcS c) (by omega) (by omega) (crcS_lt hc)
    have e8 : crcN (8 - k) c = crcN (8 - (k + 1)) (crcS c) := by
      have : 8 - k = (8 - (k + 1)) + 1 := by omega
      rw [this, crcN]
    rw [e8]
    refine (loopO_inl (y := (((crcS c : Nat) : Int), ((k + 1 : Nat) : Int))) ?_).trans ih
    simp only [wire_Crc_B2]
    rw [if_pos (d_t (by omega)), crc_step_eq c hc, ob_some, hw]
theorem crc_J1 (c : Nat) (hc : c < 2 ^ 32) : wire_Crc_J1 (c : Int) = some ((4294967295 - c : Nat) : Int) := by
  have e1 : (if IntKind.signed .u32 = true then (-1 : Int) else IntKind.max .u32) = ((4294967295 : Nat) : Int) := by decide
  have e2 := bits_xor32 (a := 4294967295) (b := c) (by omega) hc
  rw [xor_max hc] at e2
  unfold wire_Crc_J1
  rw [e1, e2]
  dsimp only [lt]
theorem crc_L1 (b : List UInt8) (hb : b.length ≤ 140737488351232) : ∀ (m k c : Nat), b.length - k = m → k ≤ b.length → c < 2 ^ 32 → wire_Crc_L1 b ((c : Int), (k : Int)) = some ((4294967295 - crcL c (b.drop k) : Nat) : Int)
  | 0, k, c, e, hk, hc => by
    have : k = b.length := by omega
    subst this
    refine loopO_inr ?_
    simp only [wire_Crc_B1]
    rw [if_neg (d_f (by omega)), List.drop_length]
    rw [crc_J1 c hc]
    have e0 : crcL c [] = c := rfl
    rw [e0]
    dsimp only [inrO]
  | m + 1, k, c, e, hk, hc => by
    have hlt : k < b.length := by omega
    have hw : w64 ((k : Int) + 1) = ((k + 1 : Nat) : Int) := by rw [w64_id (by omega) (by omega)]; omega
    have hx := u8_lt32 (lget b (k : Int))
    have h3 : crcN 8 (c ^^^ (lget b (k : Int)).toNat) < 2 ^ 32 := crcN_lt 8 (Nat.xor_lt_two_pow hc hx)
    have ih := crc_L1 b hb m (k + 1) (crcN 8 (c ^^^ (lget b (k : Int)).toNat)) (by omega) (by omega) h3
    rw [lget_drop b k hlt, crcL_cons]
    refine (loopO_inl (y := (((crcN 8 (c ^^^ (lget b (k : Int)).toNat) : Nat) : Int), ((k + 1 : Nat) : Int))) ?_).trans ih
    simp only [wire_Crc_B1]
    rw [if_pos (d_t (by omega)), asrt_pos (by omega), u32_id (by omega) (by omega), bits_xor32 hc hx]
    have := crc_L2 ((c : Int), (k : Int)) 8 0 (c ^^^ (lget b (k : Int)).toNat) (by omega) (by omega) (Nat.xor_lt_two_pow hc hx)
    have h0 : ((0 : Nat) : Int) = 0 := rfl
    rw [h0] at this
    rw [this, hw]
theorem crc_eq (b : List UInt8) (hb : b.length ≤ 140737488351232) : wire_Crc b = some ((crc b : Nat) : Int) :=
  crc_L1 b hb b.length 0 4294967295 (by omega) (by omega) (by omega)
theorem rest_L2 (b : List UInt8) (c0 : Int) (i : Nat) (hi : i < b.length) : ∀ (m k c : Nat), 8 - k = m → k ≤ 8 → c < 2 ^ 32 →
    R_Rest_L2 b (c0, (i : Int)) ((c : Int), (k : Int)) = some (.inl (((crcR (8 - k) c ((lget b (i : Int)).toNat / 2 ^ k) : Nat) : Int), w64 ((i : Int) + 1)))
  | 0, k, c, e, hk, hc => by
    have : k = 8 := by omega
    subst this
    refine loopO_inr ?_
    simp only [R_Rest_B2]
    rw [if_neg (d_f (by omega))]; rfl
  | m + 1, k, c, e, hk, hc => by
    have hw : w64 ((k : Int) + 1) = ((k + 1 : Nat) : Int) := by rw [w64_id (by omega) (by omega)]; omega
    generalize hx : lget b (i : Int) = x
    have hxl := x.toNat_lt
    have hbit : x.toNat / 2 ^ k % 2 < 2 := by omega
    have hct : crcT c (x.toNat / 2 ^ k % 2) < 2 ^ 32 := by
      unfold crcT
      split
      · exact Nat.xor_lt_two_pow (by omega) (by unfold crcP; omega)
      · omega
    have ih := rest_L2 b c0 i hi m (k + 1) (crcT c (x.toNat / 2 ^ k % 2)) (by omega) (by omega) hct
    rw [hx] at ih
    have e8 : crcR (8 - k) c (x.toNat / 2 ^ k) = crcR (8 - (k + 1)) (crcT c (x.toNat / 2 ^ k % 2)) (x.toNat / 2 ^ (k + 1)) := by
      have : 8 - k = (8 - (k + 1)) + 1 := by omega
      rw [this, crcR, Nat.pow_succ, Nat.div_div_eq_div_mul]
    rw [e8]
    refine (loopO_inl (y := (((crcT c (x.toNat / 2 ^ k % 2) : Nat) : Int), ((k + 1 : Nat) : Int))) ?_).trans ih
    have ep : (2 : Int) ^ (min (k : Int).toNat 8) = ((2 ^ k : Nat) : Int) := by
      rw [Int.toNat_natCast, show min k 8 = k by omega]; simp
    have hd : x.toNat / 2 ^ k < 256 := Nat.lt_of_le_of_lt (Nat.div_le_self _ _) hxl
    have e1 : Int.tmod (IntKind.u32.wrap ((toU8 (Int.fdiv (x.toNat : Int) (2 ^ (min (k : Int).toNat 8)))).toNat : Int)) 2 = ((x.toNat / 2 ^ k % 2 : Nat) : Int) := by
      rw [ep, fdiv_nat, toU8_nat, u8_of hd]
      generalize x.toNat / 2 ^ k = q at hd ⊢
      rw [u32_id (by omega) (by omega)]
      exact tmod_nat _ 2
    have e2 : Int.tmod (IntKind.u32.wrap ((c : Int) + ((x.toNat / 2 ^ k % 2 : Nat) : Int))) 2 = (((c + x.toNat / 2 ^ k % 2) % 2 : Nat) : Int) := by
      generalize x.toNat / 2 ^ k % 2 = q at hbit ⊢
      by_cases h : c + q < 2 ^ 32
      · rw [u32_id (by omega) (by omega), ← Int.natCast_add]
        exact tmod_nat _ 2
      · have h1 : c + q = 4294967296 := by omega
        have h2 : (c : Int) + ((q : Nat) : Int) = 4294967296 := by omega
        rw [h1, h2]; decide
    have e3 : IntKind.u32.wrap (Int.tdiv (c : Int) 2) = ((c / 2 : Nat) : Int) := by
      have : Int.tdiv (c : Int) 2 = ((c / 2 : Nat) : Int) := tdiv_nat c 2
      rw [this, u32_id (by omega) (by omega)]
    have e4 : bitsOp .xor .u32 (((c / 2 : Nat)) : Int) 3988292384 = (((c / 2) ^^^ crcP : Nat) : Int) := bits_xor32 (a := c / 2) (b := crcP) (by omega) (by unfold crcP; omega)
    simp only [R_Rest_B2, hx, e1, lt, e2, e3, e4]
    rw [if_pos (d_t (by omega)), asrt_pos (by omega), asrt_pos (by omega)]
    unfold crcT
    by_cases c2 : (c + x.toNat / 2 ^ k % 2) % 2 = 1
    · rw [if_pos (d_t (by omega)), if_pos c2, ob_some, hw]
    · rw [if_neg (d_f (by omega)), if_neg c2, ob_some, hw]
theorem rest_J1 (c : Nat) (hc : c < 2 ^ 32) : R_Rest_J1 (c : Int) = some ((4294967295 - c : Nat) : Int) := by
  have : (4294967295 : Int) - (c : Int) = ((4294967295 - c : Nat) : Int) := by omega
  unfold R_Rest_J1
  rw [u32_id (by omega) (by omega), this]
theorem rest_L1 (b : List UInt8) (hb : b.length ≤ 140737488351232) : ∀ (m k c : Nat), b.length - k = m → k ≤ b.length → c < 2 ^ 32 → R_Rest_L1 b ((c : Int), (k : Int)) = some ((4294967295 - crcL c (b.drop k) : Nat) : Int)
  | 0, k, c, e, hk, hc => by
    have : k = b.length := by omega
    subst this
    refine loopO_inr ?_
    simp only [R_Rest_B1]
    rw [if_neg (d_f (by omega)), List.drop_length]
    rw [rest_J1 c hc]
    have e0 : crcL c [] = c := rfl
    rw [e0]
    dsimp only [inrO]
  | m + 1, k, c, e, hk, hc => by
    have hlt : k < b.length := by omega
    have hw : w64 ((k : Int) + 1) = ((k + 1 : Nat) : Int) := by rw [w64_id (by omega) (by omega)]; omega
    have hx := u8_lt32 (lget b (k : Int))
    have h3 : crcN 8 (c ^^^ (lget b (k : Int)).toNat) < 2 ^ 32 := crcN_lt 8 (Nat.xor_lt_two_pow hc hx)
    have ih := rest_L1 b hb m (k + 1) (crcN 8 (c ^^^ (lget b (k : Int)).toNat)) (by omega) (by omega) h3
    rw [lget_drop b k hlt, crcL_cons]
    refine (loopO_inl (y := (((crcN 8 (c ^^^ (lget b (k : Int)).toNat) : Nat) : Int), ((k + 1 : Nat) : Int))) ?_).trans ih
    simp only [R_Rest_B1]
    rw [if_pos (d_t (by omega))]
    have := rest_L2 b (c : Int) k hlt 8 0 c (by omega) (by omega) hc
    have h0 : ((0 : Nat) : Int) = 0 := rfl
    rw [h0] at this
    rw [this, crc_byte c _ (lget b (k : Int)).toNat_lt, hw]
    simp
theorem rest_eq (b : List UInt8) (hb : b.length ≤ 140737488351232) : R_Rest b = some ((crc b : Nat) : Int) :=
  rest_L1 b hb b.length 0 4294967295 (by omega) (by omega) (by omega)
/- frames -/
theorem crcB_w (n : Nat) : [toU8 (Int.fdiv (n : Int) (2 ^ (min (24 : Int).toNat 32))), toU8 (Int.fdiv (n : Int) (2 ^ (min (16 : Int).toNat 32))), toU8 (Int.fdiv (n : Int) (2 ^ (min (8 : Int).toNat 32))), toU8 (n : Int)] = crcB n := by
  have e1 : (2 : Int) ^ (min (24 : Int).toNat 32) = ((16777216 : Nat) : Int) := by decide
  have e2 : (2 : Int) ^ (min (16 : Int).toNat 32) = ((65536 : Nat) : Int) := by decide
  have e3 : (2 : Int) ^ (min (8 : Int).toNat 32) = ((256 : Nat) : Int) := by decide
  unfold crcB
  rw [e1, e2, e3, fdiv_nat, fdiv_nat, fdiv_nat, toU8_nat, toU8_nat, toU8_nat, toU8_nat, ofNat_mod, ofNat_mod, ofNat_mod]
def encF (l : List (List UInt8)) : List UInt8 := wrAll frame l
theorem encF_cons (s : List UInt8) (l : List (List UInt8)) : encF (s :: l) = frame s ++ encF l := by simp [encF, wrAll]
def flen (b : List UInt8) : Nat := (lget b 0).toNat * 256 + (lget b 1).toNat
def rdF (b : List UInt8) : Option (List UInt8 × List UInt8) :=
  if 6 ≤ b.length ∧ flen b + 6 ≤ b.length ∧ frame ((b.drop 2).take (flen b)) = b.take (flen b + 6) then some ((b.drop 2).take (flen b), b.drop (flen b + 6)) else none
theorem flen_lt (b : List UInt8) : flen b ≤ 65535 := by
  have h1 := (lget b 0).toNat_lt
  have h2 := (lget b 1).toNat_lt
  unfold flen; omega
theorem rdF_some {b x r : List UInt8} (h : rdF b = some (x, r)) : b = frame x ++ r ∧ x.length ≤ 65535 := by
  unfold rdF at h
  split at h
  · rename_i c
    simp only [Option.some.injEq, Prod.mk.injEq] at h
    obtain ⟨rfl, rfl⟩ := h
    have := flen_lt b
    exact ⟨by rw [c.2.2, List.take_append_drop], by simp; omega⟩
  · cases h
theorem flen_frame {x : List UInt8} (hx : x.length ≤ 65535) (r : List UInt8) : flen (frame x ++ r) = x.length := by
  have e : frame x ++ r = UInt8.ofNat (x.length / 256) :: UInt8.ofNat (x.length % 256) :: (x ++ (crcB (crc (UInt8.ofNat (x.length / 256) :: UInt8.ofNat (x.length % 256) :: x)) ++ r)) := by simp [frame]
  rw [e]
  have e0 : lget (UInt8.ofNat (x.length / 256) :: UInt8.ofNat (x.length % 256) :: (x ++ (crcB (crc (UInt8.ofNat (x.length / 256) :: UInt8.ofNat (x.length % 256) :: x)) ++ r))) 0 = UInt8.ofNat (x.length / 256) := rfl
  have e1 : lget (UInt8.ofNat (x.length / 256) :: UInt8.ofNat (x.length % 256) :: (x ++ (crcB (crc (UInt8.ofNat (x.length / 256) :: UInt8.ofNat (x.length % 256) :: x)) ++ r))) 1 = UInt8.ofNat (x.length % 256) := rfl
  unfold flen
  rw [e0, e1, u8_of (by omega), u8_of (by omega)]; omega
theorem body_frame (x r : List UInt8) : ((frame x ++ r).drop 2).take x.length = x := by
  have e : frame x ++ r = UInt8.ofNat (x.length / 256) :: UInt8.ofNat (x.length % 256) :: (x ++ (crcB (crc (UInt8.ofNat (x.length / 256) :: UInt8.ofNat (x.length % 256) :: x)) ++ r)) := by simp [frame]
  rw [e]; simp
theorem rdF_frame {x : List UInt8} (hx : x.length ≤ 65535) (r : List UInt8) : rdF (frame x ++ r) = some (x, r) := by
  unfold rdF
  have h1 := flen_frame hx r
  have h2 := body_frame x r
  have h3 := frame_len x
  rw [h1, h2, if_pos]
  · have : (frame x ++ r).drop (x.length + 6) = r := by rw [← h3]; simp
    rw [this]
  · refine ⟨by rw [List.length_append, h3]; omega, by rw [List.length_append, h3]; omega, ?_⟩
    rw [← h3]; simp
def opn : Nat → List UInt8 → List (List UInt8) → Nat → List (List UInt8) × Nat
  | 0, _, acc, g => (acc, g)
  | k + 1, b, acc, g => match rdF b with
    | some (x, r) => opn k r (acc ++ [x]) (g + (x.length + 6))
    | none => (acc, g)
theorem opn_none {b : List UInt8} (h : rdF b = none) (k : Nat) (acc : List (List UInt8)) (g : Nat) : opn k b acc g = (acc, g) := by
  cases k with
  | zero => rfl
  | succ k => rw [opn, h]
theorem opn_some {b x r : List UInt8} (h : rdF b = some (x, r)) (k : Nat) (acc : List (List UInt8)) (g : Nat) : opn (k + 1) b acc g = opn k r (acc ++ [x]) (g + (x.length + 6)) := by
  rw [opn, h]
/-- what Opened looks at, is what a frame is -/
theorem frame_sum {b : List UInt8} (h : flen b + 6 ≤ b.length) : frame ((b.drop 2).take (flen b)) = b.take (flen b + 6) ↔ (b.drop (2 + flen b)).take 4 = crcB (crc (b.take (2 + flen b))) := by
  have h1 := (lget b 0).toNat_lt
  have h2 := (lget b 1).toNat_lt
  have hl : ((b.drop 2).take (flen b)).length = flen b := by simp; omega
  have e2 : b.take (2 + flen b) = lget b 0 :: lget b 1 :: (b.drop 2).take (flen b) := by
    have a0 := lget_drop b 0 (by omega)
    have a1 := lget_drop b 1 (by omega)
    simp only [List.drop_zero] at a0
    have e0 : ((0 : Nat) : Int) = 0 := rfl
    have e1 : ((1 : Nat) : Int) = 1 := rfl
    rw [e0, Nat.zero_add, a1, e1] at a0
    rw [a0, Nat.add_comm 2]
    simp [lget]
  have e3 : UInt8.ofNat (flen b / 256) = lget b 0 := by
    apply u8_eq; rw [u8_of (by unfold flen; omega)]; unfold flen; omega
  have e4 : UInt8.ofNat (flen b % 256) = lget b 1 := by
    apply u8_eq; rw [u8_of (by omega)]; unfold flen; omega
  have e5 : frame ((b.drop 2).take (flen b)) = b.take (2 + flen b) ++ crcB (crc (b.take (2 + flen b))) := by
    unfold frame
    rw [hl, e3, e4, ← e2]
  have e6 : b.take (flen b + 6) = b.take (2 + flen b) ++ (b.drop (2 + flen b)).take 4 := by
    rw [← List.take_add]; congr 1; omega
  rw [e5, e6, List.append_cancel_left_eq]
  exact eq_comm
theorem equal_loop (a b : List UInt8) (hl : a.length = b.length) (hb : a.length ≤ 1000000) : ∀ (m k : Nat), a.length - k = m → k ≤ a.length → slices_Equal_byte_byte_L1 a b (k : Int) = some (decide (a.drop k = b.drop k))
  | 0, k, e, hk => by
    have : k = a.length := by omega
    refine loopO_inr ?_
    simp only [slices_Equal_byte_byte_B1]
    rw [if_neg (d_f (by omega))]
    have e1 : a.drop k = [] := List.drop_eq_nil_of_le (by omega)
    have e2 : b.drop k = [] := List.drop_eq_nil_of_le (by omega)
    simp [inrO, slices_Equal_byte_byte_J1, e1, e2]
  | m + 1, k, e, hk => by
    have hw : w64 ((k : Int) + 1) = ((k + 1 : Nat) : Int) := by rw [w64_id (by omega) (by omega)]; omega
    have ih := equal_loop a b hl hb m (k + 1) (by omega) (by omega)
    rw [lget_drop a k (by omega), lget_drop b k (by omega)]
    by_cases c : lget a (k : Int) = lget b (k : Int)
    · refine (loopO_inl (y := ((k + 1 : Nat) : Int)) ?_).trans (ih.trans (by simp [c]))
      simp only [slices_Equal_byte_byte_B1]
      rw [if_pos (d_t (by omega)), asrt_pos (by omega), asrt_pos (by omega), if_neg (by simp [c]), hw]
    · have c' : ¬ ((lget a (k : Int)).toNat : Int) = ((lget b (k : Int)).toNat : Int) := fun h => c (u8_eq (by omega))
      refine loopO_inr ?_
      simp only [slices_Equal_byte_byte_B1]
      rw [if_pos (d_t (by omega)), asrt_pos (by omega), asrt_pos (by omega), if_pos (n_t c')]
      simp [c]
theorem equal_eq (a b : List UInt8) (hb : a.length ≤ 1000000) : slices_Equal_byte_byte a b = some (decide (a = b)) := by
  unfold slices_Equal_byte_byte
  by_cases c : a.length = b.length
  · rw [if_neg (by simp [c])]
    have := equal_loop a b c hb a.length 0 (by omega) (by omega)
    simpa using this
  · rw [if_pos (by simp; omega)]
    have : a ≠ b := fun h => c (by rw [h])
    simp [this]
theorem clone_eq (l : List UInt8) (h : l.length ≤ 1000000) : slices_Clone_byte_byte l = some l := by
  refine wp_is.1 ?_
  simp only [slices_Clone_byte_byte, wp_ubO, wp_asrt, wp_some, List.nil_append]
  refine ⟨fun hl => ?_, ⟨by omega, trivial⟩⟩
  have : l = [] := List.length_eq_zero_iff.1 (of_decide_eq_true hl)
  subst this
  rw [asrt_pos (by simp)]
theorem drop_take' (b : List UInt8) (g n : Nat) : (b.take (g + n)).drop g = (b.drop g).take n := by
  rw [List.drop_take]; congr 1; omega
theorem opened_loop (b : List UInt8) (hb : b.length ≤ 100000) : ∀ (k g : Nat) (acc : List (List UInt8)), b.length - g ≤ k → g ≤ b.length → acc.length ≤ g →
    wire_Opened_v1_L1 b (acc, (g : Int)) = some (((opn k (b.drop g) acc g).1), (((opn k (b.drop g) acc g).2 : Nat) : Int))
  | k, g, acc, hk, hg, ha => by
    have hw0 : w64 ((b.length : Int) - (g : Int)) = ((b.length - g : Nat) : Int) := by rw [w64_id (by omega) (by omega)]; omega
    have hw1 : w64 ((g : Int) + 1) = ((g + 1 : Nat) : Int) := by rw [w64_id (by omega) (by omega)]; omega
    have hw2 : w64 ((g : Int) + 2) = ((g + 2 : Nat) : Int) := by rw [w64_id (by omega) (by omega)]; omega
    by_cases c6 : 6 ≤ b.length - g
    · have hfl := flen_lt (b.drop g)
      have h0 : lget (b.drop g) 0 = lget b (g : Int) := by
        have := lget_ldrop b (g : Int) 0 (by omega)
        rwa [ldrop_nat, Int.add_zero] at this
      have h1 : lget (b.drop g) 1 = lget b ((g + 1 : Nat) : Int) := by
        have := lget_ldrop b (g : Int) 1 (by omega)
        rwa [ldrop_nat] at this
      have b0 := (lget b (g : Int)).toNat_lt
      have b1 := (lget b ((g + 1 : Nat) : Int)).toNat_lt
      have en : bitsOp .or .i64 (w64 ((w64 ((lget b (g : Int)).toNat : Int)) * 2 ^ (min (8 : Int).toNat 64))) (w64 ((lget b ((g + 1 : Nat) : Int)).toNat : Int)) = ((flen (b.drop g) : Nat) : Int) := by
        have e8 : (2 : Int) ^ (min (8 : Int).toNat 64) = ((256 : Nat) : Int) := by decide
        rw [e8, w64_id (x := ((lget b (g : Int)).toNat : Int)) (by omega) (by omega), ← Int.natCast_mul, w64_id (by omega) (by omega), w64_id (by omega) (by omega), bits_or64 (by omega) (by omega)]
        have := or_add (a := (lget b ((g + 1 : Nat) : Int)).toNat) (b := (lget b (g : Int)).toNat) (k := 8) (by omega)
        have e256 : (2 : Nat) ^ 8 = 256 := rfl
        rw [e256] at this
        rw [Nat.or_comm, this]
        unfold flen
        rw [h0, h1]; omega
      generalize hn : flen (b.drop g) = n at *
      have hw3 : w64 (((g + 2 : Nat) : Int) + (n : Int)) = ((g + 2 + n : Nat) : Int) := by rw [w64_id (by omega) (by omega)]; omega
      have hw4 : w64 (((g + 2 + n : Nat) : Int) + 4) = ((g + 2 + n + 4 : Nat) : Int) := by rw [w64_id (by omega) (by omega)]; omega
      by_cases c2 : b.length < g + 2 + n + 4
      · have hr : rdF (b.drop g) = none := by
          unfold rdF
          rw [if_neg]
          rw [hn, List.length_drop]
          intro h; omega
        rw [opn_none hr]
        refine loopO_inr ?_
        simp only [wire_Opened_v1_B1, hw0, hw1, hw2]
        rw [if_pos (d_t (by omega)), asrt_pos (by omega), asrt_pos (by omega), en]
        simp only [lt, hw3, hw4]
        rw [if_pos (d_t (by omega))]; rfl
      · have t1 : (b.take (g + 2 + n)).drop g = (b.drop g).take (2 + n) := by rw [Nat.add_assoc, drop_take']
        have t2 : (b.take (g + 2 + n + 4)).drop (g + 2 + n) = ((b.drop g).drop (2 + n)).take 4 := by
          rw [drop_take', List.drop_drop, Nat.add_assoc]
        have t3 : (b.take (g + 2 + n)).drop (g + 2) = ((b.drop g).drop 2).take n := by rw [drop_take', List.drop_drop]
        have hle : flen (b.drop g) + 6 ≤ (b.drop g).length := by rw [hn, List.length_drop]; omega
        have hfs := frame_sum hle
        rw [hn] at hfs
        have hl3 : (((b.drop g).drop 2).take n).length = n := by simp; omega
        by_cases c3 : ((b.drop g).drop (2 + n)).take 4 = crcB (crc ((b.drop g).take (2 + n)))
        · have hr : rdF (b.drop g) = some (((b.drop g).drop 2).take n, b.drop (g + (n + 6))) := by
            unfold rdF
            have e9 : (b.drop g).drop (n + 6) = b.drop (g + (n + 6)) := by rw [List.drop_drop]
            rw [hn, if_pos ⟨by simp; omega, by simp; omega, hfs.2 c3⟩, e9]
          match k, hk with
          | 0, hk => omega
          | k + 1, hk =>
          rw [opn_some hr, hl3]
          have ih := opened_loop b hb k (g + (n + 6)) (acc ++ [((b.drop g).drop 2).take n]) (by omega) (by omega) (by simp; omega)
          refine (loopO_inl (y := (acc ++ [((b.drop g).drop 2).take n], ((g + (n + 6) : Nat) : Int))) ?_).trans ih
          simp only [wire_Opened_v1_B1, hw0, hw1, hw2]
          rw [if_pos (d_t (by omega)), asrt_pos (by omega), asrt_pos (by omega), en]
          simp only [lt, hw3, hw4]
          rw [if_neg (d_f (by omega)), asrt_pos (by omega), ltake_nat, ldrop_nat, t1, crc_eq _ (by simp; omega), ob_some, asrt_pos (by omega), ltake_nat, ldrop_nat, t2, crcB_w, c3, equal_eq _ _ (by simp [crcB]), ob_some]
          rw [if_neg (by simp), asrt_pos (by omega), ldrop_nat, t3, clone_eq _ (by omega), ob_some, asrt_pos (by simp; omega)]
          have : g + 2 + n + 4 = g + (n + 6) := by omega
          rw [this]
        · have hr : rdF (b.drop g) = none := by
            unfold rdF
            rw [hn, if_neg]
            intro h; exact c3 (hfs.1 h.2.2)
          rw [opn_none hr]
          refine loopO_inr ?_
          simp only [wire_Opened_v1_B1, hw0, hw1, hw2]
          rw [if_pos (d_t (by omega)), asrt_pos (by omega), asrt_pos (by omega), en]
          simp only [lt, hw3, hw4]
          rw [if_neg (d_f (by omega)), asrt_pos (by omega), ltake_nat, ldrop_nat, t1, crc_eq _ (by simp; omega), ob_some, asrt_pos (by omega), ltake_nat, ldrop_nat, t2, crcB_w, equal_eq _ _ (by simp; omega), ob_some, if_pos (n_t c3)]
          rfl
    · have hr : rdF (b.drop g) = none := by
        unfold rdF
        rw [if_neg]
        rw [List.length_drop]
        intro h; omega
      rw [opn_none hr]
      refine loopO_inr ?_
      simp only [wire_Opened_v1_B1, hw0]
      rw [if_neg (d_f (by omega))]; rfl
theorem opened_eq (b : List UInt8) (hb : b.length ≤ 100000) : wire_Opened_v1 b = some ((opn b.length b [] 0).1, (((opn b.length b [] 0).2 : Nat) : Int)) := by
  have := opened_loop b hb b.length 0 [] (by omega) (by omega) (by simp)
  unfold wire_Opened_v1
  simpa using this
theorem crcB_r (n : Nat) (hn : n < 2 ^ 32) : [toU8 (IntKind.u32.wrap (Int.tdiv (n : Int) 16777216)), toU8 (Int.tmod (IntKind.u32.wrap (Int.tdiv (n : Int) 65536)) 256), toU8 (Int.tmod (IntKind.u32.wrap (Int.tdiv (n : Int) 256)) 256), toU8 (Int.tmod (n : Int) 256)] = crcB n := by
  have e1 : Int.tdiv (n : Int) 16777216 = ((n / 16777216 : Nat) : Int) := tdiv_nat n 16777216
  have e2 : Int.tdiv (n : Int) 65536 = ((n / 65536 : Nat) : Int) := tdiv_nat n 65536
  have e3 : Int.tdiv (n : Int) 256 = ((n / 256 : Nat) : Int) := tdiv_nat n 256
  have e4 : Int.tmod (n : Int) 256 = ((n % 256 : Nat) : Int) := tmod_nat n 256
  have e5 : Int.tmod ((n / 65536 : Nat) : Int) 256 = ((n / 65536 % 256 : Nat) : Int) := tmod_nat _ 256
  have e6 : Int.tmod ((n / 256 : Nat) : Int) 256 = ((n / 256 % 256 : Nat) : Int) := tmod_nat _ 256
  unfold crcB
  rw [e1, e2, e3, e4, u32_id (by omega) (by omega), u32_id (by omega) (by omega), u32_id (by omega) (by omega), e5, e6, toU8_nat, toU8_nat, toU8_nat, toU8_nat]
theorem framed_eq (body : List UInt8) (hb : body.length ≤ 1000000000) : R_Framed body = some (frame body) := by
  have eh : [toU8 (w64 (Int.tdiv (body.length : Int) 256)), toU8 (Int.tmod (body.length : Int) 256)] = [UInt8.ofNat (body.length / 256), UInt8.ofNat (body.length % 256)] := by
    have e3 : Int.tdiv (body.length : Int) 256 = ((body.length / 256 : Nat) : Int) := tdiv_nat _ 256
    have e4 : Int.tmod (body.length : Int) 256 = ((body.length % 256 : Nat) : Int) := tmod_nat _ 256
    rw [e3, e4, w64_id (by omega) (by omega), toU8_nat, toU8_nat]
  unfold R_Framed
  rw [eh, asrt_pos (by simp; omega)]
  dsimp only [lt]
  rw [rest_eq _ (by simp; omega), ob_some, crcB_r _ (crc_lt _), asrt_pos (by simp [crcB]; omega)]
  simp [frame]
theorem unframed_loop (b : List UInt8) (hb : b.length ≤ 100000) : ∀ (k g : Nat) (acc : List (List UInt8)), b.length - g ≤ k → g ≤ b.length → acc.length ≤ g →
    R_Unframed_L1 b (acc, (g : Int)) = some (((opn k (b.drop g) acc g).1), (((opn k (b.drop g) acc g).2 : Nat) : Int))
  | k, g, acc, hk, hg, ha => by
    have hw1 : w64 ((g : Int) + 1) = ((g + 1 : Nat) : Int) := by rw [w64_id (by omega) (by omega)]; omega
    have hw2 : w64 ((g : Int) + 2) = ((g + 2 : Nat) : Int) := by rw [w64_id (by omega) (by omega)]; omega
    have hw6 : w64 ((g : Int) + 6) = ((g + 6 : Nat) : Int) := by rw [w64_id (by omega) (by omega)]; omega
    by_cases c6 : g + 6 ≤ b.length
    · have hfl := flen_lt (b.drop g)
      have h0 : lget (b.drop g) 0 = lget b (g : Int) := by
        have := lget_ldrop b (g : Int) 0 (by omega)
        rwa [ldrop_nat, Int.add_zero] at this
      have h1 : lget (b.drop g) 1 = lget b ((g + 1 : Nat) : Int) := by
        have := lget_ldrop b (g : Int) 1 (by omega)
        rwa [ldrop_nat] at this
      have b0 := (lget b (g : Int)).toNat_lt
      have b1 := (lget b ((g + 1 : Nat) : Int)).toNat_lt
      have en : w64 ((w64 ((w64 ((lget b (g : Int)).toNat : Int)) * 256)) + (w64 ((lget b ((g + 1 : Nat) : Int)).toNat : Int))) = ((flen (b.drop g) : Nat) : Int) := by
        rw [w64_id (x := ((lget b (g : Int)).toNat : Int)) (by omega) (by omega), w64_id (x := ((lget b (g : Int)).toNat : Int) * 256) (by omega) (by omega), w64_id (x := ((lget b ((g + 1 : Nat) : Int)).toNat : Int)) (by omega) (by omega), w64_id (by omega) (by omega)]
        unfold flen
        rw [h0, h1]; omega
      generalize hn : flen (b.drop g) = n at *
      have hw3 : w64 (((g + 2 : Nat) : Int) + (n : Int)) = ((g + 2 + n : Nat) : Int) := by rw [w64_id (by omega) (by omega)]; omega
      have hw4 : w64 (((g + 6 : Nat) : Int) + (n : Int)) = ((g + (n + 6) : Nat) : Int) := by rw [w64_id (by omega) (by omega)]; omega
      by_cases c2 : b.length < g + (n + 6)
      · have hr : rdF (b.drop g) = none := by
          unfold rdF
          rw [if_neg]
          rw [hn, List.length_drop]
          intro h; omega
        rw [opn_none hr]
        refine loopO_inr ?_
        simp only [R_Unframed_B1, hw1, hw2, hw6]
        rw [if_pos (d_t (by omega)), asrt_pos (by omega), asrt_pos (by omega), en]
        simp only [lt, hw3, hw4]
        rw [if_pos (d_t (by omega))]; rfl
      · have t2 : (b.take (g + (n + 6))).drop g = (b.drop g).take (n + 6) := drop_take' b g (n + 6)
        have t3 : (b.take (g + 2 + n)).drop (g + 2) = ((b.drop g).drop 2).take n := by rw [drop_take', List.drop_drop]
        have hl3 : (((b.drop g).drop 2).take n).length = n := by simp; omega
        have e9 : (b.drop g).drop (n + 6) = b.drop (g + (n + 6)) := by rw [List.drop_drop]
        by_cases c3 : frame (((b.drop g).drop 2).take n) = (b.drop g).take (n + 6)
        · have hr : rdF (b.drop g) = some (((b.drop g).drop 2).take n, b.drop (g + (n + 6))) := by
            unfold rdF
            rw [hn, if_pos ⟨by simp; omega, by simp; omega, c3⟩, e9]
          match k, hk with
          | 0, hk => omega
          | k + 1, hk =>
          rw [opn_some hr, hl3]
          have ih := unframed_loop b hb k (g + (n + 6)) (acc ++ [((b.drop g).drop 2).take n]) (by omega) (by omega) (by simp; omega)
          refine (loopO_inl (y := (acc ++ [((b.drop g).drop 2).take n], ((g + (n + 6) : Nat) : Int))) ?_).trans ih
          simp only [R_Unframed_B1, hw1, hw2, hw6]
          rw [if_pos (d_t (by omega)), asrt_pos (by omega), asrt_pos (by omega), en]
          simp only [lt, hw3, hw4]
          rw [if_neg (d_f (by omega)), asrt_pos (by omega), ltake_nat, ldrop_nat, t3, framed_eq _ (by omega), ob_some, asrt_pos (by omega), ltake_nat, ldrop_nat, t2]
          have hsm : R_Same (frame (((b.drop g).drop 2).take n)) ((b.drop g).take (n + 6)) = true := by unfold R_Same; exact decide_eq_true c3
          rw [hsm, if_neg (by simp), asrt_pos (by omega), asrt_pos (by simp; omega)]
        · have hr : rdF (b.drop g) = none := by
            unfold rdF
            rw [hn, if_neg]
            intro h; exact c3 h.2.2
          rw [opn_none hr]
          refine loopO_inr ?_
          simp only [R_Unframed_B1, hw1, hw2, hw6]
          rw [if_pos (d_t (by omega)), asrt_pos (by omega), asrt_pos (by omega), en]
          simp only [lt, hw3, hw4]
          rw [if_neg (d_f (by omega)), asrt_pos (by omega), ltake_nat, ldrop_nat, t3, framed_eq _ (by omega), ob_some, asrt_pos (by omega), ltake_nat, ldrop_nat, t2]
          have hsm : R_Same (frame (((b.drop g).drop 2).take n)) ((b.drop g).take (n + 6)) = false := by
            unfold R_Same; exact decide_eq_false c3
          rw [hsm, if_pos (by simp)]
          rfl
    · have hr : rdF (b.drop g) = none := by
        unfold rdF
        rw [if_neg]
        rw [List.length_drop]
        intro h; omega
      rw [opn_none hr]
      refine loopO_inr ?_
      simp only [R_Unframed_B1, hw6]
      rw [if_neg (d_f (by omega))]; rfl
theorem unframed_eq (b : List UInt8) (hb : b.length ≤ 100000) : R_Unframed b = some ((opn b.length b [] 0).1, (((opn b.length b [] 0).2 : Nat) : Int)) := by
  have := unframed_loop b hb b.length 0 [] (by omega) (by omega) (by simp)
  unfold R_Unframed
  simpa using this
/-- how many are whole -/
def wh : List (List UInt8) → Nat → Nat
  | [], _ => 0
  | x :: l, c => if x.length + 6 ≤ c then wh l (c - (x.length + 6)) + 1 else 0
theorem wh_le : ∀ (l : List (List UInt8)) (c : Nat), wh l c ≤ l.length
  | [], c => by simp [wh]
  | x :: l, c => by
    rw [wh]
    split
    · have := wh_le l (c - (x.length + 6)); simp; omega
    · simp
theorem wh_lt : ∀ (l : List (List UInt8)) (c : Nat), c < (encF l).length → wh l c < l.length
  | [], c, h => by simp [encF, wrAll] at h
  | x :: l, c, h => by
    rw [encF_cons, List.length_append, frame_len] at h
    rw [wh]
    split
    · have := wh_lt l (c - (x.length + 6)) (by omega); simp; omega
    · simp
theorem rdF_short {x : List UInt8} (hx : x.length ≤ 65535) (r : List UInt8) (c : Nat) (hc : c < x.length + 6) : rdF ((frame x ++ r).take c) = none := by
  unfold rdF
  rw [if_neg]
  intro ⟨h1, h2, _⟩
  have hl : ((frame x ++ r).take c).length ≤ c := by simp; omega
  have e0 : lget ((frame x ++ r).take c) 0 = lget (frame x ++ r) 0 := by
    have := lget_ltake (frame x ++ r) (c : Int) 0 (by omega)
    rwa [ltake_nat] at this
  have e1 : lget ((frame x ++ r).take c) 1 = lget (frame x ++ r) 1 := by
    have := lget_ltake (frame x ++ r) (c : Int) 1 (by omega)
    rwa [ltake_nat] at this
  have : flen ((frame x ++ r).take c) = x.length := by
    rw [← flen_frame hx r]; unfold flen; rw [e0, e1]
  omega
theorem opn_cut : ∀ (l : List (List UInt8)) (c k : Nat) (acc : List (List UInt8)) (g : Nat), (∀ s ∈ l, s.length ≤ 65535) → ((encF l).take c).length ≤ k →
    opn k ((encF l).take c) acc g = (acc ++ l.take (wh l c), g + (encF (l.take (wh l c))).length)
  | [], c, k, acc, g, hs, hk => by
    have : rdF ((encF []).take c) = none := by simp [encF, wrAll, rdF]
    rw [opn_none this]; simp [wh, encF, wrAll]
  | x :: l, c, k, acc, g, hs, hk => by
    have hx := hs x (by simp)
    have hfl := frame_len x
    rw [encF_cons] at hk ⊢
    rw [wh]
    by_cases h : x.length + 6 ≤ c
    · have e : (frame x ++ encF l).take c = frame x ++ (encF l).take (c - (x.length + 6)) := by
        rw [List.take_append, List.take_of_length_le (by omega), hfl]
      rw [e] at hk ⊢
      rw [List.length_append, hfl] at hk
      rw [if_pos h]
      match k, hk with
      | 0, hk => omega
      | k + 1, hk =>
      rw [opn_some (rdF_frame hx _), opn_cut l (c - (x.length + 6)) k _ _ (fun s h => hs s (by simp [h])) (by omega), List.take_succ_cons, encF_cons, List.length_append, hfl]
      simp; omega
    · rw [if_neg h, opn_none (rdF_short hx _ c (by omega))]; simp [encF, wrAll]
end G
end Go.Proofs.Ytollmifjbcccgaa
