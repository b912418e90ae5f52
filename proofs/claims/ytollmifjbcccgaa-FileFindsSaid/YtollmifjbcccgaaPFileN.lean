/- May a row be there? -/
import Derived.Test.YtollmifjbcccgaaPFileM
namespace Go.Proofs.Ytollmifjbcccgaa
open Go Go.Dm
set_option linter.unusedVariables false
set_option linter.unusedSectionVars false
set_option linter.unusedSimpArgs false
namespace G
theorem and8 : ∀ (k : Fin 8) (a0 a1 a2 a3 a4 a5 a6 a7 : Bool), (decide (((toU8 (((BitVec.ofInt 8 ((toU8 (Int.fdiv ((w8 a0 a1 a2 a3 a4 a5 a6 a7).toNat : Int) (2 ^ (min ((k.val : Nat) : Int).toNat 8)))).toNat : Int) &&& BitVec.ofInt 8 ((1 : UInt8).toNat : Int)).toNat : Int))).toNat : Int) = ((0 : UInt8).toNat : Int))) = !sel8 k.val a0 a1 a2 a3 a4 a5 a6 a7 := by decide +kernel
theorem mod8 : ∀ (k : Fin 8) (a0 a1 a2 a3 a4 a5 a6 a7 : Bool), (decide (((toU8 (Int.tmod ((toU8 (Int.fdiv ((w8 a0 a1 a2 a3 a4 a5 a6 a7).toNat : Int) (2 ^ (min ((k.val : Nat) : Int).toNat 8)))).toNat : Int) ((2 : UInt8).toNat : Int))).toNat : Int) = ((0 : UInt8).toNat : Int))) = !sel8 k.val a0 a1 a2 a3 a4 a5 a6 a7 := by decide +kernel
theorem sel_at (p : Nat → Bool) (s : Nat) : sel8 (s % 8) (p (8 * (s / 8))) (p (8 * (s / 8) + 1)) (p (8 * (s / 8) + 2)) (p (8 * (s / 8) + 3)) (p (8 * (s / 8) + 4)) (p (8 * (s / 8) + 5)) (p (8 * (s / 8) + 6)) (p (8 * (s / 8) + 7)) = p s := by
  have hk : s % 8 < 8 := Nat.mod_lt _ (by decide)
  have e : p s = p (8 * (s / 8) + s % 8) := by rw [Nat.div_add_mod]
  rw [e]
  generalize s % 8 = k at *
  generalize s / 8 = j at *
  match k, hk with
  | 0, _ => rfl
  | 1, _ => rfl
  | 2, _ => rfl
  | 3, _ => rfl
  | 4, _ => rfl
  | 5, _ => rfl
  | 6, _ => rfl
  | 7, _ => rfl
theorem and_at (p : Nat → Bool) (n s : Nat) (hs : s < 8 * n) : (decide (((toU8 (((BitVec.ofInt 8 ((toU8 (Int.fdiv ((lget (bytesOf p n) ((s / 8 : Nat) : Int)).toNat : Int) (2 ^ (min (Int.tmod (s : Int) 8).toNat 8)))).toNat : Int) &&& BitVec.ofInt 8 ((1 : UInt8).toNat : Int)).toNat : Int))).toNat : Int) = ((0 : UInt8).toNat : Int))) = !p s := by
  have e : Int.tmod (s : Int) 8 = ((s % 8 : Nat) : Int) := rfl
  rw [bytesOf_get _ _ _ (by omega), e, ← sel_at p s]
  exact and8 ⟨s % 8, Nat.mod_lt _ (by decide)⟩ _ _ _ _ _ _ _ _
theorem mod_at (p : Nat → Bool) (n s : Nat) (hs : s < 8 * n) : (decide (((toU8 (Int.tmod ((toU8 (Int.fdiv ((lget (bytesOf p n) ((s / 8 : Nat) : Int)).toNat : Int) (2 ^ (min (Int.tmod (s : Int) 8).toNat 8)))).toNat : Int) ((2 : UInt8).toNat : Int))).toNat : Int) = ((0 : UInt8).toNat : Int))) = !p s := by
  have e : Int.tmod (s : Int) 8 = ((s % 8 : Nat) : Int) := rfl
  rw [bytesOf_get _ _ _ (by omega), e, ← sel_at p s]
  exact mod8 ⟨s % 8, Nat.mod_lt _ (by decide)⟩ _ _ _ _ _ _ _ _
/-- are all bits of a row set? -/
def mayP (p : Nat → Bool) (m : Nat) (row : List UInt8) : Bool := p (sp row m 0) && p (sp row m 1) && p (sp row m 2)
def mayF (l : List Cell) (row : List UInt8) : Bool := mayP (rowP (celR l) (8 * filN l) l.length) (8 * filN l) row
theorem may_eq (p : Nat → Bool) (n : Nat) (h0 : 1 ≤ n) (h1 : n ≤ 100001) (row : List UInt8) (hr : row.length ≤ 140737488351232) : file_may (bytesOf p n) row = some (mayP p (8 * n) row) := by
  have h8 : w64 (8 * (n : Int)) = ((8 * n : Nat) : Int) := by rw [w64_id (by omega) (by omega)]; omega
  have m0 : 0 < 8 * n := by omega
  have s0 := sp_lt row (8 * n) 0 m0
  have s1 := sp_lt row (8 * n) 1 m0
  have s2 := sp_lt row (8 * n) 2 m0
  have tm : ∀ x : Nat, 0 ≤ Int.tmod (x : Int) 8 := fun x => by have : Int.tmod (x : Int) 8 = ((x % 8 : Nat) : Int) := rfl; omega
  unfold file_may mayP
  rw [bytesOf_len, h8, spots_eq _ _ hr m0 (by omega), ob_some]
  dsimp only
  generalize sp row (8 * n) 0 = a at *
  generalize sp row (8 * n) 1 = b at *
  generalize sp row (8 * n) 2 = c at *
  rw [div_w a (by omega), div_w b (by omega), div_w c (by omega), asrt_pos (by omega), asrt_pos (tm a), and_at p n a s0]
  cases p a with
  | false => rw [if_pos (show (!false) = true from rfl)]; rfl
  | true =>
    rw [if_neg (by decide), asrt_pos (by omega), asrt_pos (tm b), and_at p n b s1]
    cases p b with
    | false => rw [if_pos (show (!false) = true from rfl)]; rfl
    | true =>
      rw [if_neg (by decide), asrt_pos (by omega), asrt_pos (tm c), and_at p n c s2]
      cases p c with
      | false => rw [if_pos (show (!false) = true from rfl)]; rfl
      | true => rw [if_neg (by decide)]; rfl
theorem rmay_loop (p : Nat → Bool) (n : Nat) (a b c : Nat) (ha : a < 8 * n) (hb : b < 8 * n) (hc : c < 8 * n) (hn : n ≤ 100001) : R_MayBe_L1 (bytesOf p n) [(a : Int), (b : Int), (c : Int)] 0 = some (p a && p b && p c) := by
  have hlen : (([(a : Int), (b : Int), (c : Int)] : List Int).length : Int) = 3 := rfl
  have tm : ∀ x : Nat, 0 ≤ Int.tmod (x : Int) 8 := fun x => by have : Int.tmod (x : Int) 8 = ((x % 8 : Nat) : Int) := rfl; omega
  have st : ∀ (k x : Nat), k < 3 → lget [(a : Int), (b : Int), (c : Int)] (k : Int) = (x : Int) → x < 8 * n → R_MayBe_B1 (bytesOf p n) [(a : Int), (b : Int), (c : Int)] (k : Int) = if p x = true then some (.inl ((k + 1 : Nat) : Int)) else some (.inr false) := by
    intro k x hk hx hxn
    have hw : w64 ((k : Int) + 1) = ((k + 1 : Nat) : Int) := by rw [w64_id (by omega) (by omega)]; omega
    unfold R_MayBe_B1
    rw [hlen, if_pos (d_t (by omega)), asrt_pos (by omega), hx, div_w x (by omega), bytesOf_len, asrt_pos (by omega), asrt_pos (by omega), asrt_pos (by omega), asrt_pos (tm x), asrt_pos (by decide), mod_at p n x hxn, hw]
    cases p x with
    | false => rw [if_pos (show (!false) = true from rfl), if_neg (by decide)]
    | true => rw [if_neg (by decide), if_pos rfl]
  have s0 := st 0 a (by omega) rfl ha
  have s1 := st 1 b (by omega) rfl hb
  have s2 := st 2 c (by omega) rfl hc
  unfold R_MayBe_L1
  cases hpa : p a with
  | false => rw [hpa, if_neg (by decide)] at s0; exact loopO_inr s0
  | true =>
    rw [hpa, if_pos rfl] at s0
    refine (loopO_inl (step := fun y => R_MayBe_B1 (bytesOf p n) [(a : Int), (b : Int), (c : Int)] y) s0).trans ?_
    cases hpb : p b with
    | false => rw [hpb, if_neg (by decide)] at s1; exact loopO_inr s1
    | true =>
      rw [hpb, if_pos rfl] at s1
      refine (loopO_inl (step := fun y => R_MayBe_B1 (bytesOf p n) [(a : Int), (b : Int), (c : Int)] y) s1).trans ?_
      cases hpc : p c with
      | false => rw [hpc, if_neg (by decide)] at s2; exact loopO_inr s2
      | true =>
        rw [hpc, if_pos rfl] at s2
        refine (loopO_inl (step := fun y => R_MayBe_B1 (bytesOf p n) [(a : Int), (b : Int), (c : Int)] y) s2).trans ?_
        refine loopO_inr ?_
        unfold R_MayBe_B1
        rw [hlen, if_neg (d_f (by decide))]; rfl
theorem rmay_eq {l : List Cell} (hG : Good l) (row : List UInt8) (hr : row.length ≤ 140737488351232) : R_MayBe l row = some (mayF l row) := by
  have hl := hG.len
  have hN := filN_bd l
  have m0 : 0 < 8 * filN l := by omega
  have h8 : w64 (8 * ((filN l : Nat) : Int)) = ((8 * filN l : Nat) : Int) := by rw [w64_id (by omega) (by omega)]; omega
  unfold R_MayBe
  rw [(rfil_small (by rw [hG.f])).1, ob_some]
  unfold filF mayF mayP
  rw [bytesOf_len, h8, bits_eq _ _ hr m0 (by omega), ob_some]
  exact rmay_loop _ _ _ _ _ (sp_lt _ _ _ m0) (sp_lt _ _ _ m0) (sp_lt _ _ _ m0) (by omega)
end G
end Go.Proofs.Ytollmifjbcccgaa
