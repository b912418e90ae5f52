/- Sums, frames and what is opened are as the document says. -/
import Derived.Test.YtiakadlmebbafaaPWireC
namespace Go.Proofs.Ytiakadlmebbafaa
open Go Go.Dm
set_option linter.unusedVariables false
set_option linter.unusedSimpArgs false
namespace G
theorem crcB_r (n : Nat) (hn : n < 2 ^ 32) : [toU8 (IntKind.u32.wrap (Int.tdiv (n : Int) 16777216)), toU8 (Int.tmod (IntKind.u32.wrap (Int.tdiv (n : Int) 65536)) 256), toU8 (Int.tmod (IntKind.u32.wrap (Int.tdiv (n : Int) 256)) 256), toU8 (Int.tmod (n : Int) 256)] = crcB n := by
  have e1 : Int.tdiv (n : Int) 16777216 = ((n / 16777216 : Nat) : Int) := tdiv_nat n 16777216
  have e2 : Int.tdiv (n : Int) 65536 = ((n / 65536 : Nat) : Int) := tdiv_nat n 65536
  have e3 : Int.tdiv (n : Int) 256 = ((n / 256 : Nat) : Int) := tdiv_nat n 256
  have e4 : Int.tmod (n : Int) 256 = ((n % 256 : Nat) : Int) := tmod_nat n 256
  have e5 : Int.tmod ((n / 65536 : Nat) : Int) 256 = ((n / 65536 % 256 : Nat) : Int) := tmod_nat _ 256
  have e6 : Int.tmod ((n / 256 : Nat) : Int) 256 = ((n / 256 % 256 : Nat) : Int) := tmod_nat _ 256
  unfold crcB
  rw [e1, e2, e3, e4, u32_id (by omega) (by omega), u32_id (by omega) (by omega), u32_id (by omega) (by omega), e5, e6, toU8_nat, toU8_nat, toU8_nat, toU8_nat]
theorem framed_eq (body : List UInt8) (hb : body.length ≤ 1000000000) : R_Framed body = some (frame body) := by
  have eh : [toU8 (w64 (Int.tdiv (body.length : Int) 256)), toU8 (Int.tmod (body.length : Int) 256)] = [UInt8.ofNat (body.length / 256), UInt8.ofNat (body.length % 256)] := by
    have e3 : Int.tdiv (body.length : Int) 256 = ((body.length / 256 : Nat) : Int) := tdiv_nat _ 256
    have e4 : Int.tmod (body.length : Int) 256 = ((body.length % 256 : Nat) : Int) := tmod_nat _ 256
    rw [e3, e4, w64_id (by omega) (by omega), toU8_nat, toU8_nat]
  unfold R_Framed
  rw [eh, asrt_pos (by simp; omega)]
  dsimp only [lt]
  rw [rest_eq _ (by simp; omega), ob_some, crcB_r _ (crc_lt _), asrt_pos (by simp [crcB]; omega)]
  simp [frame]
theorem framed_eq1 (body : List UInt8) (hb : body.length ≤ 1000000000) : R_Framed_v1 body = some (frame body) := framed_eq body hb
theorem unframed_loop (b : List UInt8) (hb : b.length ≤ 100000) : ∀ (k g : Nat) (acc : List (List UInt8)), b.length - g ≤ k → g ≤ b.length → acc.length ≤ g →
    R_Unframed_v1_L1 b (acc, (g : Int)) = some (((opn k (b.drop g) acc g).1), (((opn k (b.drop g) acc g).2 : Nat) : Int))
  | k, g, acc, hk, hg, ha => by
    have hw1 : w64 ((g : Int) + 1) = ((g + 1 : Nat) : Int) := by rw [w64_id (by omega) (by omega)]; omega
    have hw2 : w64 ((g : Int) + 2) = ((g + 2 : Nat) : Int) := by rw [w64_id (by omega) (by omega)]; omega
    have hw6 : w64 ((g : Int) + 6) = ((g + 6 : Nat) : Int) := by rw [w64_id (by omega) (by omega)]; omega
    by_cases c6 : g + 6 ≤ b.length
    · have hfl := flen_lt (b.drop g)
      have h0 : lget (b.drop g) 0 = lget b (g : Int) := by
        have := lget_ldrop b (g : Int) 0 (by omega)
        rwa [ldrop_nat, Int.add_zero] at this
      have h1 : lget (b.drop g) 1 = lget b ((g + 1 : Nat) : Int) := by
        have := lget_ldrop b (g : Int) 1 (by omega)
        rwa [ldrop_nat] at this
      have b0 := (lget b (g : Int)).toNat_lt
      have b1 := (lget b ((g + 1 : Nat) : Int)).toNat_lt
      have en : w64 ((w64 ((w64 ((lget b (g : Int)).toNat : Int)) * 256)) + (w64 ((lget b ((g + 1 : Nat) : Int)).toNat : Int))) = ((flen (b.drop g) : Nat) : Int) := by
        rw [w64_id (x := ((lget b (g : Int)).toNat : Int)) (by omega) (by omega), w64_id (x := ((lget b (g : Int)).toNat : Int) * 256) (by omega) (by omega), w64_id (x := ((lget b ((g + 1 : Nat) : Int)).toNat : Int)) (by omega) (by omega), w64_id (by omega) (by omega)]
        unfold flen
        rw [h0, h1]; omega
      generalize hn : flen (b.drop g) = n at *
      have hw3 : w64 (((g + 2 : Nat) : Int) + (n : Int)) = ((g + 2 + n : Nat) : Int) := by rw [w64_id (by omega) (by omega)]; omega
      have hw4 : w64 (((g + 6 : Nat) : Int) + (n : Int)) = ((g + (n + 6) : Nat) : Int) := by rw [w64_id (by omega) (by omega)]; omega
      by_cases c2 : b.length < g + (n + 6)
      · have hr : rdF (b.drop g) = none := by
          unfold rdF
          rw [if_neg]
          rw [hn, List.length_drop]
          intro h; omega
        rw [opn_none hr]
        refine loopO_inr ?_
        simp only [R_Unframed_v1_B1, hw1, hw2, hw6]
        rw [if_pos (d_t (by omega)), asrt_pos (by omega), asrt_pos (by omega), en]
        simp only [lt, hw3, hw4]
        rw [if_pos (d_t (by omega))]; rfl
      · have t2 : (b.take (g + (n + 6))).drop g = (b.drop g).take (n + 6) := drop_take' b g (n + 6)
        have t3 : (b.take (g + 2 + n)).drop (g + 2) = ((b.drop g).drop 2).take n := by rw [drop_take', List.drop_drop]
        have hl3 : (((b.drop g).drop 2).take n).length = n := by simp; omega
        have e9 : (b.drop g).drop (n + 6) = b.drop (g + (n + 6)) := by rw [List.drop_drop]
        by_cases c3 : frame (((b.drop g).drop 2).take n) = (b.drop g).take (n + 6)
        · have hr : rdF (b.drop g) = some (((b.drop g).drop 2).take n, b.drop (g + (n + 6))) := by
            unfold rdF
            rw [hn, if_pos ⟨by simp; omega, by simp; omega, c3⟩, e9]
          match k, hk with
          | 0, hk => omega
          | k + 1, hk =>
          rw [opn_some hr, hl3]
          have ih := unframed_loop b hb k (g + (n + 6)) (acc ++ [((b.drop g).drop 2).take n]) (by omega) (by omega) (by simp; omega)
          refine (loopO_inl (y := (acc ++ [((b.drop g).drop 2).take n], ((g + (n + 6) : Nat) : Int))) ?_).trans ih
          simp only [R_Unframed_v1_B1, hw1, hw2, hw6]
          rw [if_pos (d_t (by omega)), asrt_pos (by omega), asrt_pos (by omega), en]
          simp only [lt, hw3, hw4]
          rw [if_neg (d_f (by omega)), asrt_pos (by omega), ltake_nat, ldrop_nat, t3, framed_eq _ (by omega), ob_some, asrt_pos (by omega), ltake_nat, ldrop_nat, t2]
          have hsm : R_Same (frame (((b.drop g).drop 2).take n)) ((b.drop g).take (n + 6)) = true := by unfold R_Same; exact decide_eq_true c3
          rw [hsm, if_neg (by simp), asrt_pos (by omega), asrt_pos (by simp; omega)]
        · have hr : rdF (b.drop g) = none := by
            unfold rdF
            rw [hn, if_neg]
            intro h; exact c3 h.2.2
          rw [opn_none hr]
          refine loopO_inr ?_
          simp only [R_Unframed_v1_B1, hw1, hw2, hw6]
          rw [if_pos (d_t (by omega)), asrt_pos (by omega), asrt_pos (by omega), en]
          simp only [lt, hw3, hw4]
          rw [if_neg (d_f (by omega)), asrt_pos (by omega), ltake_nat, ldrop_nat, t3, framed_eq _ (by omega), ob_some, asrt_pos (by omega), ltake_nat, ldrop_nat, t2]
          have hsm : R_Same (frame (((b.drop g).drop 2).take n)) ((b.drop g).take (n + 6)) = false := by
            unfold R_Same; exact decide_eq_false c3
          rw [hsm, if_pos (by simp)]
          rfl
    · have hr : rdF (b.drop g) = none := by
        unfold rdF
        rw [if_neg]
        rw [List.length_drop]
        intro h; omega
      rw [opn_none hr]
      refine loopO_inr ?_
      simp only [R_Unframed_v1_B1, hw6]
      rw [if_neg (d_f (by omega))]; rfl
theorem unframed_eq (b : List UInt8) (hb : b.length ≤ 100000) : R_Unframed_v1 b = some ((opn b.length b [] 0).1, (((opn b.length b [] 0).2 : Nat) : Int)) := by
  have := unframed_loop b hb b.length 0 [] (by omega) (by omega) (by simp)
  unfold R_Unframed_v1
  simpa using this
theorem mem_encF {l : List (List UInt8)} {s : List UInt8} (h : s ∈ l) : s.length + 6 ≤ (encF l).length := by
  induction l with
  | nil => cases h
  | cons x l ih =>
    rw [encF_cons, List.length_append, frame_len]
    rcases List.mem_cons.1 h with rfl | h
    · omega
    · have := ih h; omega
theorem sumF_loop (l : List (List UInt8)) (b : List UInt8) (hl : l.length ≤ 3000) (hs : ∀ s ∈ l, s.length ≤ 140737488351232) : ∀ (m k a : Nat), l.length - k = m → k ≤ l.length → a ≤ k * 140737488351238 →
    law_WireFrames_L1 l b ((a : Int), (k : Int)) = law_WireFrames_J1 l b ((a + (encF (l.drop k)).length : Nat) : Int)
  | 0, k, a, e, hk, ha => by
    have : k = l.length := by omega
    subst this
    have e0 : (encF (l.drop l.length)).length = 0 := by simp [encF, wrAll]
    rw [e0, Nat.add_zero]
    unfold law_WireFrames_L1
    rw [loopO_eq]
    simp only [law_WireFrames_B1]
    rw [if_neg (d_f (by omega))]
    cases law_WireFrames_J1 l b (a : Int) <;> rfl
  | m + 1, k, a, e, hk, ha => by
    have hlt : k < l.length := by omega
    have hw : w64 ((k : Int) + 1) = ((k + 1 : Nat) : Int) := by rw [w64_id (by omega) (by omega)]; omega
    have hx := hs _ (lget_mem l (k : Int) (by omega))
    have hw2 : w64 ((w64 ((a : Int) + ((lget l (k : Int)).length : Int))) + 6) = ((a + ((lget l (k : Int)).length + 6) : Nat) : Int) := by
      rw [w64_id (x := (a : Int) + ((lget l (k : Int)).length : Int)) (by omega) (by omega), w64_id (by omega) (by omega)]; omega
    have ih := sumF_loop l b hl hs m (k + 1) (a + ((lget l (k : Int)).length + 6)) (by omega) (by omega) (by omega)
    rw [lget_drop l k hlt, encF_cons, List.length_append, frame_len, ← Nat.add_assoc]
    refine (loopO_inl (y := (((a + ((lget l (k : Int)).length + 6) : Nat) : Int), ((k + 1 : Nat) : Int))) ?_).trans ih
    simp only [law_WireFrames_B1]
    rw [if_pos (d_t (by omega)), asrt_pos (by omega), hw2, hw]
theorem ownBodies_loop (l : List (List UInt8)) (hl : l.length ≤ 3000) (hs : ∀ s ∈ l, s.length ≤ 1000000) : ∀ (m k : Nat), l.length - k = m → k ≤ l.length → law_ownBodies_v1_L1 l (l.take k, (k : Int)) = some l
  | 0, k, e, hk => by
    have : k = l.length := by omega
    subst this
    refine loopO_inr ?_
    simp only [law_ownBodies_v1_B1]
    rw [if_neg (d_f (by omega)), List.take_length]; rfl
  | m + 1, k, e, hk => by
    have hlt : k < l.length := by omega
    have hw : w64 ((k : Int) + 1) = ((k + 1 : Nat) : Int) := by rw [w64_id (by omega) (by omega)]; omega
    have hx := hs _ (lget_mem l (k : Int) (by omega))
    have ih := ownBodies_loop l hl hs m (k + 1) (by omega) (by omega)
    refine (loopO_inl (y := (l.take (k + 1), ((k + 1 : Nat) : Int))) ?_).trans ih
    simp only [law_ownBodies_v1_B1, law_ownBytes_v1]
    rw [if_pos (d_t (by omega)), asrt_pos (by omega), asrt_pos (by omega), ob_some, asrt_pos (by simp; omega), hw, lget_take l k hlt]
theorem encF_loop (l : List (List UInt8)) (hl : l.length ≤ 1000) (hs : ∀ s ∈ l, s.length ≤ 1000000) : ∀ (m k : Nat) (acc : List UInt8), l.length - k = m → k ≤ l.length → acc.length ≤ k * 1000006 →
    law_WireFrames_1_v1_L1 l (acc, (k : Int)) = some (acc ++ encF (l.drop k))
  | 0, k, acc, e, hk, ha => by
    have : k = l.length := by omega
    subst this
    refine loopO_inr ?_
    simp only [law_WireFrames_1_v1_B1]
    rw [if_neg (d_f (by omega))]
    simp [inrO, law_WireFrames_1_v1_J1, encF, wrAll]
  | m + 1, k, acc, e, hk, ha => by
    have hlt : k < l.length := by omega
    have hw : w64 ((k : Int) + 1) = ((k + 1 : Nat) : Int) := by rw [w64_id (by omega) (by omega)]; omega
    have hx := hs _ (lget_mem l (k : Int) (by omega))
    have hfl := frame_len (lget l (k : Int))
    have ih := encF_loop l hl hs m (k + 1) (acc ++ frame (lget l (k : Int))) (by omega) (by omega) (by rw [List.length_append]; omega)
    rw [lget_drop l k hlt, encF_cons, ← List.append_assoc]
    refine (loopO_inl (y := (acc ++ frame (lget l (k : Int)), ((k + 1 : Nat) : Int))) ?_).trans ih
    simp only [law_WireFrames_1_v1_B1]
    rw [if_pos (d_t (by omega)), asrt_pos (by omega), framed_eq1 _ (by omega), ob_some, asrt_pos (by rw [List.length_append]; omega), hw]
def wantFr (l : List (List UInt8)) : Fault := if 1000 < l.length then ⟨2, 0⟩ else if 60000 < (encF l).length then ⟨9, 0⟩ else ⟨0, 0⟩
theorem bytesF_eq (l : List (List UInt8)) (hs : ∀ s ∈ l, s.length ≤ 1000000) : law_bytesAs_v2 (framesS l).1 (framesS l).2 (wantFr l) l = some true := by
  unfold law_bytesAs_v2 framesS wantFr
  by_cases c : 1000 < l.length
  · simp [c]
  · by_cases c2 : 60000 < (encF l).length
    · simp [c, c2]
    · have he := encF_loop l (by omega) hs l.length 0 [] (by omega) (by omega) (by simp)
      have he : law_WireFrames_1_v1 l = some (encF l) := he.trans (by simp)
      simp [c, c2, he, ob_some, lt, R_Same]
theorem frames_tail (l : List (List UInt8)) (hs : ∀ s ∈ l, s.length ≤ 1000000) : (ob (if decide (1000 < (l.length : Int)) = true then lt (R_F 2 0) fun x12 => some ((framesS l).2, x12) else if decide (60000 < (((encF l).length : Nat) : Int)) = true then lt (R_F 9 0) fun x13 => some ((framesS l).2, x13) else some ((framesS l).2, (⟨0, 0⟩ : Fault))) fun (v3 : Fault × Fault) =>
      ob (law_bytesAs_v2 (framesS l).1 v3.1 v3.2 l) fun x14 => some x14) = some true := by
  have hw : (if decide (1000 < (l.length : Int)) = true then lt (R_F 2 0) fun x12 => some ((framesS l).2, x12) else if decide (60000 < (((encF l).length : Nat) : Int)) = true then lt (R_F 9 0) fun x13 => some ((framesS l).2, x13) else some ((framesS l).2, (⟨0, 0⟩ : Fault))) = some ((framesS l).2, wantFr l) := by
    unfold wantFr
    by_cases c : 1000 < l.length
    · rw [if_pos (d_t (by omega)), if_pos c]; rfl
    · rw [if_neg (d_f (by omega)), if_neg c]
      by_cases c2 : 60000 < (encF l).length
      · rw [if_pos (d_t (by omega)), if_pos c2]; rfl
      · rw [if_neg (d_f (by omega)), if_neg c2]
  rw [hw, ob_some, bytesF_eq l hs, ob_some]
theorem frames_J1 (l : List (List UInt8)) (b : List UInt8) (hl : l.length ≤ 3000) (hb : b.length ≤ 100000) : law_WireFrames_J1 l b (((encF l).length : Nat) : Int) = some true := by
  unfold law_WireFrames_J1
  by_cases c : 200000 < (encF l).length
  · rw [if_pos (d_t (by omega))]
  · have hs : ∀ s ∈ l, s.length ≤ 1000000 := fun s h => by have := mem_encF h; omega
    have ho : law_ownBytes_v1 b = some b := by unfold law_ownBytes_v1; rw [asrt_pos (by omega)]
    have hob : law_ownBodies_v1 l = some l := by
      have := ownBodies_loop l hl hs l.length 0 (by omega) (by omega)
      unfold law_ownBodies_v1
      simpa using this
    have hfr := frames_eq1 l (fun s h => by have := hs s h; omega)
    have ht := frames_tail l hs
    rw [if_neg (d_f (by omega)), ho, ob_some]
    by_cases c2 : 60000 < b.length
    · have hsum : wire_Sum b = some (0, ⟨8, 0⟩) := by unfold wire_Sum; rw [if_pos (d_t (by omega))]; rfl
      have hop : openS b = ([], 0, ⟨8, 0⟩) := by simp [openS, c2]
      rw [hsum, ob_some, hob, ob_some, hfr, ob_some, ob_some, open_eq1, ob_some, hop, if_pos (d_t (by omega))]
      have h8 : R_SameBodies [] [] = some true := by rw [sameBodies_eq _ _ (by simp)]; rfl
      simp [lt, R_F, ob_some, h8]
      simpa [lt, R_F, ob_some] using ht
    · have hsum : wire_Sum b = some (((crc b : Nat) : Int), ⟨0, 0⟩) := by unfold wire_Sum; rw [if_neg (d_f (by omega)), crc_eq b (by omega), ob_some]
      rw [hsum, ob_some, hob, ob_some, hfr, ob_some, ob_some, open_eq1, ob_some, if_neg (d_f (by omega)), ob_some]
      have hre := rest_eq b (by omega)
      have hun := unframed_eq b hb
      generalize ho : opn b.length b [] 0 = o at *
      have hol : o.1.length ≤ 1000000 := by
        have key : ∀ (k : Nat) (b : List UInt8) (acc : List (List UInt8)) (g : Nat), (opn k b acc g).1.length ≤ acc.length + k := by
          intro k
          induction k with
          | zero => intro b acc g; simp [opn]
          | succ k ih =>
            intro b acc g
            rw [opn]
            split
            · rename_i x r e
              have := ih r (acc ++ [x]) (g + (x.length + 6))
              simp at this; omega
            · simp
        have := key b.length b [] 0
        rw [ho] at this
        simp at this; omega
      have hsame : R_SameBodies o.1 o.1 = some true := by rw [sameBodies_eq _ _ hol]; simp
      by_cases c3 : 1000 < o.1.length
      · have hop : openS b = ([], 0, ⟨2, 0⟩) := by simp [openS, c2, ho, c3]
        have h8 : R_SameBodies [] [] = some true := by rw [sameBodies_eq _ _ (by simp)]; rfl
        have c3' : (1000 : Int) < (o.1.length : Int) := by omega
        rw [hop]
        simp [lt, R_F, ob_some, hre, hun, c3', h8]
        simpa [lt, R_F, ob_some] using ht
      · have hop : openS b = (o.1, ((o.2 : Nat) : Int), ⟨0, 0⟩) := by simp [openS, c2, ho, c3]
        have c3' : ¬ (1000 : Int) < (o.1.length : Int) := by omega
        rw [hop]
        simp [lt, R_F, ob_some, hre, hun, c3', hsame]
        simpa [lt, R_F, ob_some] using ht
theorem WireFrames_eq (l : List (List UInt8)) (b : List UInt8) (hs : ∀ s ∈ l, s.length ≤ 140737488351232) : law_WireFrames l b = some true := by
  unfold law_WireFrames
  simp only [wbegun, ob_some, Bool.not_true, Bool.false_eq_true, if_false]
  by_cases v : 3000 < (l.length : Int) ∨ 100000 < (b.length : Int)
  · rw [if_pos (or_t v)]
  · rw [if_neg (or_f v)]
    have h0 := sumF_loop l b (by omega) hs l.length 0 0 (by omega) (by omega) (by omega)
    have h1 : law_WireFrames_L1 l b (0, 0) = law_WireFrames_J1 l b (((encF l).length : Nat) : Int) := by simpa using h0
    rw [h1, frames_J1 l b (by omega) (by omega)]
end G
end Go.Proofs.Ytiakadlmebbafaa
