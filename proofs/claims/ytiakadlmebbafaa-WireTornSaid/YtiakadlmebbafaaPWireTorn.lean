/- Frames that are torn. -/
import Derived.Test.YtiakadlmebbafaaPWireC
namespace Go.Proofs.Ytiakadlmebbafaa
open Go Go.Dm
set_option linter.unusedVariables false
set_option linter.unusedSimpArgs false
namespace G
/-- how many are whole -/
def wh : List (List UInt8) → Nat → Nat
  | [], _ => 0
  | x :: l, c => if x.length + 6 ≤ c then wh l (c - (x.length + 6)) + 1 else 0
theorem wh_le : ∀ (l : List (List UInt8)) (c : Nat), wh l c ≤ l.length
  | [], c => by simp [wh]
  | x :: l, c => by
    rw [wh]
    split
    · have := wh_le l (c - (x.length + 6)); simp; omega
    · simp
theorem wh_lt : ∀ (l : List (List UInt8)) (c : Nat), c < (encF l).length → wh l c < l.length
  | [], c, h => by simp [encF, wrAll] at h
  | x :: l, c, h => by
    rw [encF_cons, List.length_append, frame_len] at h
    rw [wh]
    split
    · have := wh_lt l (c - (x.length + 6)) (by omega); simp; omega
    · simp
theorem rdF_short {x : List UInt8} (hx : x.length ≤ 65535) (r : List UInt8) (c : Nat) (hc : c < x.length + 6) : rdF ((frame x ++ r).take c) = none := by
  unfold rdF
  rw [if_neg]
  intro ⟨h1, h2, _⟩
  have hl : ((frame x ++ r).take c).length ≤ c := by simp; omega
  have e0 : lget ((frame x ++ r).take c) 0 = lget (frame x ++ r) 0 := by
    have := lget_ltake (frame x ++ r) (c : Int) 0 (by omega)
    rwa [ltake_nat] at this
  have e1 : lget ((frame x ++ r).take c) 1 = lget (frame x ++ r) 1 := by
    have := lget_ltake (frame x ++ r) (c : Int) 1 (by omega)
    rwa [ltake_nat] at this
  have : flen ((frame x ++ r).take c) = x.length := by
    rw [← flen_frame hx r]; unfold flen; rw [e0, e1]
  omega
theorem opn_cut : ∀ (l : List (List UInt8)) (c k : Nat) (acc : List (List UInt8)) (g : Nat), (∀ s ∈ l, s.length ≤ 65535) → ((encF l).take c).length ≤ k →
    opn k ((encF l).take c) acc g = (acc ++ l.take (wh l c), g + (encF (l.take (wh l c))).length)
  | [], c, k, acc, g, hs, hk => by
    have : rdF ((encF []).take c) = none := by simp [encF, wrAll, rdF]
    rw [opn_none this]; simp [wh, encF, wrAll]
  | x :: l, c, k, acc, g, hs, hk => by
    have hx := hs x (by simp)
    have hfl := frame_len x
    rw [encF_cons] at hk ⊢
    rw [wh]
    by_cases h : x.length + 6 ≤ c
    · have e : (frame x ++ encF l).take c = frame x ++ (encF l).take (c - (x.length + 6)) := by
        rw [List.take_append, List.take_of_length_le (by omega), hfl]
      rw [e] at hk ⊢
      rw [List.length_append, hfl] at hk
      rw [if_pos h]
      match k, hk with
      | 0, hk => omega
      | k + 1, hk =>
      rw [opn_some (rdF_frame hx _), opn_cut l (c - (x.length + 6)) k _ _ (fun s h => hs s (by simp [h])) (by omega), List.take_succ_cons, encF_cons, List.length_append, hfl]
      simp; omega
    · rw [if_neg h, opn_none (rdF_short hx _ c (by omega))]; simp [encF, wrAll]
theorem rdF_set {x : List UInt8} (hx : x.length ≤ 65535) (r : List UInt8) (j : Nat) (t : UInt8) (h2 : 2 ≤ j) (hj : j < (frame x).length) (ht : (frame x)[j] ≠ t) : rdF ((frame x).set j t ++ r) = none := by
  cases hr : rdF ((frame x).set j t ++ r) with
  | none => rfl
  | some p =>
    exfalso
    obtain ⟨y, q⟩ := p
    obtain ⟨hb, hy⟩ := rdF_some hr
    have hfx := frame_len x
    have hfy := frame_len y
    have e0 : lget ((frame x).set j t ++ r) 0 = lget (frame x ++ r) 0 := by
      rw [lget_app_l _ _ _ (by simp; omega), lget_app_l _ _ _ (by omega)]
      have := lget_lset (frame x) (j : Int) 0 t (by omega) (by omega)
      simp only [lset, Int.toNat_natCast] at this
      rw [this, if_neg (by omega)]
    have e1 : lget ((frame x).set j t ++ r) 1 = lget (frame x ++ r) 1 := by
      rw [lget_app_l _ _ _ (by simp; omega), lget_app_l _ _ _ (by omega)]
      have := lget_lset (frame x) (j : Int) 1 t (by omega) (by omega)
      simp only [lset, Int.toNat_natCast] at this
      rw [this, if_neg (by omega)]
    have hfl : flen ((frame x).set j t ++ r) = x.length := by
      rw [← flen_frame hx r]; unfold flen; rw [e0, e1]
    have hyl : y.length = x.length := by rw [← hfl, hb, flen_frame hy]
    have hfr : (frame x).set j t = frame y := List.append_inj_left hb (by simp; omega)
    have ex : frame x = (UInt8.ofNat (x.length / 256) :: UInt8.ofNat (x.length % 256) :: x) ++ crcB (crc (UInt8.ofNat (x.length / 256) :: UInt8.ofNat (x.length % 256) :: x)) := rfl
    have ey : frame y = (UInt8.ofNat (x.length / 256) :: UInt8.ofNat (x.length % 256) :: y) ++ crcB (crc (UInt8.ofNat (x.length / 256) :: UInt8.ofNat (x.length % 256) :: y)) := by unfold frame; rw [hyl]
    have hlx : (UInt8.ofNat (x.length / 256) :: UInt8.ofNat (x.length % 256) :: x).length = x.length + 2 := by simp
    have hly : (UInt8.ofNat (x.length / 256) :: UInt8.ofNat (x.length % 256) :: y).length = x.length + 2 := by simp [hyl]
    generalize UInt8.ofNat (x.length / 256) :: UInt8.ofNat (x.length % 256) :: x = hd at ex hlx
    generalize UInt8.ofNat (x.length / 256) :: UInt8.ofNat (x.length % 256) :: y = hd' at ey hly
    rw [ey] at hfr
    by_cases c : j < x.length + 2
    · have hs : (frame x).set j t = hd.set j t ++ crcB (crc hd) := by rw [ex, List.set_append_left _ _ (by omega)]
      rw [hs] at hfr
      have h1 := List.append_inj_left hfr (by simp; omega)
      have h3 := List.append_inj_right hfr (by simp; omega)
      have h4 := crcB_inj (crc_lt _) (crc_lt _) h3
      rw [← h1] at h4
      refine crc_set (by omega) ?_ h4.symm
      have : (frame x)[j] = hd[j]'(by omega) := by simp only [ex]; rw [List.getElem_append_left]
      rw [← this]; exact ht
    · have hs : (frame x).set j t = hd ++ (crcB (crc hd)).set (j - hd.length) t := by rw [ex, List.set_append_right _ _ (by omega)]
      rw [hs] at hfr
      have h1 := List.append_inj_left hfr (by omega)
      have h3 := List.append_inj_right hfr (by omega)
      subst h1
      have hcl : (crcB (crc hd)).length = 4 := rfl
      have h5 : (frame x)[j] = (crcB (crc hd))[j - hd.length]'(by omega) := by simp only [ex]; rw [List.getElem_append_right (by omega)]
      have h6 : ((crcB (crc hd)).set (j - hd.length) t)[j - hd.length]'(by rw [List.length_set]; omega) = t := List.getElem_set_self _
      have h7 : ((crcB (crc hd)).set (j - hd.length) t)[j - hd.length]'(by rw [List.length_set]; omega) = (crcB (crc hd))[j - hd.length]'(by omega) := by simp only [h3]
      exact ht (by rw [h5, ← h7, h6])
theorem opn_set : ∀ (l : List (List UInt8)) (p k : Nat) (t : UInt8) (acc : List (List UInt8)) (g : Nat), (∀ s ∈ l, s.length ≤ 65535) → (encF l).length ≤ k → (hp : p < (encF l).length) → (encF l)[p] ≠ t → (encF (l.take (wh l p))).length + 2 ≤ p →
    opn k ((encF l).set p t) acc g = (acc ++ l.take (wh l p), g + (encF (l.take (wh l p))).length)
  | [], p, k, t, acc, g, hs, hk, hp, ht, h2 => by simp [encF, wrAll] at hp
  | x :: l, p, k, t, acc, g, hs, hk, hp, ht, h2 => by
    have hx := hs x (by simp)
    have hfl := frame_len x
    simp only [encF_cons] at hk hp ht ⊢
    rw [wh] at h2 ⊢
    by_cases h : x.length + 6 ≤ p
    · rw [if_pos h] at h2 ⊢
      rw [List.take_succ_cons, encF_cons, List.length_append, hfl] at h2
      rw [List.length_append, hfl] at hk hp
      rw [List.set_append_right _ _ (by omega), hfl]
      match k, hk with
      | 0, hk => omega
      | k + 1, hk =>
      have ht' : (encF l)[p - (x.length + 6)]'(by omega) ≠ t := by
        rw [List.getElem_append_right (by omega)] at ht
        simpa only [hfl] using ht
      rw [opn_some (rdF_frame hx _), opn_set l (p - (x.length + 6)) k t _ _ (fun s h => hs s (by simp [h])) (by omega) (by omega) ht' (by omega), List.take_succ_cons, encF_cons, List.length_append, hfl]
      simp; omega
    · rw [if_neg h] at h2 ⊢
      have hp' : p < (frame x).length := by omega
      rw [List.set_append_left _ _ hp', opn_none (rdF_set hx _ p t (by simp [encF, wrAll] at h2; omega) hp' (by rw [List.getElem_append_left hp'] at ht; exact ht))]
      simp [encF, wrAll]
theorem encF_take (l : List (List UInt8)) (k : Nat) (h : k < l.length) : (encF (l.take (k + 1))).length = (encF (l.take k)).length + ((lget l (k : Int)).length + 6) := by
  rw [lget_take l k h]
  simp [encF, wrAll, frame_len]
theorem whole_loop (l : List (List UInt8)) (c : Nat) (p : Int) (t : UInt8) (x1 : List UInt8 × Fault) (f : Fault) (hl : l.length ≤ 200) (hs : ∀ s ∈ l, s.length ≤ 65535) (hc : c ≤ 100000) : ∀ (m k : Nat), l.length - k = m → k ≤ l.length → (encF (l.take k)).length ≤ c →
    law_WireTorn_L2 l (c : Int) p t x1 (f, (k : Int), (((encF (l.take k)).length : Nat) : Int)) = law_WireTorn_J1 l (c : Int) p t x1 (f, ((k + wh (l.drop k) (c - (encF (l.take k)).length) : Nat) : Int), (((encF (l.take (k + wh (l.drop k) (c - (encF (l.take k)).length)))).length : Nat) : Int))
  | m, k, e, hk, hg => by
    have stop : ∀ hh : law_WireTorn_B2 l (c : Int) p t x1 (f, (k : Int), (((encF (l.take k)).length : Nat) : Int)) = inrO (law_WireTorn_J1 l (c : Int) p t x1 (f, (k : Int), (((encF (l.take k)).length : Nat) : Int))), law_WireTorn_L2 l (c : Int) p t x1 (f, (k : Int), (((encF (l.take k)).length : Nat) : Int)) = law_WireTorn_J1 l (c : Int) p t x1 (f, (k : Int), (((encF (l.take k)).length : Nat) : Int)) := by
      intro hh
      unfold law_WireTorn_L2
      rw [loopO_eq, hh]
      cases law_WireTorn_J1 l (c : Int) p t x1 (f, (k : Int), (((encF (l.take k)).length : Nat) : Int)) <;> rfl
    match m, e with
    | 0, e =>
      have : k = l.length := by omega
      have e0 : wh (l.drop k) (c - (encF (l.take k)).length) = 0 := by rw [this, List.drop_length]; rfl
      rw [e0, Nat.add_zero]
      refine stop ?_
      simp only [law_WireTorn_B2]
      rw [asrt_pos (fun h => by simp at h; omega), if_neg (by simp; omega)]
    | m + 1, e =>
      have hlt : k < l.length := by omega
      have hw : w64 ((k : Int) + 1) = ((k + 1 : Nat) : Int) := by rw [w64_id (by omega) (by omega)]; omega
      have hx := hs _ (lget_mem l (k : Int) (by omega))
      have het := encF_take l k hlt
      have hw2 : w64 ((w64 ((((encF (l.take k)).length : Nat) : Int) + ((lget l (k : Int)).length : Int))) + 6) = (((encF (l.take (k + 1))).length : Nat) : Int) := by
        rw [w64_id (x := (((encF (l.take k)).length : Nat) : Int) + ((lget l (k : Int)).length : Int)) (by omega) (by omega), w64_id (by omega) (by omega)]; omega
      rw [lget_drop l k hlt, wh]
      by_cases cc : (lget l (k : Int)).length + 6 ≤ c - (encF (l.take k)).length
      · rw [if_pos cc]
        have ih := whole_loop l c p t x1 f hl hs hc m (k + 1) (by omega) (by omega) (by omega)
        have e1 : c - (encF (l.take (k + 1))).length = c - (encF (l.take k)).length - ((lget l (k : Int)).length + 6) := by omega
        rw [e1] at ih
        have e2 : k + 1 + wh (l.drop (k + 1)) (c - (encF (l.take k)).length - ((lget l (k : Int)).length + 6)) = k + (wh (l.drop (k + 1)) (c - (encF (l.take k)).length - ((lget l (k : Int)).length + 6)) + 1) := by omega
        rw [e2] at ih
        refine (loopO_inl (y := (f, ((k + 1 : Nat) : Int), (((encF (l.take (k + 1))).length : Nat) : Int))) ?_).trans ih
        simp only [law_WireTorn_B2]
        rw [hw2, asrt_pos (fun h => by omega), if_pos (an_t (by omega)), asrt_pos (by omega), hw]
      · rw [if_neg cc, Nat.add_zero]
        refine stop ?_
        simp only [law_WireTorn_B2]
        rw [hw2, asrt_pos (fun h => by omega), if_neg (an_f (by omega))]
theorem hit_loop (l : List (List UInt8)) (p : Nat) (t : UInt8) (x1 : List UInt8 × Fault) (f : Fault) (hl : l.length ≤ 200) (hs : ∀ s ∈ l, s.length ≤ 65535) (hc : p ≤ 100000) (hp : p < (encF l).length) : ∀ (m k : Nat), l.length - k = m → k < l.length → (encF (l.take k)).length ≤ p →
    law_WireTorn_L1 l (p : Int) t x1 (f, (k : Int), (((encF (l.take k)).length : Nat) : Int)) = law_WireTorn_J2 l (p : Int) t x1 (f, ((k + wh (l.drop k) (p - (encF (l.take k)).length) : Nat) : Int), (((encF (l.take (k + wh (l.drop k) (p - (encF (l.take k)).length)))).length : Nat) : Int))
  | m, k, e, hlt, hg => by
    have hw : w64 ((k : Int) + 1) = ((k + 1 : Nat) : Int) := by rw [w64_id (by omega) (by omega)]; omega
    have hx := hs _ (lget_mem l (k : Int) (by omega))
    have het := encF_take l k hlt
    have hw2 : w64 ((w64 ((((encF (l.take k)).length : Nat) : Int) + ((lget l (k : Int)).length : Int))) + 6) = (((encF (l.take (k + 1))).length : Nat) : Int) := by
      rw [w64_id (x := (((encF (l.take k)).length : Nat) : Int) + ((lget l (k : Int)).length : Int)) (by omega) (by omega), w64_id (by omega) (by omega)]; omega
    rw [lget_drop l k hlt, wh]
    by_cases cc : (lget l (k : Int)).length + 6 ≤ p - (encF (l.take k)).length
    · rw [if_pos cc]
      have hk1 : k + 1 < l.length := by
        by_cases h : k + 1 < l.length
        · exact h
        · have : l.take (k + 1) = l := List.take_of_length_le (by omega)
          rw [this] at het; omega
      match m, e with
      | 0, e => omega
      | m + 1, e =>
      have ih := hit_loop l p t x1 f hl hs hc hp m (k + 1) (by omega) hk1 (by omega)
      have e1 : p - (encF (l.take (k + 1))).length = p - (encF (l.take k)).length - ((lget l (k : Int)).length + 6) := by omega
      rw [e1] at ih
      have e2 : k + 1 + wh (l.drop (k + 1)) (p - (encF (l.take k)).length - ((lget l (k : Int)).length + 6)) = k + (wh (l.drop (k + 1)) (p - (encF (l.take k)).length - ((lget l (k : Int)).length + 6)) + 1) := by omega
      rw [e2] at ih
      refine (loopO_inl (y := (f, ((k + 1 : Nat) : Int), (((encF (l.take (k + 1))).length : Nat) : Int))) ?_).trans ih
      simp only [law_WireTorn_B1]
      rw [asrt_pos (by omega), hw2, if_pos (d_t (by omega)), asrt_pos (by omega), hw]
    · rw [if_neg cc, Nat.add_zero]
      unfold law_WireTorn_L1
      rw [loopO_eq]
      simp only [law_WireTorn_B1]
      rw [asrt_pos (by omega), hw2, if_neg (d_f (by omega))]
      cases law_WireTorn_J2 l (p : Int) t x1 (f, (k : Int), (((encF (l.take k)).length : Nat) : Int)) <;> rfl
theorem mem_encF {l : List (List UInt8)} {s : List UInt8} (h : s ∈ l) : s.length + 6 ≤ (encF l).length := by
  induction l with
  | nil => cases h
  | cons x l ih =>
    rw [encF_cons, List.length_append, frame_len]
    rcases List.mem_cons.1 h with rfl | h
    · omega
    · have := ih h; omega
theorem encF_take_le (l : List (List UInt8)) (k : Nat) : (encF (l.take k)).length ≤ (encF l).length := by
  have : encF l = encF (l.take k) ++ encF (l.drop k) := by
    unfold encF wrAll
    rw [← List.flatMap_append, List.take_append_drop]
  rw [this, List.length_append]; omega
theorem torn_J2 (l : List (List UInt8)) (p : Nat) (t : UInt8) (z f : Fault) (hl : l.length ≤ 200) (hb : (encF l).length ≤ 60000) (hp : p < (encF l).length) (ht : lget (encF l) (p : Int) ≠ t) :
    law_WireTorn_J2 l (p : Int) t (encF l, f) (z, ((wh l p : Nat) : Int), (((encF (l.take (wh l p))).length : Nat) : Int)) = some true := by
  unfold law_WireTorn_J2
  have hle := encF_take_le l (wh l p)
  have hwl := wh_le l p
  have hw : w64 ((((encF (l.take (wh l p))).length : Nat) : Int) + 2) = (((encF (l.take (wh l p))).length + 2 : Nat) : Int) := by rw [w64_id (by omega) (by omega)]; omega
  dsimp only
  rw [hw]
  by_cases c : p < (encF (l.take (wh l p))).length + 2
  · rw [if_pos (d_t (by omega))]
  · rw [if_neg (d_f (by omega))]
    have ho : law_ownBytes (encF l) = some (encF l) := by unfold law_ownBytes; rw [asrt_pos (by omega)]
    have hs : ∀ s ∈ l, s.length ≤ 65535 := fun s h => by have := mem_encF h; omega
    have ht' : (encF l)[p] ≠ t := by rw [lget_nat _ _ hp] at ht; exact ht
    have hset : lset (encF l) (p : Int) t = (encF l).set p t := by simp [lset]
    have h1 := opn_set l p (encF l).length t [] 0 hs (Nat.le_refl _) hp ht' (by omega)
    have hop : openS ((encF l).set p t) = (l.take (wh l p), (((encF (l.take (wh l p))).length : Nat) : Int), ⟨0, 0⟩) := by
      unfold openS
      rw [List.length_set, h1, if_neg (by omega), if_neg (by simp; omega)]
      simp
    have hsame : R_SameBodies (l.take (wh l p)) (l.take (wh l p)) = some true := by rw [sameBodies_eq _ _ (by simp; omega)]; simp
    rw [ho, ob_some, asrt_pos (by omega), asrt_pos (by omega), hset, open_eq, ob_some, hop]
    dsimp only
    rw [asrt_pos (fun _ => by omega), ltake_nat]
    simp [hsame, ob_some]
theorem torn_J1 (l : List (List UInt8)) (c : Nat) (p : Int) (t : UInt8) (z f : Fault) (hl : l.length ≤ 200) (hb : (encF l).length ≤ 60000) (hc : c ≤ (encF l).length) :
    law_WireTorn_J1 l (c : Int) p t (encF l, f) (z, ((wh l c : Nat) : Int), (((encF (l.take (wh l c))).length : Nat) : Int)) = some true := by
  unfold law_WireTorn_J1
  have hle := encF_take_le l (wh l c)
  have hwl := wh_le l c
  have hs : ∀ s ∈ l, s.length ≤ 65535 := fun s h => by have := mem_encF h; omega
  have h1 := opn_cut l c ((encF l).take c).length [] 0 hs (Nat.le_refl _)
  have hop : openS ((encF l).take c) = (l.take (wh l c), (((encF (l.take (wh l c))).length : Nat) : Int), ⟨0, 0⟩) := by
    unfold openS
    rw [h1, if_neg (by simp; omega), if_neg (by simp; omega)]
    simp
  have hsame : R_SameBodies (l.take (wh l c)) (l.take (wh l c)) = some true := by rw [sameBodies_eq _ _ (by simp; omega)]; simp
  dsimp only
  rw [asrt_pos (by omega), ltake_nat, open_eq, ob_some, hop]
  dsimp only
  rw [asrt_pos (fun _ => by omega), ltake_nat]
  simp only [decide_true, Bool.not_true, Bool.or_false, Bool.not_false, if_true, hsame, ob_some, Bool.false_eq_true, if_false]
  rw [asrt_pos (fun h => by simp at h; omega), asrt_pos (fun h => by simp at h; omega)]
  by_cases c1 : p < 0 ∨ ((encF l).length : Int) ≤ p
  · have hb1 : (decide (p < 0) || decide (((encF l).length : Int) ≤ p)) = true := or_t c1
    simp [hb1]
  · obtain ⟨q, rfl⟩ : ∃ q : Nat, p = (q : Int) := ⟨p.toNat, by omega⟩
    by_cases c2 : lget (encF l) (q : Int) = t
    · rw [if_pos (by simp [c2])]
    · have c2' : ¬ ((lget (encF l) (q : Int)).toNat : Int) = (t.toNat : Int) := fun h => c2 (u8_eq (by omega))
      rw [if_neg]
      · have hne : 0 < l.length := by
          cases l with
          | nil => simp [encF, wrAll] at c1
          | cons x l => simp
        have := hit_loop l q t (encF l, f) ⟨0, 0⟩ hl hs (by omega) (by omega) l.length 0 (by omega) hne (by simp [encF, wrAll])
        have e0 : (encF (l.take 0)).length = 0 := by simp [encF, wrAll]
        rw [e0] at this
        simp only [List.drop_zero, Nat.sub_zero, Nat.zero_add] at this
        have h0 : ((0 : Nat) : Int) = 0 := rfl
        rw [h0] at this
        rw [this]
        exact torn_J2 l q t _ f hl hb (by omega) c2
      · rw [Bool.or_eq_true]
        intro h
        rcases h with h | h
        · rw [or_b c1] at h; cases h
        · exact c2' (of_decide_eq_true h)
theorem WireTorn_eq (l : List (List UInt8)) (cut p : Int) (t : UInt8) (hs : ∀ s ∈ l, s.length ≤ 140737488351232) : law_WireTorn l cut p t = some true := by
  unfold law_WireTorn
  simp only [wbegun, ob_some, Bool.not_true, Bool.false_eq_true, if_false]
  by_cases v : 200 < (l.length : Int)
  · rw [if_pos (d_t v)]
  · have hf : framesS l = if 60000 < (encF l).length then ([], ⟨9, 0⟩) else (encF l, ⟨0, 0⟩) := by unfold framesS; rw [if_neg (by omega)]
    rw [if_neg (d_f v), frames_eq l hs, ob_some, hf]
    by_cases c : 60000 < (encF l).length
    · rw [if_pos c, if_pos (by simp)]
    · rw [if_neg c]
      by_cases c1 : cut < 0 ∨ ((encF l).length : Int) < cut
      · rw [if_pos]
        rcases c1 with c1 | c1 <;> simp [c1]
      · rw [if_neg (by simp; omega)]
        obtain ⟨q, rfl⟩ : ∃ q : Nat, cut = (q : Int) := ⟨cut.toNat, by omega⟩
        have hs' : ∀ s ∈ l, s.length ≤ 65535 := fun s h => by have := mem_encF h; omega
        have := whole_loop l q p t (encF l, ⟨0, 0⟩) ⟨0, 0⟩ (by omega) hs' (by omega) l.length 0 (by omega) (by omega) (by simp [encF, wrAll])
        have e0 : (encF (l.take 0)).length = 0 := by simp [encF, wrAll]
        rw [e0] at this
        simp only [List.drop_zero, Nat.sub_zero, Nat.zero_add] at this
        have h0 : ((0 : Nat) : Int) = 0 := rfl
        rw [h0] at this
        rw [this]
        exact torn_J1 l q p t _ _ (by omega) (by omega) (by omega)
end G
end Go.Proofs.Ytiakadlmebbafaa
