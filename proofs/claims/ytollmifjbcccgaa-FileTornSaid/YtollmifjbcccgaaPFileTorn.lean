/- Of frames with one byte changed just those ahead of it are opened. -/
import Derived.Test.YtollmifjbcccgaaPFileG
namespace Go.Proofs.Ytollmifjbcccgaa
open Go Go.Dm
set_option linter.unusedVariables false
set_option linter.unusedSectionVars false
set_option linter.unusedSimpArgs false
namespace G
theorem rdF_set {x : List UInt8} (hx : x.length ≤ 65535) (r : List UInt8) (j : Nat) (t : UInt8) (h2 : 2 ≤ j) (hj : j < (frame x).length) (ht : (frame x)[j] ≠ t) : rdF ((frame x).set j t ++ r) = none := by
  cases hr : rdF ((frame x).set j t ++ r) with
  | none => rfl
  | some p =>
    exfalso
    obtain ⟨y, q⟩ := p
    obtain ⟨hb, hy⟩ := rdF_some hr
    have hfx := frame_len x
    have hfy := frame_len y
    have e0 : lget ((frame x).set j t ++ r) 0 = lget (frame x ++ r) 0 := by
      rw [lget_app_l _ _ _ (by simp; omega), lget_app_l _ _ _ (by omega)]
      have := lget_lset (frame x) (j : Int) 0 t (by omega) (by omega)
      simp only [lset, Int.toNat_natCast] at this
      rw [this, if_neg (by omega)]
    have e1 : lget ((frame x).set j t ++ r) 1 = lget (frame x ++ r) 1 := by
      rw [lget_app_l _ _ _ (by simp; omega), lget_app_l _ _ _ (by omega)]
      have := lget_lset (frame x) (j : Int) 1 t (by omega) (by omega)
      simp only [lset, Int.toNat_natCast] at this
      rw [this, if_neg (by omega)]
    have hfl : flen ((frame x).set j t ++ r) = x.length := by
      rw [← flen_frame hx r]; unfold flen; rw [e0, e1]
    have hyl : y.length = x.length := by rw [← hfl, hb, flen_frame hy]
    have hfr : (frame x).set j t = frame y := List.append_inj_left hb (by simp; omega)
    have ex : frame x = (UInt8.ofNat (x.length / 256) :: UInt8.ofNat (x.length % 256) :: x) ++ crcB (crc (UInt8.ofNat (x.length / 256) :: UInt8.ofNat (x.length % 256) :: x)) := rfl
    have ey : frame y = (UInt8.ofNat (x.length / 256) :: UInt8.ofNat (x.length % 256) :: y) ++ crcB (crc (UInt8.ofNat (x.length / 256) :: UInt8.ofNat (x.length % 256) :: y)) := by unfold frame; rw [hyl]
    have hlx : (UInt8.ofNat (x.length / 256) :: UInt8.ofNat (x.length % 256) :: x).length = x.length + 2 := by simp
    have hly : (UInt8.ofNat (x.length / 256) :: UInt8.ofNat (x.length % 256) :: y).length = x.length + 2 := by simp [hyl]
    generalize UInt8.ofNat (x.length / 256) :: UInt8.ofNat (x.length % 256) :: x = hd at ex hlx
    generalize UInt8.ofNat (x.length / 256) :: UInt8.ofNat (x.length % 256) :: y = hd' at ey hly
    rw [ey] at hfr
    by_cases c : j < x.length + 2
    · have hs : (frame x).set j t = hd.set j t ++ crcB (crc hd) := by rw [ex, List.set_append_left _ _ (by omega)]
      rw [hs] at hfr
      have h1 := List.append_inj_left hfr (by simp; omega)
      have h3 := List.append_inj_right hfr (by simp; omega)
      have h4 := crcB_inj (crc_lt _) (crc_lt _) h3
      rw [← h1] at h4
      refine crc_set (by omega) ?_ h4.symm
      have : (frame x)[j] = hd[j]'(by omega) := by simp only [ex]; rw [List.getElem_append_left]
      rw [← this]; exact ht
    · have hs : (frame x).set j t = hd ++ (crcB (crc hd)).set (j - hd.length) t := by rw [ex, List.set_append_right _ _ (by omega)]
      rw [hs] at hfr
      have h1 := List.append_inj_left hfr (by omega)
      have h3 := List.append_inj_right hfr (by omega)
      subst h1
      have hcl : (crcB (crc hd)).length = 4 := rfl
      have h5 : (frame x)[j] = (crcB (crc hd))[j - hd.length]'(by omega) := by simp only [ex]; rw [List.getElem_append_right (by omega)]
      have h6 : ((crcB (crc hd)).set (j - hd.length) t)[j - hd.length]'(by rw [List.length_set]; omega) = t := List.getElem_set_self _
      have h7 : ((crcB (crc hd)).set (j - hd.length) t)[j - hd.length]'(by rw [List.length_set]; omega) = (crcB (crc hd))[j - hd.length]'(by omega) := by simp only [h3]
      exact ht (by rw [h5, ← h7, h6])
theorem opn_set : ∀ (l : List (List UInt8)) (p k : Nat) (t : UInt8) (acc : List (List UInt8)) (g : Nat), (∀ s ∈ l, s.length ≤ 65535) → (encF l).length ≤ k → (hp : p < (encF l).length) → (encF l)[p] ≠ t → (encF (l.take (wh l p))).length + 2 ≤ p →
    opn k ((encF l).set p t) acc g = (acc ++ l.take (wh l p), g + (encF (l.take (wh l p))).length)
  | [], p, k, t, acc, g, hs, hk, hp, ht, h2 => by simp [encF, wrAll] at hp
  | x :: l, p, k, t, acc, g, hs, hk, hp, ht, h2 => by
    have hx := hs x (by simp)
    have hfl := frame_len x
    simp only [encF_cons] at hk hp ht ⊢
    rw [wh] at h2 ⊢
    by_cases h : x.length + 6 ≤ p
    · rw [if_pos h] at h2 ⊢
      rw [List.take_succ_cons, encF_cons, List.length_append, hfl] at h2
      rw [List.length_append, hfl] at hk hp
      rw [List.set_append_right _ _ (by omega), hfl]
      match k, hk with
      | 0, hk => omega
      | k + 1, hk =>
      have ht' : (encF l)[p - (x.length + 6)]'(by omega) ≠ t := by
        rw [List.getElem_append_right (by omega)] at ht
        simpa only [hfl] using ht
      rw [opn_some (rdF_frame hx _), opn_set l (p - (x.length + 6)) k t _ _ (fun s h => hs s (by simp [h])) (by omega) (by omega) ht' (by omega), List.take_succ_cons, encF_cons, List.length_append, hfl]
      simp; omega
    · rw [if_neg h] at h2 ⊢
      have hp' : p < (frame x).length := by omega
      rw [List.set_append_left _ _ hp', opn_none (rdF_set hx _ p t (by simp [encF, wrAll] at h2; omega) hp' (by rw [List.getElem_append_left hp'] at ht; exact ht))]
      simp [encF, wrAll]
theorem wh_size : ∀ (l : List (List UInt8)) (c : Nat), (encF (l.take (wh l c))).length ≤ c
  | [], c => by simp [encF, wrAll]
  | x :: l, c => by
    rw [wh]
    split
    · rw [List.take_succ_cons, encF_cons, List.length_append, frame_len]
      have := wh_size l (c - (x.length + 6)); omega
    · simp [encF, wrAll]
theorem torn_open {L : List (List UInt8)} (hs : ∀ s ∈ L, s.length ≤ 65535) (hb : (encF L).length ≤ 60000) (p : Nat) (t : UInt8) (hp : p < (encF L).length) (ht : lget (encF L) (p : Int) ≠ t)
    (hne : ∀ k, k < L.length → p ≠ (encF (L.take k)).length ∧ p ≠ (encF (L.take k)).length + 1) : file_Open (lset (encF L) (p : Int) t) = some ([], ⟨5, 0⟩) := by
  have hw := wh_lt L p hp
  have hsz := wh_size L p
  obtain ⟨n1, n2⟩ := hne _ hw
  have hg : (encF L)[p] ≠ t := by rw [lget_nat _ p hp] at ht; exact ht
  have hset : lset (encF L) (p : Int) t = (encF L).set p t := rfl
  have hll : ((encF L).set p t).length = (encF L).length := List.length_set
  have ho := opn_set L p ((encF L).set p t).length t [] 0 hs (by omega) hp hg (by omega)
  have hop : wire_Opened_v1 ((encF L).set p t) = some (L.take (wh L p), (((encF (L.take (wh L p))).length : Nat) : Int)) := by
    rw [opened_eq _ (by omega), ho]; simp
  have hopen : file_open ((encF L).set p t) = some (false, default, ⟨5, 0⟩) := by
    unfold file_open
    rw [if_neg (d_f (by omega)), hop, ob_some]
    dsimp only
    have hd : decide ((((encF (L.take (wh L p))).length : Nat) : Int) = (((encF L).set p t).length : Int)) = false := decide_eq_false (by omega)
    rw [hd]
    rw [asrt_pos (fun q => by simp at q), if_pos (by simp)]
    rfl
  rw [hset]
  unfold file_Open
  rw [hopen, ob_some]
  dsimp only
  rw [if_pos (by simp)]
theorem torn_loop {L : List (List UInt8)} (hs : ∀ s ∈ L, s.length ≤ 65535) (hb : (encF L).length ≤ 60000) (p : Nat) (t : UInt8) (hp : p < (encF L).length) (ht : lget (encF L) (p : Int) ≠ t) (hL : L.length ≤ 10000) (f : Fault) (n : Int) : ∀ (m k : Nat), L.length - k = m → k ≤ L.length → (∀ j, j < k → p ≠ (encF (L.take j)).length ∧ p ≠ (encF (L.take j)).length + 1) →
    law_FileTorn_L1 (p : Int) t (encF L, f) (L, n) (f, ((encF (L.take k)).length : Int), (k : Int)) = some true
  | 0, k, e, hk, hne => by
    have : k = L.length := by omega
    subst this
    refine loopO_inr ?_
    unfold law_FileTorn_B1
    dsimp only
    rw [if_neg (d_f (by omega))]
    have : law_FileTorn_J1 (p : Int) t (encF L, f) f = some true := by
      unfold law_FileTorn_J1 law_ownBytes
      dsimp only [lt]
      rw [asrt_pos (by omega), ob_some, asrt_pos (by omega), asrt_pos (by omega), torn_open hs hb p t hp ht hne, ob_some]
      rfl
    rw [this]; rfl
  | m + 1, k, e, hk, hne => by
    have hlt : k < L.length := by omega
    have hw : w64 ((k : Int) + 1) = ((k + 1 : Nat) : Int) := by rw [w64_id (by omega) (by omega)]; omega
    have hm := encF_take_mono L k
    have htl := encF_take_len L k hlt
    have hm2 := encF_take_mono L (k + 1)
    have hw1 : w64 (((encF (L.take k)).length : Int) + 1) = ((encF (L.take k)).length : Int) + 1 := w64_id (by omega) (by omega)
    have hw2 : w64 (w64 (((encF (L.take k)).length : Int) + ((lget L (k : Int)).length : Int)) + 6) = ((encF (L.take (k + 1))).length : Int) := by
      have e0 : w64 (((encF (L.take k)).length : Int) + ((lget L (k : Int)).length : Int)) = ((encF (L.take k)).length : Int) + ((lget L (k : Int)).length : Int) := w64_id (by omega) (by omega)
      rw [e0, w64_id (by omega) (by omega)]; omega
    by_cases c : p = (encF (L.take k)).length ∨ p = (encF (L.take k)).length + 1
    · refine loopO_inr ?_
      unfold law_FileTorn_B1
      dsimp only
      rw [if_pos (d_t (by omega)), hw1, if_pos (by simp only [Bool.or_eq_true, decide_eq_true_eq]; omega)]
    · have ih := torn_loop hs hb p t hp ht hL f n m (k + 1) (by omega) (by omega) (fun j hj => by
        by_cases q : j = k
        · subst q; exact ⟨fun x => c (.inl x), fun x => c (.inr x)⟩
        · exact hne j (by omega))
      refine (loopO_inl ?_).trans ih
      unfold law_FileTorn_B1
      dsimp only
      rw [if_pos (d_t (by omega)), hw1, if_neg (by simp only [Bool.or_eq_true, decide_eq_true_eq]; omega), asrt_pos (by omega), asrt_pos (by omega), hw2, hw]
theorem FileTorn_eq (l : List Cell) (size at0 : Int) (to0 : UInt8) : law_FileTorn l size at0 to0 = some true := by
  unfold law_FileTorn
  rw [fileBegun, ob_some, if_neg (by decide)]
  by_cases c0 : 60 < l.length
  · rw [if_pos (d_t (by omega))]
  · rw [if_neg (d_f (by omega)), make_v0, make_eq, ob_some]
    by_cases c : (makeF l size).Code = 0
    · have hC : (cellF l).Code = 0 := by
        apply Decidable.byContradiction
        intro h
        unfold makeF at c
        rw [if_pos h] at c; exact h c
      have hB : ¬ 60000 < (fileB l size).length := by
        intro h
        unfold makeF at c
        rw [if_neg (not_not_intro hC)] at c
        by_cases c2 : 500 < l.length
        · rw [if_pos c2] at c; cases c
        · rw [if_neg c2] at c
          by_cases c3 : size < 50 ∨ 4000 < size
          · rw [if_pos c3] at c; cases c
          · rw [if_neg c3, if_pos h] at c; cases c
      have hG := cellF_good hC
      have hm : makeS l size = (fileB l size, ⟨0, 0⟩) := by unfold makeS; rw [if_pos c]
      have hps := parts_small hG size (by omega)
      obtain ⟨_, _, _, h4, _, _, _⟩ := blk_bd hG.code hG.len size l.length (Nat.le_refl _)
      have hpl := partsL_len size (l := l)
      rw [hm]
      dsimp only
      by_cases c1 : at0 < 0 ∨ ((fileB l size).length : Int) ≤ at0
      · have hd : ((decide (at0 < 0)) || (decide (((fileB l size).length : Int) ≤ at0))) = true := by simp only [Bool.or_eq_true, decide_eq_true_eq]; exact c1
        rw [asrt_pos (fun q => by simp at q; omega), asrt_pos (fun q => by simp at q; omega), if_pos (by simp only [Bool.or_eq_true, decide_eq_true_eq]; rcases c1 with q | q; exact .inl (.inl (.inr q)); exact .inl (.inr q))]
      · obtain ⟨p, rfl⟩ : ∃ p : Nat, at0 = (p : Int) := ⟨at0.toNat, by omega⟩
        rw [asrt_pos (fun q => by omega), asrt_pos (fun q => by omega)]
        by_cases ct : lget (fileB l size) (p : Int) = to0
        · rw [if_pos (by simp only [Bool.or_eq_true, decide_eq_true_eq]; rw [ct]; exact .inr rfl)]
        · have hu : R_Unframed (fileB l size) = some (partsL l size, ((fileB l size).length : Int)) := by
            have hop := opn_all (partsL l size) (fileB l size).length [] 0 (fun s h => by have := hps s h; omega) (by unfold fileB; omega)
            rw [unframed_eq _ (by omega)]
            have : opn (fileB l size).length (fileB l size) [] 0 = _ := hop
            rw [this]; simp [fileB]
          have hnt : ¬ ((lget (fileB l size) (p : Int)).toNat : Int) = (to0.toNat : Int) := fun q => ct (UInt8.toNat_inj.1 (by omega))
          rw [if_neg (by simp only [Bool.or_eq_true, decide_eq_true_eq, Bool.not_eq_true', decide_eq_false_iff_not]; rintro (((q | q) | q) | q); exact q trivial; omega; omega; exact hnt q), hu, ob_some]
          have := torn_loop (L := partsL l size) (fun s h => by have := hps s h; omega) (by unfold fileB at hB; omega) p to0 (by unfold fileB at c1; omega) ct (by omega) ⟨0, 0⟩ ((fileB l size).length : Int) (partsL l size).length 0 (by omega) (by omega) (fun j hj => by omega)
          exact this
    · have hm : makeS l size = ([], makeF l size) := by unfold makeS; rw [if_neg c]
      rw [hm]
      dsimp only
      have hd : decide ((makeF l size).Code = 0) = false := decide_eq_false c
      rw [hd, asrt_pos (fun q => by simp at q), asrt_pos (fun q => by simp at q), if_pos (by simp)]
end G
end Go.Proofs.Ytollmifjbcccgaa
