/- What is kept comes back. -/
import Derived.Test.YtollmifjbcccgaaPWalE
namespace Go.Proofs.Ytollmifjbcccgaa
open Go Go.Dm
set_option linter.unusedVariables false
set_option linter.unusedSimpArgs false
namespace G
theorem round_at (a : Int) (n : Nat) (h0 : 0 < n) (hn : n ≤ 100000) : ∃ k : Nat, k < n ∧ w64 (Int.tmod (IntKind.u64.wrap a) (IntKind.u64.wrap (n : Int))) = (k : Int) ∧ IntKind.u64.wrap (n : Int) ≠ 0 := by
  have e1 : IntKind.u64.wrap (n : Int) = (n : Int) := by rw [IntKind.wrap_u64]; omega
  have e2 : 0 ≤ IntKind.u64.wrap a := by rw [IntKind.wrap_u64]; omega
  obtain ⟨x, hx⟩ : ∃ x : Nat, IntKind.u64.wrap a = (x : Int) := ⟨(IntKind.u64.wrap a).toNat, by omega⟩
  have := Nat.mod_lt x h0
  refine ⟨x % n, this, ?_, by omega⟩
  have et : Int.tmod (x : Int) (n : Int) = ((x % n : Nat) : Int) := rfl
  rw [hx, e1, et, w64_id (by omega) (by omega)]
/-- notes that were logged, and how many of them are kept -/
structure LInv (a : Int) (ns : List Note) (d : Disk) (safe : Nat) : Prop where
  good : ∀ n ∈ ns, NGood n
  seq : seqs a ns
  b : d.Bytes = encL ns
  k : d.Kept = ((encL (ns.take safe)).length : Int)
  s : safe ≤ ns.length
  len : (encL ns).length ≤ 60000
theorem encL_take_le (l : List Note) (w : Nat) : (encL (l.take w)).length ≤ (encL l).length := by
  unfold encL; rw [List.map_take]; exact encF_take_le _ _
theorem encL_take (l : List Note) (w : Nat) : (encL l).take (encL (l.take w)).length = encL (l.take w) := by
  unfold encL; rw [List.map_take]; exact encF_take _ _
theorem LInv.d {a : Int} {ns : List Note} {d : Disk} {safe : Nat} (h : LInv a ns d safe) : DGood d := by
  have h1 := h.len
  have h2 := encL_take_le ns safe
  exact ⟨by rw [h.b]; exact h1, by rw [h.k]; omega, by rw [h.b, h.k]; omega⟩
theorem logF_next {a : Int} {ns : List Note} {d : Disk} (hg : ∀ n ∈ ns, NGood n) (hs : seqs a ns) (hb : d.Bytes = encL ns) (n : Note) (hn : n.Seq = a + ns.length) (hN : NGood n) :
    logF d n = if 60000 < d.Bytes.length + (frame (encN n)).length then ⟨9, 0⟩ else ⟨0, 0⟩ := by
  unfold logF
  rw [if_neg (not_not_intro (by rw [hN.f])), hb, logd_enc hg hs, if_neg]
  rintro (q | ⟨q1, q2⟩)
  · exact q rfl
  · have q1 : ns.length ≠ 0 := q1
    have h1 := hs (ns.length - 1) (by omega)
    have e : ((ns.length - 1 : Nat) : Int) = (ns.length : Int) - 1 := by omega
    rw [e] at h1
    apply q2
    show n.Seq = (lget ns ((ns.length : Int) - 1)).Seq + 1
    rw [h1, hn]; omega
theorem logF_zero {d : Disk} {n : Note} (c : (logF d n).Code = 0) : NGood n ∧ d.Bytes.length + (frame (encN n)).length ≤ 60000 := by
  unfold logF at c
  by_cases q : (noteF n).Code = 0
  · rw [if_neg (not_not_intro q)] at c
    by_cases q2 : badS d.Bytes (logd d.Bytes).1 (logd d.Bytes).2 n
    · rw [if_pos q2] at c; cases c
    · rw [if_neg q2] at c
      by_cases q3 : 60000 < d.Bytes.length + (frame (encN n)).length
      · rw [if_pos q3] at c; cases c
      · exact ⟨noteF_good q, by omega⟩
  · rw [if_pos q] at c; exact absurd c q
theorem one_cells : Good law_oneNote.Cells := by
  have h : (noteF law_oneNote).Code = 0 := by rw [note1F]
  exact (noteF_good h).cells
theorem one_good {q : Int} (h0 : 1 ≤ q) (h1 : q ≤ 1000000000) : NGood ⟨q, law_oneNote.Cells⟩ := by
  refine noteF_good ?_
  have hc := one_cells.f
  unfold noteF
  rw [if_neg (by dsimp only; omega), if_neg (by show ¬ (law_oneNote.Cells.length = 0 ∨ 20 < law_oneNote.Cells.length); unfold law_oneNote; simp [lt])]
  show (cellF law_oneNote.Cells).Code = 0
  rw [hc]
theorem crash_end {a : Int} (ha : 1 ≤ a ∧ a ≤ 999999000) (num : Int) {ns : List Note} {d : Disk} {safe : Nat} (h : LInv a ns d safe) (hn : ns.length ≤ 200) : law_WalCrash_J1 a num (ns, d, (safe : Int)) = some true := by
  have hd := h.d
  have k0 := hd.k0
  have k1 := hd.k1
  have kl := hd.len
  have hkeep := h.k
  have hM : w64 (w64 ((d.Bytes.length : Int) - d.Kept) + 1) = ((d.Bytes.length - d.Kept.toNat + 1 : Nat) : Int) := by
    have e0 : w64 ((d.Bytes.length : Int) - d.Kept) = (d.Bytes.length : Int) - d.Kept := w64_id (by omega) (by omega)
    rw [e0, w64_id (by omega) (by omega)]; omega
  obtain ⟨c, hc, e1, e2⟩ := round_at num (d.Bytes.length - d.Kept.toNat + 1) (by omega) (by omega)
  unfold law_WalCrash_J1
  dsimp only
  rw [if_neg (or_f (by omega)), hM, asrt_pos e2, e1, crash_eq hd c (by omega), ob_some, if_neg (by simp)]
  dsimp only
  have hbt : d.Bytes.take (d.Kept.toNat + c) = (encL ns).take (d.Kept.toNat + c) := by rw [h.b]
  rw [hbt]
  have hlog := logd_cut h.good h.seq (d.Kept.toNat + c)
  generalize hw : wh (ns.map encN) (d.Kept.toNat + c) = w at *
  have hw1 : w ≤ ns.length := by rw [← hw]; have := wh_le (ns.map encN) (d.Kept.toNat + c); rwa [List.length_map] at this
  have hw2 : safe ≤ w := by
    rw [← hw]
    refine wh_ge _ _ _ (by rw [List.length_map]; exact h.s) ?_
    rw [← List.map_take]
    show (encL (ns.take safe)).length ≤ _
    omega
  have hw3 : (encL (ns.take w)).length ≤ d.Kept.toNat + c := by
    rw [← hw]
    have := wh_size (ns.map encN) (d.Kept.toNat + c)
    unfold encL; rw [List.map_take]; exact this
  have hlt : (ns.take w).length = w := by rw [List.length_take]; omega
  have hbl : d.Bytes.length = (encL ns).length := by rw [h.b]
  have hcut : ((encL ns).take (d.Kept.toNat + c)).length = d.Kept.toNat + c := by rw [List.length_take]; omega
  have hd1 : DGood ⟨(encL ns).take (d.Kept.toNat + c), ((d.Kept.toNat + c : Nat) : Int)⟩ := ⟨by dsimp only; omega, by dsimp only; omega, by dsimp only; omega⟩
  rw [replc_eq hd1 (by rw [hlog]; dsimp only; omega), hlog, ob_some]
  dsimp only
  have htt : ((encL ns).take (d.Kept.toNat + c)).take (encL (ns.take w)).length = encL (ns.take w) := by
    rw [List.take_take, Nat.min_eq_left hw3, encL_take]
  rw [htt, hlt]
  have hgt : ∀ n ∈ ns.take w, NGood n := fun n hn => h.good n (List.mem_of_mem_take hn)
  have hst := seqs_take h.seq w
  have hcl : ∀ n ∈ ns.take w, n.Cells.length ≤ 1000000 := fun n hn => by have := (hgt n hn).len; omega
  have hcond : (((!decide ((0 : Int) = 0)) || (decide ((w : Int) < (safe : Int)))) || (decide ((ns.length : Int) < (w : Int)))) = false := by
    simp only [decide_true, Bool.not_true, Bool.false_or, Bool.or_eq_false_iff, decide_eq_false_iff_not]
    omega
  rw [hcond, asrt_pos (fun _ => by omega), if_pos (by rfl), ltake_nat, sameNotes_self _ (by omega) hcl, ob_some, if_neg (by simp)]
  dsimp only [lt]
  have hq : w64 (a + (w : Int)) = a + w := w64_id (by omega) (by omega)
  rw [hq]
  have hN := one_good (q := a + w) (by omega) (by omega)
  have hel := encL_take_le ns w
  have hd2 : DGood ⟨encL (ns.take w), ((encL (ns.take w)).length : Int)⟩ := ⟨by dsimp only; omega, by dsimp only; omega, by dsimp only; omega⟩
  rw [wlogc_eq hd2, ob_some, logF_next hgt hst rfl _ (by rw [hlt]) hN]
  by_cases c4 : 60000 < (⟨encL (ns.take w), ((encL (ns.take w)).length : Int)⟩ : Disk).Bytes.length + (frame (encN ⟨a + w, law_oneNote.Cells⟩)).length
  · have e9 : ¬ ((⟨9, 0⟩ : Fault).Code = 0) := by decide
    rw [if_pos c4, if_neg e9, if_pos (by simp)]; rfl
  · have e0 : (⟨0, 0⟩ : Fault).Code = 0 := rfl
    rw [if_neg c4, if_pos e0, if_neg (by simp)]
    dsimp only at c4 ⊢
    have happ : encL (ns.take w) ++ frame (encN ⟨a + w, law_oneNote.Cells⟩) = encL (ns.take w ++ [⟨a + w, law_oneNote.Cells⟩]) := by rw [encL_app, encL_one]
    rw [happ]
    have hg2 : ∀ n ∈ ns.take w ++ [⟨a + w, law_oneNote.Cells⟩], NGood n := by
      intro n hn
      rcases List.mem_append.1 hn with q | q
      · exact hgt n q
      · rw [List.mem_singleton] at q; rw [q]; exact hN
    have hs2 := seqs_snoc hst (n := ⟨a + w, law_oneNote.Cells⟩) (by rw [hlt])
    have hll : (encL (ns.take w ++ [⟨a + w, law_oneNote.Cells⟩])).length = (encL (ns.take w)).length + (frame (encN ⟨a + w, law_oneNote.Cells⟩)).length := by rw [← happ, List.length_append]
    have hd3 : DGood ⟨encL (ns.take w ++ [⟨a + w, law_oneNote.Cells⟩]), ((encL (ns.take w)).length : Int)⟩ := ⟨by dsimp only; omega, by dsimp only; omega, by dsimp only; omega⟩
    have hlg := logd_enc hg2 hs2
    have hle : (ns.take w ++ [(⟨a + w, law_oneNote.Cells⟩ : Note)]).length = w + 1 := by rw [List.length_append, hlt]; rfl
    rw [replc_eq hd3 (by dsimp only; rw [hlg]; dsimp only; omega)]
    dsimp only
    rw [hlg, ob_some]
    dsimp only
    rw [if_pos (by simp), ownNotes_eq _ (by omega) hcl, ob_some, asrt_pos (by rw [hle]; omega), sameNotes_self _ (by omega) (fun n hn => by have := (hg2 n hn).len; omega), ob_some]
theorem crash_loop {a : Int} (ha : 1 ≤ a ∧ a ≤ 999999000) (num : Int) (cells : List (List Cell)) (keeps : List Bool) (hc : cells.length ≤ 200) : ∀ (m i : Nat) (ns : List Note) (d : Disk) (safe : Nat), cells.length - i = m → i ≤ cells.length → ns.length ≤ i → LInv a ns d safe →
    law_WalCrash_L1 cells a keeps num (ns, d, (safe : Int), (i : Int)) = some true
  | 0, i, ns, d, safe, e, hi, hn, h => by
    refine loopO_inr ?_
    unfold law_WalCrash_B1
    dsimp only
    rw [if_neg (d_f (by omega)), crash_end ha num h (by omega)]; rfl
  | m + 1, i, ns, d, safe, e, hi, hn, h => by
    have hw : w64 ((i : Int) + 1) = ((i + 1 : Nat) : Int) := by rw [w64_id (by omega) (by omega)]; omega
    have hq : w64 (a + (ns.length : Int)) = a + ns.length := w64_id (by omega) (by omega)
    have hd := h.d
    have hde : (⟨d.Bytes, d.Kept⟩ : Disk) = d := rfl
    by_cases c : (logF d ⟨a + ns.length, lget cells (i : Int)⟩).Code = 0
    · obtain ⟨hN, hlen⟩ := logF_zero c
      have happ : d.Bytes ++ frame (encN ⟨a + ns.length, lget cells (i : Int)⟩) = encL (ns ++ [⟨a + ns.length, lget cells (i : Int)⟩]) := by rw [encL_app, encL_one, h.b]
      have hg2 : ∀ n ∈ ns ++ [(⟨a + ns.length, lget cells (i : Int)⟩ : Note)], NGood n := by
        intro n hn
        rcases List.mem_append.1 hn with q | q
        · exact h.good n q
        · rw [List.mem_singleton] at q; rw [q]; exact hN
      have hs2 := seqs_snoc h.seq (n := ⟨a + ns.length, lget cells (i : Int)⟩) rfl
      have hll : (encL (ns ++ [(⟨a + ns.length, lget cells (i : Int)⟩ : Note)])).length ≤ 60000 := by rw [← happ, List.length_append]; exact hlen
      have htk : (ns ++ [(⟨a + ns.length, lget cells (i : Int)⟩ : Note)]).take safe = ns.take safe := by rw [List.take_append_of_le_length h.s]
      have hsl := h.s
      have hnl : (ns ++ [(⟨a + ns.length, lget cells (i : Int)⟩ : Note)]).length = ns.length + 1 := by rw [List.length_append]; rfl
      have h2 : LInv a (ns ++ [⟨a + ns.length, lget cells (i : Int)⟩]) ⟨encL (ns ++ [⟨a + ns.length, lget cells (i : Int)⟩]), d.Kept⟩ safe := ⟨hg2, hs2, rfl, by rw [htk]; exact h.k, by omega, hll⟩
      by_cases ck : (i : Int) < (keeps.length : Int) ∧ lget keeps (i : Int) = true
      · have h3 : LInv a (ns ++ [⟨a + ns.length, lget cells (i : Int)⟩]) ⟨encL (ns ++ [⟨a + ns.length, lget cells (i : Int)⟩]), ((encL (ns ++ [(⟨a + ns.length, lget cells (i : Int)⟩ : Note)])).length : Int)⟩ (ns.length + 1) := ⟨hg2, hs2, rfl, by rw [List.take_of_length_le (by omega)], by omega, hll⟩
        have ih := crash_loop ha num cells keeps hc m (i + 1) _ _ _ (by omega) (by omega) (by omega) h3
        refine (loopO_inl ?_).trans ih
        unfold law_WalCrash_B1
        dsimp only
        rw [if_pos (d_t (by omega)), asrt_pos (by omega), hq, wlogc_eq hd, if_pos c, happ, ob_some, if_neg (by simp), asrt_pos (by rw [hnl]; omega)]
        dsimp only [lt]
        rw [asrt_pos (fun q => by have := of_decide_eq_true q; omega), if_pos (by rw [d_t ck.1, ck.2]; rfl), sync_eq h2.d, ob_some, if_neg (by simp)]
        unfold law_WalCrash_J2
        dsimp only
        rw [hw, hnl]
      · have ih := crash_loop ha num cells keeps hc m (i + 1) _ _ _ (by omega) (by omega) (by omega) h2
        refine (loopO_inl ?_).trans ih
        unfold law_WalCrash_B1
        dsimp only
        rw [if_pos (d_t (by omega)), asrt_pos (by omega), hq, wlogc_eq hd, if_pos c, happ, ob_some, if_neg (by simp), asrt_pos (by rw [hnl]; omega)]
        dsimp only [lt]
        rw [asrt_pos (fun q => by have := of_decide_eq_true q; omega), if_neg (by simp only [Bool.and_eq_true, decide_eq_true_eq]; exact ck)]
        unfold law_WalCrash_J2
        dsimp only
        rw [hw]
    · have ih := crash_loop ha num cells keeps hc m (i + 1) ns d safe (by omega) (by omega) (by omega) h
      refine (loopO_inl ?_).trans ih
      unfold law_WalCrash_B1
      dsimp only
      rw [if_pos (d_t (by omega)), asrt_pos (by omega), hq, wlogc_eq hd, if_neg c, ob_some, if_pos (n_t c)]
      unfold law_WalCrash_J2
      dsimp only
      rw [hw]
theorem WalCrash_eq (cells : List (List Cell)) (first : Int) (keeps : List Bool) (num : Int) : law_WalCrash cells first keeps num = some true := by
  unfold law_WalCrash
  rw [walBegun, ob_some, if_neg (by decide)]
  by_cases c : (200 < (cells.length : Int) ∨ first < 1) ∨ 999999000 < first
  · rw [if_pos (by simp only [Bool.or_eq_true, decide_eq_true_eq]; exact c)]
  · rw [if_neg (by simp only [Bool.or_eq_true, decide_eq_true_eq]; exact c)]
    have h0 : LInv first [] ⟨[], 0⟩ 0 := ⟨fun n hn => (by cases hn), fun k hk => (by simp at hk), rfl, rfl, Nat.le_refl _, by simp [encL, encF, wrAll]⟩
    exact crash_loop ⟨by omega, by omega⟩ num cells keeps (by omega) cells.length 0 [] ⟨[], 0⟩ 0 (by omega) (by omega) (by simp) h0
end G
end Go.Proofs.Ytollmifjbcccgaa
