/- The log's notes: what is read of a disk. -/
import Derived.Test.YtollmifjbcccgaaPWalAV
namespace Go.Proofs.Ytollmifjbcccgaa
open Go Go.Dm
set_option linter.unusedVariables false
set_option linter.unusedSimpArgs false
namespace G
theorem addFrame_eq (body : List UInt8) (hb : body.length ≤ 1000000000) : wire_AddFrame_v1 body = some (frame body) := by
  have e8 : (2 : Int) ^ (min (8 : Int).toNat 64) = ((256 : Nat) : Int) := by decide
  have eh : [toU8 (Int.fdiv (body.length : Int) (2 ^ (min (8 : Int).toNat 64))), toU8 (body.length : Int)] = [UInt8.ofNat (body.length / 256), UInt8.ofNat (body.length % 256)] := by
    rw [e8, fdiv_nat, toU8_nat, toU8_nat, ofNat_mod]
  unfold wire_AddFrame_v1
  rw [eh, asrt_pos (by simp)]
  dsimp only [lt]
  have e0 : (0 : Int) = ((0 : Nat) : Int) := rfl
  rw [asrt_pos (by simp; omega), asrt_pos (by simp; omega), e0, ldrop_nat, List.drop_zero]
  have ed : ([UInt8.ofNat (body.length / 256), UInt8.ofNat (body.length % 256)] ++ body) = UInt8.ofNat (body.length / 256) :: UInt8.ofNat (body.length % 256) :: body := by simp
  rw [ed, crc_eq _ (by simp; omega), ob_some, crcB_w, asrt_pos (by simp [crcB]; omega)]
  simp [frame]
theorem append_eq {d : Disk} (h : DGood d) (b : List UInt8) (hb : b.length ≤ 1000000000000000) : disk_Append d b = some (if 60000 < d.Bytes.length + b.length then ([], 0, ⟨9, 0⟩) else (d.Bytes ++ b, d.Kept, ⟨0, 0⟩)) := by
  have hl := h.len
  have hw : w64 ((d.Bytes.length : Int) + (b.length : Int)) = ((d.Bytes.length + b.length : Nat) : Int) := by rw [w64_id (by omega) (by omega)]; omega
  unfold disk_Append
  rw [dcheck_eq, dF_zero h, hw]
  dsimp only [lt]
  rw [if_neg (by simp)]
  by_cases c : 60000 < d.Bytes.length + b.length
  · rw [if_pos (d_t (by omega)), if_pos c]; rfl
  · rw [if_neg (d_f (by omega)), if_neg c, cat_eq _ (by simp; omega) (by simp), ob_some]; simp
def sizeF (l : List (List UInt8)) : Nat := (l.map (fun s => s.length + 6)).sum
theorem sizeF_cons (s : List UInt8) (l : List (List UInt8)) : sizeF (s :: l) = s.length + 6 + sizeF l := by simp [sizeF]
theorem opn_size : ∀ (k : Nat) (b : List UInt8) (acc : List (List UInt8)) (g : Nat), ∃ m, (opn k b acc g).1 = acc ++ m ∧ sizeF m ≤ b.length
  | 0, b, acc, g => ⟨[], by simp [opn], by simp [sizeF]⟩
  | k + 1, b, acc, g => by
    cases e : rdF b with
    | none => exact ⟨[], by rw [opn_none e]; simp, by simp [sizeF]⟩
    | some p =>
      obtain ⟨x, r⟩ := p
      obtain ⟨m, h1, h2⟩ := opn_size k r (acc ++ [x]) (g + (x.length + 6))
      have h3 := (rdF_some e).1
      refine ⟨x :: m, by rw [opn_some e, h1]; simp, ?_⟩
      rw [sizeF_cons, h3, List.length_append, frame_len]; omega
theorem sizeF_len (l : List (List UInt8)) : 6 * l.length ≤ sizeF l := by
  induction l with
  | nil => simp [sizeF]
  | cons s l ih => rw [sizeF_cons, List.length_cons]; omega
def bodies (b : List UInt8) : List (List UInt8) := (opn b.length b [] 0).1
theorem bodies_size (b : List UInt8) : sizeF (bodies b) ≤ b.length := by
  obtain ⟨m, h1, h2⟩ := opn_size b.length b [] 0
  unfold bodies; rw [h1]; simpa using h2
theorem noteS_good {b : List UInt8} (h : (noteS b).2.Code = 0) : NGood (noteS b).1 ∧ (noteS b).2 = ⟨0, 0⟩ := by
  unfold noteS at h ⊢
  by_cases c : 60000 < b.length
  · rw [if_pos c] at h; cases h
  · rw [if_neg c] at h ⊢
    cases hd : rdN b with
    | none => rw [hd] at h; cases h
    | some p =>
      obtain ⟨n, r⟩ := p
      rw [hd] at h
      dsimp only at h ⊢
      by_cases c2 : (readS r).2.Code = 0
      · rw [if_pos c2] at h ⊢
        unfold noteR at h ⊢
        by_cases c3 : (noteF ⟨(n : Int), (readS r).1⟩).Code = 0
        · rw [if_pos c3]; exact ⟨noteF_good c3, rfl⟩
        · rw [if_neg c3] at h; exact absurd h c3
      · rw [if_neg c2] at h; exact absurd h c2
def lastN (l : List Note) : Note := lget l ((l.length : Int) - 1)
def nxt (acc : List Note) (n : Note) : Prop := acc.length = 0 ∨ n.Seq = (lastN acc).Seq + 1
instance (acc : List Note) (n : Note) : Decidable (nxt acc n) := inferInstanceAs (Decidable (_ ∨ _))
noncomputable def nts (acc : List Note) (g : Nat) : List (List UInt8) → List Note × Nat
  | [] => (acc, g)
  | s :: l => if (noteS s).2.Code = 0 ∧ nxt acc (noteS s).1 then nts (acc ++ [(noteS s).1]) (g + (s.length + 6)) l else (acc, g)
theorem nts_le : ∀ (l : List (List UInt8)) (acc : List Note) (g : Nat), (nts acc g l).2 ≤ g + sizeF l ∧ (nts acc g l).1.length ≤ acc.length + l.length ∧ ((∀ n ∈ acc, NGood n) → ∀ n ∈ (nts acc g l).1, NGood n)
  | [], acc, g => by rw [nts]; exact ⟨by omega, by simp, fun h => h⟩
  | s :: l, acc, g => by
    rw [nts, sizeF_cons]
    split
    · rename_i c
      obtain ⟨h1, h2, h3⟩ := nts_le l (acc ++ [(noteS s).1]) (g + (s.length + 6))
      rw [List.length_append, List.length_singleton] at h2
      refine ⟨by omega, by rw [List.length_cons]; omega, fun h => h3 (fun n hn => ?_)⟩
      rcases List.mem_append.1 hn with q | q
      · exact h n q
      · rw [List.mem_singleton] at q; subst q; exact (noteS_good c.1).1
    · exact ⟨by show g ≤ _; omega, by show acc.length ≤ _; omega, fun h => h⟩
theorem last_in {acc : List Note} (h : acc.length ≠ 0) (hg : ∀ n ∈ acc, NGood n) : NGood (lastN acc) := hg _ (lget_mem acc _ (by omega))
theorem note_eta (n : Note) : (⟨n.Seq, n.Cells⟩ : Note) = n := rfl
theorem wnotes_loop (L : List (List UInt8)) (z : Int) (hL : L.length ≤ 100000) : ∀ (r i g : Nat) (acc : List Note), L.length - i = r → i ≤ L.length → acc.length ≤ i → g + sizeF (L.drop i) ≤ 100000 → (∀ n ∈ acc, NGood n) →
    wal_Notes_L1 (L, z) (acc, (g : Int), (i : Int)) = some ((nts acc g (L.drop i)).1, (((nts acc g (L.drop i)).2 : Nat) : Int))
  | 0, i, g, acc, e, hi, ha, hg, hn => by
    have : i = L.length := by omega
    subst this
    refine loopO_inr ?_
    unfold wal_Notes_B1
    dsimp only
    rw [if_neg (d_f (by omega)), List.drop_length, nts]; rfl
  | r + 1, i, g, acc, e, hi, ha, hg, hn => by
    have hlt : i < L.length := by omega
    have hw : w64 ((i : Int) + 1) = ((i + 1 : Nat) : Int) := by rw [w64_id (by omega) (by omega)]; omega
    rw [lget_drop L i hlt] at hg ⊢
    rw [sizeF_cons] at hg
    have hw2 : w64 ((acc.length : Int) - 1) = (acc.length : Int) - 1 := w64_id (by omega) (by omega)
    have hsz : w64 ((g : Int) + w64 (6 + ((lget L (i : Int)).length : Int))) = ((g + ((lget L (i : Int)).length + 6) : Nat) : Int) := by
      rw [w64_id (x := 6 + ((lget L (i : Int)).length : Int)) (by omega) (by omega), w64_id (by omega) (by omega)]; omega
    rw [nts]
    by_cases c1 : (noteS (lget L (i : Int))).2.Code = 0
    · have hbad : ((!decide ((noteS (lget L (i : Int))).2.Code = 0)) || ((decide (0 < (acc.length : Int))) && (!decide ((noteS (lget L (i : Int))).1.Seq = w64 ((lget acc ((acc.length : Int) - 1)).Seq + 1))))) = !decide (nxt acc (noteS (lget L (i : Int))).1) := by
        rw [decide_eq_true c1, Bool.not_true, Bool.false_or]
        by_cases c2 : acc.length = 0
        · have h1 : nxt acc (noteS (lget L (i : Int))).1 := .inl c2
          rw [decide_eq_false (show ¬ 0 < (acc.length : Int) by omega), decide_eq_true h1]; rfl
        · have hl := last_in c2 hn
          have q1 := hl.lo
          have q2 := hl.hi
          have hw3 : w64 ((lget acc ((acc.length : Int) - 1)).Seq + 1) = (lastN acc).Seq + 1 := w64_id (by unfold lastN at q1; omega) (by unfold lastN at q2; omega)
          rw [hw3, decide_eq_true (show 0 < (acc.length : Int) by omega), Bool.true_and]
          congr 1
          exact decide_eq_decide.2 ⟨fun h => .inr h, fun h => h.resolve_left c2⟩
      by_cases c2 : nxt acc (noteS (lget L (i : Int))).1
      · rw [if_pos ⟨c1, c2⟩]
        refine (loopO_inl (y := (acc ++ [(noteS (lget L (i : Int))).1], ((g + ((lget L (i : Int)).length + 6) : Nat) : Int), ((i + 1 : Nat) : Int))) ?_).trans (wnotes_loop L z hL r (i + 1) (g + ((lget L (i : Int)).length + 6)) _ (by omega) (by omega) (by rw [List.length_append, List.length_singleton]; omega) (by omega) (fun n hh => by
          rcases List.mem_append.1 hh with q | q
          · exact hn n q
          · rw [List.mem_singleton] at q; subst q; exact (noteS_good c1).1))
        unfold wal_Notes_B1
        dsimp only
        rw [if_pos (d_t (by omega)), asrt_pos (by omega), asrt_pos (by omega), wread_eq, ob_some, hw2, asrt_pos (fun h _ => by have := of_decide_eq_true h; omega), asrt_pos (fun h _ => by have := of_decide_eq_true h; omega), hbad, if_neg (n_f c2), note_eta, asrt_pos (by rw [List.length_append, List.length_singleton]; omega), hw, hsz]
      · rw [if_neg (fun h => c2 h.2)]
        refine loopO_inr ?_
        unfold wal_Notes_B1
        dsimp only
        rw [if_pos (d_t (by omega)), asrt_pos (by omega), asrt_pos (by omega), wread_eq, ob_some, hw2, asrt_pos (fun h _ => by have := of_decide_eq_true h; omega), asrt_pos (fun h _ => by have := of_decide_eq_true h; omega), hbad, if_pos (n_t c2)]; rfl
    · rw [if_neg (fun h => c1 h.1)]
      refine loopO_inr ?_
      unfold wal_Notes_B1
      dsimp only
      rw [if_pos (d_t (by omega)), asrt_pos (by omega), asrt_pos (by omega), wread_eq, ob_some, hw2, asrt_pos (fun h _ => by have := of_decide_eq_true h; omega), asrt_pos (fun h _ => by have := of_decide_eq_true h; omega), decide_eq_false c1, if_pos (by rfl)]; rfl
noncomputable def logd (b : List UInt8) : List Note × Nat := nts [] 0 (bodies b)
theorem wnotes_eq (d : Disk) (h : d.Bytes.length ≤ 60000) : wal_Notes d = some ((logd d.Bytes).1, (((logd d.Bytes).2 : Nat) : Int)) := by
  have hs := bodies_size d.Bytes
  have hl := sizeF_len (bodies d.Bytes)
  unfold wal_Notes
  rw [opened_eq _ (by omega), ob_some]
  exact wnotes_loop (bodies d.Bytes) _ (by omega) (bodies d.Bytes).length 0 0 [] (by omega) (by omega) (by simp) (by rw [List.drop_zero]; omega) (by simp)
theorem rlogd_loop (L : List (List UInt8)) (z : Int) (hL : L.length ≤ 100000) : ∀ (r i g : Nat) (acc : List Note), L.length - i = r → i ≤ L.length → acc.length = i → g + sizeF (L.drop i) ≤ 100000 → (∀ n ∈ acc, NGood n) →
    R_Logged_v1_L1 (L, z) (acc, (g : Int), (i : Int)) = some ((nts acc g (L.drop i)).1, (((nts acc g (L.drop i)).2 : Nat) : Int))
  | 0, i, g, acc, e, hi, ha, hg, hn => by
    have : i = L.length := by omega
    subst this
    refine loopO_inr ?_
    unfold R_Logged_v1_B1
    dsimp only
    rw [if_neg (d_f (by omega)), List.drop_length, nts]; rfl
  | r + 1, i, g, acc, e, hi, ha, hg, hn => by
    have hlt : i < L.length := by omega
    have hw : w64 ((i : Int) + 1) = ((i + 1 : Nat) : Int) := by rw [w64_id (by omega) (by omega)]; omega
    rw [lget_drop L i hlt] at hg ⊢
    rw [sizeF_cons] at hg
    have hw2 : w64 ((i : Int) - 1) = (acc.length : Int) - 1 := by rw [w64_id (by omega) (by omega)]; omega
    have hsz : w64 (w64 ((g : Int) + 6) + ((lget L (i : Int)).length : Int)) = ((g + ((lget L (i : Int)).length + 6) : Nat) : Int) := by
      rw [w64_id (x := (g : Int) + 6) (by omega) (by omega), w64_id (by omega) (by omega)]; omega
    rw [nts]
    by_cases c1 : (noteS (lget L (i : Int))).2.Code = 0
    · have hgd := (noteS_good c1).1
      have hlo := hgd.lo
      have hhi := hgd.hi
      have hbad : ((!decide ((noteS (lget L (i : Int))).2.Code = 0)) || ((decide (0 < (i : Int))) && (!decide (w64 ((noteS (lget L (i : Int))).1.Seq - 1) = (lget acc ((acc.length : Int) - 1)).Seq)))) = !decide (nxt acc (noteS (lget L (i : Int))).1) := by
        rw [decide_eq_true c1, Bool.not_true, Bool.false_or]
        by_cases c2 : acc.length = 0
        · have h1 : nxt acc (noteS (lget L (i : Int))).1 := .inl c2
          rw [decide_eq_false (show ¬ 0 < (i : Int) by omega), decide_eq_true h1]; rfl
        · rw [w64_id (by omega) (by omega), decide_eq_true (show 0 < (i : Int) by omega), Bool.true_and]
          congr 1
          refine decide_eq_decide.2 ⟨fun h => .inr ?_, fun h => ?_⟩
          · show _ = (lget acc ((acc.length : Int) - 1)).Seq + 1; omega
          · have h2 : (noteS (lget L (i : Int))).1.Seq = (lget acc ((acc.length : Int) - 1)).Seq + 1 := h.resolve_left c2
            omega
      by_cases c2 : nxt acc (noteS (lget L (i : Int))).1
      · rw [if_pos ⟨c1, c2⟩]
        refine (loopO_inl (y := (acc ++ [(noteS (lget L (i : Int))).1], ((g + ((lget L (i : Int)).length + 6) : Nat) : Int), ((i + 1 : Nat) : Int))) ?_).trans (rlogd_loop L z hL r (i + 1) (g + ((lget L (i : Int)).length + 6)) _ (by omega) (by omega) (by rw [List.length_append, List.length_singleton]; omega) (by omega) (fun n hh => by
          rcases List.mem_append.1 hh with q | q
          · exact hn n q
          · rw [List.mem_singleton] at q; subst q; exact hgd))
        unfold R_Logged_v1_B1
        dsimp only
        rw [if_pos (d_t (by omega)), asrt_pos (by omega), asrt_pos (by omega), noteOf_eq, ob_some, hw2, asrt_pos (fun h _ => by have := of_decide_eq_true h; omega), asrt_pos (fun h _ => by have := of_decide_eq_true h; omega), hbad, if_neg (n_f c2), note_eta, asrt_pos (by rw [List.length_append, List.length_singleton]; omega), asrt_pos (by omega), asrt_pos (by omega), hw, hsz]
      · rw [if_neg (fun h => c2 h.2)]
        refine loopO_inr ?_
        unfold R_Logged_v1_B1
        dsimp only
        rw [if_pos (d_t (by omega)), asrt_pos (by omega), asrt_pos (by omega), noteOf_eq, ob_some, hw2, asrt_pos (fun h _ => by have := of_decide_eq_true h; omega), asrt_pos (fun h _ => by have := of_decide_eq_true h; omega), hbad, if_pos (n_t c2)]; rfl
    · rw [if_neg (fun h => c1 h.1)]
      refine loopO_inr ?_
      unfold R_Logged_v1_B1
      dsimp only
      rw [if_pos (d_t (by omega)), asrt_pos (by omega), asrt_pos (by omega), noteOf_eq, ob_some, hw2, asrt_pos (fun h _ => by have := of_decide_eq_true h; omega), asrt_pos (fun h _ => by have := of_decide_eq_true h; omega), decide_eq_false c1, if_pos (by rfl)]; rfl
theorem rlogd_eq (b : List UInt8) (h : b.length ≤ 60000) : R_Logged_v1 b = some ((logd b).1, (((logd b).2 : Nat) : Int)) := by
  have hs := bodies_size b
  have hl := sizeF_len (bodies b)
  unfold R_Logged_v1
  rw [unframed_eq _ (by omega), ob_some]
  exact rlogd_loop (bodies b) _ (by omega) (bodies b).length 0 0 [] (by omega) (by omega) rfl (by rw [List.drop_zero]; omega) (by simp)
theorem logd_le (b : List UInt8) : (logd b).2 ≤ b.length ∧ (logd b).1.length ≤ b.length ∧ ∀ n ∈ (logd b).1, NGood n := by
  have hs := bodies_size b
  have hl := sizeF_len (bodies b)
  obtain ⟨h1, h2, h3⟩ := nts_le (bodies b) [] 0
  rw [List.length_nil] at h2
  exact ⟨by unfold logd; omega, by unfold logd; omega, h3 (by simp)⟩
end G
end Go.Proofs.Ytollmifjbcccgaa
