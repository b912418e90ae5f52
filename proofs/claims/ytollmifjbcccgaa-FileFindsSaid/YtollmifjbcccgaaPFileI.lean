/- Any bytes opened: what the index says. -/
import Derived.Test.YtollmifjbcccgaaPFileG
namespace Go.Proofs.Ytollmifjbcccgaa
open Go Go.Dm
set_option linter.unusedVariables false
set_option linter.unusedSectionVars false
set_option linter.unusedSimpArgs false
namespace G
theorem opn_len : ∀ (k : Nat) (b : List UInt8) (acc : List (List UInt8)) (g : Nat), (opn k b acc g).1.length ≤ acc.length + k ∧ (opn k b acc g).2 ≤ g + b.length
  | 0, b, acc, g => by simp [opn]
  | k + 1, b, acc, g => by
    cases h : rdF b with
    | none => rw [opn_none h]; simp
    | some q =>
      obtain ⟨x, r⟩ := q
      obtain ⟨e, _⟩ := rdF_some h
      have := opn_len k r (acc ++ [x]) (g + (x.length + 6))
      rw [opn_some h]
      rw [List.length_append, List.length_singleton] at this
      have hl : b.length = x.length + 6 + r.length := by rw [e, List.length_append, frame_len]
      omega
theorem opn_mem : ∀ (k : Nat) (b : List UInt8) (acc : List (List UInt8)) (g : Nat) (s : List UInt8), s ∈ (opn k b acc g).1 → s ∈ acc ∨ s.length ≤ b.length
  | 0, b, acc, g, s, h => by simp [opn] at h; exact .inl h
  | k + 1, b, acc, g, s, h => by
    cases hr : rdF b with
    | none => rw [opn_none hr] at h; exact .inl h
    | some q =>
      obtain ⟨x, r⟩ := q
      obtain ⟨e, _⟩ := rdF_some hr
      have hl : b.length = x.length + 6 + r.length := by rw [e, List.length_append, frame_len]
      rw [opn_some hr] at h
      rcases opn_mem k r _ _ s h with q | q
      · rcases List.mem_append.1 q with q | q
        · exact .inl q
        · rw [List.mem_singleton] at q; rw [q]; right; omega
      · right; omega
/-- the index: a text and a number for each block -/
def idxP (L : List (List UInt8)) : Nat → Nat → List UInt8 → List (List UInt8) → Option (List (List UInt8))
  | 0, _, x, rows => if x = [] then some rows else none
  | m + 1, k, x, rows => match rdT x with
    | none => none
    | some (s, r) => match rdN r with
      | none => none
      | some (v, r') => if v = (lget L (k : Int)).length then idxP L m (k + 1) r' (rows ++ [s]) else none
def opI (L : List (List UInt8)) : Option (List (List UInt8)) → Bool × opened × Fault
  | some rows => (true, ⟨L.take (L.length - 2), rows, lget L ((L.length : Int) - 1)⟩, ⟨0, 0⟩)
  | none => (false, default, ⟨5, 1⟩)
section
variable {L : List (List UInt8)} (h2 : 2 ≤ L.length) (hL : L.length ≤ 100000) (hs : ∀ s ∈ L, s.length ≤ 100000) (z : Int)
include h2 hL hs
theorem open_bad : ∀ (m k : Nat) (rows : List (List UInt8)), L.length - 2 - k = m → k ≤ L.length - 2 → rows.length ≤ k → file_open_L1 (L, z) (rows, ⟨[], true⟩, (k : Int)) = some (false, default, ⟨5, 1⟩)
  | 0, k, rows, e, hk, hr => by
    have hw1 : w64 ((L.length : Int) - 2) = (L.length : Int) - 2 := w64_id (by omega) (by omega)
    refine loopO_inr ?_
    unfold file_open_B1
    dsimp only
    rw [hw1, if_neg (d_f (by omega))]
    rfl
  | m + 1, k, rows, e, hk, hr => by
    have hw1 : w64 ((L.length : Int) - 2) = (L.length : Int) - 2 := w64_id (by omega) (by omega)
    have hw : w64 ((k : Int) + 1) = ((k + 1 : Nat) : Int) := by rw [w64_id (by omega) (by omega)]; omega
    by_cases c : (0 : Int) = ((lget L (k : Int)).length : Int)
    · refine (loopO_inl ?_).trans (open_bad m (k + 1) (rows ++ [[]]) (by omega) (by omega) (by rw [List.length_append, List.length_singleton]; omega))
      unfold file_open_B1
      dsimp only
      rw [hw1, if_pos (d_t (by omega)), text_bad, ob_some]
      dsimp only
      rw [asrt_pos (by rw [List.length_append, List.length_singleton]; omega), num_bad, ob_some]
      dsimp only
      rw [asrt_pos (by omega), if_neg (n_f c), hw]
    · refine loopO_inr ?_
      unfold file_open_B1
      dsimp only
      rw [hw1, if_pos (d_t (by omega)), text_bad, ob_some]
      dsimp only
      rw [asrt_pos (by rw [List.length_append, List.length_singleton]; omega), num_bad, ob_some]
      dsimp only
      rw [asrt_pos (by omega), if_pos (n_t c)]
      rfl
theorem open_idx : ∀ (m k : Nat) (x : List UInt8) (rows : List (List UInt8)), L.length - 2 - k = m → k ≤ L.length - 2 → rows.length ≤ k → x.length ≤ 100000 → file_open_L1 (L, z) (rows, ⟨x, false⟩, (k : Int)) = some (opI L (idxP L m k x rows))
  | 0, k, x, rows, e, hk, hr, hx => by
    have hw1 : w64 ((L.length : Int) - 2) = (L.length : Int) - 2 := w64_id (by omega) (by omega)
    have hw2 : w64 ((L.length : Int) - 2 + 1) = (L.length : Int) - 1 := by rw [w64_id (by omega) (by omega)]; omega
    have ht : ltake L ((L.length : Int) - 2) = L.take (L.length - 2) := by
      have : (L.length : Int) - 2 = ((L.length - 2 : Nat) : Int) := by omega
      rw [this, ltake_nat]
    refine loopO_inr ?_
    unfold file_open_B1
    dsimp only
    rw [hw1, if_neg (d_f (by omega))]
    unfold file_open_J1 wire_Reader_Ok
    dsimp only [lt]
    rw [hw1, hw2, ht, idxP]
    by_cases c : x = []
    · subst c
      rw [if_pos rfl, if_neg (by simp)]; rfl
    · have : ¬ ((x.length : Int) = 0) := fun q => c (List.eq_nil_of_length_eq_zero (by omega))
      rw [if_neg c, if_pos (by simp; exact c)]; rfl
  | m + 1, k, x, rows, e, hk, hr, hx => by
    have hw1 : w64 ((L.length : Int) - 2) = (L.length : Int) - 2 := w64_id (by omega) (by omega)
    have hw : w64 ((k : Int) + 1) = ((k + 1 : Nat) : Int) := by rw [w64_id (by omega) (by omega)]; omega
    have hrl : ∀ s : List UInt8, (rows ++ [s]).length ≤ k + 1 := fun s => by rw [List.length_append, List.length_singleton]; omega
    rw [idxP]
    cases ht : rdT x with
    | none =>
      have h1 := text_none (by omega) ht
      by_cases c : (0 : Int) = ((lget L (k : Int)).length : Int)
      · refine (loopO_inl ?_).trans (open_bad h2 hL hs z m (k + 1) (rows ++ [[]]) (by omega) (by omega) (hrl _))
        unfold file_open_B1
        dsimp only
        rw [hw1, if_pos (d_t (by omega)), h1, ob_some]
        dsimp only
        rw [asrt_pos (by have := hrl []; omega), num_bad, ob_some]
        dsimp only
        rw [asrt_pos (by omega), if_neg (n_f c), hw]
      · refine loopO_inr ?_
        unfold file_open_B1
        dsimp only
        rw [hw1, if_pos (d_t (by omega)), h1, ob_some]
        dsimp only
        rw [asrt_pos (by have := hrl []; omega), num_bad, ob_some]
        dsimp only
        rw [asrt_pos (by omega), if_pos (n_t c)]
        rfl
    | some q =>
      obtain ⟨s, r⟩ := q
      have h1 := text_some (by omega) ht
      have hrx := rdT_len ht
      dsimp only
      cases hn : rdN r with
      | none =>
        have h3 := num_none (by omega) hn
        by_cases c : (0 : Int) = ((lget L (k : Int)).length : Int)
        · refine (loopO_inl ?_).trans (open_bad h2 hL hs z m (k + 1) (rows ++ [s]) (by omega) (by omega) (hrl _))
          unfold file_open_B1
          dsimp only
          rw [hw1, if_pos (d_t (by omega)), h1.1, ob_some]
          dsimp only
          rw [asrt_pos (by have := hrl s; omega), h3, ob_some]
          dsimp only
          rw [asrt_pos (by omega), if_neg (n_f c), hw]
        · refine loopO_inr ?_
          unfold file_open_B1
          dsimp only
          rw [hw1, if_pos (d_t (by omega)), h1.1, ob_some]
          dsimp only
          rw [asrt_pos (by have := hrl s; omega), h3, ob_some]
          dsimp only
          rw [asrt_pos (by omega), if_pos (n_t c)]
          rfl
      | some q =>
        obtain ⟨v, r'⟩ := q
        have h3 := num_some (by omega) hn
        have hrr : r'.length ≤ r.length := by
          obtain ⟨e', _⟩ := rdN_some hn
          rw [e', List.length_append]; omega
        dsimp only
        by_cases c : v = (lget L (k : Int)).length
        · rw [if_pos c]
          refine (loopO_inl ?_).trans (open_idx m (k + 1) r' (rows ++ [s]) (by omega) (by omega) (hrl _) (by omega))
          unfold file_open_B1
          dsimp only
          rw [hw1, if_pos (d_t (by omega)), h1.1, ob_some]
          dsimp only
          rw [asrt_pos (by have := hrl s; omega), h3.1, ob_some]
          dsimp only
          rw [asrt_pos (by omega), if_neg (n_f (by omega)), hw]
        · rw [if_neg c]
          refine loopO_inr ?_
          unfold file_open_B1
          dsimp only
          rw [hw1, if_pos (d_t (by omega)), h1.1, ob_some]
          dsimp only
          rw [asrt_pos (by have := hrl s; omega), h3.1, ob_some]
          dsimp only
          rw [asrt_pos (by omega), if_pos (n_t (by omega))]
          rfl
end
end G
end Go.Proofs.Ytollmifjbcccgaa
