/- Parts of the rows: what Check says, both ways; what is fine. -/
import Derived.Test.YtdjlninhfndjfaaEmD
import Derived.Test.YtdjlninhfndjfaaGf3
namespace Go.Proofs.Ytdjlninhfndjfaa
open Go Go.Dm
set_option linter.unusedVariables false
set_option linter.unusedSimpArgs false
namespace G
theorem mget_mput {κ ν : Type} [DecidableEq κ] (k k' : κ) (v : ν) : ∀ l : List (κ × ν), mget (mput l k v) k' = if k = k' then some v else mget l k'
  | [] => by simp [mput, mget]
  | p :: l => by
    rw [mput]
    by_cases h : p.1 = k
    · rw [if_pos h, mget, mget]
      by_cases h2 : k = k'
      · simp [h2]
      · have : ¬ p.1 = k' := fun e => h2 (h.symm.trans e)
        simp [h2, this]
    · rw [if_neg h, mget, mget, mget_mput k k' v l]
      by_cases h2 : k = k'
      · subst h2; simp [h]
      · simp [h2]
def oob (p : Part) : Prop := 40 < p.From.length ∨ 40 < p.To.length
def frm (fr : List UInt8) (p : Part) (r : List Part) : Prop := p.From ≠ fr ∨ (r = [] ∧ p.To ≠ []) ∨ (r ≠ [] ∧ Op.bytesLess p.From p.To = false)
open Classical in
noncomputable def pc : List UInt8 → List Int → List Part → Int → Fault
  | _, _, [], _ => ⟨0, 0⟩
  | fr, ids, p :: r, i => if oob p then ⟨8, i⟩ else if p.ID < 0 ∨ 1000000000 < p.ID then ⟨3, i⟩ else if frm fr p r then ⟨5, i⟩ else if p.ID ∈ ids then ⟨10, i⟩ else pc p.To (ids ++ [p.ID]) r (i + 1)
theorem pc_ids : ∀ (l : List Part) (fr : List UInt8) (i : Int) (a b : List Int), (∀ k, k ∈ a ↔ k ∈ b) → pc fr a l i = pc fr b l i
  | [], _, _, _, _, _ => rfl
  | p :: r, fr, i, a, b, h => by
    rw [pc, pc, pc_ids r p.To (i + 1) (a ++ [p.ID]) (b ++ [p.ID]) (fun k => by simp [h k])]
    simp only [h]
noncomputable def partsF (l : List Part) : Fault := if l = [] then ⟨6, -1⟩ else if 200 < l.length then ⟨2, -1⟩ else pc [] [] l 0
theorem bl_nil (x : List UInt8) : Op.bytesLess x [] = false := by cases x <;> rfl
theorem num_t {x : Int} (h : ¬ (x < 0 ∨ 1000000000 < x)) : parts_number x = true := by simp [parts_number]; omega
theorem num_f {x : Int} (h : x < 0 ∨ 1000000000 < x) : parts_number x = false := by
  cases e : parts_number x with
  | false => rfl
  | true => simp [parts_number] at e; omega
theorem rnum_eq (x : Int) : R_Num x = parts_number x := rfl
theorem form1 {l : List Part} (fr : List UInt8) (p : Part) (n : Nat) (hn : n < l.length) (hl : l.length ≤ 200) : (((!decide (p.From = fr)) || (!((decide ((n : Int) = (w64 ((l.length : Int) - 1)))) == (decide (p.To = ([] : List UInt8)))))) || ((!(decide ((n : Int) = (w64 ((l.length : Int) - 1))))) && (!Op.bytesLess p.From p.To))) = true ↔ frm fr p (l.drop (n + 1)) := by
  have hw : w64 ((l.length : Int) - 1) = (l.length : Int) - 1 := w64_id (by omega) (by omega)
  have e : ((n : Int) = (l.length : Int) - 1) ↔ l.drop (n + 1) = [] := by rw [List.drop_eq_nil_iff]; omega
  rw [hw]
  have hL : (n : Int) ≤ (l.length : Int) - 1 := by omega
  unfold frm
  generalize l.drop (n + 1) = r at e ⊢
  generalize (l.length : Int) = L at e hL ⊢
  by_cases h1 : p.From = fr
  · by_cases h2 : (n : Int) = L - 1
    · have hr := e.1 h2
      by_cases h3 : p.To = []
      · simp [h1, h2, hr, h3]
      · simp [h1, h2, hr, h3]
    · have hr : ¬ r = [] := fun h => h2 (e.2 h)
      by_cases h3 : p.To = []
      · simp [h1, h2, hr, h3, bl_nil]
      · cases hb : Op.bytesLess fr p.To <;> simp [h1, h2, hr, h3, hb]
  · simp [h1]
theorem form2 {l : List Part} (q : List UInt8) (p : Part) (n : Nat) (hn : n < l.length) (hl : l.length ≤ 200) : frm (if n = 0 then [] else q) p (l.drop (n + 1)) ↔ ((((decide ((n : Int) = 0)) && (!decide (p.From = ([] : List UInt8)))) || ((decide (0 < (n : Int))) && (!decide (p.From = q)))) = true ∨ (((decide ((n : Int) = (w64 ((l.length : Int) - 1)))) && (!decide (p.To = ([] : List UInt8)))) || ((decide ((n : Int) < (w64 ((l.length : Int) - 1)))) && (!Op.bytesLess p.From p.To))) = true) := by
  have hw : w64 ((l.length : Int) - 1) = (l.length : Int) - 1 := w64_id (by omega) (by omega)
  have e : ((n : Int) = (l.length : Int) - 1) ↔ l.drop (n + 1) = [] := by rw [List.drop_eq_nil_iff]; omega
  rw [hw]
  have hL : (n : Int) ≤ (l.length : Int) - 1 := by omega
  unfold frm
  generalize l.drop (n + 1) = r at e ⊢
  generalize (l.length : Int) = L at e hL ⊢
  by_cases h2 : (n : Int) = L - 1
  · have hr := e.1 h2
    have h3 : ¬ (n : Int) < L - 1 := by omega
    by_cases h0 : n = 0
    · subst h0
      have h4 : (0 : Int) = L - 1 := h2
      simp [hr, ← h4]
    · have : 0 < n := by omega
      simp only [h0, hr, h3, h2, this]
      have h5 : ¬ L - 1 = 0 := by omega
      have h6 : 0 < L - 1 := by omega
      have h7 : 1 < L := by omega
      simp [h5, h6, h7]
  · have hr : ¬ r = [] := fun h => h2 (e.2 h)
    have h3 : (n : Int) < L - 1 := by omega
    by_cases h0 : n = 0
    · subst h0
      have h4 : ¬ (0 : Int) = L - 1 := h2
      have h5 : (0 : Int) < L - 1 := h3
      have h7 : 1 < L := by omega
      simp [hr, h4, h5, h7]
    · have : 0 < n := by omega
      simp [h0, hr, h2, h3, this]
theorem check_loop (l : List Part) (hl : l.length ≤ 200) : ∀ (m n : Nat) (fr : List UInt8) (ids : List Int) (mp : List (Int × Int)), l.length - n = m → n ≤ l.length → (∀ k, 0 < (mget mp k).getD 0 ↔ k ∈ ids) → parts_Check_L1 l (mp, fr, (n : Int)) = some (pc fr ids (l.drop n) n)
  | 0, n, fr, ids, mp, hm, hn, hi => by
    have : n = l.length := by omega
    subst this
    refine loopO_inr ?_
    simp only [parts_Check_B1]
    rw [if_neg (d_f (by omega))]
    simp [inrO, parts_Check_J1, pc]
  | m + 1, n, fr, ids, mp, hm, hn, hi => by
    have hlt : n < l.length := by omega
    rw [lget_drop l n hlt, pc]
    have hw : w64 ((n : Int) + 1) = ((n + 1 : Nat) : Int) := by rw [w64_id (by omega) (by omega)]; omega
    have h0 : (0 : Int) ≤ (n : Int) ∧ (n : Int) < (l.length : Int) := by omega
    have h1 : (n : Int) < (l.length : Int) := by omega
    generalize hp : lget l (n : Int) = p
    have ih := check_loop l hl m (n + 1) p.To (ids ++ [p.ID]) (mput mp p.ID 1) (by omega) (by omega) (fun k => by
      rw [mget_mput]
      by_cases hk : p.ID = k
      · subst hk; simp
      · have : ¬ k = p.ID := fun e => hk e.symm
        simp [hk, this, hi k])
    obtain ⟨y, s0⟩ : ∃ y, parts_Check_B1 l (mp, fr, (n : Int)) = y := ⟨_, rfl⟩
    have s := s0
    simp only [parts_Check_B1] at s
    rw [if_pos (d_t h1), asrt_pos h0, hp] at s
    by_cases c1 : oob p
    · rw [if_pos c1]
      refine loopO_inr ?_
      rw [if_pos (or_t (by unfold oob at c1; omega))] at s
      exact s0.trans s.symm
    · rw [if_neg c1]
      rw [if_neg (or_f (by unfold oob at c1; omega))] at s
      by_cases c2 : p.ID < 0 ∨ 1000000000 < p.ID
      · rw [if_pos c2]
        refine loopO_inr ?_
        rw [num_f c2] at s
        exact s0.trans s.symm
      · rw [if_neg c2]
        rw [num_t c2] at s
        dsimp only [lt] at s
        rw [if_neg (by decide)] at s
        by_cases c3 : frm fr p (l.drop (n + 1))
        · rw [if_pos c3]
          refine loopO_inr ?_
          rw [if_pos ((form1 fr p n hlt hl).2 c3)] at s
          exact s0.trans s.symm
        · rw [if_neg c3]
          rw [if_neg (fun h => c3 ((form1 fr p n hlt hl).1 h))] at s
          by_cases c4 : p.ID ∈ ids
          · rw [if_pos c4]
            refine loopO_inr ?_
            rw [if_pos (d_t ((hi p.ID).2 c4))] at s
            exact s0.trans s.symm
          · rw [if_neg c4]
            rw [if_neg (d_f (fun h => c4 ((hi p.ID).1 h))), hw] at s
            have e : (n : Int) + 1 = ((n + 1 : Nat) : Int) := by omega
            rw [e]
            exact (loopO_inl (s0.trans s.symm)).trans ih
theorem check_eq (l : List Part) : parts_Check l = some (partsF l) := by
  unfold parts_Check partsF
  by_cases h0 : l = []
  · subst h0; rfl
  · have : l.length ≠ 0 := fun h => h0 (List.eq_nil_of_length_eq_zero h)
    rw [if_neg h0, if_neg (d_f (by omega))]
    by_cases h : 200 < l.length
    · rw [if_pos h, if_pos (d_t (by omega))]; rfl
    · rw [if_neg h, if_neg (d_f (by omega))]
      exact check_loop l (by omega) l.length 0 [] [] [] (by omega) (by omega) (fun k => by simp [mget])
/- the document's -/
theorem twice_loop (l : List Part) (hl : l.length ≤ 200) (n : Nat) (hn : n < l.length) : ∀ (m k : Nat), n - k = m → k ≤ n → R_PartsFault_L2 l (n : Int) (k : Int) = some (if (lget l (n : Int)).ID ∈ ((l.take n).drop k).map Part.ID then .inr ⟨10, n⟩ else .inl ((n + 1 : Nat) : Int))
  | 0, k, hm, hk => by
    have : k = n := by omega
    subst this
    have hw : w64 ((k : Int) + 1) = ((k + 1 : Nat) : Int) := by rw [w64_id (by omega) (by omega)]; omega
    refine loopO_inr ?_
    simp only [R_PartsFault_B2]
    rw [if_neg (d_f (by omega)), if_neg (by simp)]
    simp only [R_PartsFault_J2, hw]
    rfl
  | m + 1, k, hm, hk => by
    have hlt : k < l.length := by omega
    have hw : w64 ((k : Int) + 1) = ((k + 1 : Nat) : Int) := by rw [w64_id (by omega) (by omega)]; omega
    have hlt2 : k < (l.take n).length := by simp; omega
    have e : (l.take n).drop k = lget l (k : Int) :: (l.take n).drop (k + 1) := by
      rw [lget_drop _ k hlt2]
      have := lget_ltake l (n : Int) (k : Int) (by omega)
      rw [ltake_nat] at this
      rw [this]
    rw [e, List.map_cons]
    by_cases c : (lget l (k : Int)).ID = (lget l (n : Int)).ID
    · rw [if_pos (by rw [c]; simp)]
      refine loopO_inr ?_
      simp only [R_PartsFault_B2]
      rw [if_pos (d_t (by omega)), asrt_pos (by omega), if_pos (d_t c)]; rfl
    · have ih := twice_loop l hl n hn m (k + 1) (by omega) (by omega)
      have e2 : ((lget l (n : Int)).ID ∈ (lget l (k : Int)).ID :: ((l.take n).drop (k + 1)).map Part.ID) ↔ (lget l (n : Int)).ID ∈ ((l.take n).drop (k + 1)).map Part.ID := by
        rw [List.mem_cons]
        exact ⟨fun h => h.resolve_left (fun h => c h.symm), .inr⟩
      simp only [e2]
      refine (loopO_inl (y := ((k + 1 : Nat) : Int)) ?_).trans ih
      simp only [R_PartsFault_B2]
      rw [if_pos (d_t (by omega)), asrt_pos (by omega), if_neg (d_f c), hw]
def prevTo (l : List Part) (n : Nat) : List UInt8 := if n = 0 then [] else (lget l ((n : Int) - 1)).To
theorem rcheck_loop (l : List Part) (hl : l.length ≤ 200) : ∀ (m n : Nat), l.length - n = m → n ≤ l.length → R_PartsFault_L1 l (n : Int) = some (pc (prevTo l n) ((l.take n).map Part.ID) (l.drop n) n)
  | 0, n, hm, hn => by
    have : n = l.length := by omega
    subst this
    refine loopO_inr ?_
    simp only [R_PartsFault_B1]
    rw [if_neg (d_f (by omega))]
    simp [inrO, R_PartsFault_J1, pc]
  | m + 1, n, hm, hn => by
    have hlt : n < l.length := by omega
    have ih := rcheck_loop l hl m (n + 1) (by omega) (by omega)
    have et : (l.take (n + 1)).map Part.ID = (l.take n).map Part.ID ++ [(lget l (n : Int)).ID] := by rw [lget_take l n hlt, List.map_append]; rfl
    have ep : prevTo l (n + 1) = (lget l (n : Int)).To := by
      unfold prevTo
      rw [if_neg (by omega)]
      have : ((n + 1 : Nat) : Int) - 1 = (n : Int) := by omega
      rw [this]
    rw [et, ep] at ih
    rw [lget_drop l n hlt, pc]
    have hw : w64 ((n : Int) + 1) = ((n + 1 : Nat) : Int) := by rw [w64_id (by omega) (by omega)]; omega
    have hw2 : w64 ((n : Int) - 1) = (n : Int) - 1 := w64_id (by omega) (by omega)
    have h0 : (0 : Int) ≤ (n : Int) ∧ (n : Int) < (l.length : Int) := by omega
    have h1 : (n : Int) < (l.length : Int) := by omega
    have tw := twice_loop l hl n hlt n 0 (by omega) (by omega)
    rw [List.drop_zero] at tw
    have h00 : ((0 : Nat) : Int) = 0 := rfl
    rw [h00] at tw
    obtain ⟨y, s0⟩ : ∃ y, R_PartsFault_B1 l (n : Int) = y := ⟨_, rfl⟩
    have s := s0
    simp only [R_PartsFault_B1] at s
    rw [if_pos (d_t h1), asrt_pos h0] at s
    by_cases c1 : oob (lget l (n : Int))
    · rw [if_pos c1]
      refine loopO_inr ?_
      rw [if_pos (or_t (by unfold oob at c1; omega))] at s
      exact s0.trans s.symm
    · rw [if_neg c1]
      rw [if_neg (or_f (by unfold oob at c1; omega))] at s
      by_cases c2 : (lget l (n : Int)).ID < 0 ∨ 1000000000 < (lget l (n : Int)).ID
      · rw [if_pos c2]
        refine loopO_inr ?_
        rw [rnum_eq, num_f c2] at s
        exact s0.trans s.symm
      · rw [if_neg c2]
        rw [rnum_eq, num_t c2] at s
        dsimp only [lt] at s
        rw [if_neg (by decide), asrt_pos (fun h _ => by rw [hw2]; simp at h; omega), hw2] at s
        have f2 := form2 (lget l ((n : Int) - 1)).To (lget l (n : Int)) n hlt hl
        by_cases c3 : frm (prevTo l n) (lget l (n : Int)) (l.drop (n + 1))
        · rw [if_pos c3]
          refine loopO_inr ?_
          by_cases d1 : (((decide ((n : Int) = 0)) && (!decide ((lget l (n : Int)).From = ([] : List UInt8)))) || ((decide (0 < (n : Int))) && (!decide ((lget l (n : Int)).From = (lget l ((n : Int) - 1)).To)))) = true
          · rw [if_pos d1] at s
            exact s0.trans s.symm
          · rw [if_neg d1, if_pos ((f2.1 c3).resolve_left d1)] at s
            exact s0.trans s.symm
        · rw [if_neg c3]
          rw [if_neg (fun h => c3 (f2.2 (.inl h))), if_neg (fun h => c3 (f2.2 (.inr h))), tw] at s
          by_cases c4 : (lget l (n : Int)).ID ∈ (l.take n).map Part.ID
          · rw [if_pos c4]
            refine loopO_inr ?_
            rw [if_pos c4] at s
            exact s0.trans s.symm
          · rw [if_neg c4]
            rw [if_neg c4] at s
            have e : (n : Int) + 1 = ((n + 1 : Nat) : Int) := by omega
            rw [e]
            exact (loopO_inl (s0.trans s.symm)).trans ih
theorem rcheck_eq (l : List Part) : R_PartsFault l = some (partsF l) := by
  unfold R_PartsFault partsF
  by_cases h0 : l = []
  · subst h0; rfl
  · have : l.length ≠ 0 := fun h => h0 (List.eq_nil_of_length_eq_zero h)
    rw [if_neg h0, if_neg (d_f (by omega))]
    by_cases h : 200 < l.length
    · rw [if_pos h, if_pos (d_t (by omega))]; rfl
    · rw [if_neg h, if_neg (d_f (by omega))]
      have := rcheck_loop l (by omega) l.length 0 (by omega) (by omega)
      simpa [prevTo] using this
/- what is fine -/
def ch : List UInt8 → List Part → Prop
  | _, [] => False
  | a, p :: r => p.From = a ∧ ((r = [] ∧ p.To = []) ∨ (r ≠ [] ∧ Op.bytesLess p.From p.To = true ∧ ch p.To r))
def okp (p : Part) : Prop := p.From.length ≤ 40 ∧ p.To.length ≤ 40 ∧ 0 ≤ p.ID ∧ p.ID ≤ 1000000000
structure PGood (l : List Part) : Prop where
  len : l.length ≤ 200
  ok : ∀ p ∈ l, okp p
  ids : (l.map Part.ID).Nodup
  ch : ch [] l
theorem ch_ne {a : List UInt8} {l : List Part} (h : ch a l) : l ≠ [] := by rintro rfl; exact h
theorem pc_iff : ∀ (l : List Part) (fr : List UInt8) (ids : List Int) (i : Int), ((pc fr ids l i).Code = 0 ↔ (∀ p ∈ l, okp p) ∧ (∀ p ∈ l, p.ID ∉ ids) ∧ (l.map Part.ID).Nodup ∧ (l ≠ [] → ch fr l)) ∧ ((pc fr ids l i).Code = 0 → pc fr ids l i = ⟨0, 0⟩)
  | [], fr, ids, i => by simp [pc]
  | p :: r, fr, ids, i => by
    obtain ⟨i1, i2⟩ := pc_iff r p.To (ids ++ [p.ID]) (i + 1)
    rw [pc]
    by_cases c1 : oob p
    · rw [if_pos c1]
      refine ⟨⟨fun h => (by cases h), fun h => ?_⟩, fun h => (by cases h)⟩
      have := h.1 p (by simp)
      unfold okp at this; unfold oob at c1; omega
    · rw [if_neg c1]
      by_cases c2 : p.ID < 0 ∨ 1000000000 < p.ID
      · rw [if_pos c2]
        refine ⟨⟨fun h => (by cases h), fun h => ?_⟩, fun h => (by cases h)⟩
        have := h.1 p (by simp)
        unfold okp at this; omega
      · rw [if_neg c2]
        by_cases c3 : frm fr p r
        · rw [if_pos c3]
          refine ⟨⟨fun h => (by cases h), fun h => ?_⟩, fun h => (by cases h)⟩
          obtain ⟨h1, h2⟩ := h.2.2.2 (by simp)
          rcases c3 with c3 | c3 | c3
          · exact absurd h1 c3
          · rcases h2 with h2 | h2
            · exact absurd h2.2 c3.2
            · exact absurd c3.1 h2.1
          · rcases h2 with h2 | h2
            · exact absurd h2.1 c3.1
            · rw [c3.2] at h2; cases h2.2.1
        · rw [if_neg c3]
          by_cases c4 : p.ID ∈ ids
          · rw [if_pos c4]
            exact ⟨⟨fun h => (by cases h), fun h => absurd c4 (h.2.1 p (by simp))⟩, fun h => (by cases h)⟩
          · rw [if_neg c4]
            refine ⟨i1.trans ?_, i2⟩
            have hf : p.From = fr := by
              by_cases h : p.From = fr
              · exact h
              · exact absurd (.inl h) c3
            constructor
            · rintro ⟨g1, g2, g3, g4⟩
              refine ⟨fun q hq => ?_, fun q hq => ?_, ?_, fun _ => ⟨hf, ?_⟩⟩
              · rcases List.mem_cons.1 hq with rfl | hq
                · unfold okp; unfold oob at c1; omega
                · exact g1 q hq
              · rcases List.mem_cons.1 hq with rfl | hq
                · exact c4
                · exact fun h => g2 q hq (by simp [h])
              · rw [List.map_cons, List.nodup_cons]
                refine ⟨fun h => ?_, g3⟩
                obtain ⟨q, hq, e⟩ := List.mem_map.1 h
                exact g2 q hq (by simp [e])
              · by_cases hr : r = []
                · refine .inl ⟨hr, ?_⟩
                  by_cases h : p.To = []
                  · exact h
                  · exact absurd (.inr (.inl ⟨hr, h⟩)) c3
                · refine .inr ⟨hr, ?_, g4 hr⟩
                  cases h : Op.bytesLess p.From p.To with
                  | true => rfl
                  | false => exact absurd (.inr (.inr ⟨hr, h⟩)) c3
            · rintro ⟨g1, g2, g3, g4⟩
              rw [List.map_cons, List.nodup_cons] at g3
              refine ⟨fun q hq => g1 q (by simp [hq]), fun q hq h => ?_, g3.2, fun hr => ?_⟩
              · rcases List.mem_append.1 h with h | h
                · exact g2 q (by simp [hq]) h
                · exact g3.1 (List.mem_map.2 ⟨q, hq, by simpa using h⟩)
              · exact ((g4 (by simp)).2.resolve_left (fun h => hr h.1)).2.2
theorem partsF_good {l : List Part} : (partsF l).Code = 0 ↔ PGood l := by
  unfold partsF
  by_cases h0 : l = []
  · rw [if_pos h0]
    exact ⟨fun h => (by cases h), fun h => absurd h0 (ch_ne h.ch)⟩
  · rw [if_neg h0]
    by_cases h : 200 < l.length
    · rw [if_pos h]
      exact ⟨fun h => (by cases h), fun h2 => by have := h2.len; omega⟩
    · rw [if_neg h]
      refine (pc_iff l [] [] 0).1.trans ⟨fun ⟨g1, g2, g3, g4⟩ => ⟨by omega, g1, g3, g4 h0⟩, fun g => ⟨g.ok, by simp, g.ids, fun _ => g.ch⟩⟩
theorem partsF_zero {l : List Part} (h : (partsF l).Code = 0) : partsF l = ⟨0, 0⟩ := by
  have hg := partsF_good.1 h
  unfold partsF at *
  rw [if_neg (ch_ne hg.ch), if_neg (by have := hg.len; omega)] at *
  exact (pc_iff l [] [] 0).2 h
end G
end Go.Proofs.Ytdjlninhfndjfaa
