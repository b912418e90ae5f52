/- Open, May and Find of any bytes. -/
import Derived.Test.YtollmifjbcccgaaPFileR
namespace Go.Proofs.Ytollmifjbcccgaa
open Go Go.Dm
set_option linter.unusedVariables false
set_option linter.unusedSectionVars false
set_option linter.unusedSimpArgs false
namespace G
/-- a file that is fine: what stands in it -/
structure FineO (b : List UInt8) (rows : List (List UInt8)) (gs : List (List Cell)) (L : List (List UInt8)) : Prop where
  o : openS b = (true, ⟨L.take rows.length, rows, filF gs.flatten⟩, ⟨0, 0⟩)
  f : fileO b = (gs.flatten, lens gs, ⟨0, 0⟩)
  good : Good gs.flatten
  few : gs.flatten.length ≤ 500
  blk : Blk L rows 0 gs
  len : gs.length = rows.length
  le : rows.length ≤ L.length
  many : L.length ≤ 100000
theorem fine_or (b : List UInt8) : (∃ f : Fault, ¬ f.Code = 0 ∧ fileO b = ([], [], f)) ∨ ∃ rows gs L, FineO b rows gs L := by
  by_cases c : 60000 < b.length
  · exact .inl ⟨⟨8, 0⟩, by decide, by unfold fileO; rw [if_pos c]⟩
  · by_cases cb : badO b
    · exact .inl ⟨⟨5, 0⟩, by decide, by unfold fileO; rw [if_neg c, if_pos cb]⟩
    · have h2 := badO_f cb
      have hlen := opn_len b.length b [] 0
      have ho : openS b = opI (opn b.length b [] 0).1 (idxO (opn b.length b [] 0).1) := by unfold openS; rw [if_neg c, if_neg cb]
      have hf : fileO b = fileO b := rfl
      conv at hf =>
        rhs
        unfold fileO
        rw [if_neg c, if_neg cb]
      unfold idxO at ho hf
      generalize (opn b.length b [] 0).1 = L at *
      have hL : L.length ≤ 60000 := by have := hlen.1; simp at this; omega
      cases hi : idxP L (L.length - 2) 0 (lget L ((L.length : Int) - 2)) [] with
      | none => rw [hi] at hf; exact .inl ⟨⟨5, 1⟩, by decide, hf⟩
      | some rows =>
        have hrl := idxP_len L _ _ _ _ _ hi
        have hrl : rows.length = L.length - 2 := by simpa using hrl
        rw [hi] at hf ho
        dsimp only at hf
        cases hq : celP L rows (L.length - 2) 0 [] [] with
        | none => rw [hq] at hf; exact .inl ⟨⟨5, 2⟩, by decide, hf⟩
        | some q =>
          obtain ⟨gs, g1, g2, g3⟩ := celP_blk L rows _ _ _ _ _ hq
          rw [hq] at hf
          unfold endO at hf
          rw [g3] at hf
          simp only [List.nil_append] at hf
          by_cases cc : ¬ (cellF gs.flatten).Code = 0 ∨ 500 < gs.flatten.length
          · rw [if_pos cc] at hf; exact .inl ⟨⟨5, 2⟩, by decide, hf⟩
          · rw [if_neg cc] at hf
            have hz : (cellF gs.flatten).Code = 0 := Decidable.not_not.1 (fun x => cc (.inl x))
            by_cases cf : filF gs.flatten = lget L ((L.length : Int) - 1)
            · rw [if_pos cf] at hf
              refine .inr ⟨rows, gs, L, ?_, hf, cellF_good hz, by omega, g2, by omega, by omega, by omega⟩
              rw [ho, cf, hrl]
              rfl
            · rw [if_neg cf] at hf
              exact .inl ⟨⟨5, 3⟩, by decide, hf⟩
theorem open_1 (b : List UInt8) : file_Open b = some ((fileO b).1, (fileO b).2.2) := open_any b
theorem may_filF {l : List Cell} (hG : Good l) (row : List UInt8) (hr : row.length ≤ 140737488351232) : file_may (filF l) row = some (mayF l row) := by
  have hl := hG.len
  have hN := filN_bd l
  unfold filF mayF
  exact may_eq _ (filN l) (by omega) (by omega) row hr
theorem May_bad {b : List UInt8} {f : Fault} (hf : ¬ f.Code = 0) (h : fileO b = ([], [], f)) (row : List UInt8) : file_May b row = some (false, f) := by
  unfold file_May
  rw [open_1, ob_some, h]
  dsimp only
  rw [if_pos (n_t hf)]
theorem May_fine {b : List UInt8} {rows : List (List UInt8)} {gs : List (List Cell)} {L : List (List UInt8)} (h : FineO b rows gs L) (row : List UInt8) (hr : row.length ≤ 140737488351232) : file_May b row = some (mayF gs.flatten row, ⟨0, 0⟩) := by
  unfold file_May
  rw [open_1, ob_some, h.f]
  dsimp only
  rw [if_neg (n_f rfl), open_all, ob_some, h.o]
  dsimp only
  rw [asrt_pos rfl, may_filF h.good row hr, ob_some]
theorem Find_bad {b : List UInt8} {f : Fault} (hf : ¬ f.Code = 0) (h : fileO b = ([], [], f)) (row col : List UInt8) (t : Int) : file_Find b row col t = some ([], false, 0, f) := by
  unfold file_Find
  rw [open_1, ob_some, h]
  dsimp only
  rw [if_pos (n_t hf)]
theorem Find_time {b : List UInt8} {rows : List (List UInt8)} {gs : List (List Cell)} {L : List (List UInt8)} (h : FineO b rows gs L) (row col : List UInt8) (t : Int) (ht : t < 0 ∨ 1000000000 < t) : file_Find b row col t = some ([], false, 0, ⟨3, -1⟩) := by
  unfold file_Find
  rw [open_1, ob_some, h.f]
  dsimp only
  rw [if_neg (n_f rfl), if_pos (or_t ht)]; rfl
theorem Find_fine {b : List UInt8} {rows : List (List UInt8)} {gs : List (List Cell)} {L : List (List UInt8)} (h : FineO b rows gs L) (row col : List UInt8) (hr : row.length ≤ 140737488351232) (t : Int) (ht : ¬ (t < 0 ∨ 1000000000 < t)) : file_Find b row col t = some (if mayF gs.flatten row = true then findS rows gs.flatten row col t else ([], false, 0, ⟨0, 0⟩)) := by
  unfold file_Find
  rw [open_1, ob_some, h.f]
  dsimp only
  rw [if_neg (n_f rfl), if_neg (or_f ht), open_all, ob_some, h.o]
  dsimp only
  rw [asrt_pos rfl, may_filF h.good row hr, ob_some]
  cases mayF gs.flatten row with
  | false => rfl
  | true =>
    have hle := h.le
    have hm := h.many
    rw [if_neg (by decide), if_pos rfl, find_L1 row col t _ _ rows (by omega)]
    exact find_J1 _ h.blk h.good row col t _ h.len h.le h.many
/-- a row that is there may be there -/
theorem may_there {l : List Cell} {c : Cell} (hG : Good l) (hc : c ∈ l) : mayF l c.Row = true := by
  obtain ⟨i, hi, rfl⟩ := List.mem_iff_getElem.1 hc
  unfold mayF mayP
  have hh : ∀ x, hit (lget l (i : Int)).Row (8 * filN l) x → rowP (celR l) (8 * filN l) l.length x = true := fun x hx => (rowP_iff _ _ _ _).2 ⟨i, hi, by rw [celR_get l i hi]; exact hx⟩
  rw [lget_nat l i hi] at hh
  rw [hh _ (.inl rfl), hh _ (.inr (.inl rfl)), hh _ (.inr (.inr rfl))]; rfl
end G
end Go.Proofs.Ytollmifjbcccgaa
