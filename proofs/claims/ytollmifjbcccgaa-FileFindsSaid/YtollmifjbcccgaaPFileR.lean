/- What Find reads, and how many blocks the document says. -/
import Derived.Test.YtollmifjbcccgaaPFileP
namespace Go.Proofs.Ytollmifjbcccgaa
open Go Go.Dm
set_option linter.unusedVariables false
set_option linter.unusedSectionVars false
set_option linter.unusedSimpArgs false
namespace G
theorem lens_len (gs : List (List Cell)) : (lens gs).length = gs.length := by unfold lens; rw [List.length_map]
/-- how many blocks are read -/
def many (rows : List (List UInt8)) (row : List UInt8) : Nat := (ftK rows row rows.length).2 - (ftK rows row rows.length).1
theorem blk_at {L rows : List (List UInt8)} {gs : List (List Cell)} (hB : Blk L rows 0 gs) (k : Nat) (hk : k < gs.length) : ((gs.take k).flatten).length < gs.flatten.length ∧ (lget gs.flatten (((gs.take k).flatten).length : Int)).Row = lget rows (k : Int) ∧ ((gs.take (k + 1)).flatten).length = ((gs.take k).flatten).length + (gs[k]'hk).length := by
  have hd := Blk_drop L rows k 0 gs hB
  rw [Nat.zero_add, List.drop_eq_getElem_cons hk] at hd
  obtain ⟨c, t, hg, hc⟩ := Blk_head hd
  have e : gs.flatten = (gs.take k).flatten ++ (c :: t ++ (gs.drop (k + 1)).flatten) := by
    rw [← hg, ← List.flatten_cons, ← List.drop_eq_getElem_cons hk, ← List.flatten_append, List.take_append_drop]
  refine ⟨by rw [e, List.length_append]; simp, ?_, ?_⟩
  · rw [e, lget_nat _ _ (by simp), List.getElem_append_right (Nat.le_refl _)]
    simpa using hc
  · rw [List.take_add_one, List.flatten_append, List.length_append]; simp [List.getElem?_eq_getElem hk]
theorem blocksFor {L rows : List (List UInt8)} {gs : List (List Cell)} (hB : Blk L rows 0 gs) (row : List UInt8) (hr : gs.length = rows.length) (hl : rows.length ≤ 100000) (hf : gs.flatten.length ≤ 1000000) : R_BlocksFor gs.flatten (lens gs) row = some (many rows row : Int) := by
  have key : ∀ (m k : Nat), gs.length - k = m → k ≤ gs.length → R_BlocksFor_L1 gs.flatten (lens gs) row (((ftK rows row k).1 : Int), ((ftK rows row k).2 : Int), (((gs.take k).flatten).length : Int), (k : Int)) = some (many rows row : Int) := by
    intro m
    induction m with
    | zero =>
      intro k e hk
      have : k = rows.length := by omega
      subst this
      have h1 := ftK_le rows row rows.length
      have h2 := ft_ord rows row rows.length
      refine loopO_inr ?_
      unfold R_BlocksFor_B1
      dsimp only
      rw [lens_len, if_neg (d_f (by omega))]
      unfold R_BlocksFor_J1 many
      dsimp only
      rw [w64_id (by omega) (by omega)]
      refine congrArg (fun x => some (Sum.inr x)) ?_
      omega
    | succ m ih =>
      intro k e hk
      have hk' : k < gs.length := by omega
      obtain ⟨h1, h2, h3⟩ := blk_at hB k hk'
      have hw : w64 ((k : Int) + 1) = ((k + 1 : Nat) : Int) := by rw [w64_id (by omega) (by omega)]; omega
      have hle : ((gs.take (k + 1)).flatten).length ≤ 1000000 := by
        have : gs.flatten.length = ((gs.take (k + 1)).flatten).length + ((gs.drop (k + 1)).flatten).length := by rw [← List.length_append, ← List.flatten_append, List.take_append_drop]
        omega
      have hg : lget (lens gs) (k : Int) = ((gs[k]'hk').length : Int) := by
        rw [lget_nat _ _ (by rw [lens_len]; exact hk')]; unfold lens; rw [List.getElem_map]
      have hwa : w64 ((((gs.take k).flatten).length : Int) + ((gs[k]'hk').length : Int)) = (((gs.take (k + 1)).flatten).length : Int) := by rw [w64_id (by omega) (by omega)]; omega
      refine (loopO_inl ?_).trans (ih (k + 1) (by omega) (by omega))
      unfold R_BlocksFor_B1
      dsimp only
      rw [lens_len, if_pos (d_t (by omega)), asrt_pos (by omega), h2, hw, ftK]
      cases Op.bytesLess (lget rows (k : Int)) row <;> cases Op.bytesLess row (lget rows (k : Int)) <;> (simp only [ob_some, if_true, Bool.not_true, Bool.not_false, if_neg (show ¬ (false = true) by decide)]; rw [asrt_pos (by omega), asrt_pos (by omega), hg, hwa])
  have := key gs.length 0 (by omega) (by omega)
  exact this
/-- what Find tells of a file that is fine -/
noncomputable def findS (rows : List (List UInt8)) (l : List Cell) (row col : List UInt8) (t : Int) : List UInt8 × Bool × Int × Fault := ((newS l row col t).1.Value, (newS l row col t).2 && !(newS l row col t).1.Gone, (many rows row : Int), ⟨0, 0⟩)
theorem newS_congr {a b : List Cell} {row col : List UInt8} {t : Int} (h : fnd a row col t = fnd b row col t) : newS a row col t = newS b row col t := by
  unfold newS; rw [h]
theorem celP_take' (L rows : List (List UInt8)) (n : Nat) (hn : n ≤ L.length) : ∀ (m k : Nat) (acc : List Cell) (es : List Int), k + m ≤ n → celP (L.take n) rows m k acc es = celP L rows m k acc es
  | 0, k, acc, es, _ => rfl
  | m + 1, k, acc, es, e => by
    have hg : lget (L.take n) (k : Int) = lget L (k : Int) := by
      have := lget_ltake L (n : Int) (k : Int) (by omega)
      rwa [ltake_nat] at this
    rw [celP, celP, hg]
    split
    · rfl
    · exact celP_take' L rows n hn m (k + 1) _ _ (by omega)
theorem find_J1 {L rows : List (List UInt8)} {gs : List (List Cell)} (flt : List UInt8) (hB : Blk L rows 0 gs) (hG : Good gs.flatten) (row col : List UInt8) (t : Int) (z : Fault) (hr : gs.length = rows.length) (hL : rows.length ≤ L.length) (hl : L.length ≤ 100000) :
    file_Find_J1 row col t (z, ⟨L.take rows.length, rows, flt⟩, ((ftK rows row rows.length).1 : Int), ((ftK rows row rows.length).2 : Int)) = some (findS rows gs.flatten row col t) := by
  have h1 := ftK_le rows row rows.length
  have h2 := ft_ord rows row rows.length
  have hc : cut rows row gs = ((gs.drop (ftK rows row rows.length).1).take ((ftK rows row rows.length).2 - (ftK rows row rows.length).1)).flatten := by unfold cut; rw [hr]
  have hf := fnd_cut hB hG.srt row col t
  have hs := cut_sub rows row gs
  have hgc : Good (cut rows row gs) := good_of (by have := hs.length_le; have := hG.len; omega) (fun c h => hG.code c (hs.subset h)) (hG.srt.sublist hs)
  have hbk : Blk L rows (ftK rows row rows.length).1 ((gs.drop (ftK rows row rows.length).1).take ((ftK rows row rows.length).2 - (ftK rows row rows.length).1)) := by
    have := Blk_drop L rows (ftK rows row rows.length).1 0 gs hB
    rw [Nat.zero_add] at this
    exact Blk_take L rows _ _ _ this
  have hw : w64 (((ftK rows row rows.length).2 : Int) - ((ftK rows row rows.length).1 : Int)) = (many rows row : Int) := by
    unfold many; rw [w64_id (by omega) (by omega)]; omega
  unfold file_Find_J1
  dsimp only
  rw [hw]
  generalize (ftK rows row rows.length).1 = f at *
  generalize (ftK rows row rows.length).2 = e at *
  have hlen : ((gs.drop f).take (e - f)).length = e - f := by rw [List.length_take, List.length_drop]; omega
  have hcp := celP_of L rows _ f [] [] hbk
  rw [hlen] at hcp
  have hcl : file_opened_cells (L.take rows.length) rows flt (f : Int) (e : Int) = some (cut rows row gs, true) := by
    have := cells_loop (L.take rows.length) rows flt e (by rw [List.length_take]; omega) (by omega) (by omega) (e - f) f [] [] rfl h2 (by simp)
    rw [celP_take' L rows rows.length (by omega) _ _ _ _ (by omega), hcp, List.nil_append, ← hc] at this
    unfold cellsO at this
    dsimp only at this
    rw [hgc.f] at this
    exact this
  rw [hcl, ob_some, newest_eq _ hgc, ob_some, newS_congr hf]
  rfl
end G
end Go.Proofs.Ytollmifjbcccgaa
