/- Notes: what Check says, Put, and the document's PutNotes. -/
import Derived.Test.YtollmifjbcccgaaPWalF
namespace Go.Proofs.Ytollmifjbcccgaa
open Go Go.Dm
set_option linter.unusedVariables false
set_option linter.unusedSectionVars false
set_option linter.unusedSimpArgs false
namespace G
theorem note_eta (n : Note) : (⟨n.Seq, n.Cells⟩ : Note) = n := rfl
noncomputable def noteF (n : Note) : Fault := if n.Seq < 1 ∨ 1000000000 < n.Seq then ⟨3, -1⟩ else if n.Cells.length = 0 ∨ 20 < n.Cells.length then ⟨2, -1⟩ else cellF n.Cells
theorem wcheck_eq (n : Note) : wal_Check n = some (noteF n) := by
  unfold wal_Check noteF
  by_cases c : n.Seq < 1 ∨ 1000000000 < n.Seq
  · rw [if_pos (or_t c), if_pos c]; rfl
  · rw [if_neg (or_f c), if_neg c]
    by_cases c2 : n.Cells.length = 0 ∨ 20 < n.Cells.length
    · rw [if_pos (or_t (by omega)), if_pos c2]; rfl
    · rw [if_neg (or_f (by omega)), if_neg c2, check_eq, ob_some]
theorem rnote_eq (n : Note) : R_NoteFault n = some (noteF n) := by
  unfold R_NoteFault noteF
  by_cases c : n.Seq < 1 ∨ 1000000000 < n.Seq
  · rw [if_pos (or_t c), if_pos c]; rfl
  · rw [if_neg (or_f c), if_neg c]
    by_cases c2 : n.Cells.length = 0 ∨ 20 < n.Cells.length
    · rw [if_pos (or_t (by omega)), if_pos c2]; rfl
    · rw [if_neg (or_f (by omega)), if_neg c2, rcheck_eq, ob_some]
structure NGood (n : Note) : Prop where
  f : noteF n = ⟨0, 0⟩
  lo : 1 ≤ n.Seq
  hi : n.Seq ≤ 1000000000
  len : n.Cells.length ≤ 20
  cells : Good n.Cells
theorem noteF_good {n : Note} (h : (noteF n).Code = 0) : NGood n := by
  unfold noteF at h
  by_cases c : n.Seq < 1 ∨ 1000000000 < n.Seq
  · rw [if_pos c] at h; cases h
  · rw [if_neg c] at h
    by_cases c2 : n.Cells.length = 0 ∨ 20 < n.Cells.length
    · rw [if_pos c2] at h; cases h
    · rw [if_neg c2] at h
      have hg := cellF_good h
      exact ⟨by unfold noteF; rw [if_neg c, if_neg c2]; exact hg.f, by omega, by omega, by omega, hg⟩
/- reading -/
theorem note1F : noteF law_oneNote = ⟨0, 0⟩ := by
  simp [law_oneNote, lt, noteF, cellF, ck, R_CellCode, okp]
theorem add1 (n : Int) (h : n ≤ 127) (row : List UInt8) (hr : row.length ≤ 1000) : wire_AddNum_v2 n row = some (row ++ [toU8 n]) := by
  refine loopO_inr ?_
  unfold wire_AddNum_v2_B1 wire_AddNum_v2_J1
  dsimp only
  rw [if_neg (d_f (by omega)), asrt_pos (by simp; omega)]; rfl
theorem add0 (n : Int) (h : n ≤ 127) : wire_AddNum_v1 n = some [toU8 n] := by
  refine loopO_inr ?_
  unfold wire_AddNum_v1_B1 wire_AddNum_v1_J1
  dsimp only
  rw [if_neg (d_f (by omega)), asrt_pos (by simp)]; rfl
theorem text1 (s row : List UInt8) (hs : s.length ≤ 127) (hr : row.length ≤ 1000) : wire_AddText_v1 s row = some (row ++ [toU8 (s.length : Int)] ++ s) := by
  unfold wire_AddText_v1
  rw [add1 _ (by omega) row hr, ob_some, asrt_pos (by simp; omega)]
theorem walBegun : law_walBegun = some true := by
  unfold law_walBegun
  have hb : wal_bytes law_oneNote = some [1, 1, 114, 1, 99, 7, 0, 1, 97] := by
    unfold wal_bytes
    rw [show law_oneNote.Seq = 1 from rfl, add0 1 (by omega), ob_some]
    unfold wal_bytes_L1
    rw [loopO_eq]
    have h0 : wal_bytes_B1 ([toU8 1], law_oneNote.Cells, (law_oneNote.Cells.length : Int), 0) = some (.inl ([1, 1, 114, 1, 99, 7, 0, 1, 97], law_oneNote.Cells, 1, 1)) := by
      unfold wal_bytes_B1
      dsimp only
      rw [if_pos (by decide), asrt_pos (by decide)]
      have e : cell_Add_v1 (⟨(lget law_oneNote.Cells 0).Row, (lget law_oneNote.Cells 0).Col, (lget law_oneNote.Cells 0).Time, (lget law_oneNote.Cells 0).Gone, (lget law_oneNote.Cells 0).Value⟩ : Cell) [toU8 1] = some [1, 1, 114, 1, 99, 7, 0, 1, 97] := by
        show cell_Add_v1 ⟨[114], [99], 7, false, [97]⟩ [toU8 1] = _
        unfold cell_Add_v1
        dsimp only
        rw [text1 _ _ (by simp) (by simp), ob_some, text1 _ _ (by simp) (by simp), ob_some, if_neg (by decide), ob_some]
        dsimp only
        rw [add1 _ (by omega) _ (by simp), ob_some, add1 _ (by omega) _ (by simp), ob_some, text1 _ _ (by simp) (by simp), ob_some]
        rfl
      rw [e, ob_some]; rfl
    rw [h0]
    dsimp only
    rw [loopO_eq]
    rfl
  have hw : wal_Write_v1 law_oneNote = some ([1, 1, 114, 1, 99, 7, 0, 1, 97], ⟨0, 0⟩) := by
    unfold wal_Write_v1
    rw [wcheck_eq, ob_some, note1F, if_neg (by decide), hb, ob_some]
  simp only [lt, hw, ob_some]
  simp [R_Same]
/-- all cells of notes, the last note's first -/
def allC (l : List Note) : List Cell := (l.reverse.map (fun x => x.Cells)).flatten
theorem allC_cons (n : Note) (l : List Note) : allC (n :: l) = allC l ++ n.Cells := by simp [allC]
theorem allC_append (a b : List Note) : allC (a ++ b) = allC b ++ allC a := by simp [allC]
theorem allC_mem {l : List Note} {c : Cell} : c ∈ allC l ↔ ∃ n ∈ l, c ∈ n.Cells := by
  simp only [allC, List.mem_flatten, List.mem_map, List.mem_reverse]
  exact ⟨fun ⟨x, ⟨n, h1, h2⟩, h3⟩ => ⟨n, h1, by rw [h2]; exact h3⟩, fun ⟨n, h1, h2⟩ => ⟨n.Cells, ⟨n, h1, rfl⟩, h2⟩⟩
theorem allC_len : ∀ (l : List Note), (∀ n ∈ l, n.Cells.length ≤ 20) → (allC l).length ≤ 20 * l.length
  | [], _ => by simp [allC]
  | n :: l, h => by
    have h1 := allC_len l fun m hm => h m (List.mem_cons_of_mem _ hm)
    have h2 := h n (List.mem_cons_self ..)
    rw [allC_cons, List.length_append, List.length_cons]
    omega
theorem put_eq (l : List Cell) (ns : List Note) (hl : l.length ≤ 1000000) (hn : ns.length ≤ 1000000) (hc : (allC ns).length ≤ 1000000) : wal_Put l ns = some (firsts (allC ns ++ l)) := by
  have hf : (ns.reverse.map (fun x => x.Cells) ++ [l]).flatten = allC ns ++ l := by simp [allC]
  unfold wal_Put
  rw [asrt_pos (by omega), merge_eq _ (by rw [hf, List.length_append]; omega) (by simp; omega), hf]
theorem stab_all : ∀ (l : List Note), (∀ n ∈ l, n.Cells.Pairwise ah) → Stab (l.map (fun x => x.Cells)).flatten.reverse (allC l)
  | [], _ => fun _ => rfl
  | n :: l, h => by
    have h1 := stab_all l fun m hm => h m (List.mem_cons_of_mem _ hm)
    rw [List.map_cons, List.flatten_cons, List.reverse_append, allC_cons]
    exact h1.app (stab_rev (h n (List.mem_cons_self ..))).symm
theorem puts_eq (l : List Cell) (ns : List Note) (hs : l.Pairwise ah) (hl : l.length ≤ 1000000) (hn : ns.length ≤ 1000000) (hg : ∀ n ∈ ns, NGood n) : R_PutNotes l ns = some (firsts (allC ns ++ l)) := by
  have hcl : ∀ n ∈ ns, n.Cells.length ≤ 20 := fun n h => (hg n h).len
  have hal := allC_len ns hcl
  have e : firsts (allC ns ++ l) = firsts ((ns.map (fun x => x.Cells)).flatten.reverse ++ l) := firsts_congr (Stab.app (stab_all ns fun n h => (hg n h).cells.srt).symm (Stab.refl l))
  rw [e]
  have key : ∀ (R D : List Note) (m x : List Cell), ns = D ++ R → Firsts m x → x.length ≤ 1000000 + 20 * D.length → R_PutNotes_L1 ns (x, (D.length : Int)) = some (firsts ((R.map (fun x => x.Cells)).flatten.reverse ++ m)) := by
    intro R
    induction R with
    | nil =>
      intro D m x h hF hx
      refine loopO_inr ?_
      unfold R_PutNotes_B1
      dsimp only
      rw [if_neg (d_f (by rw [h]; simp))]
      show some (Sum.inr x) = some (Sum.inr (firsts m))
      rw [firsts_is hF]
    | cons n R ih =>
      intro D m x h hF hx
      have hnl : n.Cells.length ≤ 20 := hcl n (by rw [h]; simp)
      have hDl : D.length + (R.length + 1) = ns.length := by rw [h]; simp
      have hp := rputs_eq x n.Cells m hF (by omega)
      have hget : lget ns (D.length : Int) = n := by rw [h, lget_nat _ D.length (by simp)]; simp
      have h2 : ns = (D ++ [n]) ++ R := by rw [h]; simp
      have hfl : (firsts (n.Cells.reverse ++ m)).length ≤ 1000000 + 20 * (D ++ [n]).length := by
        obtain ⟨y, hy, hF2, hyl⟩ := rputs_loop n.Cells n.Cells [] m x rfl hF (by omega) (by omega)
        rw [← firsts_is hF2, List.length_append]
        simp only [List.length_cons, List.length_nil]
        omega
      have := ih (D ++ [n]) (n.Cells.reverse ++ m) _ h2 (firsts_ok _) hfl
      refine (loopO_inl ?_).trans (this.trans (by simp))
      unfold R_PutNotes_B1
      dsimp only
      rw [if_pos (d_t (by omega)), asrt_pos (by omega), hget, hp, ob_some]
      have : w64 ((D.length : Int) + 1) = (((D ++ [n]).length : Nat) : Int) := by rw [w64_id (by omega) (by omega)]; simp
      rw [this]
  exact key ns [] l l rfl (by have := firsts_ok l; rw [firsts_self hs] at this; exact this) (by simp; omega)
end G
end Go.Proofs.Ytollmifjbcccgaa
