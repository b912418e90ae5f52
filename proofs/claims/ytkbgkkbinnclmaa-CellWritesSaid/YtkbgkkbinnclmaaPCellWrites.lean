/- Cells are written and read as the document says, and as they were. -/
import Derived.Test.YtkbgkkbinnclmaaPCellA
import Derived.Test.YtkbgkkbinnclmaaPNum
namespace Go.Proofs.Ytkbgkkbinnclmaa
open Go Go.Dm
set_option linter.unusedVariables false
set_option linter.unusedSimpArgs false
namespace G
theorem code_len {c : Cell} (h : R_CellCode c = 0) : c.Row.length ≤ 40 ∧ c.Col.length ≤ 40 ∧ c.Value.length ≤ 200 ∧ 0 ≤ c.Time ∧ c.Time ≤ 1000000000 := by
  unfold R_CellCode at h
  split at h
  · cases h
  · rename_i h1
    split at h
    · cases h
    · rename_i h2
      simp at h1 h2
      omega
def wrC (c : Cell) : List UInt8 := wrT c.Row ++ (wrT c.Col ++ (num c.Time.toNat ++ ((if c.Gone = true then [1] else [0]) ++ wrT c.Value)))
theorem wrC_len {c : Cell} (h : R_CellCode c = 0) : (wrC c).length ≤ 310 ∧ 0 < (wrC c).length := by
  obtain ⟨h1, h2, h3, h4, h5⟩ := code_len h
  have a1 := wrT_len c.Row (by omega)
  have a2 := wrT_len c.Col (by omega)
  have a3 := wrT_len c.Value (by omega)
  have a4 := num_len5 (n := c.Time.toNat) (by omega)
  have a5 : (if c.Gone = true then ([1] : List UInt8) else [0]).length = 1 := by split <;> rfl
  unfold wrC
  simp only [List.length_append, a5]; omega
theorem num01 (b : Bool) : num (if b = true then 1 else 0) = if b = true then [1] else [0] := by
  cases b
  · rw [if_neg (by simp), num_lt (by omega)]; rfl
  · rw [if_pos rfl, num_lt (by omega)]; rfl
theorem add_eq (c : Cell) (h : R_CellCode c = 0) (row : List UInt8) (hr : row.length ≤ 1000000) : cell_Add_v2 c row = some (row ++ wrC c) := by
  obtain ⟨h1, h2, h3, h4, h5⟩ := code_len h
  have a1 := wrT_len c.Row (by omega)
  have a2 := wrT_len c.Col (by omega)
  have a4 := num_len5 (n := c.Time.toNat) (by omega)
  have et : (c.Time) = ((c.Time.toNat : Nat) : Int) := by omega
  unfold cell_Add_v2
  rw [addText_eq c.Row row (by omega) (by omega), ob_some, addText_eq c.Col _ (by omega) (by simp; omega), ob_some]
  have e : (if c.Gone = true then some (c, (1 : Int)) else some (c, 0)) = some (c, ((if c.Gone = true then 1 else 0 : Nat) : Int)) := by cases c.Gone <;> rfl
  rw [e, ob_some]
  dsimp only
  have hn : (num (if c.Gone = true then 1 else 0)).length = 1 := by rw [num01]; split <;> rfl
  rw [et, addNum_eq _ _ (by simp; omega), ob_some, addNum_eq _ _ (by simp; omega), ob_some, addText_eq c.Value _ (by omega) (by simp; omega), ob_some, num01]
  simp [wrC]
def encC (l : List Cell) : List UInt8 := wrAll wrC l
theorem encC_cons (c : Cell) (l : List Cell) : encC (c :: l) = wrC c ++ encC l := by simp [encC, wrAll]
noncomputable def writeS (l : List Cell) : List UInt8 × Fault := if (cellF l).Code = 0 then (if 60000 < (encC l).length then ([], ⟨9, 0⟩) else (encC l, ⟨0, 0⟩)) else ([], cellF l)
theorem write_loop (l : List Cell) (hl : l.length ≤ 1000) (hc : ∀ c ∈ l, R_CellCode c = 0) (z : Fault) : ∀ (m k : Nat) (acc : List UInt8), l.length - k = m → k ≤ l.length → acc.length ≤ 60000 →
    cell_Write_v1_L1 l (z, acc, (k : Int)) = some (if 60000 < (acc ++ encC (l.drop k)).length then ([], ⟨9, 0⟩) else (acc ++ encC (l.drop k), ⟨0, 0⟩))
  | 0, k, acc, e, hk, ha => by
    have : k = l.length := by omega
    subst this
    have e0 : acc ++ encC (l.drop l.length) = acc := by simp [encC, wrAll]
    rw [e0, if_neg (by omega)]
    refine loopO_inr ?_
    simp only [cell_Write_v1_B1]
    rw [if_neg (d_f (by omega))]
    rfl
  | m + 1, k, acc, e, hk, ha => by
    have hlt : k < l.length := by omega
    have hw : w64 ((k : Int) + 1) = ((k + 1 : Nat) : Int) := by rw [w64_id (by omega) (by omega)]; omega
    have hx := hc _ (lget_mem l (k : Int) (by omega))
    rw [lget_drop l k hlt, encC_cons, ← List.append_assoc]
    have h1 := add_eq (lget l (k : Int)) hx acc (by omega)
    have hwl := (wrC_len hx).1
    have hal : (acc ++ wrC (lget l (k : Int))).length ≤ 60310 := by simp; omega
    generalize hacc : acc ++ wrC (lget l (k : Int)) = acc' at *
    by_cases c : 60000 < acc'.length
    · rw [if_pos (by rw [List.length_append]; omega)]
      refine loopO_inr ?_
      simp only [cell_Write_v1_B1, cell_eta]
      rw [if_pos (d_t (by omega)), asrt_pos (by omega), h1, ob_some, if_pos (d_t (by omega))]; rfl
    · refine (loopO_inl (y := (z, acc', ((k + 1 : Nat) : Int))) ?_).trans (write_loop l hl hc z m (k + 1) acc' (by omega) (by omega) (by omega))
      simp only [cell_Write_v1_B1, cell_eta]
      rw [if_pos (d_t (by omega)), asrt_pos (by omega), h1, ob_some, if_neg (d_f (by omega)), hw]
theorem write_eq (l : List Cell) : cell_Write_v1 l = some (writeS l) := by
  unfold cell_Write_v1 writeS
  rw [check_eq, ob_some]
  by_cases c : (cellF l).Code = 0
  · have hg := cellF_good c
    rw [if_neg (n_f c), if_pos c]
    have := write_loop l hg.len hg.code ⟨0, 0⟩ l.length 0 [] (by omega) (by omega) (by simp)
    simpa using this
  · rw [if_pos (n_t c), if_neg c]
/- cells read -/
noncomputable def rdC (b : List UInt8) : Option (Cell × List UInt8) :=
  match rdT b with
  | none => none
  | some (row, b1) => match rdT b1 with
    | none => none
    | some (col, b2) => match rdN b2 with
      | none => none
      | some (t, b3) => match rdN b3 with
        | none => none
        | some (k, b4) => match rdT b4 with
          | none => none
          | some (v, b5) => if k < 2 ∧ R_CellCode ⟨row, col, t, decide ((k : Int) = 1), v⟩ = 0 then some (⟨row, col, t, decide ((k : Int) = 1), v⟩, b5) else none
theorem text_bad : wire_Reader_Text ⟨[], true⟩ = some ([], ⟨[], true⟩) := by
  have h1 : wire_Reader_Num ⟨[], true⟩ = some (0, ⟨[], true⟩) := by rw [num_eq [] true (by simp)]; rfl
  unfold wire_Reader_Text
  rw [h1, ob_some, if_pos (by rfl)]
theorem num_bad : wire_Reader_Num ⟨[], true⟩ = some (0, ⟨[], true⟩) := by rw [num_eq [] true (by simp)]; rfl
theorem text_some {b s r : List UInt8} (hb : b.length ≤ 1000000) (h : rdT b = some (s, r)) : wire_Reader_Text ⟨b, false⟩ = some (s, ⟨r, false⟩) ∧ r.length ≤ 1000000 := by
  have := rdT_len h
  exact ⟨by rw [text_eq b (by omega), h]; rfl, by omega⟩
theorem text_none {b : List UInt8} (hb : b.length ≤ 1000000) (h : rdT b = none) : wire_Reader_Text ⟨b, false⟩ = some ([], ⟨[], true⟩) := by
  rw [text_eq b (by omega), h]; rfl
theorem num_some {b r : List UInt8} {n : Nat} (hb : b.length ≤ 1000000) (h : rdN b = some (n, r)) : wire_Reader_Num ⟨b, false⟩ = some ((n : Int), ⟨r, false⟩) ∧ r.length ≤ 1000000 := by
  have := (rdN_some h).1
  have h2 : b.length = (num n).length + r.length := by rw [this, List.length_append]
  exact ⟨by rw [num_eq b false (by omega), h]; rfl, by omega⟩
theorem num_none {b : List UInt8} (hb : b.length ≤ 1000000) (h : rdN b = none) : wire_Reader_Num ⟨b, false⟩ = some (0, ⟨[], true⟩) := by
  rw [num_eq b false (by omega), h]; rfl
theorem from_eq (b : List UInt8) (hb : b.length ≤ 1000000) : (∃ c r, rdC b = some (c, r) ∧ cell_From ⟨b, false⟩ = some (c, true, ⟨r, false⟩)) ∨ (rdC b = none ∧ ∃ x, cell_From ⟨b, false⟩ = some x ∧ x.2.1 = false) := by
  unfold rdC cell_From
  cases e1 : rdT b with
  | none =>
    refine .inr ⟨rfl, ?_⟩
    simp only [text_none hb e1, ob_some, text_bad, num_bad, lt, wire_Reader_Fine]
    exact ⟨_, rfl, by simp⟩
  | some p1 =>
  obtain ⟨row, b1⟩ := p1
  obtain ⟨f1, hb1⟩ := text_some hb e1
  simp only [f1, ob_some]
  cases e2 : rdT b1 with
  | none =>
    refine .inr ⟨rfl, ?_⟩
    simp only [text_none hb1 e2, ob_some, text_bad, num_bad, lt, wire_Reader_Fine]
    exact ⟨_, rfl, by simp⟩
  | some p2 =>
  obtain ⟨col, b2⟩ := p2
  obtain ⟨f2, hb2⟩ := text_some hb1 e2
  simp only [f2, ob_some]
  cases e3 : rdN b2 with
  | none =>
    refine .inr ⟨rfl, ?_⟩
    simp only [num_none hb2 e3, ob_some, text_bad, num_bad, lt, wire_Reader_Fine]
    exact ⟨_, rfl, by simp⟩
  | some p3 =>
  obtain ⟨t, b3⟩ := p3
  obtain ⟨f3, hb3⟩ := num_some hb2 e3
  simp only [f3, ob_some]
  cases e4 : rdN b3 with
  | none =>
    refine .inr ⟨rfl, ?_⟩
    simp only [num_none hb3 e4, ob_some, text_bad, num_bad, lt, wire_Reader_Fine]
    exact ⟨_, rfl, by simp⟩
  | some p4 =>
  obtain ⟨k, b4⟩ := p4
  obtain ⟨f4, hb4⟩ := num_some hb3 e4
  simp only [f4, ob_some]
  cases e5 : rdT b4 with
  | none =>
    refine .inr ⟨rfl, ?_⟩
    simp only [text_none hb4 e5, ob_some, lt, wire_Reader_Fine]
    exact ⟨_, rfl, by simp⟩
  | some p5 =>
  obtain ⟨v, b5⟩ := p5
  obtain ⟨f5, hb5⟩ := text_some hb4 e5
  simp only [f5, ob_some, lt, wire_Reader_Fine, code_eq]
  by_cases hc : k < 2 ∧ R_CellCode ⟨row, col, t, decide ((k : Int) = 1), v⟩ = 0
  · refine .inl ⟨⟨row, col, t, decide ((k : Int) = 1), v⟩, b5, by rw [if_pos hc], ?_⟩
    have h2 : (k : Int) < 2 := by omega
    rw [decide_eq_true h2]
    refine congrArg some (Prod.ext rfl (Prod.ext ?_ rfl))
    exact Bool.and_eq_true_iff.2 ⟨rfl, @decide_eq_true _ _ hc.2⟩
  · refine .inr ⟨by rw [if_neg hc], _, rfl, ?_⟩
    by_cases h2 : k < 2
    · have h3 : ¬ R_CellCode ⟨row, col, t, decide ((k : Int) = 1), v⟩ = 0 := fun h => hc ⟨h2, h⟩
      exact Bool.and_eq_false_iff.2 (.inr (@decide_eq_false _ _ h3))
    · have h3 : ¬ (k : Int) < 2 := by omega
      simp only [decide_eq_false h3, Bool.false_and]
theorem rdC_some {b r : List UInt8} {c : Cell} (h : rdC b = some (c, r)) : R_CellCode c = 0 ∧ b = wrC c ++ r := by
  unfold rdC at h
  split at h
  · cases h
  · rename_i row b1 e1
    split at h
    · cases h
    · rename_i col b2 e2
      split at h
      · cases h
      · rename_i t b3 e3
        split at h
        · cases h
        · rename_i k b4 e4
          split at h
          · cases h
          · rename_i v b5 e5
            split at h
            · rename_i hc
              simp only [Option.some.injEq, Prod.mk.injEq] at h
              obtain ⟨rfl, rfl⟩ := h
              refine ⟨hc.2, ?_⟩
              have g1 := (rdT_some e1).1
              have g2 := (rdT_some e2).1
              have g3 := (rdN_some e3).1
              have g4 := (rdN_some e4).1
              have g5 := (rdT_some e5).1
              have hk : num k = if decide ((k : Int) = 1) = true then [1] else [0] := by
                have h01 : k = 0 ∨ k = 1 := by omega
                rcases h01 with rfl | rfl
                · rw [num_lt (by omega)]; rfl
                · rw [num_lt (by omega)]; rfl
              unfold wrC
              rw [g1, g2, g3, g4, g5, hk]
              simp
            · cases h
theorem rdC_wrC {c : Cell} (h : R_CellCode c = 0) (r : List UInt8) : rdC (wrC c ++ r) = some (c, r) := by
  obtain ⟨h1, h2, h3, h4, h5⟩ := code_len h
  have e0 : wrC c ++ r = wrT c.Row ++ (wrT c.Col ++ (num c.Time.toNat ++ (num (if c.Gone = true then 1 else 0) ++ (wrT c.Value ++ r)))) := by
    rw [num01]; simp [wrC]
  have hk : (if c.Gone = true then 1 else 0) ≤ 1000000000 := by split <;> omega
  have ec : (⟨c.Row, c.Col, ((c.Time.toNat : Nat) : Int), decide (((if c.Gone = true then 1 else 0 : Nat) : Int) = 1), c.Value⟩ : Cell) = c := by
    have h6 : ((c.Time.toNat : Nat) : Int) = c.Time := by omega
    rw [h6]
    cases c with | mk a b t g v => cases g <;> rfl
  unfold rdC
  rw [e0, rdT_wrT (by omega)]
  simp only []
  rw [rdT_wrT (by omega)]
  simp only []
  rw [rdN_num (by omega)]
  simp only []
  rw [rdN_num hk]
  simp only []
  rw [rdT_wrT (by omega)]
  simp only [ec]
  rw [if_pos ⟨by split <;> omega, h⟩]
noncomputable def rcS : List Cell ⊕ Nat → List Cell × Fault
  | .inl l => if (cellF l).Code = 0 then (l, ⟨0, 0⟩) else ([], cellF l)
  | .inr n => ([], ⟨5, n⟩)
noncomputable def readS (b : List UInt8) : List Cell × Fault := if 60000 < b.length then ([], ⟨8, 0⟩) else rcS (rdAll rdC b.length b [])
theorem read_J1 (z : Fault) (l : List Cell) : cell_Read_v1_J1 (z, l) = some (rcS (.inl l)) := by
  simp only [cell_Read_v1_J1, rcS, check_eq, ob_some]
  by_cases c : (cellF l).Code = 0
  · rw [if_neg (n_f c), if_pos c]
  · rw [if_pos (n_t c), if_neg c]
theorem rdC_len {b r : List UInt8} {c : Cell} (h : rdC b = some (c, r)) : b.length = (wrC c).length + r.length ∧ 0 < (wrC c).length := by
  obtain ⟨h1, h2⟩ := rdC_some h
  exact ⟨by rw [h2, List.length_append], (wrC_len h1).2⟩
theorem read_loop (z : Fault) : ∀ (k : Nat) (b : List UInt8) (acc : List Cell), b.length ≤ k → acc.length + b.length ≤ 1000000 →
    cell_Read_v1_L1 (z, acc, ⟨b, false⟩) = some (rcS (rdAll rdC k b acc))
  | k, [], acc, hk, ha => by
    rw [rdAll_nil]
    refine loopO_inr ?_
    simp [cell_Read_v1_B1, wire_Reader_More, lt, read_J1, inrO]
  | 0, x :: b, acc, hk, ha => by simp at hk
  | k + 1, x :: b, acc, hk, ha => by
    rw [rdAll, if_neg (by simp)]
    have hm : wire_Reader_More ⟨x :: b, false⟩ = true := by simp [wire_Reader_More]
    have hb : (x :: b).length ≤ 1000000 := by omega
    generalize hbb : x :: b = bb at *
    rcases from_eq bb hb with ⟨c, r, h1, h2⟩ | ⟨h1, y, h2, h3⟩
    · obtain ⟨h3, h4⟩ := rdC_len h1
      rw [h1]
      refine (loopO_inl (y := (z, acc ++ [c], ⟨r, false⟩)) ?_).trans (read_loop z k r (acc ++ [c]) (by omega) (by simp; omega))
      simp only [cell_Read_v1_B1, hm, lt, if_true]
      rw [h2, ob_some]
      dsimp only
      rw [if_neg (by simp), asrt_pos (by simp; omega)]
    · rw [h1]
      refine loopO_inr ?_
      simp only [cell_Read_v1_B1, hm, lt, if_true]
      rw [h2, ob_some, if_pos (by rw [h3]; rfl)]
      rfl
theorem read_eq (b : List UInt8) : cell_Read_v1 b = some (readS b) := by
  unfold cell_Read_v1 readS
  by_cases c : 60000 < b.length
  · rw [if_pos (d_t (by omega)), if_pos c]; rfl
  · rw [if_neg (d_f (by omega)), if_neg c]
    exact read_loop _ b.length b [] (Nat.le_refl _) (by simp; omega)
/- the document's -/
theorem cellAt_text (b : List UInt8) (hb : b.length ≤ 1000000) (z : Cell) (ps : List (List UInt8)) (ns : List Int) (p i : Nat) (hp : p ≤ b.length) (hps : ps.length ≤ 10) (hi : i = 0 ∨ i = 1 ∨ i = 4) :
    R_CellAt_B1 b (z, ps, ns, (p : Int), (i : Int)) = match rdT (b.drop p) with
      | none => some (.inr (cell0, 0))
      | some (s, r) => some (.inl (z, ps ++ [s], ns, ((b.length - r.length : Nat) : Int), ((i + 1 : Nat) : Int))) := by
  have hw : w64 ((i : Int) + 1) = ((i + 1 : Nat) : Int) := by rw [w64_id (by omega) (by omega)]; omega
  have hdl : (b.drop p).length = b.length - p := List.length_drop
  simp only [R_CellAt_B1, R_CellAt_J2]
  rw [if_pos (d_t (by omega)), asrt_pos (by omega), ldrop_nat, numAt_eq _ (by omega), ob_some]
  cases hd : rdN (b.drop p) with
  | none =>
    have e : rdT (b.drop p) = none := by simp [rdT, hd]
    have e2 : rnat (b.drop p) = (0, 0) := by simp [rnat, hd]
    rw [e2, e, if_pos (by simp)]; rfl
  | some q =>
    obtain ⟨n, r⟩ := q
    have e2 : rnat (b.drop p) = ((n : Int), ((num n).length : Int)) := by simp [rnat, hd]
    obtain ⟨h1, hn⟩ := rdN_some hd
    have h2 := num_pos n
    have h3 : b.length - p = (num n).length + r.length := by rw [← hdl, h1, List.length_append]
    have hw1 : w64 ((p : Int) + ((num n).length : Int)) = ((p + (num n).length : Nat) : Int) := by rw [w64_id (by omega) (by omega)]; omega
    have hw2 : w64 ((b.length : Int) - ((p + (num n).length : Nat) : Int)) = (r.length : Int) := by rw [w64_id (by omega) (by omega)]; omega
    rw [e2]
    dsimp only
    rw [if_neg (d_f (by omega)), if_neg (or_f (by omega)), hw1, hw2]
    by_cases c : n ≤ r.length
    · have e : rdT (b.drop p) = some (r.take n, r.drop n) := by simp [rdT, hd, c]
      have hw3 : w64 (((p + (num n).length : Nat) : Int) + (n : Int)) = ((p + (num n).length + n : Nat) : Int) := by rw [w64_id (by omega) (by omega)]; omega
      have h4 : (b.take (p + (num n).length + n)).drop (p + (num n).length) = r.take n := by
        have hb' : b.drop (p + (num n).length) = r := by
          rw [← List.drop_drop, h1]; simp
        rw [List.drop_take, hb']; congr 1; omega
      have h5 : b.length - (r.drop n).length = p + (num n).length + n := by simp; omega
      rw [e]
      dsimp only
      rw [if_neg (d_f (by omega)), hw3, asrt_pos (by omega), ltake_nat, ldrop_nat, h4, asrt_pos (by simp; omega), hw, h5]
      rfl
    · have e : rdT (b.drop p) = none := by simp [rdT, hd, c]
      rw [e, if_pos (d_t (by omega))]; rfl
theorem cellAt_num (b : List UInt8) (hb : b.length ≤ 1000000) (z : Cell) (ps : List (List UInt8)) (ns : List Int) (p i : Nat) (hp : p ≤ b.length) (hns : ns.length ≤ 10) (hi : i = 2 ∨ i = 3) :
    R_CellAt_B1 b (z, ps, ns, (p : Int), (i : Int)) = match rdN (b.drop p) with
      | none => some (.inr (cell0, 0))
      | some (n, r) => some (.inl (z, ps, ns ++ [(n : Int)], ((b.length - r.length : Nat) : Int), ((i + 1 : Nat) : Int))) := by
  have hw : w64 ((i : Int) + 1) = ((i + 1 : Nat) : Int) := by rw [w64_id (by omega) (by omega)]; omega
  have hdl : (b.drop p).length = b.length - p := List.length_drop
  simp only [R_CellAt_B1, R_CellAt_J2]
  rw [if_pos (d_t (by omega)), asrt_pos (by omega), ldrop_nat, numAt_eq _ (by omega), ob_some]
  cases hd : rdN (b.drop p) with
  | none =>
    have e2 : rnat (b.drop p) = (0, 0) := by simp [rnat, hd]
    rw [e2, if_pos (by simp)]; rfl
  | some q =>
    obtain ⟨n, r⟩ := q
    have e2 : rnat (b.drop p) = ((n : Int), ((num n).length : Int)) := by simp [rnat, hd]
    obtain ⟨h1, hn⟩ := rdN_some hd
    have h2 := num_pos n
    have h3 : b.length - p = (num n).length + r.length := by rw [← hdl, h1, List.length_append]
    have hw1 : w64 ((p : Int) + ((num n).length : Int)) = ((p + (num n).length : Nat) : Int) := by rw [w64_id (by omega) (by omega)]; omega
    have h5 : b.length - r.length = p + (num n).length := by omega
    rw [e2]
    dsimp only
    rw [if_neg (d_f (by omega)), if_pos (or_t (by omega)), hw1, hw, asrt_pos (by simp; omega), h5]
theorem drop_rest {b r : List UInt8} {p : Nat} {x : List UInt8} (hp : p ≤ b.length) (h : b.drop p = x ++ r) : b.drop (b.length - r.length) = r ∧ b.length - r.length ≤ b.length := by
  have h1 : b.length - p = x.length + r.length := by rw [← List.length_drop, h, List.length_append]
  refine ⟨?_, by omega⟩
  have : b.length - r.length = p + x.length := by omega
  rw [this, ← List.drop_drop, h]; simp
noncomputable def catS (b : List UInt8) : Cell × Int := match rdC b with
  | some (c, r) => (c, ((b.length - r.length : Nat) : Int))
  | none => (cell0, 0)
theorem cellAt_J1 (z : Cell) (x y v : List UInt8) (t k : Nat) (p : Int) : R_CellAt_J1 (z, [x, y, v], [(t : Int), (k : Int)], p) = some (if k < 2 ∧ R_CellCode ⟨x, y, t, decide ((k : Int) = 1), v⟩ = 0 then (⟨x, y, t, decide ((k : Int) = 1), v⟩, p) else (cell0, 0)) := by
  unfold R_CellAt_J1
  have g0 : lget [x, y, v] 0 = x := rfl
  have g1 : lget [x, y, v] 1 = y := rfl
  have g2 : lget [x, y, v] 2 = v := rfl
  have n0 : lget [(t : Int), (k : Int)] 0 = (t : Int) := rfl
  have n1 : lget [(t : Int), (k : Int)] 1 = (k : Int) := rfl
  dsimp only
  rw [asrt_pos (by simp), asrt_pos (by simp), asrt_pos (by simp), asrt_pos (by simp), asrt_pos (by simp), asrt_pos (by simp), asrt_pos (by simp), asrt_pos (by simp), asrt_pos (by simp), asrt_pos (by simp), asrt_pos (by simp), asrt_pos (by simp), g0, g1, g2, n0, n1]
  dsimp only [lt]
  by_cases hc : k < 2 ∧ R_CellCode ⟨x, y, t, decide ((k : Int) = 1), v⟩ = 0
  · have h1 : ¬ (1 : Int) < (k : Int) := by omega
    rw [if_pos hc, if_neg]
    rw [decide_eq_false h1, decide_eq_true hc.2]; simp
  · rw [if_neg hc, if_pos]
    · rfl
    · by_cases h1 : (1 : Int) < (k : Int)
      · rw [decide_eq_true h1]; rfl
      · have h3 : ¬ R_CellCode ⟨x, y, t, decide ((k : Int) = 1), v⟩ = 0 := fun h => hc ⟨by omega, h⟩
        rw [decide_eq_false h3]; simp
theorem cellAt_eq (b : List UInt8) (hb : b.length ≤ 1000000) : R_CellAt b = some (catS b) := by
  unfold R_CellAt catS rdC
  have s0 := cellAt_text b hb cell0 [] [] 0 0 (by omega) (by simp) (by omega)
  rw [List.drop_zero] at s0
  cases e1 : rdT b with
  | none => rw [e1] at s0; exact loopO_inr s0
  | some p1 =>
  obtain ⟨row, b1⟩ := p1
  rw [e1] at s0
  refine (loopO_inl s0).trans ?_
  obtain ⟨d1, l1⟩ := drop_rest (b := b) (p := 0) (by omega) (by rw [List.drop_zero]; exact (rdT_some e1).1)
  have s1 := cellAt_text b hb cell0 ([] ++ [row]) [] (b.length - b1.length) 1 l1 (by simp) (by omega)
  rw [d1] at s1
  dsimp only
  cases e2 : rdT b1 with
  | none => rw [e2] at s1; exact loopO_inr s1
  | some p2 =>
  obtain ⟨col, b2⟩ := p2
  rw [e2] at s1
  refine (loopO_inl s1).trans ?_
  obtain ⟨d2, l2⟩ := drop_rest l1 (by rw [d1]; exact (rdT_some e2).1)
  have s2 := cellAt_num b hb cell0 ([] ++ [row] ++ [col]) [] (b.length - b2.length) 2 l2 (by simp) (by omega)
  rw [d2] at s2
  dsimp only
  cases e3 : rdN b2 with
  | none => rw [e3] at s2; exact loopO_inr s2
  | some p3 =>
  obtain ⟨t, b3⟩ := p3
  rw [e3] at s2
  refine (loopO_inl s2).trans ?_
  obtain ⟨d3, l3⟩ := drop_rest l2 (by rw [d2]; exact (rdN_some e3).1)
  have s3 := cellAt_num b hb cell0 ([] ++ [row] ++ [col]) ([] ++ [(t : Int)]) (b.length - b3.length) 3 l3 (by simp) (by omega)
  rw [d3] at s3
  dsimp only
  cases e4 : rdN b3 with
  | none => rw [e4] at s3; exact loopO_inr s3
  | some p4 =>
  obtain ⟨k, b4⟩ := p4
  rw [e4] at s3
  refine (loopO_inl s3).trans ?_
  obtain ⟨d4, l4⟩ := drop_rest l3 (by rw [d3]; exact (rdN_some e4).1)
  have s4 := cellAt_text b hb cell0 ([] ++ [row] ++ [col]) ([] ++ [(t : Int)] ++ [(k : Int)]) (b.length - b4.length) 4 l4 (by simp) (by omega)
  rw [d4] at s4
  dsimp only
  cases e5 : rdT b4 with
  | none => rw [e5] at s4; exact loopO_inr s4
  | some p5 =>
  obtain ⟨v, b5⟩ := p5
  rw [e5] at s4
  refine (loopO_inl s4).trans ?_
  refine loopO_inr ?_
  simp only [R_CellAt_B1]
  have hJ := cellAt_J1 cell0 row col v t k ((b.length - b5.length : Nat) : Int)
  simp only [List.nil_append, List.cons_append]
  rw [if_neg (d_f (by omega)), hJ]
  by_cases hc : k < 2 ∧ R_CellCode ⟨row, col, t, decide ((k : Int) = 1), v⟩ = 0
  · rw [if_pos hc, if_pos hc]; rfl
  · rw [if_neg hc, if_neg hc]; rfl
theorem cellsOf_J1 (z : Fault) (l : List Cell) : R_CellsOf_v1_J1 (z, l) = some (rcS (.inl l)) := by
  simp only [R_CellsOf_v1_J1, rcS, rcheck_eq, ob_some]
  by_cases c : (cellF l).Code = 0
  · rw [if_neg (n_f c), if_pos c]
  · rw [if_pos (n_t c), if_neg c]
theorem cellsOf_loop (z : Fault) : ∀ (k : Nat) (b : List UInt8) (acc : List Cell), b.length ≤ k → acc.length + b.length ≤ 1000000 →
    R_CellsOf_v1_L1 (b, z, acc) = some (rcS (rdAll rdC k b acc))
  | k, [], acc, hk, ha => by
    rw [rdAll_nil]
    refine loopO_inr ?_
    simp [R_CellsOf_v1_B1, cellsOf_J1, inrO]
  | 0, x :: b, acc, hk, ha => by simp at hk
  | k + 1, x :: b, acc, hk, ha => by
    rw [rdAll, if_neg (by simp)]
    have hpos : 0 < (x :: b).length := by simp
    have hb : (x :: b).length ≤ 1000000 := by omega
    generalize hbb : x :: b = bb at *
    cases hd : rdC bb with
    | none =>
      have e2 : catS bb = (cell0, 0) := by simp [catS, hd]
      refine loopO_inr ?_
      simp only [R_CellsOf_v1_B1]
      rw [if_pos (d_t (by omega)), cellAt_eq bb hb, ob_some, e2, if_pos (by simp)]
      rfl
    | some p =>
      obtain ⟨c, r⟩ := p
      have e2 : catS bb = (c, ((bb.length - r.length : Nat) : Int)) := by simp [catS, hd]
      obtain ⟨h3, h4⟩ := rdC_len hd
      obtain ⟨h5, h6⟩ := rdC_some hd
      have hdr : bb.drop (bb.length - r.length) = r := (drop_rest (p := 0) (by omega) (by rw [List.drop_zero]; exact h6)).1
      refine (loopO_inl (y := (r, z, acc ++ [c])) ?_).trans (cellsOf_loop z k r (acc ++ [c]) (by omega) (by simp; omega))
      simp only [R_CellsOf_v1_B1]
      rw [if_pos (d_t (by omega)), cellAt_eq bb hb, ob_some, e2]
      dsimp only
      rw [if_neg (d_f (by omega)), asrt_pos (by simp; omega), asrt_pos (by omega), ldrop_nat, hdr]
theorem cellsOf_eq (b : List UInt8) : R_CellsOf_v1 b = some (readS b) := by
  unfold R_CellsOf_v1 readS
  by_cases c : 60000 < b.length
  · rw [if_pos (d_t (by omega)), if_pos c]; rfl
  · rw [if_neg (d_f (by omega)), if_neg c]
    exact cellsOf_loop _ b.length b [] (Nat.le_refl _) (by simp; omega)
theorem written_eq (s : List UInt8) (hs : s.length ≤ 1000000000) : R_Written s = some (wrT s) := by
  have h5 := num_len5 hs
  unfold R_Written
  rw [rnumber s.length (by omega), ob_some, asrt_pos (by simp; omega)]; rfl
theorem cellBytes_eq (c : Cell) (h : R_CellCode c = 0) : R_CellBytes_v1 c = some (wrC c) := by
  obtain ⟨h1, h2, h3, h4, h5⟩ := code_len h
  have a1 := wrT_len c.Row (by omega)
  have a2 := wrT_len c.Col (by omega)
  have a3 := wrT_len c.Value (by omega)
  have a4 := num_len5 (n := c.Time.toNat) (by omega)
  have et : (c.Time) = ((c.Time.toNat : Nat) : Int) := by omega
  unfold R_CellBytes_v1
  rw [written_eq c.Row (by omega), ob_some, written_eq c.Col (by omega), ob_some, asrt_pos (by simp; omega), et, rnumber _ (by omega), ob_some, asrt_pos (by simp; omega)]
  have e : (if c.Gone = true then asrt (((((wrT c.Row ++ wrT c.Col) ++ num c.Time.toNat) ++ ([(1 : UInt8)] : List UInt8)).length : Int) * 1 ≤ 140737488351232) (some (c, (((wrT c.Row ++ wrT c.Col) ++ num c.Time.toNat) ++ ([(1 : UInt8)] : List UInt8)))) else asrt (((((wrT c.Row ++ wrT c.Col) ++ num c.Time.toNat) ++ ([(0 : UInt8)] : List UInt8)).length : Int) * 1 ≤ 140737488351232) (some (c, (((wrT c.Row ++ wrT c.Col) ++ num c.Time.toNat) ++ ([(0 : UInt8)] : List UInt8))))) = some (c, ((wrT c.Row ++ wrT c.Col) ++ num c.Time.toNat) ++ (if c.Gone = true then [1] else [0])) := by
    cases c.Gone
    · rw [if_neg (by simp), asrt_pos (by simp; omega)]; rfl
    · rw [if_pos rfl, asrt_pos (by simp; omega)]; rfl
  rw [e, ob_some]
  dsimp only
  have a5 : (if c.Gone = true then ([1] : List UInt8) else [0]).length = 1 := by split <;> rfl
  rw [written_eq c.Value (by omega), ob_some, asrt_pos (by simp only [List.length_append, a5]; omega)]
  simp [wrC]
/- the law -/
theorem bytes_loop (l : List Cell) (x3 : List UInt8 × Fault) (f w : Fault) (hg : Good l) (hw0 : w.Code = 0) : ∀ (m k : Nat) (acc : List UInt8), l.length - k = m → k ≤ l.length → acc.length ≤ 310 * k →
    law_CellWrites_L1 l x3 (f, w, acc, (k : Int)) = law_CellWrites_J1 l x3 (f, w, acc ++ encC (l.drop k))
  | 0, k, acc, e, hk, ha => by
    have : k = l.length := by omega
    subst this
    have e0 : acc ++ encC (l.drop l.length) = acc := by simp [encC, wrAll]
    rw [e0]
    unfold law_CellWrites_L1
    rw [loopO_eq]
    simp only [law_CellWrites_B1]
    rw [if_neg (by simp)]
    cases law_CellWrites_J1 l x3 (f, w, acc) <;> rfl
  | m + 1, k, acc, e, hk, ha => by
    have hlen := hg.len
    have hlt : k < l.length := by omega
    have hw : w64 ((k : Int) + 1) = ((k + 1 : Nat) : Int) := by rw [w64_id (by omega) (by omega)]; omega
    have hx := hg.code _ (lget_mem l (k : Int) (by omega))
    have hwl := (wrC_len hx).1
    have ih := bytes_loop l x3 f w hg hw0 m (k + 1) (acc ++ wrC (lget l (k : Int))) (by omega) (by omega) (by simp; omega)
    rw [lget_drop l k hlt, encC_cons, ← List.append_assoc]
    refine (loopO_inl (y := (f, w, acc ++ wrC (lget l (k : Int)), ((k + 1 : Nat) : Int))) ?_).trans ih
    simp only [law_CellWrites_B1, cell_eta]
    rw [if_pos (an_t ⟨by omega, hw0⟩), asrt_pos (by omega), cellBytes_eq _ hx, ob_some, asrt_pos (by simp; omega), hw]
theorem readS_len (b : List UInt8) : (readS b).1.length ≤ 60000 := by
  unfold readS
  split
  · simp
  · have key : ∀ (k : Nat) (b : List UInt8) (acc l : List Cell), rdAll rdC k b acc = .inl l → l.length ≤ acc.length + k := by
      intro k
      induction k with
      | zero => intro b acc l h; simp only [rdAll, Sum.inl.injEq] at h; subst h; omega
      | succ k ih =>
        intro b acc l h
        rw [rdAll] at h
        split at h
        · simp only [Sum.inl.injEq] at h; subst h; omega
        · split at h
          · have := ih _ _ _ h; simp at this; omega
          · cases h
    cases hr : rdAll rdC b.length b [] with
    | inr n => simp [rcS]
    | inl l =>
      have := key _ _ _ _ hr
      simp only [rcS]
      split
      · have h3 : l.length ≤ b.length := by simpa using this
        show l.length ≤ 60000
        omega
      · simp
theorem writes_J1 (l : List Cell) (hl : l.length ≤ 2000) (bs : List UInt8) (hb : (cellF l).Code = 0 → bs = encC l) : law_CellWrites_J1 l (writeS l) ((writeS l).2, cellF l, bs) = some true := by
  unfold law_CellWrites_J1
  dsimp only
  by_cases c : (cellF l).Code = 0
  · have hg := cellF_good c
    rw [hb c]
    by_cases c2 : 60000 < (encC l).length
    · have hws : writeS l = ([], ⟨9, 0⟩) := by unfold writeS; rw [if_pos c, if_pos c2]
      rw [if_pos (an_t ⟨c, by omega⟩), hws]
      simp [lt, R_F, ob_some, law_bytesAs]
    · have hws : writeS l = (encC l, ⟨0, 0⟩) := by unfold writeS; rw [if_pos c, if_neg c2]
      have hrd : readS (encC l) = (l, ⟨0, 0⟩) := by
        have := rdAll_wrAll (f := rdC) (w := wrC) (fun x => R_CellCode x = 0) (fun x r h => rdC_wrC h r) (fun x h => (wrC_len h).2) l (encC l).length [] hg.code (Nat.le_refl _)
        have e : rdAll rdC (encC l).length (encC l) [] = .inl l := by simpa [encC] using this
        unfold readS
        rw [if_neg c2, e]
        simp [rcS, c]
      rw [if_neg (an_f (by omega)), hws, ob_some, hg.f]
      have hby : law_bytesAs (encC l) ⟨0, 0⟩ ⟨0, 0⟩ (encC l) = true := by simp [law_bytesAs, lt, R_Same]
      simp only [lt]
      rw [hby, if_neg (by simp), if_neg (by simp), read_eq, ob_some, hrd]
      simp [sameCells_self l (by omega), ob_some]
  · have hws : writeS l = ([], cellF l) := by unfold writeS; rw [if_neg c]
    rw [if_neg (an_f (fun h => c h.1)), hws, ob_some]
    have hby : law_bytesAs [] (cellF l) (cellF l) bs = true := by simp [law_bytesAs, c]
    simp only [lt]
    rw [hby, if_neg (by simp), if_pos (n_t c)]
theorem CellWrites_eq (l : List Cell) (b : List UInt8) : law_CellWrites l b = some true := by
  unfold law_CellWrites
  simp only [cbegun, ob_some, Bool.not_true, Bool.false_eq_true, if_false, lt]
  cases hm : law_many (l.length : Int) with
  | true => simp
  | false =>
    have hl : l.length ≤ 2000 := by
      unfold law_many at hm
      simp [lt] at hm; omega
    by_cases hb : 100000 < (b.length : Int)
    · rw [if_pos (by simp; omega)]
    · rw [if_neg (by simp; omega)]
      have ho : law_ownCells_v1 l = some l := by unfold law_ownCells_v1; rw [asrt_pos (by omega)]
      have hob : law_ownBytes_v1 b = some b := by unfold law_ownBytes_v1; rw [asrt_pos (by omega)]
      have hrl := readS_len b
      rw [ho, ob_some, write_eq, ob_some, hob, ob_some, read_eq, ob_some, cellsOf_eq, ob_some]
      simp only [decide_true, Bool.and_true, Bool.not_true, Bool.not_false, if_true, sameCells_self _ (show (readS b).1.length ≤ 1000000 by omega), ob_some, Bool.or_self, Bool.false_eq_true, if_false, rcheck_eq]
      by_cases c : (cellF l).Code = 0
      · have hg := cellF_good c
        have := bytes_loop l (writeS l) (writeS l).2 (cellF l) hg c l.length 0 [] (by omega) (by omega) (by simp)
        have h0 : ((0 : Nat) : Int) = 0 := rfl
        rw [h0, List.drop_zero, List.nil_append] at this
        rw [this]
        exact writes_J1 l hl _ (fun _ => rfl)
      · refine loopO_inr ?_
        simp only [law_CellWrites_B1]
        rw [if_neg (an_f (fun h => c h.2)), writes_J1 l hl [] (fun h => absurd h c)]; rfl
end G
end Go.Proofs.Ytkbgkkbinnclmaa
