/- A note: what Check says, how it is written and read. -/
import Derived.Test.YtollmifjbcccgaaPCellV
import Derived.Test.YtollmifjbcccgaaPDiskV
namespace Go.Proofs.Ytollmifjbcccgaa
open Go Go.Dm
set_option linter.unusedVariables false
set_option linter.unusedSimpArgs false
namespace G
theorem num_ends (n : Nat) : ∃ (A : List UInt8) (x : UInt8), num n = A ++ [x] ∧ (∀ y ∈ A, 128 ≤ y.toNat) ∧ x.toNat < 128 := by
  induction n using Nat.strongRecOn with
  | _ n ih =>
    by_cases c : n < 128
    · refine ⟨[], UInt8.ofNat n, by rw [num_lt c]; rfl, by simp, ?_⟩
      rw [UInt8.toNat_ofNat']; omega
    · obtain ⟨A, x, h1, h2, h3⟩ := ih (n / 128) (by omega)
      refine ⟨UInt8.ofNat (n % 128 + 128) :: A, x, by rw [num_ge c, h1]; rfl, ?_, h3⟩
      intro y hy
      rcases List.mem_cons.1 hy with rfl | hy
      · rw [UInt8.toNat_ofNat']; omega
      · exact h2 y hy
theorem index_eq (b : List UInt8) (hb : b.length ≤ 60000) : (∃ j : Nat, j < b.length ∧ (lget b (j : Int)).toNat < 128 ∧ (∀ i : Nat, i < j → ¬ (lget b (i : Int)).toNat < 128) ∧ slices_IndexFunc_byte_byte b = some (j : Int)) ∨ ((∀ j : Nat, j < b.length → ¬ (lget b (j : Int)).toNat < 128) ∧ slices_IndexFunc_byte_byte b = some (-1)) := by
  have e128 : ((128 : UInt8).toNat : Int) = 128 := by decide
  refine loop_first (step := fun y => slices_IndexFunc_byte_byte_B1 b y) b.length (fun k => (k : Int)) (fun k => (lget b (k : Int)).toNat < 128) (fun k => (k : Int)) ?_ ?_ ?_
  · intro k hk hn
    have hw : w64 ((k : Int) + 1) = ((k + 1 : Nat) : Int) := by rw [w64_id (by omega) (by omega)]; omega
    show slices_IndexFunc_byte_byte_B1 b (k : Int) = some (.inl ((k + 1 : Nat) : Int))
    have hn' : ¬ (lget b (k : Int)).toNat < 128 := hn
    have hr : wal_Read_1 (lget b (k : Int)) = false := by unfold wal_Read_1; rw [e128]; exact decide_eq_false (by omega)
    simp only [slices_IndexFunc_byte_byte_B1, hr, lt]
    rw [if_pos (d_t (by omega)), asrt_pos (by omega), if_neg (by simp), hw]
  · intro k hk hn
    show slices_IndexFunc_byte_byte_B1 b (k : Int) = some (.inr (k : Int))
    have hn' : (lget b (k : Int)).toNat < 128 := hn
    have hr : wal_Read_1 (lget b (k : Int)) = true := by unfold wal_Read_1; rw [e128]; exact decide_eq_true (by omega)
    simp only [slices_IndexFunc_byte_byte_B1, hr, lt]
    rw [if_pos (d_t (by omega)), asrt_pos (by omega), if_pos trivial]
  · show slices_IndexFunc_byte_byte_B1 b (b.length : Int) = some (.inr (-1))
    simp only [slices_IndexFunc_byte_byte_B1]
    rw [if_neg (d_f (by omega))]; rfl
theorem rdN_take {b : List UInt8} (h : rdN b = none) (k : Nat) : rdN (b.take k) = none := by
  cases e : rdN (b.take k) with
  | none => rfl
  | some p =>
    obtain ⟨n, r⟩ := p
    obtain ⟨h1, h2⟩ := rdN_some e
    have : b = num n ++ (r ++ b.drop k) := by rw [← List.append_assoc, ← h1, List.take_append_drop]
    rw [this, rdN_num h2] at h; cases h
theorem cut_eq (b : List UInt8) (hb : b.length ≤ 60000) : ∃ (i : Int) (k : Nat), slices_IndexFunc_byte_byte b = some i ∧ w64 (1 + i) = (k : Int) ∧ k ≤ b.length ∧ ∀ n r, rdN b = some (n, r) → b.take k = num n ∧ b.drop k = r := by
  have key : ∀ n r, rdN b = some (n, r) → ∃ A x, b = A ++ (x :: r) ∧ num n = A ++ [x] ∧ (∀ y ∈ A, 128 ≤ y.toNat) ∧ x.toNat < 128 := by
    intro n r h
    obtain ⟨A, x, h1, h2, h3⟩ := num_ends n
    have h4 := (rdN_some h).1
    exact ⟨A, x, by rw [h4, h1]; simp, h1, h2, h3⟩
  rcases index_eq b hb with ⟨j, h1, h2, h3, h4⟩ | ⟨h1, h2⟩
  · refine ⟨j, j + 1, h4, ?_, by omega, ?_⟩
    · rw [w64_id (by omega) (by omega)]; omega
    · intro n r h
      obtain ⟨A, x, e1, e2, e3, e4⟩ := key n r h
      have hj : j = A.length := by
        rcases Nat.lt_trichotomy j A.length with g | g | g
        · exfalso
          rw [lget_nat b j h1] at h2
          have : b[j] = A[j] := by simp only [e1]; rw [List.getElem_append_left g]
          rw [this] at h2
          have := e3 _ (List.getElem_mem g)
          omega
        · exact g
        · exfalso
          have hA : A.length < b.length := by rw [e1]; simp
          refine h3 A.length g ?_
          rw [lget_nat b A.length hA]
          have : b[A.length] = x := by simp only [e1]; rw [List.getElem_append_right (Nat.le_refl _)]; simp
          rw [this]; exact e4
      subst hj
      rw [e2, e1]
      have e5 : A ++ x :: r = (A ++ [x]) ++ r := by simp
      have e6 : A.length + 1 = (A ++ [x]).length := by simp
      rw [e5, e6]
      exact ⟨List.take_left, List.drop_left⟩
  · refine ⟨-1, 0, h2, by decide, by omega, ?_⟩
    intro n r h
    exfalso
    obtain ⟨A, x, e1, e2, e3, e4⟩ := key n r h
    have hA : A.length < b.length := by rw [e1]; simp
    refine h1 A.length hA ?_
    rw [lget_nat b A.length hA]
    have : b[A.length] = x := by simp only [e1]; rw [List.getElem_append_right (Nat.le_refl _)]; simp
    rw [this]; exact e4
noncomputable def noteF (n : Note) : Fault := if n.Seq < 1 ∨ 1000000000 < n.Seq then ⟨3, -1⟩ else if n.Cells.length = 0 ∨ 20 < n.Cells.length then ⟨2, -1⟩ else cellF n.Cells
theorem wcheck_eq (n : Note) : wal_Check n = some (noteF n) := by
  unfold wal_Check noteF
  by_cases c : n.Seq < 1 ∨ 1000000000 < n.Seq
  · rw [if_pos (or_t c), if_pos c]; rfl
  · rw [if_neg (or_f c), if_neg c]
    by_cases c2 : n.Cells.length = 0 ∨ 20 < n.Cells.length
    · rw [if_pos (or_t (by omega)), if_pos c2]; rfl
    · rw [if_neg (or_f (by omega)), if_neg c2, check_eq, ob_some]
theorem rnote_eq (n : Note) : R_NoteFault n = some (noteF n) := by
  unfold R_NoteFault noteF
  by_cases c : n.Seq < 1 ∨ 1000000000 < n.Seq
  · rw [if_pos (or_t c), if_pos c]; rfl
  · rw [if_neg (or_f c), if_neg c]
    by_cases c2 : n.Cells.length = 0 ∨ 20 < n.Cells.length
    · rw [if_pos (or_t (by omega)), if_pos c2]; rfl
    · rw [if_neg (or_f (by omega)), if_neg c2, rcheck_eq, ob_some]
structure NGood (n : Note) : Prop where
  f : noteF n = ⟨0, 0⟩
  lo : 1 ≤ n.Seq
  hi : n.Seq ≤ 1000000000
  len : n.Cells.length ≤ 20
  cells : Good n.Cells
theorem noteF_good {n : Note} (h : (noteF n).Code = 0) : NGood n := by
  unfold noteF at h
  by_cases c : n.Seq < 1 ∨ 1000000000 < n.Seq
  · rw [if_pos c] at h; cases h
  · rw [if_neg c] at h
    by_cases c2 : n.Cells.length = 0 ∨ 20 < n.Cells.length
    · rw [if_pos c2] at h; cases h
    · rw [if_neg c2] at h
      have hg := cellF_good h
      exact ⟨by unfold noteF; rw [if_neg c, if_neg c2]; exact hg.f, by omega, by omega, by omega, hg⟩
/- reading -/
noncomputable def noteR (n : Note) : Note × Fault := if (noteF n).Code = 0 then (n, ⟨0, 0⟩) else (⟨0, []⟩, noteF n)
noncomputable def noteS (b : List UInt8) : Note × Fault := if 60000 < b.length then (⟨0, []⟩, ⟨8, 0⟩) else
  match rdN b with
  | none => (⟨0, []⟩, ⟨5, -1⟩)
  | some (n, r) => if (readS r).2.Code = 0 then noteR ⟨n, (readS r).1⟩ else (⟨0, []⟩, (readS r).2)
theorem wread_eq (b : List UInt8) : wal_Read b = some ((noteS b).1.Seq, (noteS b).1.Cells, (noteS b).2) := by
  unfold wal_Read noteS
  by_cases c : 60000 < b.length
  · rw [if_pos (d_t (by omega)), if_pos c]; rfl
  · rw [if_neg (d_f (by omega)), if_neg c]
    obtain ⟨i, k, h1, h2, h3, h4⟩ := cut_eq b (by omega)
    rw [h1, ob_some, h2, asrt_pos (by omega), ltake_nat]
    have hl : (b.take k).length ≤ 1000000000000 := by rw [List.length_take]; omega
    have hn := num_eq (b.take k) false hl
    have hr : wire_Read (b.take k) = ⟨b.take k, false⟩ := rfl
    dsimp only [lt]
    rw [hr, hn, ob_some, asrt_pos (by omega), ldrop_nat]
    cases hd : rdN b with
    | none =>
      rw [rdN_take hd]; rfl
    | some p =>
      obtain ⟨n, r⟩ := p
      obtain ⟨g1, g2⟩ := h4 n r hd
      have hnn := (rdN_some hd).2
      have e : rdN (num n) = some (n, []) := by
        have := rdN_num hnn []
        rwa [List.append_nil] at this
      rw [g1, g2, e, read_eq, ob_some]
      have ho : wire_Reader_Ok (rfin false (some (n, ([] : List UInt8)))).2 = true := rfl
      have hv : (rfin false (some (n, ([] : List UInt8)))).1 = (n : Int) := rfl
      rw [ho, hv, if_neg (by simp)]
      dsimp only
      by_cases c2 : (readS r).2.Code = 0
      · rw [if_neg (n_f c2), if_pos c2, wcheck_eq, ob_some]
        unfold noteR
        by_cases c3 : (noteF ⟨(n : Int), (readS r).1⟩).Code = 0
        · rw [if_neg (n_f c3), if_pos c3, (noteF_good c3).f]
        · rw [if_pos (n_t c3), if_neg c3]
      · rw [if_pos (n_t c2), if_neg c2]
theorem noteOf_eq (b : List UInt8) : R_NoteOf b = some ((noteS b).1.Seq, (noteS b).1.Cells, (noteS b).2) := by
  unfold R_NoteOf noteS
  by_cases c : 60000 < b.length
  · rw [if_pos (d_t (by omega)), if_pos c]; rfl
  · rw [if_neg (d_f (by omega)), if_neg c, numAt_eq b (by omega), ob_some]
    cases hd : rdN b with
    | none =>
      have e : rnat b = (0, 0) := by simp [rnat, hd]
      rw [e, if_pos (by simp)]; rfl
    | some p =>
      obtain ⟨n, r⟩ := p
      have e : rnat b = ((n : Int), ((num n).length : Int)) := by simp [rnat, hd]
      have h1 := (rdN_some hd).1
      have h2 := num_pos n
      have h3 : b.length = (num n).length + r.length := by rw [h1, List.length_append]
      have h4 : b.drop (num n).length = r := by rw [h1]; simp
      rw [e]
      dsimp only
      rw [if_neg (d_f (by omega)), asrt_pos (by omega), ldrop_nat, h4, cellsOf_eq, ob_some]
      by_cases c2 : (readS r).2.Code = 0
      · rw [if_neg (n_f c2), if_pos c2, rnote_eq, ob_some]
        unfold noteR
        by_cases c3 : (noteF ⟨(n : Int), (readS r).1⟩).Code = 0
        · rw [if_neg (n_f c3), if_pos c3]
        · rw [if_pos (n_t c3), if_neg c3]
      · rw [if_pos (n_t c2), if_neg c2]
theorem noteS_len (b : List UInt8) : (noteS b).1.Cells.length ≤ 60000 := by
  unfold noteS
  split
  · simp
  · split
    · simp
    · rename_i n r _
      have := readS_len r
      split
      · unfold noteR; split
        · exact this
        · simp
      · simp
/- writing -/
theorem encC_take (l : List Cell) (k : Nat) (h : k < l.length) : encC (l.take (k + 1)) = encC (l.take k) ++ wrC (lget l (k : Int)) := by
  rw [lget_take l k h]; simp [encC, wrAll]
theorem encC_len (l : List Cell) (hc : ∀ c ∈ l, R_CellCode c = 0) : (encC l).length ≤ 310 * l.length := by
  induction l with
  | nil => simp [encC, wrAll]
  | cons c l ih =>
    have h1 := (wrC_len (hc c (by simp))).1
    have h2 := ih (fun x hx => hc x (by simp [hx]))
    rw [encC_cons, List.length_append, List.length_cons]; omega
def encN (n : Note) : List UInt8 := num n.Seq.toNat ++ encC n.Cells
theorem addNum1_eq (n : Nat) (h : n ≤ 1000000000) : wire_AddNum_v1 (n : Int) = some (num n) := by
  have h1 : wire_AddNum_v1 (n : Int) = wire_AddNum_v2 (n : Int) [] := rfl
  have := num_len5 h
  rw [h1, addNum_eq n [] (by simp; omega)]; simp
theorem wbytes_eq (n : Note) (h : NGood n) : wal_bytes n = some (encN n) := by
  unfold wal_bytes encN
  have hlo := h.lo
  have hhi := h.hi
  have hlen := h.len
  have e : n.Seq = ((n.Seq.toNat : Nat) : Int) := by omega
  have h5 := num_len5 (n := n.Seq.toNat) (by omega)
  rw [e, addNum1_eq _ (by omega), ob_some, Int.toNat_natCast]
  have := loop_run (step := fun y => wal_bytes_B1 y) n.Cells.length (fun k => (num n.Seq.toNat ++ encC (n.Cells.take k), n.Cells, (n.Cells.length : Int), (k : Int))) (r := num n.Seq.toNat ++ encC n.Cells) ?_ ?_
  · have e0 : encC (n.Cells.take 0) = [] := rfl
    simp only [e0, List.append_nil] at this
    exact this
  · intro k hk
    have hw : w64 ((k : Int) + 1) = ((k + 1 : Nat) : Int) := by rw [w64_id (by omega) (by omega)]; omega
    have hl := encC_len (n.Cells.take k) (fun c hc => h.cells.code c (List.mem_of_mem_take hc))
    rw [List.length_take] at hl
    have hc := h.cells.code _ (lget_mem n.Cells (k : Int) (by omega))
    simp only [wal_bytes_B1, cell_eta]
    rw [if_pos (d_t (by omega)), asrt_pos (by omega), add_eq _ hc _ (by rw [List.length_append]; omega), ob_some, hw, encC_take _ _ hk, List.append_assoc]
  · simp only [wal_bytes_B1]
    rw [if_neg (d_f (by omega)), List.take_length]; rfl
theorem noteBytes_eq (n : Note) (h : NGood n) : R_NoteBytes_v1 n = some (encN n) := by
  unfold R_NoteBytes_v1 encN
  have hlo := h.lo
  have hhi := h.hi
  have hlen := h.len
  have e : n.Seq = ((n.Seq.toNat : Nat) : Int) := by omega
  have h5 := num_len5 (n := n.Seq.toNat) (by omega)
  rw [e, rnumber _ (by omega), ob_some, Int.toNat_natCast]
  have := loop_run (step := fun y => R_NoteBytes_v1_B1 y) n.Cells.length (fun k => (n, num n.Seq.toNat ++ encC (n.Cells.take k), (k : Int))) (r := num n.Seq.toNat ++ encC n.Cells) ?_ ?_
  · have e0 : encC (n.Cells.take 0) = [] := rfl
    simp only [e0, List.append_nil] at this
    exact this
  · intro k hk
    have hw : w64 ((k : Int) + 1) = ((k + 1 : Nat) : Int) := by rw [w64_id (by omega) (by omega)]; omega
    have hl := encC_len (n.Cells.take k) (fun c hc => h.cells.code c (List.mem_of_mem_take hc))
    rw [List.length_take] at hl
    have hc := h.cells.code _ (lget_mem n.Cells (k : Int) (by omega))
    have hcl := (wrC_len hc).1
    simp only [R_NoteBytes_v1_B1, cell_eta]
    rw [if_pos (d_t (by omega)), asrt_pos (by omega), cellBytes_eq _ hc, ob_some, asrt_pos (by simp only [List.length_append]; omega), hw, encC_take _ _ hk, List.append_assoc]
  · simp only [R_NoteBytes_v1_B1]
    rw [if_neg (d_f (by omega)), List.take_length]; rfl
noncomputable def wnoteS (n : Note) : List UInt8 × Fault := if (noteF n).Code = 0 then (encN n, ⟨0, 0⟩) else ([], noteF n)
theorem wwrite_eq (n : Note) : wal_Write_v1 n = some (wnoteS n) := by
  unfold wal_Write_v1 wnoteS
  rw [wcheck_eq, ob_some]
  by_cases c : (noteF n).Code = 0
  · rw [if_neg (n_f c), if_pos c, wbytes_eq n (noteF_good c), ob_some]
  · rw [if_pos (n_t c), if_neg c]
theorem sameNote_self (n : Note) (h : n.Cells.length ≤ 1000000) : R_SameNote n n = some true := by
  unfold R_SameNote
  rw [if_pos (by simp), sameCells_self _ h, ob_some]; simp
theorem note1F : noteF law_oneNote = ⟨0, 0⟩ := by
  simp [law_oneNote, lt, noteF, cellF, ck, R_CellCode, okp]
end G
end Go.Proofs.Ytollmifjbcccgaa
