/- The program's functions as plain functions, and that they are these. Written by a program (dec2.py). -/
import Derived.Test.YtkbgkkbinnclmaaTys
namespace Go.Proofs.Ytkbgkkbinnclmaa
open Go Go.Dm
set_option linter.unusedVariables false
set_option linter.unusedSimpArgs false
set_option maxRecDepth 100000
namespace G
/- tabularylaw.versions -/
noncomputable def law_versions  : List Cell :=
  lt ([(⟨([114] : List UInt8), ([99] : List UInt8), 2, false, ([98] : List UInt8)⟩ : Cell), (⟨([114] : List UInt8), ([99] : List UInt8), 1, false, ([97] : List UInt8)⟩ : Cell)]) fun (v : List Cell) =>
  v
theorem law_versions_ok  (r : List Cell) (hF : law_versions  = r) : Pe Try.prog 47 S.none [] (.sl 5 (r.map e_Cell)) S.none := by
  refine Pe_of (N := 4) (res := [.tmp 0]) (ts := [22]) Ty.ok Fn.b47 Try.func47 rfl rfl rfl rfl rfl rfl ?_
  intro Q g hfin
  unfold law_versions at hF
  refine Wk_seq ?_
  refine WR [] [] [] [] [] [] [] ⟨[], [], [], [], []⟩ .nil (by kernel_rfl) ?_
  refine Wk_seq ?_
  refine WRL ([(⟨([114] : List UInt8), ([99] : List UInt8), 2, false, ([98] : List UInt8)⟩ : Cell), (⟨([114] : List UInt8), ([99] : List UInt8), 1, false, ([97] : List UInt8)⟩ : Cell)]) (fun v : List Cell => ⟨[(0, .sl 5 (v.map e_Cell))], [], [], [], []⟩) [.sealed] [0] [] [] [] [] [] .nil (by kernel_rfl) (fun v hv => ?_)
  have hF := lt_elim hF hv
  exact Wk_ret (hfin _ ⟨[], [], [], [], [], [], by first | (rw [← hF]; kernel_rfl) | kernel_rfl⟩)

/- cell.fault -/
noncomputable def cell_fault (code : Int) (at0 : Int) : Fault :=
  (⟨code, at0⟩ : Fault)
theorem cell_fault_ok (code : Int) (at0 : Int) (r : Fault) (hF : cell_fault code at0 = r) : Pe Try.prog 48 S.none [.int .i64 code, .int .i64 at0] (.agg [.int .i64 r.Code, .int .i64 r.At]) S.none := by
  refine Pe_of (N := 8) (res := [.cell 4 28]) (ts := [28]) Ty.ok Fn.b48 Try.func48 rfl rfl rfl rfl rfl rfl ?_
  intro Q g hfin
  unfold cell_fault at hF
  refine Wk_seq ?_
  refine WR [] [0, 1, 4] [4] [] [] [] [] ⟨[(0, .int .i64 code), (1, .int .i64 at0), (4, .ptr 4 0)], [(4, [.int .i64 0, .int .i64 0])], [], [], []⟩ .nil (by kernel_rfl) ?_
  refine Wk_seq ?_
  refine WR [] [4] [4] [] [] [] [] ⟨[(4, .ptr 4 0)], [(4, [.int .i64 code, .int .i64 at0])], [], [], []⟩ .nil (by kernel_rfl) ?_
  exact Wk_ret (hfin _ ⟨[], [], [], [], [], [], by first | (rw [← hF]; kernel_rfl) | kernel_rfl⟩)

/- cell.code -/
noncomputable def cell_code (c : Cell) : Int :=
  if ((((decide (c.Row = ([] : List UInt8))) || (decide (40 < (c.Row.length : Int)))) || (decide (40 < (c.Col.length : Int)))) || (decide (200 < (c.Value.length : Int)))) = true then
    8
  else
    if ((decide (c.Time < 0)) || (decide (1000000000 < c.Time))) = true then
      3
    else
      if (c.Gone && (!decide (c.Value = ([] : List UInt8)))) = true then
        5
      else
        0
theorem cell_code_ok (c : Cell) (r : Int) (hF : cell_code c = r) : Pe Try.prog 56 S.none [.agg [.str c.Row, .str c.Col, .int .i64 c.Time, .bool c.Gone, .str c.Value]] (.int .i64 r) S.none := by
  refine Pe_of (N := 42) (res := [.tmp 2]) (ts := [3]) Ty.ok Fn.b56 Try.func56 rfl rfl rfl rfl rfl rfl ?_
  intro Q g hfin
  unfold cell_code at hF
  refine Wk_seq ?_
  refine WR [] [1] [1] [] [] [] [] ⟨[(1, .ptr 1 0)], [(1, [.str c.Row, .str c.Col, .int .i64 c.Time, .bool c.Gone, .str c.Value])], [], [], []⟩ .nil (by kernel_rfl) ?_
  refine Wk_seq ?_
  refine Wk_block ?_
  refine Wk_seq ?_
  refine WR [] [1, 3] [1] [] [] [] [] ⟨[(1, .ptr 1 0), (3, .bool ((((decide (c.Row = ([] : List UInt8))) || (decide (40 < (c.Row.length : Int)))) || (decide (40 < (c.Col.length : Int)))) || (decide (200 < (c.Value.length : Int)))))], [(1, [.str c.Row, .str c.Col, .int .i64 c.Time, .bool c.Gone, .str c.Value])], [], [], []⟩ .nil (by kernel_rfl) ?_
  refine Wk_split rfl (fun hb => ?_) (fun hb => ?_)
  · have hF := ite_t hF hb
    refine Wk_seq ?_
    refine WR [] [2] [] [] [] [] [] ⟨[(2, .int .i64 8)], [], [], [], []⟩ .nil (by kernel_rfl) ?_
    exact Wk_ret (hfin _ ⟨[], [], [], [], [], [], by first | (rw [← hF]; kernel_rfl) | kernel_rfl⟩)
  · have hF := ite_f hF hb
    refine Wk_seq ?_
    refine WR [] [1, 25] [1] [] [] [] [] ⟨[(1, .ptr 1 0), (25, .bool ((decide (c.Time < 0)) || (decide (1000000000 < c.Time))))], [(1, [.str c.Row, .str c.Col, .int .i64 c.Time, .bool c.Gone, .str c.Value])], [], [], []⟩ .nil (by kernel_rfl) ?_
    refine Wk_split rfl (fun hb => ?_) (fun hb => ?_)
    · have hF := ite_t hF hb
      refine Wk_seq ?_
      refine WR [] [2] [] [] [] [] [] ⟨[(2, .int .i64 3)], [], [], [], []⟩ .nil (by kernel_rfl) ?_
      exact Wk_ret (hfin _ ⟨[], [], [], [], [], [], by first | (rw [← hF]; kernel_rfl) | kernel_rfl⟩)
    · have hF := ite_f hF hb
      refine Wk_seq ?_
      refine WR [] [34] [] [] [] [] [] ⟨[(34, .bool (c.Gone && (!decide (c.Value = ([] : List UInt8)))))], [], [], [], []⟩ .nil (by kernel_rfl) ?_
      refine Wk_split rfl (fun hb => ?_) (fun hb => ?_)
      · have hF := ite_t hF hb
        refine Wk_seq ?_
        refine WR [] [2] [] [] [] [] [] ⟨[(2, .int .i64 5)], [], [], [], []⟩ .nil (by kernel_rfl) ?_
        exact Wk_ret (hfin _ ⟨[], [], [], [], [], [], by first | (rw [← hF]; kernel_rfl) | kernel_rfl⟩)
      · have hF := ite_f hF hb
        refine Wk_skip ?_
        refine Wk_blk ?_
        refine Wk_seq ?_
        refine WR [] [2] [] [] [] [] [] ⟨[(2, .int .i64 0)], [], [], [], []⟩ .nil (by kernel_rfl) ?_
        exact Wk_ret (hfin _ ⟨[], [], [], [], [], [], by first | (rw [← hF]; kernel_rfl) | kernel_rfl⟩)

/- cmp.isNaN[string] -/
noncomputable def cmp_isNaN_string (x : List UInt8) : Bool :=
  !decide (x = x)
theorem cmp_isNaN_string_ok (x : List UInt8) (r : Bool) (hF : cmp_isNaN_string x = r) : Pe Try.prog 87 S.none [.str x] (.bool r) S.none := by
  refine Pe_of (N := 6) (res := [.tmp 2]) (ts := [4]) Ty.ok Fn.b87 Try.func87 rfl rfl rfl rfl rfl rfl ?_
  intro Q g hfin
  unfold cmp_isNaN_string at hF
  refine Wk_seq ?_
  refine WR [] [0] [] [] [] [] [] ⟨[(0, .str x)], [], [], [], []⟩ .nil (by kernel_rfl) ?_
  refine Wk_seq ?_
  refine WR [] [2] [] [] [] [] [] ⟨[(2, .bool (!decide (x = x)))], [], [], [], []⟩ .nil (by kernel_rfl) ?_
  exact Wk_ret (hfin _ ⟨[], [], [], [], [], [], by first | (rw [← hF]; kernel_rfl) | kernel_rfl⟩)

/- cmp.Compare[string] -/
noncomputable def cmp_Compare_string (x : List UInt8) (y0 : List UInt8) : Int :=
  lt (cmp_isNaN_string x) fun x1 =>
  lt (cmp_isNaN_string y0) fun x2 =>
  if x1 = true then
    if x2 = true then
      0
    else
      (-1)
  else
    if x2 = true then
      1
    else
      if (Op.bytesLess x y0) = true then
        (-1)
      else
        if (Op.bytesLess y0 x) = true then
          1
        else
          0
theorem cmp_Compare_string_ok (x : List UInt8) (y0 : List UInt8) (r : Int) (hF : cmp_Compare_string x y0 = r) : Pe Try.prog 74 S.none [.str x, .str y0] (.int .i64 r) S.none := by
  refine Pe_of (N := 20) (res := [.tmp 4]) (ts := [3]) Ty.ok Fn.b74 Try.func74 rfl rfl rfl rfl rfl rfl ?_
  intro Q g hfin
  unfold cmp_Compare_string at hF
  refine Wk_seq ?_
  refine WR [] [0, 1] [] [] [] [] [] ⟨[(0, .str x), (1, .str y0)], [], [], [], []⟩ .nil (by kernel_rfl) ?_
  refine Wk_seq ?_
  obtain ⟨x1, h0, hF⟩ := lt_split hF
  refine WR [.callB (.bool x1)] [0, 1, 5] [] [] [] [] [] ⟨[(0, .str x), (1, .str y0), (5, .bool x1)], [], [], [], []⟩ (.cons (cmp_isNaN_string_ok x x1 h0) .nil) (by kernel_rfl) ?_
  refine Wk_seq ?_
  obtain ⟨x2, h1, hF⟩ := lt_split hF
  refine WR [.callB (.bool x2)] [0, 1, 5, 6] [] [] [] [] [] ⟨[(0, .str x), (1, .str y0), (5, .bool x1), (6, .bool x2)], [], [], [], []⟩ (.cons (cmp_isNaN_string_ok y0 x2 h1) .nil) (by kernel_rfl) ?_
  refine Wk_seq ?_
  refine Wk_seq ?_
  refine WR [] [0, 1, 6, 11] [] [] [] [] [] ⟨[(0, .str x), (1, .str y0), (6, .bool x2), (11, .bool x1)], [], [], [], []⟩ .nil (by kernel_rfl) ?_
  refine Wk_split rfl (fun hb => ?_) (fun hb => ?_)
  · have hF := ite_t hF hb
    refine Wk_seq ?_
    refine Wk_seq ?_
    refine WR [] [12] [] [] [] [] [] ⟨[(12, .bool x2)], [], [], [], []⟩ .nil (by kernel_rfl) ?_
    refine Wk_split rfl (fun hb => ?_) (fun hb => ?_)
    · have hF := ite_t hF hb
      refine Wk_seq ?_
      refine WR [] [4] [] [] [] [] [] ⟨[(4, .int .i64 0)], [], [], [], []⟩ .nil (by kernel_rfl) ?_
      exact Wk_ret (hfin _ ⟨[], [], [], [], [], [], by first | (rw [← hF]; kernel_rfl) | kernel_rfl⟩)
    · have hF := ite_f hF hb
      refine Wk_skip ?_
      refine Wk_seq ?_
      refine WR [] [4] [] [] [] [] [] ⟨[(4, .int .i64 (-1))], [], [], [], []⟩ .nil (by kernel_rfl) ?_
      exact Wk_ret (hfin _ ⟨[], [], [], [], [], [], by first | (rw [← hF]; kernel_rfl) | kernel_rfl⟩)
  · have hF := ite_f hF hb
    refine Wk_skip ?_
    refine Wk_seq ?_
    refine Wk_seq ?_
    refine WR [] [0, 1, 13] [] [] [] [] [] ⟨[(0, .str x), (1, .str y0), (13, .bool x2)], [], [], [], []⟩ .nil (by kernel_rfl) ?_
    refine Wk_split rfl (fun hb => ?_) (fun hb => ?_)
    · have hF := ite_t hF hb
      refine Wk_seq ?_
      refine WR [] [4] [] [] [] [] [] ⟨[(4, .int .i64 1)], [], [], [], []⟩ .nil (by kernel_rfl) ?_
      exact Wk_ret (hfin _ ⟨[], [], [], [], [], [], by first | (rw [← hF]; kernel_rfl) | kernel_rfl⟩)
    · have hF := ite_f hF hb
      refine Wk_skip ?_
      refine Wk_seq ?_
      refine Wk_seq ?_
      refine WR [] [0, 1, 16] [] [] [] [] [] ⟨[(0, .str x), (1, .str y0), (16, .bool (Op.bytesLess x y0))], [], [], [], []⟩ .nil (by kernel_rfl) ?_
      refine Wk_split rfl (fun hb => ?_) (fun hb => ?_)
      · have hF := ite_t hF hb
        refine Wk_seq ?_
        refine WR [] [4] [] [] [] [] [] ⟨[(4, .int .i64 (-1))], [], [], [], []⟩ .nil (by kernel_rfl) ?_
        exact Wk_ret (hfin _ ⟨[], [], [], [], [], [], by first | (rw [← hF]; kernel_rfl) | kernel_rfl⟩)
      · have hF := ite_f hF hb
        refine Wk_skip ?_
        refine Wk_seq ?_
        refine Wk_seq ?_
        refine WR [] [19] [] [] [] [] [] ⟨[(19, .bool (Op.bytesLess y0 x))], [], [], [], []⟩ .nil (by kernel_rfl) ?_
        refine Wk_split rfl (fun hb => ?_) (fun hb => ?_)
        · have hF := ite_t hF hb
          refine Wk_seq ?_
          refine WR [] [4] [] [] [] [] [] ⟨[(4, .int .i64 1)], [], [], [], []⟩ .nil (by kernel_rfl) ?_
          exact Wk_ret (hfin _ ⟨[], [], [], [], [], [], by first | (rw [← hF]; kernel_rfl) | kernel_rfl⟩)
        · have hF := ite_f hF hb
          refine Wk_skip ?_
          refine Wk_seq ?_
          refine WR [] [4] [] [] [] [] [] ⟨[(4, .int .i64 0)], [], [], [], []⟩ .nil (by kernel_rfl) ?_
          exact Wk_ret (hfin _ ⟨[], [], [], [], [], [], by first | (rw [← hF]; kernel_rfl) | kernel_rfl⟩)

/- cmp.isNaN[int] -/
noncomputable def cmp_isNaN_int (x : Int) : Bool :=
  !decide (x = x)
theorem cmp_isNaN_int_ok (x : Int) (r : Bool) (hF : cmp_isNaN_int x = r) : Pe Try.prog 88 S.none [.int .i64 x] (.bool r) S.none := by
  refine Pe_of (N := 6) (res := [.tmp 2]) (ts := [4]) Ty.ok Fn.b88 Try.func88 rfl rfl rfl rfl rfl rfl ?_
  intro Q g hfin
  unfold cmp_isNaN_int at hF
  refine Wk_seq ?_
  refine WR [] [0] [] [] [] [] [] ⟨[(0, .int .i64 x)], [], [], [], []⟩ .nil (by kernel_rfl) ?_
  refine Wk_seq ?_
  refine WR [] [2] [] [] [] [] [] ⟨[(2, .bool (!decide (x = x)))], [], [], [], []⟩ .nil (by kernel_rfl) ?_
  exact Wk_ret (hfin _ ⟨[], [], [], [], [], [], by first | (rw [← hF]; kernel_rfl) | kernel_rfl⟩)

/- cmp.Compare[int] -/
noncomputable def cmp_Compare_int (x : Int) (y0 : Int) : Int :=
  lt (cmp_isNaN_int x) fun x1 =>
  lt (cmp_isNaN_int y0) fun x2 =>
  if x1 = true then
    if x2 = true then
      0
    else
      (-1)
  else
    if x2 = true then
      1
    else
      if (decide (x < y0)) = true then
        (-1)
      else
        if (decide (y0 < x)) = true then
          1
        else
          0
theorem cmp_Compare_int_ok (x : Int) (y0 : Int) (r : Int) (hF : cmp_Compare_int x y0 = r) : Pe Try.prog 75 S.none [.int .i64 x, .int .i64 y0] (.int .i64 r) S.none := by
  refine Pe_of (N := 20) (res := [.tmp 4]) (ts := [3]) Ty.ok Fn.b75 Try.func75 rfl rfl rfl rfl rfl rfl ?_
  intro Q g hfin
  unfold cmp_Compare_int at hF
  refine Wk_seq ?_
  refine WR [] [0, 1] [] [] [] [] [] ⟨[(0, .int .i64 x), (1, .int .i64 y0)], [], [], [], []⟩ .nil (by kernel_rfl) ?_
  refine Wk_seq ?_
  obtain ⟨x1, h0, hF⟩ := lt_split hF
  refine WR [.callB (.bool x1)] [0, 1, 5] [] [] [] [] [] ⟨[(0, .int .i64 x), (1, .int .i64 y0), (5, .bool x1)], [], [], [], []⟩ (.cons (cmp_isNaN_int_ok x x1 h0) .nil) (by kernel_rfl) ?_
  refine Wk_seq ?_
  obtain ⟨x2, h1, hF⟩ := lt_split hF
  refine WR [.callB (.bool x2)] [0, 1, 5, 6] [] [] [] [] [] ⟨[(0, .int .i64 x), (1, .int .i64 y0), (5, .bool x1), (6, .bool x2)], [], [], [], []⟩ (.cons (cmp_isNaN_int_ok y0 x2 h1) .nil) (by kernel_rfl) ?_
  refine Wk_seq ?_
  refine Wk_seq ?_
  refine WR [] [0, 1, 6, 11] [] [] [] [] [] ⟨[(0, .int .i64 x), (1, .int .i64 y0), (6, .bool x2), (11, .bool x1)], [], [], [], []⟩ .nil (by kernel_rfl) ?_
  refine Wk_split rfl (fun hb => ?_) (fun hb => ?_)
  · have hF := ite_t hF hb
    refine Wk_seq ?_
    refine Wk_seq ?_
    refine WR [] [12] [] [] [] [] [] ⟨[(12, .bool x2)], [], [], [], []⟩ .nil (by kernel_rfl) ?_
    refine Wk_split rfl (fun hb => ?_) (fun hb => ?_)
    · have hF := ite_t hF hb
      refine Wk_seq ?_
      refine WR [] [4] [] [] [] [] [] ⟨[(4, .int .i64 0)], [], [], [], []⟩ .nil (by kernel_rfl) ?_
      exact Wk_ret (hfin _ ⟨[], [], [], [], [], [], by first | (rw [← hF]; kernel_rfl) | kernel_rfl⟩)
    · have hF := ite_f hF hb
      refine Wk_skip ?_
      refine Wk_seq ?_
      refine WR [] [4] [] [] [] [] [] ⟨[(4, .int .i64 (-1))], [], [], [], []⟩ .nil (by kernel_rfl) ?_
      exact Wk_ret (hfin _ ⟨[], [], [], [], [], [], by first | (rw [← hF]; kernel_rfl) | kernel_rfl⟩)
  · have hF := ite_f hF hb
    refine Wk_skip ?_
    refine Wk_seq ?_
    refine Wk_seq ?_
    refine WR [] [0, 1, 13] [] [] [] [] [] ⟨[(0, .int .i64 x), (1, .int .i64 y0), (13, .bool x2)], [], [], [], []⟩ .nil (by kernel_rfl) ?_
    refine Wk_split rfl (fun hb => ?_) (fun hb => ?_)
    · have hF := ite_t hF hb
      refine Wk_seq ?_
      refine WR [] [4] [] [] [] [] [] ⟨[(4, .int .i64 1)], [], [], [], []⟩ .nil (by kernel_rfl) ?_
      exact Wk_ret (hfin _ ⟨[], [], [], [], [], [], by first | (rw [← hF]; kernel_rfl) | kernel_rfl⟩)
    · have hF := ite_f hF hb
      refine Wk_skip ?_
      refine Wk_seq ?_
      refine Wk_seq ?_
      refine WR [] [0, 1, 16] [] [] [] [] [] ⟨[(0, .int .i64 x), (1, .int .i64 y0), (16, .bool (decide (x < y0)))], [], [], [], []⟩ .nil (by kernel_rfl) ?_
      refine Wk_split rfl (fun hb => ?_) (fun hb => ?_)
      · have hF := ite_t hF hb
        refine Wk_seq ?_
        refine WR [] [4] [] [] [] [] [] ⟨[(4, .int .i64 (-1))], [], [], [], []⟩ .nil (by kernel_rfl) ?_
        exact Wk_ret (hfin _ ⟨[], [], [], [], [], [], by first | (rw [← hF]; kernel_rfl) | kernel_rfl⟩)
      · have hF := ite_f hF hb
        refine Wk_skip ?_
        refine Wk_seq ?_
        refine Wk_seq ?_
        refine WR [] [19] [] [] [] [] [] ⟨[(19, .bool (decide (y0 < x)))], [], [], [], []⟩ .nil (by kernel_rfl) ?_
        refine Wk_split rfl (fun hb => ?_) (fun hb => ?_)
        · have hF := ite_t hF hb
          refine Wk_seq ?_
          refine WR [] [4] [] [] [] [] [] ⟨[(4, .int .i64 1)], [], [], [], []⟩ .nil (by kernel_rfl) ?_
          exact Wk_ret (hfin _ ⟨[], [], [], [], [], [], by first | (rw [← hF]; kernel_rfl) | kernel_rfl⟩)
        · have hF := ite_f hF hb
          refine Wk_skip ?_
          refine Wk_seq ?_
          refine WR [] [4] [] [] [] [] [] ⟨[(4, .int .i64 0)], [], [], [], []⟩ .nil (by kernel_rfl) ?_
          exact Wk_ret (hfin _ ⟨[], [], [], [], [], [], by first | (rw [← hF]; kernel_rfl) | kernel_rfl⟩)

/- cmp.Or[int] -/
noncomputable def cmp_Or_int_J1 (v : Unit) : Option Int :=
  some 0
noncomputable def cmp_Or_int_B1 (vals : List Int) (v1 : Int) : Option (Int ⊕ Int) :=
  if (decide (v1 < (vals.length : Int))) = true then
    asrt (0 ≤ v1 ∧ v1 < (vals.length : Int)) <|
    if (!decide ((lget vals v1) = 0)) = true then
      some (Sum.inr (lget vals v1))
    else
      some (Sum.inl (w64 (v1 + 1)))
  else
    inrO (cmp_Or_int_J1 ())
noncomputable def cmp_Or_int_L1 (vals : List Int) (v0 : Int) : Option Int :=
  loopO (fun y => cmp_Or_int_B1 vals y) v0
noncomputable def cmp_Or_int (vals : List Int) : Option Int :=
  cmp_Or_int_L1 vals 0
theorem cmp_Or_int_ok (vals : List Int) (r : Int) (hF : cmp_Or_int vals = some r) : Pe Try.prog 73 S.none [.sl 1 (vals.map e_i64)] (.int .i64 r) S.none := by
  refine Pe_of (N := 18) (res := [.tmp 2]) (ts := [3]) Ty.ok Fn.b73 Try.func73 rfl rfl rfl rfl rfl rfl ?_
  intro Q g hfin
  unfold cmp_Or_int at hF
  refine Wk_seq ?_
  refine WR [] [0] [] [] [] [] [] ⟨[(0, .sl 1 (vals.map e_i64))], [], [], [], []⟩ .nil (by kernel_rfl) ?_
  refine Wk_seq ?_
  refine WR [] [0, 3] [] [] [] [] [] ⟨[(0, .sl 1 (vals.map e_i64)), (3, .int .i64 0)], [], [], [], []⟩ .nil (by kernel_rfl) ?_
  refine Wk_seq ?_
  refine Wk_seq ?_
  refine WR [.nat (vals.length : Int)] [3, 6, 7, 8] [] [] [] [] [] ⟨[(3, .int .i64 0), (6, .sl 1 (vals.map e_i64)), (7, .int .i64 (vals.length : Int)), (8, .int .i64 0)], [], [], [], []⟩ (.cons (len_ok e_i64 vals) .nil) (by kernel_rfl) ?_
  refine Wk_meetP (fun v : Unit => (⟨[(3, .int .i64 0)], [], [], [], []⟩ : S)) (fun v => cmp_Or_int_J1 v = some r) ?_ ?_
  · refine Wk_block ?_
    unfold cmp_Or_int_L1 at hF
    refine Wk_trim (fs := [3, 6, 7, 8]) (bs := []) (rs := []) (ms := []) (aa := []) (nv := []) (t := (fun v1 : Int => (⟨[(3, .int .i64 0), (6, .sl 1 (vals.map e_i64)), (7, .int .i64 (vals.length : Int)), (8, .int .i64 v1)], [], [], [], []⟩ : S)) 0) (by kernel_rfl) ?_
    refine Wk_iter (step := fun y => cmp_Or_int_B1 vals y) (r := r) (fun v1 : Int => (⟨[(3, .int .i64 0), (6, .sl 1 (vals.map e_i64)), (7, .int .i64 (vals.length : Int)), (8, .int .i64 v1)], [], [], [], []⟩ : S)) 0 hF ?_
    intro n1 v1 y1 hF ih1 dn1
    have hF : cmp_Or_int_B1 vals v1 = some y1 := hF
    unfold cmp_Or_int_B1 at hF
    refine Wk_seq ?_
    refine WR [] [3, 6, 7, 8, 9] [] [] [] [] [] ⟨[(3, .int .i64 0), (6, .sl 1 (vals.map e_i64)), (7, .int .i64 (vals.length : Int)), (8, .int .i64 v1), (9, .bool (decide (v1 < (vals.length : Int))))], [], [], [], []⟩ .nil (by kernel_rfl) ?_
    refine Wk_seq ?_
    refine Wk_split rfl (fun hb => ?_) (fun hb => ?_)
    · have hF := ite_t hF hb
      refine Wk_skip ?_
      refine Wk_seq ?_
      refine Wk_block ?_
      refine Wk_seq ?_
      obtain ⟨h0, hF⟩ := asrt_elim hF
      refine WR [.av (e_i64 (lget vals v1))] [3, 5, 6, 7, 8] [] [] [] [] [] ⟨[(3, .int .i64 0), (5, .int .i64 (lget vals v1)), (6, .sl 1 (vals.map e_i64)), (7, .int .i64 (vals.length : Int)), (8, .int .i64 v1)], [], [], [], []⟩ (.cons (idx_ok e_i64 h0) .nil) (by kernel_rfl) ?_
      refine Wk_seq ?_
      refine WR [] [3, 5, 6, 7, 8, 14] [] [] [] [] [] ⟨[(3, .int .i64 0), (5, .int .i64 (lget vals v1)), (6, .sl 1 (vals.map e_i64)), (7, .int .i64 (vals.length : Int)), (8, .int .i64 v1), (14, .bool (!decide ((lget vals v1) = 0)))], [], [], [], []⟩ .nil (by kernel_rfl) ?_
      refine Wk_split rfl (fun hb => ?_) (fun hb => ?_)
      · have hF := ite_t hF hb
        refine Wk_seq ?_
        refine WR [] [2] [] [] [] [] [] ⟨[(2, .int .i64 (lget vals v1))], [], [], [], []⟩ .nil (by kernel_rfl) ?_
        have hF := ret_done hF dn1
        have hF := some_elim hF
        exact Wk_ret (hfin _ ⟨[], [], [], [], [], [], by first | (rw [← hF]; kernel_rfl) | kernel_rfl⟩)
      · have hF := ite_f hF hb
        refine Wk_skip ?_
        refine Wk_blk ?_
        refine WR [] [3, 6, 7, 8] [] [] [] [] [] ⟨[(3, .int .i64 0), (6, .sl 1 (vals.map e_i64)), (7, .int .i64 (vals.length : Int)), (8, .int .i64 (w64 (v1 + 1)))], [], [], [], []⟩ .nil (by kernel_rfl) ?_
        refine Wk_trim (fs := [3, 6, 7, 8]) (bs := []) (rs := []) (ms := []) (aa := []) (nv := []) ?_ (ih1 _ (some_elim hF).symm)
        kernel_rfl
    · have hF := ite_f hF hb
      refine Wk_exit rfl ?_
      have hF := inrO_done hF dn1
      exact Wk_metP () [3] [] [] [] [] [] hF (by kernel_rfl)
  · intro v hF
    have hF : cmp_Or_int_J1 v = some r := hF
    unfold cmp_Or_int_J1 at hF
    refine Wk_seq ?_
    refine WR [] [2] [] [] [] [] [] ⟨[(2, .int .i64 0)], [], [], [], []⟩ .nil (by kernel_rfl) ?_
    have hF := some_elim hF
    exact Wk_ret (hfin _ ⟨[], [], [], [], [], [], by first | (rw [← hF]; kernel_rfl) | kernel_rfl⟩)

/- cell.Order -/
noncomputable def cell_Order (a0 : Cell) (b : Cell) : Option Int :=
  lt (cmp_Compare_string a0.Row b.Row) fun x =>
  lt (cmp_Compare_string a0.Col b.Col) fun x1 =>
  lt (cmp_Compare_int b.Time a0.Time) fun x2 =>
  ob (cmp_Or_int ([x, x1, x2] : List Int)) fun x3 =>
  some x3
theorem cell_Order_ok (a0 : Cell) (b : Cell) (r : Int) (hF : cell_Order a0 b = some r) : Pe Try.prog 57 S.none [.agg [.str a0.Row, .str a0.Col, .int .i64 a0.Time, .bool a0.Gone, .str a0.Value], .agg [.str b.Row, .str b.Col, .int .i64 b.Time, .bool b.Gone, .str b.Value]] (.int .i64 r) S.none := by
  refine Pe_of (N := 22) (res := [.tmp 4]) (ts := [3]) Ty.ok Fn.b57 Try.func57 rfl rfl rfl rfl rfl rfl ?_
  intro Q g hfin
  unfold cell_Order at hF
  refine Wk_seq ?_
  refine WR [] [2, 3] [2, 3] [] [] [] [] ⟨[(2, .ptr 2 0), (3, .ptr 3 0)], [(2, [.str a0.Row, .str a0.Col, .int .i64 a0.Time, .bool a0.Gone, .str a0.Value]), (3, [.str b.Row, .str b.Col, .int .i64 b.Time, .bool b.Gone, .str b.Value])], [], [], []⟩ .nil (by kernel_rfl) ?_
  refine Wk_seq ?_
  obtain ⟨x, h0, hF⟩ := lt_split hF
  obtain ⟨x1, h1, hF⟩ := lt_split hF
  obtain ⟨x2, h2, hF⟩ := lt_split hF
  obtain ⟨x3, h3, hF⟩ := ob_elim hF
  refine WD [.callB (.int .i64 x), .callB (.int .i64 x1), .callB (.int .i64 x2), .sealed, .callB (.int .i64 x3)] [4] [] [] [] [] [] ⟨[(4, .int .i64 x3)], [], [], [], []⟩ (.cons (cmp_Compare_string_ok a0.Row b.Row x h0) (.cons (cmp_Compare_string_ok a0.Col b.Col x1 h1) (.cons (cmp_Compare_int_ok b.Time a0.Time x2 h2) (.cons (cmp_Or_int_ok ([x, x1, x2] : List Int) x3 h3) .nil)))) (by kernel_rfl) ?_
  have hF := some_elim hF
  exact Wk_ret (hfin _ ⟨[], [], [], [], [], [], by first | (rw [← hF]; kernel_rfl) | kernel_rfl⟩)

/- cell.Check -/
noncomputable def cell_Check_J1 (v : Fault) : Option Fault :=
  some (⟨0, 0⟩ : Fault)
noncomputable def cell_Check_B1 (l : List Cell) (v1 : Fault × Int) : Option ((Fault × Int) ⊕ Fault) :=
  if (decide (v1.2 < (l.length : Int))) = true then
    asrt (0 ≤ v1.2 ∧ v1.2 < (l.length : Int)) <|
    lt (cell_code (⟨(lget l v1.2).Row, (lget l v1.2).Col, (lget l v1.2).Time, (lget l v1.2).Gone, (lget l v1.2).Value⟩ : Cell)) fun x1 =>
    if (!decide (x1 = 0)) = true then
      lt (cell_fault x1 v1.2) fun x2 =>
      some (Sum.inr x2)
    else
      asrt ((decide (0 < v1.2)) = true → 0 ≤ w64 (v1.2 - 1) ∧ w64 (v1.2 - 1) < (l.length : Int)) <|
      ob (if (decide (0 < v1.2)) = true then (cell_Order (⟨(lget l (w64 (v1.2 - 1))).Row, (lget l (w64 (v1.2 - 1))).Col, (lget l (w64 (v1.2 - 1))).Time, (lget l (w64 (v1.2 - 1))).Gone, (lget l (w64 (v1.2 - 1))).Value⟩ : Cell) (⟨(lget l v1.2).Row, (lget l v1.2).Col, (lget l v1.2).Time, (lget l v1.2).Gone, (lget l v1.2).Value⟩ : Cell)) else some default) fun x3 =>
      if ((decide (0 < v1.2)) && (decide (0 ≤ x3))) = true then
        lt (cell_fault 10 v1.2) fun x4 =>
        some (Sum.inr x4)
      else
        some (Sum.inl (v1.1, w64 (v1.2 + 1)))
  else
    inrO (cell_Check_J1 v1.1)
noncomputable def cell_Check_L1 (l : List Cell) (v0 : Fault × Int) : Option Fault :=
  loopO (fun y => cell_Check_B1 l y) v0
noncomputable def cell_Check (l : List Cell) : Option Fault :=
  if (decide (1000 < (l.length : Int))) = true then
    lt (cell_fault 2 0) fun x =>
    some x
  else
    cell_Check_L1 l ((⟨0, 0⟩ : Fault), 0)
theorem cell_Check_ok (l : List Cell) (r : Fault) (hF : cell_Check l = some r) : Pe Try.prog 32 S.none [.sl 5 (l.map e_Cell)] (.agg [.int .i64 r.Code, .int .i64 r.At]) S.none := by
  refine Pe_of (N := 40) (res := [.cell 2 28]) (ts := [28]) Ty.ok Fn.b32 Try.func32 rfl rfl rfl rfl rfl rfl ?_
  intro Q g hfin
  unfold cell_Check at hF
  refine Wk_seq ?_
  refine WR [] [0, 2] [2] [] [] [] [] ⟨[(0, .sl 5 (l.map e_Cell)), (2, .ptr 2 0)], [(2, [.int .i64 0, .int .i64 0])], [], [], []⟩ .nil (by kernel_rfl) ?_
  refine Wk_seq ?_
  refine Wk_seq ?_
  refine WR [.nat (l.length : Int)] [0, 2, 8] [2] [] [] [] [] ⟨[(0, .sl 5 (l.map e_Cell)), (2, .ptr 2 0), (8, .bool (decide (1000 < (l.length : Int))))], [(2, [.int .i64 0, .int .i64 0])], [], [], []⟩ (.cons (len_ok e_Cell l) .nil) (by kernel_rfl) ?_
  refine Wk_split rfl (fun hb => ?_) (fun hb => ?_)
  · have hF := ite_t hF hb
    refine Wk_seq ?_
    obtain ⟨x, h0, hF⟩ := lt_split hF
    refine WR [.callB (.agg [.int .i64 x.Code, .int .i64 x.At])] [2] [2] [] [] [] [] ⟨[(2, .ptr 2 0)], [(2, [.int .i64 x.Code, .int .i64 x.At])], [], [], []⟩ (.cons (cell_fault_ok 2 0 x h0) .nil) (by kernel_rfl) ?_
    have hF := some_elim hF
    exact Wk_ret (hfin _ ⟨[], [], [], [], [], [], by first | (rw [← hF]; kernel_rfl) | kernel_rfl⟩)
  · have hF := ite_f hF hb
    refine Wk_skip ?_
    refine Wk_seq ?_
    refine Wk_seq ?_
    refine WR [.nat (l.length : Int)] [0, 2, 10, 11, 12] [2] [] [] [] [] ⟨[(0, .sl 5 (l.map e_Cell)), (2, .ptr 2 0), (10, .sl 5 (l.map e_Cell)), (11, .int .i64 (l.length : Int)), (12, .int .i64 0)], [(2, [.int .i64 0, .int .i64 0])], [], [], []⟩ (.cons (len_ok e_Cell l) .nil) (by kernel_rfl) ?_
    refine Wk_meetP (fun v : Fault => (⟨[(2, .ptr 2 0)], [(2, [.int .i64 v.Code, .int .i64 v.At])], [], [], []⟩ : S)) (fun v => cell_Check_J1 v = some r) ?_ ?_
    · refine Wk_block ?_
      unfold cell_Check_L1 at hF
      refine Wk_trim (fs := [0, 2, 10, 11, 12]) (bs := [2]) (rs := []) (ms := []) (aa := []) (nv := []) (t := (fun v1 : Fault × Int => (⟨[(0, .sl 5 (l.map e_Cell)), (2, .ptr 2 0), (10, .sl 5 (l.map e_Cell)), (11, .int .i64 (l.length : Int)), (12, .int .i64 v1.2)], [(2, [.int .i64 v1.1.Code, .int .i64 v1.1.At])], [], [], []⟩ : S)) ((⟨0, 0⟩ : Fault), 0)) (by kernel_rfl) ?_
      refine Wk_iter (step := fun y => cell_Check_B1 l y) (r := r) (fun v1 : Fault × Int => (⟨[(0, .sl 5 (l.map e_Cell)), (2, .ptr 2 0), (10, .sl 5 (l.map e_Cell)), (11, .int .i64 (l.length : Int)), (12, .int .i64 v1.2)], [(2, [.int .i64 v1.1.Code, .int .i64 v1.1.At])], [], [], []⟩ : S)) ((⟨0, 0⟩ : Fault), 0) hF ?_
      intro n1 v1 y1 hF ih1 dn1
      have hF : cell_Check_B1 l v1 = some y1 := hF
      unfold cell_Check_B1 at hF
      refine Wk_seq ?_
      refine WR [] [0, 2, 10, 11, 12, 13] [2] [] [] [] [] ⟨[(0, .sl 5 (l.map e_Cell)), (2, .ptr 2 0), (10, .sl 5 (l.map e_Cell)), (11, .int .i64 (l.length : Int)), (12, .int .i64 v1.2), (13, .bool (decide (v1.2 < (l.length : Int))))], [(2, [.int .i64 v1.1.Code, .int .i64 v1.1.At])], [], [], []⟩ .nil (by kernel_rfl) ?_
      refine Wk_seq ?_
      refine Wk_split rfl (fun hb => ?_) (fun hb => ?_)
      · have hF := ite_t hF hb
        refine Wk_skip ?_
        refine Wk_seq ?_
        refine Wk_block ?_
        refine Wk_seq ?_
        obtain ⟨h1, hF⟩ := asrt_elim hF
        refine WR [.av (e_Cell (lget l v1.2))] [0, 2, 3, 4, 10, 11, 12] [2, 4] [] [] [] [] ⟨[(0, .sl 5 (l.map e_Cell)), (2, .ptr 2 0), (3, .int .i64 v1.2), (4, .ptr 4 0), (10, .sl 5 (l.map e_Cell)), (11, .int .i64 (l.length : Int)), (12, .int .i64 v1.2)], [(2, [.int .i64 v1.1.Code, .int .i64 v1.1.At]), (4, [.str ((lget l v1.2).Row), .str ((lget l v1.2).Col), .int .i64 ((lget l v1.2).Time), .bool ((lget l v1.2).Gone), .str ((lget l v1.2).Value)])], [], [], []⟩ (.cons (idx_ok e_Cell h1) .nil) (by kernel_rfl) ?_
        refine Wk_seq ?_
        refine Wk_seq ?_
        obtain ⟨x1, h2, hF⟩ := lt_split hF
        refine WR [.callB (.int .i64 x1)] [0, 2, 3, 4, 5, 10, 11, 12] [2, 4] [] [] [] [] ⟨[(0, .sl 5 (l.map e_Cell)), (2, .ptr 2 0), (3, .int .i64 v1.2), (4, .ptr 4 0), (5, .int .i64 x1), (10, .sl 5 (l.map e_Cell)), (11, .int .i64 (l.length : Int)), (12, .int .i64 v1.2)], [(2, [.int .i64 v1.1.Code, .int .i64 v1.1.At]), (4, [.str ((lget l v1.2).Row), .str ((lget l v1.2).Col), .int .i64 ((lget l v1.2).Time), .bool ((lget l v1.2).Gone), .str ((lget l v1.2).Value)])], [], [], []⟩ (.cons (cell_code_ok (⟨(lget l v1.2).Row, (lget l v1.2).Col, (lget l v1.2).Time, (lget l v1.2).Gone, (lget l v1.2).Value⟩ : Cell) x1 h2) .nil) (by kernel_rfl) ?_
        refine Wk_seq ?_
        refine WR [] [0, 2, 3, 4, 5, 10, 11, 12, 20] [2, 4] [] [] [] [] ⟨[(0, .sl 5 (l.map e_Cell)), (2, .ptr 2 0), (3, .int .i64 v1.2), (4, .ptr 4 0), (5, .int .i64 x1), (10, .sl 5 (l.map e_Cell)), (11, .int .i64 (l.length : Int)), (12, .int .i64 v1.2), (20, .bool (!decide (x1 = 0)))], [(2, [.int .i64 v1.1.Code, .int .i64 v1.1.At]), (4, [.str ((lget l v1.2).Row), .str ((lget l v1.2).Col), .int .i64 ((lget l v1.2).Time), .bool ((lget l v1.2).Gone), .str ((lget l v1.2).Value)])], [], [], []⟩ .nil (by kernel_rfl) ?_
        refine Wk_split rfl (fun hb => ?_) (fun hb => ?_)
        · have hF := ite_t hF hb
          refine Wk_seq ?_
          obtain ⟨x2, h3, hF⟩ := lt_split hF
          refine WR [.callB (.agg [.int .i64 x2.Code, .int .i64 x2.At])] [2] [2] [] [] [] [] ⟨[(2, .ptr 2 0)], [(2, [.int .i64 x2.Code, .int .i64 x2.At])], [], [], []⟩ (.cons (cell_fault_ok x1 v1.2 x2 h3) .nil) (by kernel_rfl) ?_
          have hF := ret_done hF dn1
          have hF := some_elim hF
          exact Wk_ret (hfin _ ⟨[], [], [], [], [], [], by first | (rw [← hF]; kernel_rfl) | kernel_rfl⟩)
        · have hF := ite_f hF hb
          refine Wk_skip ?_
          refine Wk_seq ?_
          obtain ⟨h4, hF⟩ := asrt_elim hF
          obtain ⟨x3, h5, hF⟩ := ob_elim hF
          refine WD [.av (e_Cell (lget l (w64 (v1.2 - 1)))), .callB (.int .i64 x3)] [0, 2, 3, 10, 11, 12, 35] [2] [] [] [] [] ⟨[(0, .sl 5 (l.map e_Cell)), (2, .ptr 2 0), (3, .int .i64 v1.2), (10, .sl 5 (l.map e_Cell)), (11, .int .i64 (l.length : Int)), (12, .int .i64 v1.2), (35, .bool ((decide (0 < v1.2)) && (decide (0 ≤ x3))))], [(2, [.int .i64 v1.1.Code, .int .i64 v1.1.At])], [], [], []⟩ (.cons (fun (ga0 : (decide (0 < v1.2)) = true) => (idx_ok e_Cell (h4 ga0))) (.cons (fun (ga0 : (decide (0 < v1.2)) = true) => (cell_Order_ok (⟨(lget l (w64 (v1.2 - 1))).Row, (lget l (w64 (v1.2 - 1))).Col, (lget l (w64 (v1.2 - 1))).Time, (lget l (w64 (v1.2 - 1))).Gone, (lget l (w64 (v1.2 - 1))).Value⟩ : Cell) (⟨(lget l v1.2).Row, (lget l v1.2).Col, (lget l v1.2).Time, (lget l v1.2).Gone, (lget l v1.2).Value⟩ : Cell) x3 (ite_t h5 ga0))) .nil)) (by kernel_rfl) ?_
          refine Wk_split rfl (fun hb => ?_) (fun hb => ?_)
          · have hF := ite_t hF hb
            refine Wk_seq ?_
            obtain ⟨x4, h6, hF⟩ := lt_split hF
            refine WR [.callB (.agg [.int .i64 x4.Code, .int .i64 x4.At])] [2] [2] [] [] [] [] ⟨[(2, .ptr 2 0)], [(2, [.int .i64 x4.Code, .int .i64 x4.At])], [], [], []⟩ (.cons (cell_fault_ok 10 v1.2 x4 h6) .nil) (by kernel_rfl) ?_
            have hF := ret_done hF dn1
            have hF := some_elim hF
            exact Wk_ret (hfin _ ⟨[], [], [], [], [], [], by first | (rw [← hF]; kernel_rfl) | kernel_rfl⟩)
          · have hF := ite_f hF hb
            refine Wk_skip ?_
            refine Wk_blk ?_
            refine WR [] [0, 2, 10, 11, 12] [2] [] [] [] [] ⟨[(0, .sl 5 (l.map e_Cell)), (2, .ptr 2 0), (10, .sl 5 (l.map e_Cell)), (11, .int .i64 (l.length : Int)), (12, .int .i64 (w64 (v1.2 + 1)))], [(2, [.int .i64 v1.1.Code, .int .i64 v1.1.At])], [], [], []⟩ .nil (by kernel_rfl) ?_
            refine Wk_trim (fs := [0, 2, 10, 11, 12]) (bs := [2]) (rs := []) (ms := []) (aa := []) (nv := []) ?_ (ih1 _ (some_elim hF).symm)
            kernel_rfl
      · have hF := ite_f hF hb
        refine Wk_exit rfl ?_
        have hF := inrO_done hF dn1
        exact Wk_metP v1.1 [2] [2] [] [] [] [] hF (by kernel_rfl)
    · intro v hF
      have hF : cell_Check_J1 v = some r := hF
      unfold cell_Check_J1 at hF
      refine Wk_seq ?_
      refine WR [] [2] [2] [] [] [] [] ⟨[(2, .ptr 2 0)], [(2, [.int .i64 0, .int .i64 0])], [], [], []⟩ .nil (by kernel_rfl) ?_
      have hF := some_elim hF
      exact Wk_ret (hfin _ ⟨[], [], [], [], [], [], by first | (rw [← hF]; kernel_rfl) | kernel_rfl⟩)

/- slices.BinarySearchFunc[[]api.Cell,api.Cell,api.Cell] -/
noncomputable def slices_BinarySearchFunc_api_Cell_api_Cell_api_Cell_J1 (x : List Cell) (v : Cell × Int) : Option (Int × Bool) :=
  asrt ((decide (v.2 < (x.length : Int))) = true → 0 ≤ v.2 ∧ v.2 < (x.length : Int)) <|
  ob (if (decide (v.2 < (x.length : Int))) = true then (cell_Order (⟨(lget x v.2).Row, (lget x v.2).Col, (lget x v.2).Time, (lget x v.2).Gone, (lget x v.2).Value⟩ : Cell) v.1) else some default) fun x1 =>
  some (v.2, (decide (v.2 < (x.length : Int))) && (decide (x1 = 0)))
noncomputable def slices_BinarySearchFunc_api_Cell_api_Cell_api_Cell_B1 (x : List Cell) (v1 : Cell × Int × Int) : Option ((Cell × Int × Int) ⊕ (Int × Bool)) :=
  if (decide (v1.2.1 < v1.2.2)) = true then
    lt (w64 (Int.fdiv (IntKind.u64.wrap (w64 (v1.2.1 + v1.2.2))) (2 ^ (min (1 : Int).toNat 64)))) fun (v2 : Int) =>
    asrt (0 ≤ v2 ∧ v2 < (x.length : Int)) <|
    ob (cell_Order (⟨(lget x v2).Row, (lget x v2).Col, (lget x v2).Time, (lget x v2).Gone, (lget x v2).Value⟩ : Cell) v1.1) fun x2 =>
    if (decide (x2 < 0)) = true then
      some (Sum.inl (v1.1, w64 (v2 + 1), v1.2.2))
    else
      some (Sum.inl (v1.1, v1.2.1, v2))
  else
    inrO (slices_BinarySearchFunc_api_Cell_api_Cell_api_Cell_J1 x (v1.1, v1.2.1))
noncomputable def slices_BinarySearchFunc_api_Cell_api_Cell_api_Cell_L1 (x : List Cell) (v0 : Cell × Int × Int) : Option (Int × Bool) :=
  loopO (fun y => slices_BinarySearchFunc_api_Cell_api_Cell_api_Cell_B1 x y) v0
noncomputable def slices_BinarySearchFunc_api_Cell_api_Cell_api_Cell (x : List Cell) (target : Cell) : Option (Int × Bool) :=
  slices_BinarySearchFunc_api_Cell_api_Cell_api_Cell_L1 x (target, 0, (x.length : Int))
theorem slices_BinarySearchFunc_api_Cell_api_Cell_api_Cell_ok (x : List Cell) (target : Cell) (r : Int × Bool) (hF : slices_BinarySearchFunc_api_Cell_api_Cell_api_Cell x target = some r) : Pe Try.prog 70 S.none [.sl 5 (x.map e_Cell), .agg [.str target.Row, .str target.Col, .int .i64 target.Time, .bool target.Gone, .str target.Value], .fn 57 []] (.tup [.int .i64 r.1, .bool r.2]) S.none := by
  refine Pe_of (N := 49) (res := [.tmp 6, .tmp 7]) (ts := [3, 4]) Ty.ok Fn.b70 Try.func70 rfl rfl rfl rfl rfl rfl ?_
  intro Q g hfin
  unfold slices_BinarySearchFunc_api_Cell_api_Cell_api_Cell at hF
  refine Wk_seq ?_
  refine WR [] [0, 2, 4] [4] [] [] [] [] ⟨[(0, .sl 5 (x.map e_Cell)), (2, .fn 57 []), (4, .ptr 4 0)], [(4, [.str target.Row, .str target.Col, .int .i64 target.Time, .bool target.Gone, .str target.Value])], [], [], []⟩ .nil (by kernel_rfl) ?_
  refine Wk_seq ?_
  refine WR [.nat (x.length : Int)] [0, 2, 4, 8] [4] [] [] [] [] ⟨[(0, .sl 5 (x.map e_Cell)), (2, .fn 57 []), (4, .ptr 4 0), (8, .int .i64 (x.length : Int))], [(4, [.str target.Row, .str target.Col, .int .i64 target.Time, .bool target.Gone, .str target.Value])], [], [], []⟩ (.cons (len_ok e_Cell x) .nil) (by kernel_rfl) ?_
  refine Wk_seq ?_
  refine WR [] [0, 2, 4, 8, 9, 10] [4] [] [] [] [] ⟨[(0, .sl 5 (x.map e_Cell)), (2, .fn 57 []), (4, .ptr 4 0), (8, .int .i64 (x.length : Int)), (9, .int .i64 0), (10, .int .i64 (x.length : Int))], [(4, [.str target.Row, .str target.Col, .int .i64 target.Time, .bool target.Gone, .str target.Value])], [], [], []⟩ .nil (by kernel_rfl) ?_
  refine Wk_seq ?_
  refine Wk_meetP (fun v : Cell × Int => (⟨[(0, .sl 5 (x.map e_Cell)), (2, .fn 57 []), (4, .ptr 4 0), (8, .int .i64 (x.length : Int)), (9, .int .i64 v.2)], [(4, [.str v.1.Row, .str v.1.Col, .int .i64 v.1.Time, .bool v.1.Gone, .str v.1.Value])], [], [], []⟩ : S)) (fun v => slices_BinarySearchFunc_api_Cell_api_Cell_api_Cell_J1 x v = some r) ?_ ?_
  · refine Wk_block ?_
    unfold slices_BinarySearchFunc_api_Cell_api_Cell_api_Cell_L1 at hF
    refine Wk_trim (fs := [0, 2, 4, 8, 9, 10]) (bs := [4]) (rs := []) (ms := []) (aa := []) (nv := []) (t := (fun v1 : Cell × Int × Int => (⟨[(0, .sl 5 (x.map e_Cell)), (2, .fn 57 []), (4, .ptr 4 0), (8, .int .i64 (x.length : Int)), (9, .int .i64 v1.2.1), (10, .int .i64 v1.2.2)], [(4, [.str v1.1.Row, .str v1.1.Col, .int .i64 v1.1.Time, .bool v1.1.Gone, .str v1.1.Value])], [], [], []⟩ : S)) (target, 0, (x.length : Int))) (by kernel_rfl) ?_
    refine Wk_iter (step := fun y => slices_BinarySearchFunc_api_Cell_api_Cell_api_Cell_B1 x y) (r := r) (fun v1 : Cell × Int × Int => (⟨[(0, .sl 5 (x.map e_Cell)), (2, .fn 57 []), (4, .ptr 4 0), (8, .int .i64 (x.length : Int)), (9, .int .i64 v1.2.1), (10, .int .i64 v1.2.2)], [(4, [.str v1.1.Row, .str v1.1.Col, .int .i64 v1.1.Time, .bool v1.1.Gone, .str v1.1.Value])], [], [], []⟩ : S)) (target, 0, (x.length : Int)) hF ?_
    intro n1 v1 y1 hF ih1 dn1
    have hF : slices_BinarySearchFunc_api_Cell_api_Cell_api_Cell_B1 x v1 = some y1 := hF
    unfold slices_BinarySearchFunc_api_Cell_api_Cell_api_Cell_B1 at hF
    refine Wk_seq ?_
    refine Wk_seq ?_
    refine WR [] [0, 2, 4, 8, 9, 10, 17] [4] [] [] [] [] ⟨[(0, .sl 5 (x.map e_Cell)), (2, .fn 57 []), (4, .ptr 4 0), (8, .int .i64 (x.length : Int)), (9, .int .i64 v1.2.1), (10, .int .i64 v1.2.2), (17, .bool (decide (v1.2.1 < v1.2.2)))], [(4, [.str v1.1.Row, .str v1.1.Col, .int .i64 v1.1.Time, .bool v1.1.Gone, .str v1.1.Value])], [], [], []⟩ .nil (by kernel_rfl) ?_
    refine Wk_split rfl (fun hb => ?_) (fun hb => ?_)
    · have hF := ite_t hF hb
      refine Wk_skip ?_
      refine Wk_block ?_
      refine Wk_seq ?_
      refine WRL (w64 (Int.fdiv (IntKind.u64.wrap (w64 (v1.2.1 + v1.2.2))) (2 ^ (min (1 : Int).toNat 64)))) (fun v2 : Int => ⟨[(0, .sl 5 (x.map e_Cell)), (2, .fn 57 []), (4, .ptr 4 0), (8, .int .i64 (x.length : Int)), (9, .int .i64 v1.2.1), (10, .int .i64 v1.2.2), (11, .int .i64 v2)], [(4, [.str v1.1.Row, .str v1.1.Col, .int .i64 v1.1.Time, .bool v1.1.Gone, .str v1.1.Value])], [], [], []⟩) [] [0, 2, 4, 8, 9, 10, 11] [4] [] [] [] [] (.cons (by decide : (0 : Int) ≤ 1) .nil) (by kernel_rfl) (fun v2 hv => ?_)
      have hF := lt_elim hF hv
      refine Wk_seq ?_
      obtain ⟨h2, hF⟩ := asrt_elim hF
      obtain ⟨x2, h3, hF⟩ := ob_elim hF
      refine WD [.av (e_Cell (lget x v2)), .callB (.int .i64 x2)] [0, 2, 4, 8, 9, 10, 11, 31] [4] [] [] [] [] ⟨[(0, .sl 5 (x.map e_Cell)), (2, .fn 57 []), (4, .ptr 4 0), (8, .int .i64 (x.length : Int)), (9, .int .i64 v1.2.1), (10, .int .i64 v1.2.2), (11, .int .i64 v2), (31, .bool (decide (x2 < 0)))], [(4, [.str v1.1.Row, .str v1.1.Col, .int .i64 v1.1.Time, .bool v1.1.Gone, .str v1.1.Value])], [], [], []⟩ (.cons (idx_ok e_Cell h2) (.cons (cell_Order_ok (⟨(lget x v2).Row, (lget x v2).Col, (lget x v2).Time, (lget x v2).Gone, (lget x v2).Value⟩ : Cell) v1.1 x2 h3) .nil)) (by kernel_rfl) ?_
      refine Wk_split rfl (fun hb => ?_) (fun hb => ?_)
      · have hF := ite_t hF hb
        refine WR [] [0, 2, 4, 8, 9, 10] [4] [] [] [] [] ⟨[(0, .sl 5 (x.map e_Cell)), (2, .fn 57 []), (4, .ptr 4 0), (8, .int .i64 (x.length : Int)), (9, .int .i64 (w64 (v2 + 1))), (10, .int .i64 v1.2.2)], [(4, [.str v1.1.Row, .str v1.1.Col, .int .i64 v1.1.Time, .bool v1.1.Gone, .str v1.1.Value])], [], [], []⟩ .nil (by kernel_rfl) ?_
        refine Wk_blk ?_
        refine Wk_trim (fs := [0, 2, 4, 8, 9, 10]) (bs := [4]) (rs := []) (ms := []) (aa := []) (nv := []) ?_ (ih1 _ (some_elim hF).symm)
        kernel_rfl
      · have hF := ite_f hF hb
        refine WR [] [0, 2, 4, 8, 9, 10] [4] [] [] [] [] ⟨[(0, .sl 5 (x.map e_Cell)), (2, .fn 57 []), (4, .ptr 4 0), (8, .int .i64 (x.length : Int)), (9, .int .i64 v1.2.1), (10, .int .i64 v2)], [(4, [.str v1.1.Row, .str v1.1.Col, .int .i64 v1.1.Time, .bool v1.1.Gone, .str v1.1.Value])], [], [], []⟩ .nil (by kernel_rfl) ?_
        refine Wk_blk ?_
        refine Wk_trim (fs := [0, 2, 4, 8, 9, 10]) (bs := [4]) (rs := []) (ms := []) (aa := []) (nv := []) ?_ (ih1 _ (some_elim hF).symm)
        kernel_rfl
    · have hF := ite_f hF hb
      refine Wk_exit rfl ?_
      have hF := inrO_done hF dn1
      exact Wk_metP (v1.1, v1.2.1) [0, 2, 4, 8, 9] [4] [] [] [] [] hF (by kernel_rfl)
  · intro v hF
    have hF : slices_BinarySearchFunc_api_Cell_api_Cell_api_Cell_J1 x v = some r := hF
    unfold slices_BinarySearchFunc_api_Cell_api_Cell_api_Cell_J1 at hF
    refine Wk_seq ?_
    obtain ⟨h0, hF⟩ := asrt_elim hF
    obtain ⟨x1, h1, hF⟩ := ob_elim hF
    refine WD [.av (e_Cell (lget x v.2)), .callB (.int .i64 x1)] [6, 7] [] [] [] [] [] ⟨[(6, .int .i64 v.2), (7, .bool ((decide (v.2 < (x.length : Int))) && (decide (x1 = 0))))], [], [], [], []⟩ (.cons (fun (ga0 : (decide (v.2 < (x.length : Int))) = true) => (idx_ok e_Cell (h0 ga0))) (.cons (fun (ga0 : (decide (v.2 < (x.length : Int))) = true) => (cell_Order_ok (⟨(lget x v.2).Row, (lget x v.2).Col, (lget x v.2).Time, (lget x v.2).Gone, (lget x v.2).Value⟩ : Cell) v.1 x1 (ite_t h1 ga0))) .nil)) (by kernel_rfl) ?_
    have hF := some_elim hF
    exact Wk_ret (hfin _ ⟨[], [], [], [], [], [], by first | (rw [← hF]; kernel_rfl) | kernel_rfl⟩)

/- cell.Newest -/
noncomputable def cell_Newest (l : List Cell) (row : List UInt8) (col : List UInt8) (time : Int) : Option (Cell × Bool) :=
  ob (slices_BinarySearchFunc_api_Cell_api_Cell_api_Cell l (⟨row, col, time, false, ([] : List UInt8)⟩ : Cell)) fun x =>
  asrt ((decide (x.1 < (l.length : Int))) = true → 0 ≤ x.1 ∧ x.1 < (l.length : Int)) <|
  asrt (((decide (x.1 < (l.length : Int))) && (decide (((lget l x.1).Row) = row))) = true → 0 ≤ x.1 ∧ x.1 < (l.length : Int)) <|
  if (((decide (x.1 < (l.length : Int))) && (decide (((lget l x.1).Row) = row))) && (decide (((lget l x.1).Col) = col))) = true then
    asrt (0 ≤ x.1 ∧ x.1 < (l.length : Int)) <|
    some ((⟨(lget l x.1).Row, (lget l x.1).Col, (lget l x.1).Time, (lget l x.1).Gone, (lget l x.1).Value⟩ : Cell), true)
  else
    some ((⟨([] : List UInt8), ([] : List UInt8), 0, false, ([] : List UInt8)⟩ : Cell), false)
theorem cell_Newest_ok (l : List Cell) (row : List UInt8) (col : List UInt8) (time : Int) (r : Cell × Bool) (hF : cell_Newest l row col time = some r) : Pe Try.prog 49 S.none [.sl 5 (l.map e_Cell), .str row, .str col, .int .i64 time] (.tup [.agg [.str r.1.Row, .str r.1.Col, .int .i64 r.1.Time, .bool r.1.Gone, .str r.1.Value], .bool r.2]) S.none := by
  refine Pe_of (N := 48) (res := [.cell 8 37, .tmp 9]) (ts := [37, 4]) Ty.ok Fn.b49 Try.func49 rfl rfl rfl rfl rfl rfl ?_
  intro Q g hfin
  unfold cell_Newest at hF
  refine Wk_seq ?_
  refine WR [] [0, 1, 2, 3, 8] [8] [] [] [] [] ⟨[(0, .sl 5 (l.map e_Cell)), (1, .str row), (2, .str col), (3, .int .i64 time), (8, .ptr 8 0)], [(8, [.str [], .str [], .int .i64 0, .bool false, .str []])], [], [], []⟩ .nil (by kernel_rfl) ?_
  refine Wk_seq ?_
  obtain ⟨x, h0, hF⟩ := ob_elim hF
  refine WR [.callB (.tup [.int .i64 x.1, .bool x.2])] [0, 1, 2, 8, 10] [8] [] [] [] [] ⟨[(0, .sl 5 (l.map e_Cell)), (1, .str row), (2, .str col), (8, .ptr 8 0), (10, .int .i64 x.1)], [(8, [.str [], .str [], .int .i64 0, .bool false, .str []])], [], [], []⟩ (.cons (slices_BinarySearchFunc_api_Cell_api_Cell_api_Cell_ok l (⟨row, col, time, false, ([] : List UInt8)⟩ : Cell) x h0) .nil) (by kernel_rfl) ?_
  refine Wk_seq ?_
  refine Wk_seq ?_
  obtain ⟨h1, hF⟩ := asrt_elim hF
  obtain ⟨h2, hF⟩ := asrt_elim hF
  refine WR [.nat (l.length : Int), .av (e_Cell (lget l x.1)), .av (e_Cell (lget l x.1))] [0, 8, 10, 42] [8] [] [] [] [] ⟨[(0, .sl 5 (l.map e_Cell)), (8, .ptr 8 0), (10, .int .i64 x.1), (42, .bool (((decide (x.1 < (l.length : Int))) && (decide (((lget l x.1).Row) = row))) && (decide (((lget l x.1).Col) = col))))], [(8, [.str [], .str [], .int .i64 0, .bool false, .str []])], [], [], []⟩ (.cons (len_ok e_Cell l) (.cons (fun (ga0 : (decide (x.1 < (l.length : Int))) = true) => (idx_ok e_Cell (h1 ga0))) (.cons (fun (ga0 : ((decide (x.1 < (l.length : Int))) && (decide (((lget l x.1).Row) = row))) = true) => (idx_ok e_Cell (h2 ga0))) .nil))) (by kernel_rfl) ?_
  refine Wk_split rfl (fun hb => ?_) (fun hb => ?_)
  · have hF := ite_t hF hb
    refine Wk_seq ?_
    obtain ⟨h3, hF⟩ := asrt_elim hF
    refine WR [.av (e_Cell (lget l x.1))] [8, 9] [8] [] [] [] [] ⟨[(8, .ptr 8 0), (9, .bool true)], [(8, [.str ((lget l x.1).Row), .str ((lget l x.1).Col), .int .i64 ((lget l x.1).Time), .bool ((lget l x.1).Gone), .str ((lget l x.1).Value)])], [], [], []⟩ (.cons (idx_ok e_Cell h3) .nil) (by kernel_rfl) ?_
    have hF := some_elim hF
    exact Wk_ret (hfin _ ⟨[], [], [], [], [], [], by first | (rw [← hF]; kernel_rfl) | kernel_rfl⟩)
  · have hF := ite_f hF hb
    refine Wk_skip ?_
    refine Wk_seq ?_
    refine WR [] [8, 9] [8] [] [] [] [] ⟨[(8, .ptr 8 0), (9, .bool false)], [(8, [.str [], .str [], .int .i64 0, .bool false, .str []])], [], [], []⟩ .nil (by kernel_rfl) ?_
    have hF := some_elim hF
    exact Wk_ret (hfin _ ⟨[], [], [], [], [], [], by first | (rw [← hF]; kernel_rfl) | kernel_rfl⟩)

/- cell.Get -/
noncomputable def cell_Get (l : List Cell) (row : List UInt8) (col : List UInt8) (time : Int) : Option (List UInt8 × Bool × Fault) :=
  ob (cell_Check l) fun x =>
  if (!decide (x.Code = 0)) = true then
    some (([] : List UInt8), false, x)
  else
    if ((decide (time < 0)) || (decide (1000000000 < time))) = true then
      lt (cell_fault 3 (-1)) fun x1 =>
      some (([] : List UInt8), false, x1)
    else
      ob (cell_Newest l row col time) fun x2 =>
      some (x2.1.Value, x2.2 && (!x2.1.Gone), (⟨0, 0⟩ : Fault))
theorem cell_Get_ok (l : List Cell) (row : List UInt8) (col : List UInt8) (time : Int) (r : List UInt8 × Bool × Fault) (hF : cell_Get l row col time = some r) : Pe Try.prog 13 S.none [.sl 5 (l.map e_Cell), .str row, .str col, .int .i64 time] (.tup [.str r.1, .bool r.2.1, .agg [.int .i64 r.2.2.Code, .int .i64 r.2.2.At]]) S.none := by
  refine Pe_of (N := 44) (res := [.tmp 8, .tmp 9, .cell 10 28]) (ts := [9, 4, 28]) Ty.ok Fn.b13 Try.func13 rfl rfl rfl rfl rfl rfl ?_
  intro Q g hfin
  unfold cell_Get at hF
  refine Wk_seq ?_
  refine WR [] [0, 1, 2, 3, 10] [10] [] [] [] [] ⟨[(0, .sl 5 (l.map e_Cell)), (1, .str row), (2, .str col), (3, .int .i64 time), (10, .ptr 10 0)], [(10, [.int .i64 0, .int .i64 0])], [], [], []⟩ .nil (by kernel_rfl) ?_
  refine Wk_seq ?_
  refine Wk_seq ?_
  obtain ⟨x, h0, hF⟩ := ob_elim hF
  refine WR [.callB (.agg [.int .i64 x.Code, .int .i64 x.At])] [0, 1, 2, 3, 10, 11] [10, 11] [] [] [] [] ⟨[(0, .sl 5 (l.map e_Cell)), (1, .str row), (2, .str col), (3, .int .i64 time), (10, .ptr 10 0), (11, .ptr 11 0)], [(10, [.int .i64 0, .int .i64 0]), (11, [.int .i64 x.Code, .int .i64 x.At])], [], [], []⟩ (.cons (cell_Check_ok l x h0) .nil) (by kernel_rfl) ?_
  refine Wk_seq ?_
  refine WR [] [0, 1, 2, 3, 10, 11, 18] [10, 11] [] [] [] [] ⟨[(0, .sl 5 (l.map e_Cell)), (1, .str row), (2, .str col), (3, .int .i64 time), (10, .ptr 10 0), (11, .ptr 11 0), (18, .bool (!decide (x.Code = 0)))], [(10, [.int .i64 0, .int .i64 0]), (11, [.int .i64 x.Code, .int .i64 x.At])], [], [], []⟩ .nil (by kernel_rfl) ?_
  refine Wk_split rfl (fun hb => ?_) (fun hb => ?_)
  · have hF := ite_t hF hb
    refine Wk_seq ?_
    refine WD [] [8, 9, 10] [10] [] [] [] [] ⟨[(8, .str ([] : List UInt8)), (9, .bool false), (10, .ptr 10 0)], [(10, [.int .i64 x.Code, .int .i64 x.At])], [], [], []⟩ .nil (by kernel_rfl) ?_
    have hF := some_elim hF
    exact Wk_ret (hfin _ ⟨[], [], [], [], [], [], by first | (rw [← hF]; kernel_rfl) | kernel_rfl⟩)
  · have hF := ite_f hF hb
    refine Wk_skip ?_
    refine Wk_seq ?_
    refine Wk_seq ?_
    refine WR [] [0, 1, 2, 3, 10, 25] [10] [] [] [] [] ⟨[(0, .sl 5 (l.map e_Cell)), (1, .str row), (2, .str col), (3, .int .i64 time), (10, .ptr 10 0), (25, .bool ((decide (time < 0)) || (decide (1000000000 < time))))], [(10, [.int .i64 0, .int .i64 0])], [], [], []⟩ .nil (by kernel_rfl) ?_
    refine Wk_split rfl (fun hb => ?_) (fun hb => ?_)
    · have hF := ite_t hF hb
      refine Wk_seq ?_
      obtain ⟨x1, h1, hF⟩ := lt_split hF
      refine WR [.callB (.agg [.int .i64 x1.Code, .int .i64 x1.At])] [8, 9, 10] [10] [] [] [] [] ⟨[(8, .str ([] : List UInt8)), (9, .bool false), (10, .ptr 10 0)], [(10, [.int .i64 x1.Code, .int .i64 x1.At])], [], [], []⟩ (.cons (cell_fault_ok 3 (-1) x1 h1) .nil) (by kernel_rfl) ?_
      have hF := some_elim hF
      exact Wk_ret (hfin _ ⟨[], [], [], [], [], [], by first | (rw [← hF]; kernel_rfl) | kernel_rfl⟩)
    · have hF := ite_f hF hb
      refine Wk_skip ?_
      refine Wk_seq ?_
      obtain ⟨x2, h2, hF⟩ := ob_elim hF
      refine WR [.callB (.tup [.agg [.str x2.1.Row, .str x2.1.Col, .int .i64 x2.1.Time, .bool x2.1.Gone, .str x2.1.Value], .bool x2.2])] [10, 12, 13] [10, 12] [] [] [] [] ⟨[(10, .ptr 10 0), (12, .ptr 12 0), (13, .bool x2.2)], [(10, [.int .i64 0, .int .i64 0]), (12, [.str x2.1.Row, .str x2.1.Col, .int .i64 x2.1.Time, .bool x2.1.Gone, .str x2.1.Value])], [], [], []⟩ (.cons (cell_Newest_ok l row col time x2 h2) .nil) (by kernel_rfl) ?_
      refine Wk_seq ?_
      refine WD [] [8, 9, 10] [10] [] [] [] [] ⟨[(8, .str x2.1.Value), (9, .bool (x2.2 && (!x2.1.Gone))), (10, .ptr 10 0)], [(10, [.int .i64 0, .int .i64 0])], [], [], []⟩ .nil (by kernel_rfl) ?_
      have hF := some_elim hF
      exact Wk_ret (hfin _ ⟨[], [], [], [], [], [], by first | (rw [← hF]; kernel_rfl) | kernel_rfl⟩)

/- tabularylaw.cellBegun -/
noncomputable def law_cellBegun  : Option Bool :=
  lt (law_versions) fun x =>
  ob (cell_Get x ([114] : List UInt8) ([99] : List UInt8) 1) fun x1 =>
  lt (law_versions) fun x2 =>
  ob (cell_Get x2 ([114] : List UInt8) ([99] : List UInt8) 0) fun x3 =>
  lt (((((decide (x1.2.2.Code = 0)) && (decide (x3.2.2.Code = 0))) && (decide (x1.1 = ([97] : List UInt8)))) && x1.2.1) && (!x3.2.1)) fun (v : Bool) =>
  some v
theorem law_cellBegun_ok  (r : Bool) (hF : law_cellBegun  = some r) : Pe Try.prog 11 S.none [] (.bool r) S.none := by
  refine Pe_of (N := 38) (res := [.tmp 0]) (ts := [4]) Ty.ok Fn.b11 Try.func11 rfl rfl rfl rfl rfl rfl ?_
  intro Q g hfin
  unfold law_cellBegun at hF
  refine Wk_seq ?_
  refine WR [] [] [] [] [] [] [] ⟨[], [], [], [], []⟩ .nil (by kernel_rfl) ?_
  refine Wk_seq ?_
  obtain ⟨x, h0, hF⟩ := lt_split hF
  obtain ⟨x1, h1, hF⟩ := ob_elim hF
  refine WR [.call (.sl 5 (x.map e_Cell)), .callB (.tup [.str x1.1, .bool x1.2.1, .agg [.int .i64 x1.2.2.Code, .int .i64 x1.2.2.At]])] [1, 2, 3] [3] [] [] [] [] ⟨[(1, .str x1.1), (2, .bool x1.2.1), (3, .ptr 3 0)], [(3, [.int .i64 x1.2.2.Code, .int .i64 x1.2.2.At])], [], [], []⟩ (.cons (law_versions_ok  x h0) (.cons (cell_Get_ok x ([114] : List UInt8) ([99] : List UInt8) 1 x1 h1) .nil)) (by kernel_rfl) ?_
  refine Wk_seq ?_
  obtain ⟨x2, h2, hF⟩ := lt_split hF
  obtain ⟨x3, h3, hF⟩ := ob_elim hF
  refine WR [.call (.sl 5 (x2.map e_Cell)), .callB (.tup [.str x3.1, .bool x3.2.1, .agg [.int .i64 x3.2.2.Code, .int .i64 x3.2.2.At]])] [1, 2, 3, 5, 6] [3, 6] [] [] [] [] ⟨[(1, .str x1.1), (2, .bool x1.2.1), (3, .ptr 3 0), (5, .bool x3.2.1), (6, .ptr 6 0)], [(3, [.int .i64 x1.2.2.Code, .int .i64 x1.2.2.At]), (6, [.int .i64 x3.2.2.Code, .int .i64 x3.2.2.At])], [], [], []⟩ (.cons (law_versions_ok  x2 h2) (.cons (cell_Get_ok x2 ([114] : List UInt8) ([99] : List UInt8) 0 x3 h3) .nil)) (by kernel_rfl) ?_
  refine Wk_seq ?_
  refine WRL (((((decide (x1.2.2.Code = 0)) && (decide (x3.2.2.Code = 0))) && (decide (x1.1 = ([97] : List UInt8)))) && x1.2.1) && (!x3.2.1)) (fun v : Bool => ⟨[(0, .bool v)], [], [], [], []⟩) [] [0] [] [] [] [] [] .nil (by kernel_rfl) (fun v hv => ?_)
  have hF := lt_elim hF hv
  have hF := some_elim hF
  exact Wk_ret (hfin _ ⟨[], [], [], [], [], [], by first | (rw [← hF]; kernel_rfl) | kernel_rfl⟩)

/- tabularylaw.many -/
noncomputable def law_many (num : Int) : Bool :=
  lt (((decide (150 < num)) && (decide (num < 1000))) || (decide (2000 < num))) fun (v : Bool) =>
  v
theorem law_many_ok (num : Int) (r : Bool) (hF : law_many num = r) : Pe Try.prog 12 S.none [.int .i64 num] (.bool r) S.none := by
  refine Pe_of (N := 13) (res := [.tmp 2]) (ts := [4]) Ty.ok Fn.b12 Try.func12 rfl rfl rfl rfl rfl rfl ?_
  intro Q g hfin
  unfold law_many at hF
  refine Wk_seq ?_
  refine WR [] [0] [] [] [] [] [] ⟨[(0, .int .i64 num)], [], [], [], []⟩ .nil (by kernel_rfl) ?_
  refine Wk_seq ?_
  refine WRL (((decide (150 < num)) && (decide (num < 1000))) || (decide (2000 < num))) (fun v : Bool => ⟨[(2, .bool v)], [], [], [], []⟩) [] [2] [] [] [] [] [] .nil (by kernel_rfl) (fun v hv => ?_)
  have hF := lt_elim hF hv
  exact Wk_ret (hfin _ ⟨[], [], [], [], [], [], by first | (rw [← hF]; kernel_rfl) | kernel_rfl⟩)

/- tabularylaw.ownCells -/
noncomputable def law_ownCells_v1 (l : List Cell) : Option (List Cell) :=
  asrt ((l.length : Int) * 64 ≤ 140737488351232) <|
  some l
theorem law_ownCells_v1_ok (l : List Cell) (r : List Cell) (hF : law_ownCells_v1 l = some r) : Pe Try.prog 14 S.none [.sl 5 (l.map e_Cell)] (.sl 5 (r.map e_Cell)) S.none := by
  refine Pe_of (N := 5) (res := [.tmp 2]) (ts := [22]) Ty.ok Fn.b14 Try.func14 rfl rfl rfl rfl rfl rfl ?_
  intro Q g hfin
  unfold law_ownCells_v1 at hF
  refine Wk_seq ?_
  refine WR [] [0] [] [] [] [] [] ⟨[(0, .sl 5 (l.map e_Cell))], [], [], [], []⟩ .nil (by kernel_rfl) ?_
  refine Wk_seq ?_
  obtain ⟨h0, hF⟩ := asrt_elim hF
  refine WR [.xs (l.map e_Cell)] [2] [] [4] [] [] [] ⟨[(2, .row 4 1)], [], [(4, ⟨37, 5, 1, 0, 0, true, 0, [], (l.map e_Cell)⟩)], [], []⟩ (.cons (app0_ok e_Cell l) (.cons (appl_ok e_Cell h0) .nil)) (by kernel_rfl) ?_
  have hF := some_elim hF
  exact Wk_ret (hfin _ ⟨[], [], [], [], [], [], by first | (rw [← hF]; kernel_rfl) | kernel_rfl⟩)

/- cell.Asked -/
noncomputable def cell_Asked (a0 : Ask) : Fault :=
  if ((decide (a0.Time < 0)) || (decide (1000000000 < a0.Time))) = true then
    lt (cell_fault 3 (-1)) fun x =>
    x
  else
    if ((decide (a0.Many < 0)) || (decide (1000 < a0.Many))) = true then
      lt (cell_fault 3 (-2)) fun x1 =>
      x1
    else
      (⟨0, 0⟩ : Fault)
theorem cell_Asked_ok (a0 : Ask) (r : Fault) (hF : cell_Asked a0 = r) : Pe Try.prog 50 S.none [.agg [.str a0.From, .str a0.To, .int .i64 a0.Time, .int .i64 a0.Many]] (.agg [.int .i64 r.Code, .int .i64 r.At]) S.none := by
  refine Pe_of (N := 22) (res := [.cell 2 28]) (ts := [28]) Ty.ok Fn.b50 Try.func50 rfl rfl rfl rfl rfl rfl ?_
  intro Q g hfin
  unfold cell_Asked at hF
  refine Wk_seq ?_
  refine WR [] [1, 2] [1, 2] [] [] [] [] ⟨[(1, .ptr 1 0), (2, .ptr 2 0)], [(1, [.str a0.From, .str a0.To, .int .i64 a0.Time, .int .i64 a0.Many]), (2, [.int .i64 0, .int .i64 0])], [], [], []⟩ .nil (by kernel_rfl) ?_
  refine Wk_seq ?_
  refine Wk_seq ?_
  refine WR [] [1, 2, 10] [1, 2] [] [] [] [] ⟨[(1, .ptr 1 0), (2, .ptr 2 0), (10, .bool ((decide (a0.Time < 0)) || (decide (1000000000 < a0.Time))))], [(1, [.str a0.From, .str a0.To, .int .i64 a0.Time, .int .i64 a0.Many]), (2, [.int .i64 0, .int .i64 0])], [], [], []⟩ .nil (by kernel_rfl) ?_
  refine Wk_split rfl (fun hb => ?_) (fun hb => ?_)
  · have hF := ite_t hF hb
    refine Wk_seq ?_
    obtain ⟨x, h0, hF⟩ := lt_split hF
    refine WR [.callB (.agg [.int .i64 x.Code, .int .i64 x.At])] [2] [2] [] [] [] [] ⟨[(2, .ptr 2 0)], [(2, [.int .i64 x.Code, .int .i64 x.At])], [], [], []⟩ (.cons (cell_fault_ok 3 (-1) x h0) .nil) (by kernel_rfl) ?_
    exact Wk_ret (hfin _ ⟨[], [], [], [], [], [], by first | (rw [← hF]; kernel_rfl) | kernel_rfl⟩)
  · have hF := ite_f hF hb
    refine Wk_skip ?_
    refine Wk_seq ?_
    refine Wk_seq ?_
    refine WR [] [2, 19] [2] [] [] [] [] ⟨[(2, .ptr 2 0), (19, .bool ((decide (a0.Many < 0)) || (decide (1000 < a0.Many))))], [(2, [.int .i64 0, .int .i64 0])], [], [], []⟩ .nil (by kernel_rfl) ?_
    refine Wk_split rfl (fun hb => ?_) (fun hb => ?_)
    · have hF := ite_t hF hb
      refine Wk_seq ?_
      obtain ⟨x1, h1, hF⟩ := lt_split hF
      refine WR [.callB (.agg [.int .i64 x1.Code, .int .i64 x1.At])] [2] [2] [] [] [] [] ⟨[(2, .ptr 2 0)], [(2, [.int .i64 x1.Code, .int .i64 x1.At])], [], [], []⟩ (.cons (cell_fault_ok 3 (-2) x1 h1) .nil) (by kernel_rfl) ?_
      exact Wk_ret (hfin _ ⟨[], [], [], [], [], [], by first | (rw [← hF]; kernel_rfl) | kernel_rfl⟩)
    · have hF := ite_f hF hb
      refine Wk_skip ?_
      refine Wk_seq ?_
      refine WR [] [2] [2] [] [] [] [] ⟨[(2, .ptr 2 0)], [(2, [.int .i64 0, .int .i64 0])], [], [], []⟩ .nil (by kernel_rfl) ?_
      exact Wk_ret (hfin _ ⟨[], [], [], [], [], [], by first | (rw [← hF]; kernel_rfl) | kernel_rfl⟩)

/- cell.Seen -/
noncomputable def cell_Seen_J1 (v : List Cell) : Option (List Cell) :=
  some v
noncomputable def cell_Seen_J2 (v1 : Ask × List Cell × List UInt8 × List UInt8 × Bool × Int) (v2 : Ask × List Cell × List UInt8 × List UInt8 × Bool) : Option ((Ask × List Cell × List UInt8 × List UInt8 × Bool × Int) ⊕ (List Cell)) :=
  some (Sum.inl (v2.1, v2.2.1, v2.2.2.1, v2.2.2.2.1, v2.2.2.2.2, w64 (v1.2.2.2.2.2 + 1)))
noncomputable def cell_Seen_B1 (l : List Cell) (v1 : Ask × List Cell × List UInt8 × List UInt8 × Bool × Int) : Option ((Ask × List Cell × List UInt8 × List UInt8 × Bool × Int) ⊕ (List Cell)) :=
  if (decide (v1.2.2.2.2.2 < (l.length : Int))) = true then
    asrt (0 ≤ v1.2.2.2.2.2 ∧ v1.2.2.2.2.2 < (l.length : Int)) <|
    if (((Op.bytesLess ((lget l v1.2.2.2.2.2).Row) v1.1.From) || ((!decide (v1.1.To = ([] : List UInt8))) && (!Op.bytesLess ((lget l v1.2.2.2.2.2).Row) v1.1.To))) || (decide (v1.1.Time < ((lget l v1.2.2.2.2.2).Time)))) = true then
      cell_Seen_J2 v1 (v1.1, v1.2.1, v1.2.2.1, v1.2.2.2.1, v1.2.2.2.2.1)
    else
      if ((v1.2.2.2.2.1 && (decide (((lget l v1.2.2.2.2.2).Row) = v1.2.2.1))) && (decide (((lget l v1.2.2.2.2.2).Col) = v1.2.2.2.1))) = true then
        cell_Seen_J2 v1 (v1.1, v1.2.1, v1.2.2.1, v1.2.2.2.1, v1.2.2.2.2.1)
      else
        if ((lget l v1.2.2.2.2.2).Gone) = true then
          cell_Seen_J2 v1 (v1.1, v1.2.1, (lget l v1.2.2.2.2.2).Row, (lget l v1.2.2.2.2.2).Col, true)
        else
          if (decide ((v1.2.1.length : Int) = v1.1.Many)) = true then
            inrO (cell_Seen_J1 v1.2.1)
          else
            asrt (((v1.2.1 ++ [(⟨(lget l v1.2.2.2.2.2).Row, (lget l v1.2.2.2.2.2).Col, (lget l v1.2.2.2.2.2).Time, (lget l v1.2.2.2.2.2).Gone, (lget l v1.2.2.2.2.2).Value⟩ : Cell)]).length : Int) * 64 ≤ 140737488351232) <|
            lt ((v1.2.1 ++ [(⟨(lget l v1.2.2.2.2.2).Row, (lget l v1.2.2.2.2.2).Col, (lget l v1.2.2.2.2.2).Time, (lget l v1.2.2.2.2.2).Gone, (lget l v1.2.2.2.2.2).Value⟩ : Cell)])) fun (v3 : List Cell) =>
            cell_Seen_J2 v1 (v1.1, v3, (lget l v1.2.2.2.2.2).Row, (lget l v1.2.2.2.2.2).Col, true)
  else
    inrO (cell_Seen_J1 v1.2.1)
noncomputable def cell_Seen_L1 (l : List Cell) (v0 : Ask × List Cell × List UInt8 × List UInt8 × Bool × Int) : Option (List Cell) :=
  loopO (fun y => cell_Seen_B1 l y) v0
noncomputable def cell_Seen (l : List Cell) (a0 : Ask) : Option (List Cell) :=
  cell_Seen_L1 l (a0, ([] : List Cell), ([] : List UInt8), ([] : List UInt8), false, 0)
theorem cell_Seen_ok (l : List Cell) (a0 : Ask) (r : List Cell) (hF : cell_Seen l a0 = some r) : Pe Try.prog 51 ⟨[], [], [], [], []⟩ [.sl 5 (l.map e_Cell), .agg [.str a0.From, .str a0.To, .int .i64 a0.Time, .int .i64 a0.Many]] (.row 68 0) ⟨[], [], [(68, ⟨37, 5, 0, 0, 0, true, 0, [], (r.map e_Cell)⟩)], [], []⟩ := by
  refine Pe_of (N := 71) (res := [.tmp 4]) (ts := [22]) Ty.ok Fn.b51 Try.func51 rfl rfl rfl rfl rfl rfl ?_
  intro Q g hfin
  unfold cell_Seen at hF
  refine Wk_seq ?_
  refine WR [] [0, 3] [3] [] [] [] [] ⟨[(0, .sl 5 (l.map e_Cell)), (3, .ptr 3 0)], [(3, [.str a0.From, .str a0.To, .int .i64 a0.Time, .int .i64 a0.Many])], [], [], []⟩ .nil (by kernel_rfl) ?_
  refine Wk_seq ?_
  refine WR [] [0, 3, 5] [3] [] [] [] [] ⟨[(0, .sl 5 (l.map e_Cell)), (3, .ptr 3 0), (5, .nils)], [(3, [.str a0.From, .str a0.To, .int .i64 a0.Time, .int .i64 a0.Many])], [], [], []⟩ .nil (by kernel_rfl) ?_
  refine Wk_seq ?_
  refine WR [] [0, 3, 5, 6, 7, 8] [3] [] [] [] [] ⟨[(0, .sl 5 (l.map e_Cell)), (3, .ptr 3 0), (5, .nils), (6, .str ([] : List UInt8)), (7, .str ([] : List UInt8)), (8, .bool false)], [(3, [.str a0.From, .str a0.To, .int .i64 a0.Time, .int .i64 a0.Many])], [], [], []⟩ .nil (by kernel_rfl) ?_
  refine Wk_seq ?_
  refine Wk_seq ?_
  refine WR [.nat (l.length : Int)] [3, 5, 6, 7, 8, 11, 12, 13] [3] [] [] [] [] ⟨[(3, .ptr 3 0), (5, .nils), (6, .str ([] : List UInt8)), (7, .str ([] : List UInt8)), (8, .bool false), (11, .sl 5 (l.map e_Cell)), (12, .int .i64 (l.length : Int)), (13, .int .i64 0)], [(3, [.str a0.From, .str a0.To, .int .i64 a0.Time, .int .i64 a0.Many])], [], [], []⟩ (.cons (len_ok e_Cell l) .nil) (by kernel_rfl) ?_
  refine Wk_meetP (fun v : List Cell => (⟨[(5, .row 68 0)], [], [(68, ⟨37, 5, 0, 0, 0, true, 0, [], (v.map e_Cell)⟩)], [], []⟩ : S)) (fun v => cell_Seen_J1 v = some r) ?_ ?_
  · refine Wk_block ?_
    unfold cell_Seen_L1 at hF
    refine Wk_nilrow 5 60000 37 5 rfl rfl rfl ?_
    refine Wk_trim (fs := [3, 5, 6, 7, 8, 11, 12, 13]) (bs := [3]) (rs := [60000]) (ms := []) (aa := []) (nv := []) rfl ?_
    refine Wk_ren' ⟨[], [(60000, 68)], [], []⟩ rfl ?_
    refine Wk_trim (fs := [3, 5, 6, 7, 8, 11, 12, 13]) (bs := [3]) (rs := [68]) (ms := []) (aa := []) (nv := []) (t := (fun v1 : Ask × List Cell × List UInt8 × List UInt8 × Bool × Int => (⟨[(3, .ptr 3 0), (5, .row 68 0), (6, .str v1.2.2.1), (7, .str v1.2.2.2.1), (8, .bool v1.2.2.2.2.1), (11, .sl 5 (l.map e_Cell)), (12, .int .i64 (l.length : Int)), (13, .int .i64 v1.2.2.2.2.2)], [(3, [.str v1.1.From, .str v1.1.To, .int .i64 v1.1.Time, .int .i64 v1.1.Many])], [(68, ⟨37, 5, 0, 0, 0, true, 0, [], (v1.2.1.map e_Cell)⟩)], [], []⟩ : S)) (a0, ([] : List Cell), ([] : List UInt8), ([] : List UInt8), false, 0)) (by kernel_rfl) ?_
    refine Wk_iter (step := fun y => cell_Seen_B1 l y) (r := r) (fun v1 : Ask × List Cell × List UInt8 × List UInt8 × Bool × Int => (⟨[(3, .ptr 3 0), (5, .row 68 0), (6, .str v1.2.2.1), (7, .str v1.2.2.2.1), (8, .bool v1.2.2.2.2.1), (11, .sl 5 (l.map e_Cell)), (12, .int .i64 (l.length : Int)), (13, .int .i64 v1.2.2.2.2.2)], [(3, [.str v1.1.From, .str v1.1.To, .int .i64 v1.1.Time, .int .i64 v1.1.Many])], [(68, ⟨37, 5, 0, 0, 0, true, 0, [], (v1.2.1.map e_Cell)⟩)], [], []⟩ : S)) (a0, ([] : List Cell), ([] : List UInt8), ([] : List UInt8), false, 0) hF ?_
    intro n1 v1 y1 hF ih1 dn1
    have hF : cell_Seen_B1 l v1 = some y1 := hF
    unfold cell_Seen_B1 at hF
    refine Wk_seq ?_
    refine WR [] [3, 5, 6, 7, 8, 11, 12, 13, 14] [3] [68] [] [] [] ⟨[(3, .ptr 3 0), (5, .row 68 0), (6, .str v1.2.2.1), (7, .str v1.2.2.2.1), (8, .bool v1.2.2.2.2.1), (11, .sl 5 (l.map e_Cell)), (12, .int .i64 (l.length : Int)), (13, .int .i64 v1.2.2.2.2.2), (14, .bool (decide (v1.2.2.2.2.2 < (l.length : Int))))], [(3, [.str v1.1.From, .str v1.1.To, .int .i64 v1.1.Time, .int .i64 v1.1.Many])], [(68, ⟨37, 5, 0, 0, 0, true, 0, [], (v1.2.1.map e_Cell)⟩)], [], []⟩ .nil (by kernel_rfl) ?_
    refine Wk_seq ?_
    refine Wk_split rfl (fun hb => ?_) (fun hb => ?_)
    · have hF := ite_t hF hb
      refine Wk_skip ?_
      refine Wk_seq ?_
      refine Wk_meetP (fun v2 : Ask × List Cell × List UInt8 × List UInt8 × Bool => (⟨[(3, .ptr 3 0), (5, .row 68 0), (6, .str v2.2.2.1), (7, .str v2.2.2.2.1), (8, .bool v2.2.2.2.2), (11, .sl 5 (l.map e_Cell)), (12, .int .i64 (l.length : Int)), (13, .int .i64 v1.2.2.2.2.2)], [(3, [.str v2.1.From, .str v2.1.To, .int .i64 v2.1.Time, .int .i64 v2.1.Many])], [(68, ⟨37, 5, 0, 0, 0, true, 0, [], (v2.2.1.map e_Cell)⟩)], [], []⟩ : S)) (fun v2 => cell_Seen_J2 v1 v2 = some y1) ?_ ?_
      · refine Wk_block ?_
        refine Wk_seq ?_
        obtain ⟨h0, hF⟩ := asrt_elim hF
        refine WR [.av (e_Cell (lget l v1.2.2.2.2.2))] [3, 5, 6, 7, 8, 10, 11, 12, 13] [3, 10] [68] [] [] [] ⟨[(3, .ptr 3 0), (5, .row 68 0), (6, .str v1.2.2.1), (7, .str v1.2.2.2.1), (8, .bool v1.2.2.2.2.1), (10, .ptr 10 0), (11, .sl 5 (l.map e_Cell)), (12, .int .i64 (l.length : Int)), (13, .int .i64 v1.2.2.2.2.2)], [(3, [.str v1.1.From, .str v1.1.To, .int .i64 v1.1.Time, .int .i64 v1.1.Many]), (10, [.str ((lget l v1.2.2.2.2.2).Row), .str ((lget l v1.2.2.2.2.2).Col), .int .i64 ((lget l v1.2.2.2.2.2).Time), .bool ((lget l v1.2.2.2.2.2).Gone), .str ((lget l v1.2.2.2.2.2).Value)])], [(68, ⟨37, 5, 0, 0, 0, true, 0, [], (v1.2.1.map e_Cell)⟩)], [], []⟩ (.cons (idx_ok e_Cell h0) .nil) (by kernel_rfl) ?_
        refine Wk_seq ?_
        refine Wk_seq ?_
        refine WR [] [3, 5, 6, 7, 8, 10, 11, 12, 13, 40] [3, 10] [68] [] [] [] ⟨[(3, .ptr 3 0), (5, .row 68 0), (6, .str v1.2.2.1), (7, .str v1.2.2.2.1), (8, .bool v1.2.2.2.2.1), (10, .ptr 10 0), (11, .sl 5 (l.map e_Cell)), (12, .int .i64 (l.length : Int)), (13, .int .i64 v1.2.2.2.2.2), (40, .bool (((Op.bytesLess ((lget l v1.2.2.2.2.2).Row) v1.1.From) || ((!decide (v1.1.To = ([] : List UInt8))) && (!Op.bytesLess ((lget l v1.2.2.2.2.2).Row) v1.1.To))) || (decide (v1.1.Time < ((lget l v1.2.2.2.2.2).Time)))))], [(3, [.str v1.1.From, .str v1.1.To, .int .i64 v1.1.Time, .int .i64 v1.1.Many]), (10, [.str ((lget l v1.2.2.2.2.2).Row), .str ((lget l v1.2.2.2.2.2).Col), .int .i64 ((lget l v1.2.2.2.2.2).Time), .bool ((lget l v1.2.2.2.2.2).Gone), .str ((lget l v1.2.2.2.2.2).Value)])], [(68, ⟨37, 5, 0, 0, 0, true, 0, [], (v1.2.1.map e_Cell)⟩)], [], []⟩ .nil (by kernel_rfl) ?_
        refine Wk_split rfl (fun hb => ?_) (fun hb => ?_)
        · have hF := ite_t hF hb
          refine Wk_exit rfl ?_
          exact Wk_metP (v1.1, v1.2.1, v1.2.2.1, v1.2.2.2.1, v1.2.2.2.2.1) [3, 5, 6, 7, 8, 11, 12, 13] [3] [68] [] [] [] hF (by kernel_rfl)
        · have hF := ite_f hF hb
          refine Wk_skip ?_
          refine Wk_seq ?_
          refine Wk_seq ?_
          refine WR [] [3, 5, 6, 7, 8, 10, 11, 12, 13, 53] [3, 10] [68] [] [] [] ⟨[(3, .ptr 3 0), (5, .row 68 0), (6, .str v1.2.2.1), (7, .str v1.2.2.2.1), (8, .bool v1.2.2.2.2.1), (10, .ptr 10 0), (11, .sl 5 (l.map e_Cell)), (12, .int .i64 (l.length : Int)), (13, .int .i64 v1.2.2.2.2.2), (53, .bool ((v1.2.2.2.2.1 && (decide (((lget l v1.2.2.2.2.2).Row) = v1.2.2.1))) && (decide (((lget l v1.2.2.2.2.2).Col) = v1.2.2.2.1))))], [(3, [.str v1.1.From, .str v1.1.To, .int .i64 v1.1.Time, .int .i64 v1.1.Many]), (10, [.str ((lget l v1.2.2.2.2.2).Row), .str ((lget l v1.2.2.2.2.2).Col), .int .i64 ((lget l v1.2.2.2.2.2).Time), .bool ((lget l v1.2.2.2.2.2).Gone), .str ((lget l v1.2.2.2.2.2).Value)])], [(68, ⟨37, 5, 0, 0, 0, true, 0, [], (v1.2.1.map e_Cell)⟩)], [], []⟩ .nil (by kernel_rfl) ?_
          refine Wk_split rfl (fun hb => ?_) (fun hb => ?_)
          · have hF := ite_t hF hb
            refine Wk_exit rfl ?_
            exact Wk_metP (v1.1, v1.2.1, v1.2.2.1, v1.2.2.2.1, v1.2.2.2.2.1) [3, 5, 6, 7, 8, 11, 12, 13] [3] [68] [] [] [] hF (by kernel_rfl)
          · have hF := ite_f hF hb
            refine Wk_skip ?_
            refine Wk_seq ?_
            refine WD [] [3, 5, 6, 7, 8, 10, 11, 12, 13] [3, 10] [68] [] [] [] ⟨[(3, .ptr 3 0), (5, .row 68 0), (6, .str ((lget l v1.2.2.2.2.2).Row)), (7, .str ((lget l v1.2.2.2.2.2).Col)), (8, .bool true), (10, .ptr 10 0), (11, .sl 5 (l.map e_Cell)), (12, .int .i64 (l.length : Int)), (13, .int .i64 v1.2.2.2.2.2)], [(3, [.str v1.1.From, .str v1.1.To, .int .i64 v1.1.Time, .int .i64 v1.1.Many]), (10, [.str ((lget l v1.2.2.2.2.2).Row), .str ((lget l v1.2.2.2.2.2).Col), .int .i64 ((lget l v1.2.2.2.2.2).Time), .bool ((lget l v1.2.2.2.2.2).Gone), .str ((lget l v1.2.2.2.2.2).Value)])], [(68, ⟨37, 5, 0, 0, 0, true, 0, [], (v1.2.1.map e_Cell)⟩)], [], []⟩ .nil (by kernel_rfl) ?_
            refine Wk_seq ?_
            refine Wk_seq ?_
            refine WR [] [3, 5, 6, 7, 8, 10, 11, 12, 13, 59] [3, 10] [68] [] [] [] ⟨[(3, .ptr 3 0), (5, .row 68 0), (6, .str ((lget l v1.2.2.2.2.2).Row)), (7, .str ((lget l v1.2.2.2.2.2).Col)), (8, .bool true), (10, .ptr 10 0), (11, .sl 5 (l.map e_Cell)), (12, .int .i64 (l.length : Int)), (13, .int .i64 v1.2.2.2.2.2), (59, .bool ((lget l v1.2.2.2.2.2).Gone))], [(3, [.str v1.1.From, .str v1.1.To, .int .i64 v1.1.Time, .int .i64 v1.1.Many]), (10, [.str ((lget l v1.2.2.2.2.2).Row), .str ((lget l v1.2.2.2.2.2).Col), .int .i64 ((lget l v1.2.2.2.2.2).Time), .bool ((lget l v1.2.2.2.2.2).Gone), .str ((lget l v1.2.2.2.2.2).Value)])], [(68, ⟨37, 5, 0, 0, 0, true, 0, [], (v1.2.1.map e_Cell)⟩)], [], []⟩ .nil (by kernel_rfl) ?_
            refine Wk_split rfl (fun hb => ?_) (fun hb => ?_)
            · have hF := ite_t hF hb
              refine Wk_exit rfl ?_
              exact Wk_metP (v1.1, v1.2.1, (lget l v1.2.2.2.2.2).Row, (lget l v1.2.2.2.2.2).Col, true) [3, 5, 6, 7, 8, 11, 12, 13] [3] [68] [] [] [] hF (by kernel_rfl)
            · have hF := ite_f hF hb
              refine Wk_skip ?_
              refine Wk_seq ?_
              refine Wk_seq ?_
              refine WR [.nat (v1.2.1.length : Int)] [3, 5, 6, 7, 8, 10, 11, 12, 13, 64] [3, 10] [68] [] [] [] ⟨[(3, .ptr 3 0), (5, .row 68 0), (6, .str ((lget l v1.2.2.2.2.2).Row)), (7, .str ((lget l v1.2.2.2.2.2).Col)), (8, .bool true), (10, .ptr 10 0), (11, .sl 5 (l.map e_Cell)), (12, .int .i64 (l.length : Int)), (13, .int .i64 v1.2.2.2.2.2), (64, .bool (decide ((v1.2.1.length : Int) = v1.1.Many)))], [(3, [.str v1.1.From, .str v1.1.To, .int .i64 v1.1.Time, .int .i64 v1.1.Many]), (10, [.str ((lget l v1.2.2.2.2.2).Row), .str ((lget l v1.2.2.2.2.2).Col), .int .i64 ((lget l v1.2.2.2.2.2).Time), .bool ((lget l v1.2.2.2.2.2).Gone), .str ((lget l v1.2.2.2.2.2).Value)])], [(68, ⟨37, 5, 0, 0, 0, true, 0, [], (v1.2.1.map e_Cell)⟩)], [], []⟩ (.cons (len_ok e_Cell v1.2.1) .nil) (by kernel_rfl) ?_
              refine Wk_split rfl (fun hb => ?_) (fun hb => ?_)
              · have hF := ite_t hF hb
                refine Wk_exit rfl ?_
                have hF := inrO_done hF dn1
                exact Wk_metP v1.2.1 [5] [] [68] [] [] [] hF (by kernel_rfl)
              · have hF := ite_f hF hb
                refine Wk_skip ?_
                obtain ⟨h1, hF⟩ := asrt_elim hF
                refine WRL ((v1.2.1 ++ [(⟨(lget l v1.2.2.2.2.2).Row, (lget l v1.2.2.2.2.2).Col, (lget l v1.2.2.2.2.2).Time, (lget l v1.2.2.2.2.2).Gone, (lget l v1.2.2.2.2.2).Value⟩ : Cell)])) (fun v3 : List Cell => ⟨[(3, .ptr 3 0), (5, .row 68 1), (6, .str ((lget l v1.2.2.2.2.2).Row)), (7, .str ((lget l v1.2.2.2.2.2).Col)), (8, .bool true), (11, .sl 5 (l.map e_Cell)), (12, .int .i64 (l.length : Int)), (13, .int .i64 v1.2.2.2.2.2)], [(3, [.str v1.1.From, .str v1.1.To, .int .i64 v1.1.Time, .int .i64 v1.1.Many])], [(68, ⟨37, 5, 1, 0, 0, true, 0, [], (v3.map e_Cell)⟩)], [], []⟩) [.sealed, .xs ((v1.2.1 ++ [(⟨(lget l v1.2.2.2.2.2).Row, (lget l v1.2.2.2.2.2).Col, (lget l v1.2.2.2.2.2).Time, (lget l v1.2.2.2.2.2).Gone, (lget l v1.2.2.2.2.2).Value⟩ : Cell)]).map e_Cell)] [3, 5, 6, 7, 8, 11, 12, 13] [3] [68] [] [] [] (.cons (app_ok e_Cell v1.2.1 [(⟨(lget l v1.2.2.2.2.2).Row, (lget l v1.2.2.2.2.2).Col, (lget l v1.2.2.2.2.2).Time, (lget l v1.2.2.2.2.2).Gone, (lget l v1.2.2.2.2.2).Value⟩ : Cell)]) (.cons (appl_ok e_Cell h1) .nil)) (by kernel_rfl) (fun v3 hv => ?_)
                have hF := lt_elim hF hv
                refine Wk_blk ?_
                exact Wk_metP (v1.1, v3, (lget l v1.2.2.2.2.2).Row, (lget l v1.2.2.2.2.2).Col, true) [3, 5, 6, 7, 8, 11, 12, 13] [3] [68] [] [] [(68, ⟨0, true, true, false⟩)] hF (by kernel_rfl)
      · intro v2 hF
        have hF : cell_Seen_J2 v1 v2 = some y1 := hF
        unfold cell_Seen_J2 at hF
        refine WR [] [3, 5, 6, 7, 8, 11, 12, 13] [3] [68] [] [] [] ⟨[(3, .ptr 3 0), (5, .row 68 0), (6, .str v2.2.2.1), (7, .str v2.2.2.2.1), (8, .bool v2.2.2.2.2), (11, .sl 5 (l.map e_Cell)), (12, .int .i64 (l.length : Int)), (13, .int .i64 (w64 (v1.2.2.2.2.2 + 1)))], [(3, [.str v2.1.From, .str v2.1.To, .int .i64 v2.1.Time, .int .i64 v2.1.Many])], [(68, ⟨37, 5, 0, 0, 0, true, 0, [], (v2.2.1.map e_Cell)⟩)], [], []⟩ .nil (by kernel_rfl) ?_
        refine Wk_trim (fs := [3, 5, 6, 7, 8, 11, 12, 13]) (bs := [3]) (rs := [68]) (ms := []) (aa := []) (nv := []) ?_ (ih1 _ (some_elim hF).symm)
        kernel_rfl
    · have hF := ite_f hF hb
      refine Wk_exit rfl ?_
      have hF := inrO_done hF dn1
      exact Wk_metP v1.2.1 [5] [] [68] [] [] [] hF (by kernel_rfl)
  · intro v hF
    have hF : cell_Seen_J1 v = some r := hF
    unfold cell_Seen_J1 at hF
    refine Wk_seq ?_
    refine WR [] [4] [] [68] [] [] [] ⟨[(4, .row 68 0)], [], [(68, ⟨37, 5, 0, 0, 0, true, 0, [], (v.map e_Cell)⟩)], [], []⟩ .nil (by kernel_rfl) ?_
    have hF := some_elim hF
    exact Wk_ret (hfin _ ⟨[68], [], [68], [], [], [], by first | (rw [← hF]; kernel_rfl) | kernel_rfl⟩)

/- cell.Scan -/
noncomputable def cell_Scan_v1 (l : List Cell) (a0 : Ask) : Option (List Cell × Fault) :=
  ob (cell_Check l) fun x =>
  if (!decide (x.Code = 0)) = true then
    some (([] : List Cell), x)
  else
    lt (cell_Asked a0) fun x1 =>
    if (!decide (x1.Code = 0)) = true then
      some (([] : List Cell), x1)
    else
      ob (cell_Seen l a0) fun x2 =>
      some (x2, (⟨0, 0⟩ : Fault))
theorem cell_Scan_v1_ok (l : List Cell) (a0 : Ask) (r : List Cell × Fault) (hF : cell_Scan_v1 l a0 = some r) : Pe Try.prog 15 S.none [.sl 5 (l.map e_Cell), .agg [.str a0.From, .str a0.To, .int .i64 a0.Time, .int .i64 a0.Many]] (.tup [.sl 5 (r.1.map e_Cell), .agg [.int .i64 r.2.Code, .int .i64 r.2.At]]) S.none := by
  refine Pe_of (N := 24) (res := [.tmp 4, .cell 5 28]) (ts := [22, 28]) Ty.ok Fn.b15 Try.func15 rfl rfl rfl rfl rfl rfl ?_
  intro Q g hfin
  unfold cell_Scan_v1 at hF
  refine Wk_seq ?_
  refine WR [] [0, 3, 5] [3, 5] [] [] [] [] ⟨[(0, .sl 5 (l.map e_Cell)), (3, .ptr 3 0), (5, .ptr 5 0)], [(3, [.str a0.From, .str a0.To, .int .i64 a0.Time, .int .i64 a0.Many]), (5, [.int .i64 0, .int .i64 0])], [], [], []⟩ .nil (by kernel_rfl) ?_
  refine Wk_seq ?_
  refine Wk_seq ?_
  obtain ⟨x, h0, hF⟩ := ob_elim hF
  refine WR [.callB (.agg [.int .i64 x.Code, .int .i64 x.At])] [0, 3, 5, 6] [3, 5, 6] [] [] [] [] ⟨[(0, .sl 5 (l.map e_Cell)), (3, .ptr 3 0), (5, .ptr 5 0), (6, .ptr 6 0)], [(3, [.str a0.From, .str a0.To, .int .i64 a0.Time, .int .i64 a0.Many]), (5, [.int .i64 0, .int .i64 0]), (6, [.int .i64 x.Code, .int .i64 x.At])], [], [], []⟩ (.cons (cell_Check_ok l x h0) .nil) (by kernel_rfl) ?_
  refine Wk_seq ?_
  refine WR [] [0, 3, 5, 6, 12] [3, 5, 6] [] [] [] [] ⟨[(0, .sl 5 (l.map e_Cell)), (3, .ptr 3 0), (5, .ptr 5 0), (6, .ptr 6 0), (12, .bool (!decide (x.Code = 0)))], [(3, [.str a0.From, .str a0.To, .int .i64 a0.Time, .int .i64 a0.Many]), (5, [.int .i64 0, .int .i64 0]), (6, [.int .i64 x.Code, .int .i64 x.At])], [], [], []⟩ .nil (by kernel_rfl) ?_
  refine Wk_split rfl (fun hb => ?_) (fun hb => ?_)
  · have hF := ite_t hF hb
    refine Wk_seq ?_
    refine WD [] [4, 5] [5] [] [] [] [] ⟨[(4, .nils), (5, .ptr 5 0)], [(5, [.int .i64 x.Code, .int .i64 x.At])], [], [], []⟩ .nil (by kernel_rfl) ?_
    have hF := some_elim hF
    exact Wk_ret (hfin _ ⟨[], [], [], [], [], [], by first | (rw [← hF]; kernel_rfl) | kernel_rfl⟩)
  · have hF := ite_f hF hb
    refine Wk_skip ?_
    refine Wk_seq ?_
    refine Wk_seq ?_
    obtain ⟨x1, h1, hF⟩ := lt_split hF
    refine WR [.callB (.agg [.int .i64 x1.Code, .int .i64 x1.At])] [0, 3, 5, 7] [3, 5, 7] [] [] [] [] ⟨[(0, .sl 5 (l.map e_Cell)), (3, .ptr 3 0), (5, .ptr 5 0), (7, .ptr 7 0)], [(3, [.str a0.From, .str a0.To, .int .i64 a0.Time, .int .i64 a0.Many]), (5, [.int .i64 0, .int .i64 0]), (7, [.int .i64 x1.Code, .int .i64 x1.At])], [], [], []⟩ (.cons (cell_Asked_ok a0 x1 h1) .nil) (by kernel_rfl) ?_
    refine Wk_seq ?_
    refine WR [] [0, 3, 5, 7, 18] [3, 5, 7] [] [] [] [] ⟨[(0, .sl 5 (l.map e_Cell)), (3, .ptr 3 0), (5, .ptr 5 0), (7, .ptr 7 0), (18, .bool (!decide (x1.Code = 0)))], [(3, [.str a0.From, .str a0.To, .int .i64 a0.Time, .int .i64 a0.Many]), (5, [.int .i64 0, .int .i64 0]), (7, [.int .i64 x1.Code, .int .i64 x1.At])], [], [], []⟩ .nil (by kernel_rfl) ?_
    refine Wk_split rfl (fun hb => ?_) (fun hb => ?_)
    · have hF := ite_t hF hb
      refine Wk_seq ?_
      refine WD [] [4, 5] [5] [] [] [] [] ⟨[(4, .nils), (5, .ptr 5 0)], [(5, [.int .i64 x1.Code, .int .i64 x1.At])], [], [], []⟩ .nil (by kernel_rfl) ?_
      have hF := some_elim hF
      exact Wk_ret (hfin _ ⟨[], [], [], [], [], [], by first | (rw [← hF]; kernel_rfl) | kernel_rfl⟩)
    · have hF := ite_f hF hb
      refine Wk_skip ?_
      refine Wk_seq ?_
      obtain ⟨x2, h2, hF⟩ := ob_elim hF
      refine WR [.callE [] [] [] [] (.row 22 0) ⟨[], [], [(22, ⟨37, 5, 0, 0, 0, true, 0, [], (x2.map e_Cell)⟩)], [], []⟩] [4, 5] [5] [22] [] [] [] ⟨[(4, .row 22 0), (5, .ptr 5 0)], [(5, [.int .i64 0, .int .i64 0])], [(22, ⟨37, 5, 0, 0, 0, true, 0, [], (x2.map e_Cell)⟩)], [], []⟩ (.cons (Pe.ren (cell_Seen_ok l a0 x2 h2) ⟨[], [(68, 22)], [], []⟩) .nil) (by kernel_rfl) ?_
      have hF := some_elim hF
      exact Wk_ret (hfin _ ⟨[], [], [], [], [], [], by first | (rw [← hF]; kernel_rfl) | kernel_rfl⟩)

/- tabularyref.F -/
noncomputable def R_F (code : Int) (at0 : Int) : Fault :=
  (⟨code, at0⟩ : Fault)
theorem R_F_ok (code : Int) (at0 : Int) (r : Fault) (hF : R_F code at0 = r) : Pe Try.prog 17 S.none [.int .i64 code, .int .i64 at0] (.agg [.int .i64 r.Code, .int .i64 r.At]) S.none := by
  refine Pe_of (N := 8) (res := [.cell 4 28]) (ts := [28]) Ty.ok Fn.b17 Try.func17 rfl rfl rfl rfl rfl rfl ?_
  intro Q g hfin
  unfold R_F at hF
  refine Wk_seq ?_
  refine WR [] [0, 1, 4] [4] [] [] [] [] ⟨[(0, .int .i64 code), (1, .int .i64 at0), (4, .ptr 4 0)], [(4, [.int .i64 0, .int .i64 0])], [], [], []⟩ .nil (by kernel_rfl) ?_
  refine Wk_seq ?_
  refine WR [] [4] [4] [] [] [] [] ⟨[(4, .ptr 4 0)], [(4, [.int .i64 code, .int .i64 at0])], [], [], []⟩ .nil (by kernel_rfl) ?_
  exact Wk_ret (hfin _ ⟨[], [], [], [], [], [], by first | (rw [← hF]; kernel_rfl) | kernel_rfl⟩)

/- tabularyref.CellCode -/
noncomputable def R_CellCode (c : Cell) : Int :=
  if ((((decide (c.Row = ([] : List UInt8))) || (decide (40 < (c.Row.length : Int)))) || (decide (40 < (c.Col.length : Int)))) || (decide (200 < (c.Value.length : Int)))) = true then
    8
  else
    if ((decide (c.Time < 0)) || (decide (1000000000 < c.Time))) = true then
      3
    else
      if (c.Gone && (!decide (c.Value = ([] : List UInt8)))) = true then
        5
      else
        0
theorem R_CellCode_ok (c : Cell) (r : Int) (hF : R_CellCode c = r) : Pe Try.prog 44 S.none [.agg [.str c.Row, .str c.Col, .int .i64 c.Time, .bool c.Gone, .str c.Value]] (.int .i64 r) S.none := by
  refine Pe_of (N := 39) (res := [.tmp 2]) (ts := [3]) Ty.ok Fn.b44 Try.func44 rfl rfl rfl rfl rfl rfl ?_
  intro Q g hfin
  unfold R_CellCode at hF
  refine Wk_seq ?_
  refine WR [] [1] [1] [] [] [] [] ⟨[(1, .ptr 1 0)], [(1, [.str c.Row, .str c.Col, .int .i64 c.Time, .bool c.Gone, .str c.Value])], [], [], []⟩ .nil (by kernel_rfl) ?_
  refine Wk_seq ?_
  refine Wk_seq ?_
  refine WR [] [1, 23] [1] [] [] [] [] ⟨[(1, .ptr 1 0), (23, .bool ((((decide (c.Row = ([] : List UInt8))) || (decide (40 < (c.Row.length : Int)))) || (decide (40 < (c.Col.length : Int)))) || (decide (200 < (c.Value.length : Int)))))], [(1, [.str c.Row, .str c.Col, .int .i64 c.Time, .bool c.Gone, .str c.Value])], [], [], []⟩ .nil (by kernel_rfl) ?_
  refine Wk_split rfl (fun hb => ?_) (fun hb => ?_)
  · have hF := ite_t hF hb
    refine Wk_seq ?_
    refine WR [] [2] [] [] [] [] [] ⟨[(2, .int .i64 8)], [], [], [], []⟩ .nil (by kernel_rfl) ?_
    exact Wk_ret (hfin _ ⟨[], [], [], [], [], [], by first | (rw [← hF]; kernel_rfl) | kernel_rfl⟩)
  · have hF := ite_f hF hb
    refine Wk_skip ?_
    refine Wk_seq ?_
    refine Wk_seq ?_
    refine WR [] [1, 31] [1] [] [] [] [] ⟨[(1, .ptr 1 0), (31, .bool ((decide (c.Time < 0)) || (decide (1000000000 < c.Time))))], [(1, [.str c.Row, .str c.Col, .int .i64 c.Time, .bool c.Gone, .str c.Value])], [], [], []⟩ .nil (by kernel_rfl) ?_
    refine Wk_split rfl (fun hb => ?_) (fun hb => ?_)
    · have hF := ite_t hF hb
      refine Wk_seq ?_
      refine WR [] [2] [] [] [] [] [] ⟨[(2, .int .i64 3)], [], [], [], []⟩ .nil (by kernel_rfl) ?_
      exact Wk_ret (hfin _ ⟨[], [], [], [], [], [], by first | (rw [← hF]; kernel_rfl) | kernel_rfl⟩)
    · have hF := ite_f hF hb
      refine Wk_skip ?_
      refine Wk_seq ?_
      refine Wk_seq ?_
      refine WR [] [38] [] [] [] [] [] ⟨[(38, .bool (c.Gone && (!decide (c.Value = ([] : List UInt8)))))], [], [], [], []⟩ .nil (by kernel_rfl) ?_
      refine Wk_split rfl (fun hb => ?_) (fun hb => ?_)
      · have hF := ite_t hF hb
        refine Wk_seq ?_
        refine WR [] [2] [] [] [] [] [] ⟨[(2, .int .i64 5)], [], [], [], []⟩ .nil (by kernel_rfl) ?_
        exact Wk_ret (hfin _ ⟨[], [], [], [], [], [], by first | (rw [← hF]; kernel_rfl) | kernel_rfl⟩)
      · have hF := ite_f hF hb
        refine Wk_skip ?_
        refine Wk_seq ?_
        refine WR [] [2] [] [] [] [] [] ⟨[(2, .int .i64 0)], [], [], [], []⟩ .nil (by kernel_rfl) ?_
        exact Wk_ret (hfin _ ⟨[], [], [], [], [], [], by first | (rw [← hF]; kernel_rfl) | kernel_rfl⟩)

/- tabularyref.Ahead -/
noncomputable def R_Ahead (a0 : Cell) (b : Cell) : Bool :=
  if (!decide (a0.Row = b.Row)) = true then
    Op.bytesLess a0.Row b.Row
  else
    if (!decide (a0.Col = b.Col)) = true then
      Op.bytesLess a0.Col b.Col
    else
      decide (b.Time < a0.Time)
theorem R_Ahead_ok (a0 : Cell) (b : Cell) (r : Bool) (hF : R_Ahead a0 b = r) : Pe Try.prog 52 S.none [.agg [.str a0.Row, .str a0.Col, .int .i64 a0.Time, .bool a0.Gone, .str a0.Value], .agg [.str b.Row, .str b.Col, .int .i64 b.Time, .bool b.Gone, .str b.Value]] (.bool r) S.none := by
  refine Pe_of (N := 30) (res := [.tmp 4]) (ts := [4]) Ty.ok Fn.b52 Try.func52 rfl rfl rfl rfl rfl rfl ?_
  intro Q g hfin
  unfold R_Ahead at hF
  refine Wk_seq ?_
  refine WR [] [2, 3] [2, 3] [] [] [] [] ⟨[(2, .ptr 2 0), (3, .ptr 3 0)], [(2, [.str a0.Row, .str a0.Col, .int .i64 a0.Time, .bool a0.Gone, .str a0.Value]), (3, [.str b.Row, .str b.Col, .int .i64 b.Time, .bool b.Gone, .str b.Value])], [], [], []⟩ .nil (by kernel_rfl) ?_
  refine Wk_seq ?_
  refine Wk_seq ?_
  refine WR [] [2, 3, 9] [2, 3] [] [] [] [] ⟨[(2, .ptr 2 0), (3, .ptr 3 0), (9, .bool (!decide (a0.Row = b.Row)))], [(2, [.str a0.Row, .str a0.Col, .int .i64 a0.Time, .bool a0.Gone, .str a0.Value]), (3, [.str b.Row, .str b.Col, .int .i64 b.Time, .bool b.Gone, .str b.Value])], [], [], []⟩ .nil (by kernel_rfl) ?_
  refine Wk_split rfl (fun hb => ?_) (fun hb => ?_)
  · have hF := ite_t hF hb
    refine Wk_seq ?_
    refine WR [] [4] [] [] [] [] [] ⟨[(4, .bool (Op.bytesLess a0.Row b.Row))], [], [], [], []⟩ .nil (by kernel_rfl) ?_
    exact Wk_ret (hfin _ ⟨[], [], [], [], [], [], by first | (rw [← hF]; kernel_rfl) | kernel_rfl⟩)
  · have hF := ite_f hF hb
    refine Wk_skip ?_
    refine Wk_seq ?_
    refine Wk_seq ?_
    refine WR [] [2, 3, 19] [2, 3] [] [] [] [] ⟨[(2, .ptr 2 0), (3, .ptr 3 0), (19, .bool (!decide (a0.Col = b.Col)))], [(2, [.str a0.Row, .str a0.Col, .int .i64 a0.Time, .bool a0.Gone, .str a0.Value]), (3, [.str b.Row, .str b.Col, .int .i64 b.Time, .bool b.Gone, .str b.Value])], [], [], []⟩ .nil (by kernel_rfl) ?_
    refine Wk_split rfl (fun hb => ?_) (fun hb => ?_)
    · have hF := ite_t hF hb
      refine Wk_seq ?_
      refine WR [] [4] [] [] [] [] [] ⟨[(4, .bool (Op.bytesLess a0.Col b.Col))], [], [], [], []⟩ .nil (by kernel_rfl) ?_
      exact Wk_ret (hfin _ ⟨[], [], [], [], [], [], by first | (rw [← hF]; kernel_rfl) | kernel_rfl⟩)
    · have hF := ite_f hF hb
      refine Wk_skip ?_
      refine Wk_seq ?_
      refine WR [] [4] [] [] [] [] [] ⟨[(4, .bool (decide (b.Time < a0.Time)))], [], [], [], []⟩ .nil (by kernel_rfl) ?_
      exact Wk_ret (hfin _ ⟨[], [], [], [], [], [], by first | (rw [← hF]; kernel_rfl) | kernel_rfl⟩)

/- tabularyref.CellsFault -/
noncomputable def R_CellsFault_J1 (v : Fault) : Option Fault :=
  some (⟨0, 0⟩ : Fault)
noncomputable def R_CellsFault_B1 (l : List Cell) (v1 : Fault × Int) : Option ((Fault × Int) ⊕ Fault) :=
  if (decide (v1.2 < (l.length : Int))) = true then
    asrt (0 ≤ v1.2 ∧ v1.2 < (l.length : Int)) <|
    lt (R_CellCode (⟨(lget l v1.2).Row, (lget l v1.2).Col, (lget l v1.2).Time, (lget l v1.2).Gone, (lget l v1.2).Value⟩ : Cell)) fun x1 =>
    if (!decide (x1 = 0)) = true then
      lt (R_F x1 v1.2) fun x2 =>
      some (Sum.inr x2)
    else
      asrt ((decide (0 < v1.2)) = true → 0 ≤ w64 (v1.2 - 1) ∧ w64 (v1.2 - 1) < (l.length : Int)) <|
      asrt ((decide (0 < v1.2)) = true → 0 ≤ v1.2 ∧ v1.2 < (l.length : Int)) <|
      lt (R_Ahead (⟨(lget l (w64 (v1.2 - 1))).Row, (lget l (w64 (v1.2 - 1))).Col, (lget l (w64 (v1.2 - 1))).Time, (lget l (w64 (v1.2 - 1))).Gone, (lget l (w64 (v1.2 - 1))).Value⟩ : Cell) (⟨(lget l v1.2).Row, (lget l v1.2).Col, (lget l v1.2).Time, (lget l v1.2).Gone, (lget l v1.2).Value⟩ : Cell)) fun x3 =>
      if ((decide (0 < v1.2)) && (!x3)) = true then
        lt (R_F 10 v1.2) fun x4 =>
        some (Sum.inr x4)
      else
        some (Sum.inl (v1.1, w64 (v1.2 + 1)))
  else
    inrO (R_CellsFault_J1 v1.1)
noncomputable def R_CellsFault_L1 (l : List Cell) (v0 : Fault × Int) : Option Fault :=
  loopO (fun y => R_CellsFault_B1 l y) v0
noncomputable def R_CellsFault (l : List Cell) : Option Fault :=
  if (decide (1000 < (l.length : Int))) = true then
    lt (R_F 2 0) fun x =>
    some x
  else
    R_CellsFault_L1 l ((⟨0, 0⟩ : Fault), 0)
theorem R_CellsFault_ok (l : List Cell) (r : Fault) (hF : R_CellsFault l = some r) : Pe Try.prog 16 S.none [.sl 5 (l.map e_Cell)] (.agg [.int .i64 r.Code, .int .i64 r.At]) S.none := by
  refine Pe_of (N := 43) (res := [.cell 2 28]) (ts := [28]) Ty.ok Fn.b16 Try.func16 rfl rfl rfl rfl rfl rfl ?_
  intro Q g hfin
  unfold R_CellsFault at hF
  refine Wk_seq ?_
  refine WR [] [0, 2] [2] [] [] [] [] ⟨[(0, .sl 5 (l.map e_Cell)), (2, .ptr 2 0)], [(2, [.int .i64 0, .int .i64 0])], [], [], []⟩ .nil (by kernel_rfl) ?_
  refine Wk_seq ?_
  refine Wk_seq ?_
  refine WR [.nat (l.length : Int)] [0, 2, 7] [2] [] [] [] [] ⟨[(0, .sl 5 (l.map e_Cell)), (2, .ptr 2 0), (7, .bool (decide (1000 < (l.length : Int))))], [(2, [.int .i64 0, .int .i64 0])], [], [], []⟩ (.cons (len_ok e_Cell l) .nil) (by kernel_rfl) ?_
  refine Wk_split rfl (fun hb => ?_) (fun hb => ?_)
  · have hF := ite_t hF hb
    refine Wk_seq ?_
    obtain ⟨x, h0, hF⟩ := lt_split hF
    refine WR [.callB (.agg [.int .i64 x.Code, .int .i64 x.At])] [2] [2] [] [] [] [] ⟨[(2, .ptr 2 0)], [(2, [.int .i64 x.Code, .int .i64 x.At])], [], [], []⟩ (.cons (R_F_ok 2 0 x h0) .nil) (by kernel_rfl) ?_
    have hF := some_elim hF
    exact Wk_ret (hfin _ ⟨[], [], [], [], [], [], by first | (rw [← hF]; kernel_rfl) | kernel_rfl⟩)
  · have hF := ite_f hF hb
    refine Wk_skip ?_
    refine Wk_seq ?_
    refine Wk_seq ?_
    refine WR [] [0, 2, 3] [2] [] [] [] [] ⟨[(0, .sl 5 (l.map e_Cell)), (2, .ptr 2 0), (3, .int .i64 0)], [(2, [.int .i64 0, .int .i64 0])], [], [], []⟩ .nil (by kernel_rfl) ?_
    refine Wk_meetP (fun v : Fault => (⟨[(2, .ptr 2 0)], [(2, [.int .i64 v.Code, .int .i64 v.At])], [], [], []⟩ : S)) (fun v => R_CellsFault_J1 v = some r) ?_ ?_
    · refine Wk_block ?_
      unfold R_CellsFault_L1 at hF
      refine Wk_trim (fs := [0, 2, 3]) (bs := [2]) (rs := []) (ms := []) (aa := []) (nv := []) (t := (fun v1 : Fault × Int => (⟨[(0, .sl 5 (l.map e_Cell)), (2, .ptr 2 0), (3, .int .i64 v1.2)], [(2, [.int .i64 v1.1.Code, .int .i64 v1.1.At])], [], [], []⟩ : S)) ((⟨0, 0⟩ : Fault), 0)) (by kernel_rfl) ?_
      refine Wk_iter (step := fun y => R_CellsFault_B1 l y) (r := r) (fun v1 : Fault × Int => (⟨[(0, .sl 5 (l.map e_Cell)), (2, .ptr 2 0), (3, .int .i64 v1.2)], [(2, [.int .i64 v1.1.Code, .int .i64 v1.1.At])], [], [], []⟩ : S)) ((⟨0, 0⟩ : Fault), 0) hF ?_
      intro n1 v1 y1 hF ih1 dn1
      have hF : R_CellsFault_B1 l v1 = some y1 := hF
      unfold R_CellsFault_B1 at hF
      refine Wk_seq ?_
      refine Wk_seq ?_
      refine WR [.nat (l.length : Int)] [0, 2, 3, 12] [2] [] [] [] [] ⟨[(0, .sl 5 (l.map e_Cell)), (2, .ptr 2 0), (3, .int .i64 v1.2), (12, .bool (decide (v1.2 < (l.length : Int))))], [(2, [.int .i64 v1.1.Code, .int .i64 v1.1.At])], [], [], []⟩ (.cons (len_ok e_Cell l) .nil) (by kernel_rfl) ?_
      refine Wk_split rfl (fun hb => ?_) (fun hb => ?_)
      · have hF := ite_t hF hb
        refine Wk_skip ?_
        refine Wk_seq ?_
        refine Wk_block ?_
        refine Wk_seq ?_
        obtain ⟨h1, hF⟩ := asrt_elim hF
        obtain ⟨x1, h2, hF⟩ := lt_split hF
        refine WR [.av (e_Cell (lget l v1.2)), .callB (.int .i64 x1)] [0, 2, 3, 4] [2] [] [] [] [] ⟨[(0, .sl 5 (l.map e_Cell)), (2, .ptr 2 0), (3, .int .i64 v1.2), (4, .int .i64 x1)], [(2, [.int .i64 v1.1.Code, .int .i64 v1.1.At])], [], [], []⟩ (.cons (idx_ok e_Cell h1) (.cons (R_CellCode_ok (⟨(lget l v1.2).Row, (lget l v1.2).Col, (lget l v1.2).Time, (lget l v1.2).Gone, (lget l v1.2).Value⟩ : Cell) x1 h2) .nil)) (by kernel_rfl) ?_
        refine Wk_seq ?_
        refine Wk_seq ?_
        refine WR [] [0, 2, 3, 4, 21] [2] [] [] [] [] ⟨[(0, .sl 5 (l.map e_Cell)), (2, .ptr 2 0), (3, .int .i64 v1.2), (4, .int .i64 x1), (21, .bool (!decide (x1 = 0)))], [(2, [.int .i64 v1.1.Code, .int .i64 v1.1.At])], [], [], []⟩ .nil (by kernel_rfl) ?_
        refine Wk_split rfl (fun hb => ?_) (fun hb => ?_)
        · have hF := ite_t hF hb
          refine Wk_seq ?_
          obtain ⟨x2, h3, hF⟩ := lt_split hF
          refine WR [.callB (.agg [.int .i64 x2.Code, .int .i64 x2.At])] [2] [2] [] [] [] [] ⟨[(2, .ptr 2 0)], [(2, [.int .i64 x2.Code, .int .i64 x2.At])], [], [], []⟩ (.cons (R_F_ok x1 v1.2 x2 h3) .nil) (by kernel_rfl) ?_
          have hF := ret_done hF dn1
          have hF := some_elim hF
          exact Wk_ret (hfin _ ⟨[], [], [], [], [], [], by first | (rw [← hF]; kernel_rfl) | kernel_rfl⟩)
        · have hF := ite_f hF hb
          refine Wk_skip ?_
          refine Wk_seq ?_
          obtain ⟨h4, hF⟩ := asrt_elim hF
          obtain ⟨h5, hF⟩ := asrt_elim hF
          obtain ⟨x3, h6, hF⟩ := lt_split hF
          refine WD [.av (e_Cell (lget l (w64 (v1.2 - 1)))), .av (e_Cell (lget l v1.2)), .callB (.bool x3)] [0, 2, 3, 39] [2] [] [] [] [] ⟨[(0, .sl 5 (l.map e_Cell)), (2, .ptr 2 0), (3, .int .i64 v1.2), (39, .bool ((decide (0 < v1.2)) && (!x3)))], [(2, [.int .i64 v1.1.Code, .int .i64 v1.1.At])], [], [], []⟩ (.cons (fun (ga0 : (decide (0 < v1.2)) = true) => (idx_ok e_Cell (h4 ga0))) (.cons (fun (ga0 : (decide (0 < v1.2)) = true) => (idx_ok e_Cell (h5 ga0))) (.cons (fun (ga0 : (decide (0 < v1.2)) = true) => (R_Ahead_ok (⟨(lget l (w64 (v1.2 - 1))).Row, (lget l (w64 (v1.2 - 1))).Col, (lget l (w64 (v1.2 - 1))).Time, (lget l (w64 (v1.2 - 1))).Gone, (lget l (w64 (v1.2 - 1))).Value⟩ : Cell) (⟨(lget l v1.2).Row, (lget l v1.2).Col, (lget l v1.2).Time, (lget l v1.2).Gone, (lget l v1.2).Value⟩ : Cell) x3 h6)) .nil))) (by kernel_rfl) ?_
          refine Wk_split rfl (fun hb => ?_) (fun hb => ?_)
          · have hF := ite_t hF hb
            refine Wk_seq ?_
            obtain ⟨x4, h7, hF⟩ := lt_split hF
            refine WR [.callB (.agg [.int .i64 x4.Code, .int .i64 x4.At])] [2] [2] [] [] [] [] ⟨[(2, .ptr 2 0)], [(2, [.int .i64 x4.Code, .int .i64 x4.At])], [], [], []⟩ (.cons (R_F_ok 10 v1.2 x4 h7) .nil) (by kernel_rfl) ?_
            have hF := ret_done hF dn1
            have hF := some_elim hF
            exact Wk_ret (hfin _ ⟨[], [], [], [], [], [], by first | (rw [← hF]; kernel_rfl) | kernel_rfl⟩)
          · have hF := ite_f hF hb
            refine Wk_skip ?_
            refine Wk_blk ?_
            refine WR [] [0, 2, 3] [2] [] [] [] [] ⟨[(0, .sl 5 (l.map e_Cell)), (2, .ptr 2 0), (3, .int .i64 (w64 (v1.2 + 1)))], [(2, [.int .i64 v1.1.Code, .int .i64 v1.1.At])], [], [], []⟩ .nil (by kernel_rfl) ?_
            refine Wk_trim (fs := [0, 2, 3]) (bs := [2]) (rs := []) (ms := []) (aa := []) (nv := []) ?_ (ih1 _ (some_elim hF).symm)
            kernel_rfl
      · have hF := ite_f hF hb
        refine Wk_exit rfl ?_
        have hF := inrO_done hF dn1
        exact Wk_metP v1.1 [2] [2] [] [] [] [] hF (by kernel_rfl)
    · intro v hF
      have hF : R_CellsFault_J1 v = some r := hF
      unfold R_CellsFault_J1 at hF
      refine Wk_seq ?_
      refine WR [] [2] [2] [] [] [] [] ⟨[(2, .ptr 2 0)], [(2, [.int .i64 0, .int .i64 0])], [], [], []⟩ .nil (by kernel_rfl) ?_
      have hF := some_elim hF
      exact Wk_ret (hfin _ ⟨[], [], [], [], [], [], by first | (rw [← hF]; kernel_rfl) | kernel_rfl⟩)

/- tabularyref.SeenCell -/
noncomputable def R_SeenCell_J1 (l : List Cell) (v : Cell × Int) : Option (Cell × Bool) :=
  asrt ((!(decide (v.2 < 0))) = true → 0 ≤ v.2 ∧ v.2 < (l.length : Int)) <|
  if ((decide (v.2 < 0)) || ((lget l v.2).Gone)) = true then
    some ((⟨([] : List UInt8), ([] : List UInt8), 0, false, ([] : List UInt8)⟩ : Cell), false)
  else
    asrt (0 ≤ v.2 ∧ v.2 < (l.length : Int)) <|
    some ((⟨(lget l v.2).Row, (lget l v.2).Col, (lget l v.2).Time, (lget l v.2).Gone, (lget l v.2).Value⟩ : Cell), true)
noncomputable def R_SeenCell_B1 (l : List Cell) (row : List UInt8) (col : List UInt8) (time : Int) (v1 : Cell × Int × Int) : Option ((Cell × Int × Int) ⊕ (Cell × Bool)) :=
  if (decide (v1.2.2 < (l.length : Int))) = true then
    asrt (0 ≤ v1.2.2 ∧ v1.2.2 < (l.length : Int)) <|
    asrt ((decide (((lget l v1.2.2).Row) = row)) = true → 0 ≤ v1.2.2 ∧ v1.2.2 < (l.length : Int)) <|
    asrt (((decide (((lget l v1.2.2).Row) = row)) && (decide (((lget l v1.2.2).Col) = col))) = true → 0 ≤ v1.2.2 ∧ v1.2.2 < (l.length : Int)) <|
    asrt ((!(decide (v1.2.1 < 0))) = true → (((decide (((lget l v1.2.2).Row) = row)) && (decide (((lget l v1.2.2).Col) = col))) && (decide (((lget l v1.2.2).Time) ≤ time))) = true → 0 ≤ v1.2.2 ∧ v1.2.2 < (l.length : Int)) <|
    asrt ((!(decide (v1.2.1 < 0))) = true → (((decide (((lget l v1.2.2).Row) = row)) && (decide (((lget l v1.2.2).Col) = col))) && (decide (((lget l v1.2.2).Time) ≤ time))) = true → 0 ≤ v1.2.1 ∧ v1.2.1 < (l.length : Int)) <|
    ob (
      if ((((decide (((lget l v1.2.2).Row) = row)) && (decide (((lget l v1.2.2).Col) = col))) && (decide (((lget l v1.2.2).Time) ≤ time))) && ((decide (v1.2.1 < 0)) || (decide (((lget l v1.2.1).Time) < ((lget l v1.2.2).Time))))) = true then
        some (v1.1, v1.2.2)
      else
        some (v1.1, v1.2.1)) fun (v2 : Cell × Int) =>
    some (Sum.inl (v2.1, v2.2, w64 (v1.2.2 + 1)))
  else
    inrO (R_SeenCell_J1 l (v1.1, v1.2.1))
noncomputable def R_SeenCell_L1 (l : List Cell) (row : List UInt8) (col : List UInt8) (time : Int) (v0 : Cell × Int × Int) : Option (Cell × Bool) :=
  loopO (fun y => R_SeenCell_B1 l row col time y) v0
noncomputable def R_SeenCell (l : List Cell) (row : List UInt8) (col : List UInt8) (time : Int) : Option (Cell × Bool) :=
  R_SeenCell_L1 l row col time ((⟨([] : List UInt8), ([] : List UInt8), 0, false, ([] : List UInt8)⟩ : Cell), (-1), 0)
theorem R_SeenCell_ok (l : List Cell) (row : List UInt8) (col : List UInt8) (time : Int) (r : Cell × Bool) (hF : R_SeenCell l row col time = some r) : Pe Try.prog 18 S.none [.sl 5 (l.map e_Cell), .str row, .str col, .int .i64 time] (.tup [.agg [.str r.1.Row, .str r.1.Col, .int .i64 r.1.Time, .bool r.1.Gone, .str r.1.Value], .bool r.2]) S.none := by
  refine Pe_of (N := 75) (res := [.cell 8 37, .tmp 9]) (ts := [37, 4]) Ty.ok Fn.b18 Try.func18 rfl rfl rfl rfl rfl rfl ?_
  intro Q g hfin
  unfold R_SeenCell at hF
  refine Wk_seq ?_
  refine WR [] [0, 1, 2, 3, 8] [8] [] [] [] [] ⟨[(0, .sl 5 (l.map e_Cell)), (1, .str row), (2, .str col), (3, .int .i64 time), (8, .ptr 8 0)], [(8, [.str [], .str [], .int .i64 0, .bool false, .str []])], [], [], []⟩ .nil (by kernel_rfl) ?_
  refine Wk_seq ?_
  refine WR [] [0, 1, 2, 3, 8, 10] [8] [] [] [] [] ⟨[(0, .sl 5 (l.map e_Cell)), (1, .str row), (2, .str col), (3, .int .i64 time), (8, .ptr 8 0), (10, .int .i64 (-1))], [(8, [.str [], .str [], .int .i64 0, .bool false, .str []])], [], [], []⟩ .nil (by kernel_rfl) ?_
  refine Wk_seq ?_
  refine Wk_seq ?_
  refine WR [] [0, 1, 2, 3, 8, 10, 11] [8] [] [] [] [] ⟨[(0, .sl 5 (l.map e_Cell)), (1, .str row), (2, .str col), (3, .int .i64 time), (8, .ptr 8 0), (10, .int .i64 (-1)), (11, .int .i64 0)], [(8, [.str [], .str [], .int .i64 0, .bool false, .str []])], [], [], []⟩ .nil (by kernel_rfl) ?_
  refine Wk_meetP (fun v : Cell × Int => (⟨[(0, .sl 5 (l.map e_Cell)), (8, .ptr 8 0), (10, .int .i64 v.2)], [(8, [.str v.1.Row, .str v.1.Col, .int .i64 v.1.Time, .bool v.1.Gone, .str v.1.Value])], [], [], []⟩ : S)) (fun v => R_SeenCell_J1 l v = some r) ?_ ?_
  · refine Wk_block ?_
    unfold R_SeenCell_L1 at hF
    refine Wk_trim (fs := [0, 1, 2, 3, 8, 10, 11]) (bs := [8]) (rs := []) (ms := []) (aa := []) (nv := []) (t := (fun v1 : Cell × Int × Int => (⟨[(0, .sl 5 (l.map e_Cell)), (1, .str row), (2, .str col), (3, .int .i64 time), (8, .ptr 8 0), (10, .int .i64 v1.2.1), (11, .int .i64 v1.2.2)], [(8, [.str v1.1.Row, .str v1.1.Col, .int .i64 v1.1.Time, .bool v1.1.Gone, .str v1.1.Value])], [], [], []⟩ : S)) ((⟨([] : List UInt8), ([] : List UInt8), 0, false, ([] : List UInt8)⟩ : Cell), (-1), 0)) (by kernel_rfl) ?_
    refine Wk_iter (step := fun y => R_SeenCell_B1 l row col time y) (r := r) (fun v1 : Cell × Int × Int => (⟨[(0, .sl 5 (l.map e_Cell)), (1, .str row), (2, .str col), (3, .int .i64 time), (8, .ptr 8 0), (10, .int .i64 v1.2.1), (11, .int .i64 v1.2.2)], [(8, [.str v1.1.Row, .str v1.1.Col, .int .i64 v1.1.Time, .bool v1.1.Gone, .str v1.1.Value])], [], [], []⟩ : S)) ((⟨([] : List UInt8), ([] : List UInt8), 0, false, ([] : List UInt8)⟩ : Cell), (-1), 0) hF ?_
    intro n1 v1 y1 hF ih1 dn1
    have hF : R_SeenCell_B1 l row col time v1 = some y1 := hF
    unfold R_SeenCell_B1 at hF
    refine Wk_seq ?_
    refine Wk_seq ?_
    refine WR [.nat (l.length : Int)] [0, 1, 2, 3, 8, 10, 11, 15] [8] [] [] [] [] ⟨[(0, .sl 5 (l.map e_Cell)), (1, .str row), (2, .str col), (3, .int .i64 time), (8, .ptr 8 0), (10, .int .i64 v1.2.1), (11, .int .i64 v1.2.2), (15, .bool (decide (v1.2.2 < (l.length : Int))))], [(8, [.str v1.1.Row, .str v1.1.Col, .int .i64 v1.1.Time, .bool v1.1.Gone, .str v1.1.Value])], [], [], []⟩ (.cons (len_ok e_Cell l) .nil) (by kernel_rfl) ?_
    refine Wk_split rfl (fun hb => ?_) (fun hb => ?_)
    · have hF := ite_t hF hb
      refine Wk_skip ?_
      refine Wk_seq ?_
      refine Wk_block ?_
      refine Wk_seq ?_
      obtain ⟨h2, hF⟩ := asrt_elim hF
      obtain ⟨h3, hF⟩ := asrt_elim hF
      obtain ⟨h4, hF⟩ := asrt_elim hF
      obtain ⟨h5, hF⟩ := asrt_elim hF
      obtain ⟨h6, hF⟩ := asrt_elim hF
      refine WD [.av (e_Cell (lget l v1.2.2)), .av (e_Cell (lget l v1.2.2)), .av (e_Cell (lget l v1.2.2)), .av (e_Cell (lget l v1.2.2)), .av (e_Cell (lget l v1.2.1))] [0, 1, 2, 3, 8, 10, 11, 59] [8] [] [] [] [] ⟨[(0, .sl 5 (l.map e_Cell)), (1, .str row), (2, .str col), (3, .int .i64 time), (8, .ptr 8 0), (10, .int .i64 v1.2.1), (11, .int .i64 v1.2.2), (59, .bool ((((decide (((lget l v1.2.2).Row) = row)) && (decide (((lget l v1.2.2).Col) = col))) && (decide (((lget l v1.2.2).Time) ≤ time))) && ((decide (v1.2.1 < 0)) || (decide (((lget l v1.2.1).Time) < ((lget l v1.2.2).Time))))))], [(8, [.str v1.1.Row, .str v1.1.Col, .int .i64 v1.1.Time, .bool v1.1.Gone, .str v1.1.Value])], [], [], []⟩ (.cons (idx_ok e_Cell h2) (.cons (fun (ga0 : (decide (((lget l v1.2.2).Row) = row)) = true) => (idx_ok e_Cell (h3 ga0))) (.cons (fun (ga0 : ((decide (((lget l v1.2.2).Row) = row)) && (decide (((lget l v1.2.2).Col) = col))) = true) => (idx_ok e_Cell (h4 ga0))) (.cons (fun (ga0 : (!(decide (v1.2.1 < 0))) = true) (ga1 : (((decide (((lget l v1.2.2).Row) = row)) && (decide (((lget l v1.2.2).Col) = col))) && (decide (((lget l v1.2.2).Time) ≤ time))) = true) => (idx_ok e_Cell (h5 ga0 ga1))) (.cons (fun (ga0 : (!(decide (v1.2.1 < 0))) = true) (ga1 : (((decide (((lget l v1.2.2).Row) = row)) && (decide (((lget l v1.2.2).Col) = col))) && (decide (((lget l v1.2.2).Time) ≤ time))) = true) => (idx_ok e_Cell (h6 ga0 ga1))) .nil))))) (by kernel_rfl) ?_
      obtain ⟨v2, hv, hF⟩ := ob_elim hF
      refine Wk_meet (⟨[(0, .sl 5 (l.map e_Cell)), (1, .str row), (2, .str col), (3, .int .i64 time), (8, .ptr 8 0), (10, .int .i64 v2.2), (11, .int .i64 v1.2.2)], [(8, [.str v2.1.Row, .str v2.1.Col, .int .i64 v2.1.Time, .bool v2.1.Gone, .str v2.1.Value])], [], [], []⟩ : S) ?_ ?_
      · have hF := hv
        refine Wk_split rfl (fun hb => ?_) (fun hb => ?_)
        · have hF := ite_t hF hb
          refine WR [] [0, 1, 2, 3, 8, 10, 11] [8] [] [] [] [] ⟨[(0, .sl 5 (l.map e_Cell)), (1, .str row), (2, .str col), (3, .int .i64 time), (8, .ptr 8 0), (10, .int .i64 v1.2.2), (11, .int .i64 v1.2.2)], [(8, [.str v1.1.Row, .str v1.1.Col, .int .i64 v1.1.Time, .bool v1.1.Gone, .str v1.1.Value])], [], [], []⟩ .nil (by kernel_rfl) ?_
          exact Wk_met (fs := [0, 1, 2, 3, 8, 10, 11]) (bs := [8]) (rs := []) (ms := []) (aa := []) (nv := []) (by first | (rw [← some_elim hF]; kernel_rfl) | kernel_rfl)
        · have hF := ite_f hF hb
          refine Wk_skip ?_
          exact Wk_met (fs := [0, 1, 2, 3, 8, 10, 11]) (bs := [8]) (rs := []) (ms := []) (aa := []) (nv := []) (by first | (rw [← some_elim hF]; kernel_rfl) | kernel_rfl)
      · refine Wk_blk ?_
        refine WR [] [0, 1, 2, 3, 8, 10, 11] [8] [] [] [] [] ⟨[(0, .sl 5 (l.map e_Cell)), (1, .str row), (2, .str col), (3, .int .i64 time), (8, .ptr 8 0), (10, .int .i64 v2.2), (11, .int .i64 (w64 (v1.2.2 + 1)))], [(8, [.str v2.1.Row, .str v2.1.Col, .int .i64 v2.1.Time, .bool v2.1.Gone, .str v2.1.Value])], [], [], []⟩ .nil (by kernel_rfl) ?_
        refine Wk_trim (fs := [0, 1, 2, 3, 8, 10, 11]) (bs := [8]) (rs := []) (ms := []) (aa := []) (nv := []) ?_ (ih1 _ (some_elim hF).symm)
        kernel_rfl
    · have hF := ite_f hF hb
      refine Wk_exit rfl ?_
      have hF := inrO_done hF dn1
      exact Wk_metP (v1.1, v1.2.1) [0, 8, 10] [8] [] [] [] [] hF (by kernel_rfl)
  · intro v hF
    have hF : R_SeenCell_J1 l v = some r := hF
    unfold R_SeenCell_J1 at hF
    refine Wk_seq ?_
    refine Wk_seq ?_
    obtain ⟨h0, hF⟩ := asrt_elim hF
    refine WR [.av (e_Cell (lget l v.2))] [0, 8, 10, 69] [8] [] [] [] [] ⟨[(0, .sl 5 (l.map e_Cell)), (8, .ptr 8 0), (10, .int .i64 v.2), (69, .bool ((decide (v.2 < 0)) || ((lget l v.2).Gone)))], [(8, [.str v.1.Row, .str v.1.Col, .int .i64 v.1.Time, .bool v.1.Gone, .str v.1.Value])], [], [], []⟩ (.cons (fun (ga0 : (!(decide (v.2 < 0))) = true) => (idx_ok e_Cell (h0 ga0))) .nil) (by kernel_rfl) ?_
    refine Wk_split rfl (fun hb => ?_) (fun hb => ?_)
    · have hF := ite_t hF hb
      refine Wk_seq ?_
      refine WR [] [8, 9] [8] [] [] [] [] ⟨[(8, .ptr 8 0), (9, .bool false)], [(8, [.str [], .str [], .int .i64 0, .bool false, .str []])], [], [], []⟩ .nil (by kernel_rfl) ?_
      have hF := some_elim hF
      exact Wk_ret (hfin _ ⟨[], [], [], [], [], [], by first | (rw [← hF]; kernel_rfl) | kernel_rfl⟩)
    · have hF := ite_f hF hb
      refine Wk_skip ?_
      refine Wk_seq ?_
      obtain ⟨h1, hF⟩ := asrt_elim hF
      refine WR [.av (e_Cell (lget l v.2))] [8, 9] [8] [] [] [] [] ⟨[(8, .ptr 8 0), (9, .bool true)], [(8, [.str ((lget l v.2).Row), .str ((lget l v.2).Col), .int .i64 ((lget l v.2).Time), .bool ((lget l v.2).Gone), .str ((lget l v.2).Value)])], [], [], []⟩ (.cons (idx_ok e_Cell h1) .nil) (by kernel_rfl) ?_
      have hF := some_elim hF
      exact Wk_ret (hfin _ ⟨[], [], [], [], [], [], by first | (rw [← hF]; kernel_rfl) | kernel_rfl⟩)

/- tabularyref.AskFault -/
noncomputable def R_AskFault (a0 : Ask) : Fault :=
  if ((decide (a0.Time < 0)) || (decide (1000000000 < a0.Time))) = true then
    lt (R_F 3 (-1)) fun x =>
    x
  else
    if ((decide (a0.Many < 0)) || (decide (1000 < a0.Many))) = true then
      lt (R_F 3 (-2)) fun x1 =>
      x1
    else
      (⟨0, 0⟩ : Fault)
theorem R_AskFault_ok (a0 : Ask) (r : Fault) (hF : R_AskFault a0 = r) : Pe Try.prog 19 S.none [.agg [.str a0.From, .str a0.To, .int .i64 a0.Time, .int .i64 a0.Many]] (.agg [.int .i64 r.Code, .int .i64 r.At]) S.none := by
  refine Pe_of (N := 22) (res := [.cell 2 28]) (ts := [28]) Ty.ok Fn.b19 Try.func19 rfl rfl rfl rfl rfl rfl ?_
  intro Q g hfin
  unfold R_AskFault at hF
  refine Wk_seq ?_
  refine WR [] [1, 2] [1, 2] [] [] [] [] ⟨[(1, .ptr 1 0), (2, .ptr 2 0)], [(1, [.str a0.From, .str a0.To, .int .i64 a0.Time, .int .i64 a0.Many]), (2, [.int .i64 0, .int .i64 0])], [], [], []⟩ .nil (by kernel_rfl) ?_
  refine Wk_seq ?_
  refine Wk_seq ?_
  refine WR [] [1, 2, 10] [1, 2] [] [] [] [] ⟨[(1, .ptr 1 0), (2, .ptr 2 0), (10, .bool ((decide (a0.Time < 0)) || (decide (1000000000 < a0.Time))))], [(1, [.str a0.From, .str a0.To, .int .i64 a0.Time, .int .i64 a0.Many]), (2, [.int .i64 0, .int .i64 0])], [], [], []⟩ .nil (by kernel_rfl) ?_
  refine Wk_split rfl (fun hb => ?_) (fun hb => ?_)
  · have hF := ite_t hF hb
    refine Wk_seq ?_
    obtain ⟨x, h0, hF⟩ := lt_split hF
    refine WR [.callB (.agg [.int .i64 x.Code, .int .i64 x.At])] [2] [2] [] [] [] [] ⟨[(2, .ptr 2 0)], [(2, [.int .i64 x.Code, .int .i64 x.At])], [], [], []⟩ (.cons (R_F_ok 3 (-1) x h0) .nil) (by kernel_rfl) ?_
    exact Wk_ret (hfin _ ⟨[], [], [], [], [], [], by first | (rw [← hF]; kernel_rfl) | kernel_rfl⟩)
  · have hF := ite_f hF hb
    refine Wk_skip ?_
    refine Wk_seq ?_
    refine Wk_seq ?_
    refine WR [] [2, 19] [2] [] [] [] [] ⟨[(2, .ptr 2 0), (19, .bool ((decide (a0.Many < 0)) || (decide (1000 < a0.Many))))], [(2, [.int .i64 0, .int .i64 0])], [], [], []⟩ .nil (by kernel_rfl) ?_
    refine Wk_split rfl (fun hb => ?_) (fun hb => ?_)
    · have hF := ite_t hF hb
      refine Wk_seq ?_
      obtain ⟨x1, h1, hF⟩ := lt_split hF
      refine WR [.callB (.agg [.int .i64 x1.Code, .int .i64 x1.At])] [2] [2] [] [] [] [] ⟨[(2, .ptr 2 0)], [(2, [.int .i64 x1.Code, .int .i64 x1.At])], [], [], []⟩ (.cons (R_F_ok 3 (-2) x1 h1) .nil) (by kernel_rfl) ?_
      exact Wk_ret (hfin _ ⟨[], [], [], [], [], [], by first | (rw [← hF]; kernel_rfl) | kernel_rfl⟩)
    · have hF := ite_f hF hb
      refine Wk_skip ?_
      refine Wk_seq ?_
      refine WR [] [2] [2] [] [] [] [] ⟨[(2, .ptr 2 0)], [(2, [.int .i64 0, .int .i64 0])], [], [], []⟩ .nil (by kernel_rfl) ?_
      exact Wk_ret (hfin _ ⟨[], [], [], [], [], [], by first | (rw [← hF]; kernel_rfl) | kernel_rfl⟩)

/- tabularyref.Scanned -/
noncomputable def R_Scanned_v1_J1 (v : List Cell) : Option (List Cell) :=
  some v
noncomputable def R_Scanned_v1_B1 (l : List Cell) (v1 : Ask × List Cell × Int) : Option ((Ask × List Cell × Int) ⊕ (List Cell)) :=
  if ((decide (v1.2.2 < (l.length : Int))) && (decide ((v1.2.1.length : Int) < v1.1.Many))) = true then
    ob (
      asrt (0 ≤ v1.2.2 ∧ v1.2.2 < (l.length : Int)) <|
      if ((Op.bytesLess ((lget l v1.2.2).Row) v1.1.From) || ((!decide (v1.1.To = ([] : List UInt8))) && (!Op.bytesLess ((lget l v1.2.2).Row) v1.1.To))) = true then
        some (v1.1, v1.2.1)
      else
        ob (R_SeenCell l ((lget l v1.2.2).Row) ((lget l v1.2.2).Col) v1.1.Time) fun x =>
        if (x.2 && (decide (x.1.Row = (lget l v1.2.2).Row) && (decide (x.1.Col = (lget l v1.2.2).Col) && (decide (x.1.Time = (lget l v1.2.2).Time) && ((x.1.Gone == ((lget l v1.2.2).Gone)) && (decide (x.1.Value = (lget l v1.2.2).Value) && true)))))) = true then
          asrt (((v1.2.1 ++ [(⟨(lget l v1.2.2).Row, (lget l v1.2.2).Col, (lget l v1.2.2).Time, (lget l v1.2.2).Gone, (lget l v1.2.2).Value⟩ : Cell)]).length : Int) * 64 ≤ 140737488351232) <|
          lt ((v1.2.1 ++ [(⟨(lget l v1.2.2).Row, (lget l v1.2.2).Col, (lget l v1.2.2).Time, (lget l v1.2.2).Gone, (lget l v1.2.2).Value⟩ : Cell)])) fun (v3 : List Cell) =>
          some (v1.1, v3)
        else
          some (v1.1, v1.2.1)) fun (v2 : Ask × List Cell) =>
    some (Sum.inl (v2.1, v2.2, w64 (v1.2.2 + 1)))
  else
    inrO (R_Scanned_v1_J1 v1.2.1)
noncomputable def R_Scanned_v1_L1 (l : List Cell) (v0 : Ask × List Cell × Int) : Option (List Cell) :=
  loopO (fun y => R_Scanned_v1_B1 l y) v0
noncomputable def R_Scanned_v1 (l : List Cell) (a0 : Ask) : Option (List Cell) :=
  R_Scanned_v1_L1 l (a0, ([] : List Cell), 0)
theorem R_Scanned_v1_ok (l : List Cell) (a0 : Ask) (r : List Cell) (hF : R_Scanned_v1 l a0 = some r) : Pe Try.prog 22 S.none [.sl 5 (l.map e_Cell), .agg [.str a0.From, .str a0.To, .int .i64 a0.Time, .int .i64 a0.Many]] (.sl 5 (r.map e_Cell)) S.none := by
  refine Pe_of (N := 66) (res := [.tmp 4]) (ts := [22]) Ty.ok Fn.b22 Try.func22 rfl rfl rfl rfl rfl rfl ?_
  intro Q g hfin
  unfold R_Scanned_v1 at hF
  refine Wk_seq ?_
  refine WR [] [0, 3] [3] [] [] [] [] ⟨[(0, .sl 5 (l.map e_Cell)), (3, .ptr 3 0)], [(3, [.str a0.From, .str a0.To, .int .i64 a0.Time, .int .i64 a0.Many])], [], [], []⟩ .nil (by kernel_rfl) ?_
  refine Wk_seq ?_
  refine WR [] [0, 3, 5] [3] [] [] [] [] ⟨[(0, .sl 5 (l.map e_Cell)), (3, .ptr 3 0), (5, .nils)], [(3, [.str a0.From, .str a0.To, .int .i64 a0.Time, .int .i64 a0.Many])], [], [], []⟩ .nil (by kernel_rfl) ?_
  refine Wk_seq ?_
  refine Wk_seq ?_
  refine WR [] [0, 3, 5, 6] [3] [] [] [] [] ⟨[(0, .sl 5 (l.map e_Cell)), (3, .ptr 3 0), (5, .nils), (6, .int .i64 0)], [(3, [.str a0.From, .str a0.To, .int .i64 a0.Time, .int .i64 a0.Many])], [], [], []⟩ .nil (by kernel_rfl) ?_
  refine Wk_meetP (fun v : List Cell => (⟨[(5, .row 64 0)], [], [(64, ⟨37, 5, 0, 0, 0, true, 0, [], (v.map e_Cell)⟩)], [], []⟩ : S)) (fun v => R_Scanned_v1_J1 v = some r) ?_ ?_
  · refine Wk_block ?_
    unfold R_Scanned_v1_L1 at hF
    refine Wk_nilrow 5 60000 37 5 rfl rfl rfl ?_
    refine Wk_trim (fs := [0, 3, 5, 6]) (bs := [3]) (rs := [60000]) (ms := []) (aa := []) (nv := []) rfl ?_
    refine Wk_ren' ⟨[], [(60000, 64)], [], []⟩ rfl ?_
    refine Wk_trim (fs := [0, 3, 5, 6]) (bs := [3]) (rs := [64]) (ms := []) (aa := []) (nv := []) (t := (fun v1 : Ask × List Cell × Int => (⟨[(0, .sl 5 (l.map e_Cell)), (3, .ptr 3 0), (5, .row 64 0), (6, .int .i64 v1.2.2)], [(3, [.str v1.1.From, .str v1.1.To, .int .i64 v1.1.Time, .int .i64 v1.1.Many])], [(64, ⟨37, 5, 0, 0, 0, true, 0, [], (v1.2.1.map e_Cell)⟩)], [], []⟩ : S)) (a0, ([] : List Cell), 0)) (by kernel_rfl) ?_
    refine Wk_iter (step := fun y => R_Scanned_v1_B1 l y) (r := r) (fun v1 : Ask × List Cell × Int => (⟨[(0, .sl 5 (l.map e_Cell)), (3, .ptr 3 0), (5, .row 64 0), (6, .int .i64 v1.2.2)], [(3, [.str v1.1.From, .str v1.1.To, .int .i64 v1.1.Time, .int .i64 v1.1.Many])], [(64, ⟨37, 5, 0, 0, 0, true, 0, [], (v1.2.1.map e_Cell)⟩)], [], []⟩ : S)) (a0, ([] : List Cell), 0) hF ?_
    intro n1 v1 y1 hF ih1 dn1
    have hF : R_Scanned_v1_B1 l v1 = some y1 := hF
    unfold R_Scanned_v1_B1 at hF
    refine Wk_seq ?_
    refine Wk_seq ?_
    refine WR [.nat (l.length : Int), .nat (v1.2.1.length : Int)] [0, 3, 5, 6, 20] [3] [64] [] [] [] ⟨[(0, .sl 5 (l.map e_Cell)), (3, .ptr 3 0), (5, .row 64 0), (6, .int .i64 v1.2.2), (20, .bool ((decide (v1.2.2 < (l.length : Int))) && (decide ((v1.2.1.length : Int) < v1.1.Many))))], [(3, [.str v1.1.From, .str v1.1.To, .int .i64 v1.1.Time, .int .i64 v1.1.Many])], [(64, ⟨37, 5, 0, 0, 0, true, 0, [], (v1.2.1.map e_Cell)⟩)], [], []⟩ (.cons (len_ok e_Cell l) (.cons (fun (_ : (decide (v1.2.2 < (l.length : Int))) = true) => (len_ok e_Cell v1.2.1)) .nil)) (by kernel_rfl) ?_
    refine Wk_split rfl (fun hb => ?_) (fun hb => ?_)
    · have hF := ite_t hF hb
      refine Wk_skip ?_
      refine Wk_seq ?_
      obtain ⟨v2, hv, hF⟩ := ob_elim hF
      refine Wk_meet (⟨[(0, .sl 5 (l.map e_Cell)), (3, .ptr 3 0), (5, .row 64 0), (6, .int .i64 v1.2.2)], [(3, [.str v2.1.From, .str v2.1.To, .int .i64 v2.1.Time, .int .i64 v2.1.Many])], [(64, ⟨37, 5, 0, 0, 0, true, 0, [], (v2.2.map e_Cell)⟩)], [], []⟩ : S) ?_ ?_
      · have hF := hv
        refine Wk_block ?_
        refine Wk_seq ?_
        obtain ⟨h0, hF⟩ := asrt_elim hF
        refine WR [.av (e_Cell (lget l v1.2.2))] [0, 3, 5, 6, 7] [3, 7] [64] [] [] [] ⟨[(0, .sl 5 (l.map e_Cell)), (3, .ptr 3 0), (5, .row 64 0), (6, .int .i64 v1.2.2), (7, .ptr 7 0)], [(3, [.str v1.1.From, .str v1.1.To, .int .i64 v1.1.Time, .int .i64 v1.1.Many]), (7, [.str ((lget l v1.2.2).Row), .str ((lget l v1.2.2).Col), .int .i64 ((lget l v1.2.2).Time), .bool ((lget l v1.2.2).Gone), .str ((lget l v1.2.2).Value)])], [(64, ⟨37, 5, 0, 0, 0, true, 0, [], (v1.2.1.map e_Cell)⟩)], [], []⟩ (.cons (idx_ok e_Cell h0) .nil) (by kernel_rfl) ?_
        refine Wk_seq ?_
        refine Wk_seq ?_
        refine WR [] [0, 3, 5, 6, 7, 43] [3, 7] [64] [] [] [] ⟨[(0, .sl 5 (l.map e_Cell)), (3, .ptr 3 0), (5, .row 64 0), (6, .int .i64 v1.2.2), (7, .ptr 7 0), (43, .bool ((Op.bytesLess ((lget l v1.2.2).Row) v1.1.From) || ((!decide (v1.1.To = ([] : List UInt8))) && (!Op.bytesLess ((lget l v1.2.2).Row) v1.1.To))))], [(3, [.str v1.1.From, .str v1.1.To, .int .i64 v1.1.Time, .int .i64 v1.1.Many]), (7, [.str ((lget l v1.2.2).Row), .str ((lget l v1.2.2).Col), .int .i64 ((lget l v1.2.2).Time), .bool ((lget l v1.2.2).Gone), .str ((lget l v1.2.2).Value)])], [(64, ⟨37, 5, 0, 0, 0, true, 0, [], (v1.2.1.map e_Cell)⟩)], [], []⟩ .nil (by kernel_rfl) ?_
        refine Wk_split rfl (fun hb => ?_) (fun hb => ?_)
        · have hF := ite_t hF hb
          refine Wk_exit rfl ?_
          exact Wk_met (fs := [0, 3, 5, 6]) (bs := [3]) (rs := [64]) (ms := []) (aa := []) (nv := []) (by first | (rw [← some_elim hF]; kernel_rfl) | kernel_rfl)
        · have hF := ite_f hF hb
          refine Wk_skip ?_
          refine Wk_seq ?_
          obtain ⟨x, h1, hF⟩ := ob_elim hF
          refine WR [.callB (.tup [.agg [.str x.1.Row, .str x.1.Col, .int .i64 x.1.Time, .bool x.1.Gone, .str x.1.Value], .bool x.2])] [0, 3, 5, 6, 7, 8, 9] [3, 7, 8] [64] [] [] [] ⟨[(0, .sl 5 (l.map e_Cell)), (3, .ptr 3 0), (5, .row 64 0), (6, .int .i64 v1.2.2), (7, .ptr 7 0), (8, .ptr 8 0), (9, .bool x.2)], [(3, [.str v1.1.From, .str v1.1.To, .int .i64 v1.1.Time, .int .i64 v1.1.Many]), (7, [.str ((lget l v1.2.2).Row), .str ((lget l v1.2.2).Col), .int .i64 ((lget l v1.2.2).Time), .bool ((lget l v1.2.2).Gone), .str ((lget l v1.2.2).Value)]), (8, [.str x.1.Row, .str x.1.Col, .int .i64 x.1.Time, .bool x.1.Gone, .str x.1.Value])], [(64, ⟨37, 5, 0, 0, 0, true, 0, [], (v1.2.1.map e_Cell)⟩)], [], []⟩ (.cons (R_SeenCell_ok l ((lget l v1.2.2).Row) ((lget l v1.2.2).Col) v1.1.Time x h1) .nil) (by kernel_rfl) ?_
          refine Wk_seq ?_
          refine WR [] [0, 3, 5, 6, 7, 60] [3, 7] [64] [] [] [] ⟨[(0, .sl 5 (l.map e_Cell)), (3, .ptr 3 0), (5, .row 64 0), (6, .int .i64 v1.2.2), (7, .ptr 7 0), (60, .bool (x.2 && (decide (x.1.Row = (lget l v1.2.2).Row) && (decide (x.1.Col = (lget l v1.2.2).Col) && (decide (x.1.Time = (lget l v1.2.2).Time) && ((x.1.Gone == ((lget l v1.2.2).Gone)) && (decide (x.1.Value = (lget l v1.2.2).Value) && true)))))))], [(3, [.str v1.1.From, .str v1.1.To, .int .i64 v1.1.Time, .int .i64 v1.1.Many]), (7, [.str ((lget l v1.2.2).Row), .str ((lget l v1.2.2).Col), .int .i64 ((lget l v1.2.2).Time), .bool ((lget l v1.2.2).Gone), .str ((lget l v1.2.2).Value)])], [(64, ⟨37, 5, 0, 0, 0, true, 0, [], (v1.2.1.map e_Cell)⟩)], [], []⟩ .nil (by kernel_rfl) ?_
          refine Wk_split rfl (fun hb => ?_) (fun hb => ?_)
          · have hF := ite_t hF hb
            obtain ⟨h2, hF⟩ := asrt_elim hF
            refine WRL ((v1.2.1 ++ [(⟨(lget l v1.2.2).Row, (lget l v1.2.2).Col, (lget l v1.2.2).Time, (lget l v1.2.2).Gone, (lget l v1.2.2).Value⟩ : Cell)])) (fun v3 : List Cell => ⟨[(0, .sl 5 (l.map e_Cell)), (3, .ptr 3 0), (5, .row 64 1), (6, .int .i64 v1.2.2)], [(3, [.str v1.1.From, .str v1.1.To, .int .i64 v1.1.Time, .int .i64 v1.1.Many])], [(64, ⟨37, 5, 1, 0, 0, true, 0, [], (v3.map e_Cell)⟩)], [], []⟩) [.sealed, .xs ((v1.2.1 ++ [(⟨(lget l v1.2.2).Row, (lget l v1.2.2).Col, (lget l v1.2.2).Time, (lget l v1.2.2).Gone, (lget l v1.2.2).Value⟩ : Cell)]).map e_Cell)] [0, 3, 5, 6] [3] [64] [] [] [] (.cons (app_ok e_Cell v1.2.1 [(⟨(lget l v1.2.2).Row, (lget l v1.2.2).Col, (lget l v1.2.2).Time, (lget l v1.2.2).Gone, (lget l v1.2.2).Value⟩ : Cell)]) (.cons (appl_ok e_Cell h2) .nil)) (by kernel_rfl) (fun v3 hv => ?_)
            have hF := lt_elim hF hv
            refine Wk_blk ?_
            exact Wk_met (fs := [0, 3, 5, 6]) (bs := [3]) (rs := [64]) (ms := []) (aa := []) (nv := [(64, ⟨0, true, true, false⟩)]) (by first | (rw [← some_elim hF]; kernel_rfl) | kernel_rfl)
          · have hF := ite_f hF hb
            refine Wk_skip ?_
            refine Wk_blk ?_
            exact Wk_met (fs := [0, 3, 5, 6]) (bs := [3]) (rs := [64]) (ms := []) (aa := []) (nv := []) (by first | (rw [← some_elim hF]; kernel_rfl) | kernel_rfl)
      · refine WR [] [0, 3, 5, 6] [3] [64] [] [] [] ⟨[(0, .sl 5 (l.map e_Cell)), (3, .ptr 3 0), (5, .row 64 0), (6, .int .i64 (w64 (v1.2.2 + 1)))], [(3, [.str v2.1.From, .str v2.1.To, .int .i64 v2.1.Time, .int .i64 v2.1.Many])], [(64, ⟨37, 5, 0, 0, 0, true, 0, [], (v2.2.map e_Cell)⟩)], [], []⟩ .nil (by kernel_rfl) ?_
        refine Wk_trim (fs := [0, 3, 5, 6]) (bs := [3]) (rs := [64]) (ms := []) (aa := []) (nv := []) ?_ (ih1 _ (some_elim hF).symm)
        kernel_rfl
    · have hF := ite_f hF hb
      refine Wk_exit rfl ?_
      have hF := inrO_done hF dn1
      exact Wk_metP v1.2.1 [5] [] [64] [] [] [] hF (by kernel_rfl)
  · intro v hF
    have hF : R_Scanned_v1_J1 v = some r := hF
    unfold R_Scanned_v1_J1 at hF
    refine Wk_seq ?_
    refine WR [] [4] [] [64] [] [] [] ⟨[(4, .row 64 0)], [], [(64, ⟨37, 5, 0, 0, 0, true, 0, [], (v.map e_Cell)⟩)], [], []⟩ .nil (by kernel_rfl) ?_
    have hF := some_elim hF
    exact Wk_ret (hfin _ ⟨[], [], [], [], [], [], by first | (rw [← hF]; kernel_rfl) | kernel_rfl⟩)

/- tabularylaw.CellAsks$1 -/
noncomputable def law_CellAsks_1 (box : List Cell) (box1 : Ask) : Option (List Cell) :=
  ob (R_Scanned_v1 box box1) fun x =>
  some x
theorem law_CellAsks_1_ok (box : List Cell) (box1 : Ask) (r : List Cell) (hF : law_CellAsks_1 box box1 = some r) : Pe Try.prog 21 ⟨[], [(100000, [.sl 5 (box.map e_Cell)]), (100001, [.str box1.From, .str box1.To, .int .i64 box1.Time, .int .i64 box1.Many])], [], [], []⟩ [.ptr 100000 0, .ptr 100001 0] (.sl 5 (r.map e_Cell)) ⟨[], [(100000, [.sl 5 (box.map e_Cell)]), (100001, [.str box1.From, .str box1.To, .int .i64 box1.Time, .int .i64 box1.Many])], [], [], []⟩ := by
  refine Pe_of (N := 6) (res := [.tmp 2]) (ts := [22]) Ty.ok Fn.b21 Try.func21 rfl rfl rfl rfl rfl rfl ?_
  intro Q g hfin
  unfold law_CellAsks_1 at hF
  refine Wk_seq ?_
  refine WR [] [0, 1] [100000, 100001] [] [] [] [] ⟨[(0, .ptr 100000 0), (1, .ptr 100001 0)], [(100000, [.sl 5 (box.map e_Cell)]), (100001, [.str box1.From, .str box1.To, .int .i64 box1.Time, .int .i64 box1.Many])], [], [], []⟩ .nil (by kernel_rfl) ?_
  refine Wk_seq ?_
  obtain ⟨x, h0, hF⟩ := ob_elim hF
  refine WR [.call (.sl 5 (x.map e_Cell))] [2] [100000, 100001] [] [] [] [] ⟨[(2, .sl 5 (x.map e_Cell))], [(100000, [.sl 5 (box.map e_Cell)]), (100001, [.str box1.From, .str box1.To, .int .i64 box1.Time, .int .i64 box1.Many])], [], [], []⟩ (.cons (R_Scanned_v1_ok box box1 x h0) .nil) (by kernel_rfl) ?_
  have hF := some_elim hF
  exact Wk_ret (hfin _ ⟨[], [100000, 100001], [], [], [], [], by first | (rw [← hF]; kernel_rfl) | kernel_rfl⟩)

end G
end Go.Proofs.Ytkbgkkbinnclmaa
