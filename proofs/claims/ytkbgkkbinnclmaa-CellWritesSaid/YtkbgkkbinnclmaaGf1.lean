/- The program's functions as plain functions, and that they are these. Written by a program (dec2.py). -/
import Derived.Test.YtkbgkkbinnclmaaGf0
namespace Go.Proofs.Ytkbgkkbinnclmaa
open Go Go.Dm
set_option linter.unusedVariables false
set_option linter.unusedSimpArgs false
set_option maxRecDepth 100000
namespace G
/- tabularyref.SameCells -/
noncomputable def R_SameCells_J1 (v : Unit) : Option Bool :=
  some true
noncomputable def R_SameCells_B1 (a0 : List Cell) (b : List Cell) (v1 : Int) : Option (Int ⊕ Bool) :=
  if (decide (v1 < (a0.length : Int))) = true then
    asrt (0 ≤ v1 ∧ v1 < (a0.length : Int)) <|
    asrt (0 ≤ v1 ∧ v1 < (b.length : Int)) <|
    if (!(decide ((lget a0 v1).Row = (lget b v1).Row) && (decide ((lget a0 v1).Col = (lget b v1).Col) && (decide ((lget a0 v1).Time = (lget b v1).Time) && ((((lget a0 v1).Gone) == ((lget b v1).Gone)) && (decide ((lget a0 v1).Value = (lget b v1).Value) && true)))))) = true then
      some (Sum.inr false)
    else
      some (Sum.inl (w64 (v1 + 1)))
  else
    inrO (R_SameCells_J1 ())
noncomputable def R_SameCells_L1 (a0 : List Cell) (b : List Cell) (v0 : Int) : Option Bool :=
  loopO (fun y => R_SameCells_B1 a0 b y) v0
noncomputable def R_SameCells (a0 : List Cell) (b : List Cell) : Option Bool :=
  if (!decide ((a0.length : Int) = (b.length : Int))) = true then
    some false
  else
    R_SameCells_L1 a0 b 0
theorem R_SameCells_ok (a0 : List Cell) (b : List Cell) (r : Bool) (hF : R_SameCells a0 b = some r) : Pe Try.prog 31 S.none [.sl 5 (a0.map e_Cell), .sl 5 (b.map e_Cell)] (.bool r) S.none := by
  refine Pe_of (N := 26) (res := [.tmp 4]) (ts := [4]) Ty.ok Fn.b31 Try.func31 rfl rfl rfl rfl rfl rfl ?_
  intro Q g hfin
  unfold R_SameCells at hF
  refine Wk_seq ?_
  refine WR [] [0, 1] [] [] [] [] [] ⟨[(0, .sl 5 (a0.map e_Cell)), (1, .sl 5 (b.map e_Cell))], [], [], [], []⟩ .nil (by kernel_rfl) ?_
  refine Wk_seq ?_
  refine Wk_seq ?_
  refine WR [.nat (a0.length : Int), .nat (b.length : Int)] [0, 1, 10] [] [] [] [] [] ⟨[(0, .sl 5 (a0.map e_Cell)), (1, .sl 5 (b.map e_Cell)), (10, .bool (!decide ((a0.length : Int) = (b.length : Int))))], [], [], [], []⟩ (.cons (len_ok e_Cell a0) (.cons (len_ok e_Cell b) .nil)) (by kernel_rfl) ?_
  refine Wk_split rfl (fun hb => ?_) (fun hb => ?_)
  · have hF := ite_t hF hb
    refine Wk_seq ?_
    refine WR [] [4] [] [] [] [] [] ⟨[(4, .bool false)], [], [], [], []⟩ .nil (by kernel_rfl) ?_
    have hF := some_elim hF
    exact Wk_ret (hfin _ ⟨[], [], [], [], [], [], by first | (rw [← hF]; kernel_rfl) | kernel_rfl⟩)
  · have hF := ite_f hF hb
    refine Wk_skip ?_
    refine Wk_seq ?_
    refine Wk_seq ?_
    refine WR [] [0, 1, 5] [] [] [] [] [] ⟨[(0, .sl 5 (a0.map e_Cell)), (1, .sl 5 (b.map e_Cell)), (5, .int .i64 0)], [], [], [], []⟩ .nil (by kernel_rfl) ?_
    refine Wk_meetP (fun v : Unit => (⟨[], [], [], [], []⟩ : S)) (fun v => R_SameCells_J1 v = some r) ?_ ?_
    · refine Wk_block ?_
      unfold R_SameCells_L1 at hF
      refine Wk_trim (fs := [0, 1, 5]) (bs := []) (rs := []) (ms := []) (aa := []) (nv := []) (t := (fun v1 : Int => (⟨[(0, .sl 5 (a0.map e_Cell)), (1, .sl 5 (b.map e_Cell)), (5, .int .i64 v1)], [], [], [], []⟩ : S)) 0) (by kernel_rfl) ?_
      refine Wk_iter (step := fun y => R_SameCells_B1 a0 b y) (r := r) (fun v1 : Int => (⟨[(0, .sl 5 (a0.map e_Cell)), (1, .sl 5 (b.map e_Cell)), (5, .int .i64 v1)], [], [], [], []⟩ : S)) 0 hF ?_
      intro n1 v1 y1 hF ih1 dn1
      have hF : R_SameCells_B1 a0 b v1 = some y1 := hF
      unfold R_SameCells_B1 at hF
      refine Wk_seq ?_
      refine Wk_seq ?_
      refine WR [.nat (a0.length : Int)] [0, 1, 5, 14] [] [] [] [] [] ⟨[(0, .sl 5 (a0.map e_Cell)), (1, .sl 5 (b.map e_Cell)), (5, .int .i64 v1), (14, .bool (decide (v1 < (a0.length : Int))))], [], [], [], []⟩ (.cons (len_ok e_Cell a0) .nil) (by kernel_rfl) ?_
      refine Wk_split rfl (fun hb => ?_) (fun hb => ?_)
      · have hF := ite_t hF hb
        refine Wk_skip ?_
        refine Wk_seq ?_
        refine Wk_block ?_
        refine Wk_seq ?_
        obtain ⟨h0, hF⟩ := asrt_elim hF
        obtain ⟨h1, hF⟩ := asrt_elim hF
        refine WD [.av (e_Cell (lget a0 v1)), .av (e_Cell (lget b v1))] [0, 1, 5, 25] [] [] [] [] [] ⟨[(0, .sl 5 (a0.map e_Cell)), (1, .sl 5 (b.map e_Cell)), (5, .int .i64 v1), (25, .bool (!(decide ((lget a0 v1).Row = (lget b v1).Row) && (decide ((lget a0 v1).Col = (lget b v1).Col) && (decide ((lget a0 v1).Time = (lget b v1).Time) && ((((lget a0 v1).Gone) == ((lget b v1).Gone)) && (decide ((lget a0 v1).Value = (lget b v1).Value) && true)))))))], [], [], [], []⟩ (.cons (idx_ok e_Cell h0) (.cons (idx_ok e_Cell h1) .nil)) (by kernel_rfl) ?_
        refine Wk_split rfl (fun hb => ?_) (fun hb => ?_)
        · have hF := ite_t hF hb
          refine Wk_seq ?_
          refine WR [] [4] [] [] [] [] [] ⟨[(4, .bool false)], [], [], [], []⟩ .nil (by kernel_rfl) ?_
          have hF := ret_done hF dn1
          have hF := some_elim hF
          exact Wk_ret (hfin _ ⟨[], [], [], [], [], [], by first | (rw [← hF]; kernel_rfl) | kernel_rfl⟩)
        · have hF := ite_f hF hb
          refine Wk_skip ?_
          refine Wk_blk ?_
          refine WR [] [0, 1, 5] [] [] [] [] [] ⟨[(0, .sl 5 (a0.map e_Cell)), (1, .sl 5 (b.map e_Cell)), (5, .int .i64 (w64 (v1 + 1)))], [], [], [], []⟩ .nil (by kernel_rfl) ?_
          refine Wk_trim (fs := [0, 1, 5]) (bs := []) (rs := []) (ms := []) (aa := []) (nv := []) ?_ (ih1 _ (some_elim hF).symm)
          kernel_rfl
      · have hF := ite_f hF hb
        refine Wk_exit rfl ?_
        have hF := inrO_done hF dn1
        exact Wk_metP () [] [] [] [] [] [] hF (by kernel_rfl)
    · intro v hF
      have hF : R_SameCells_J1 v = some r := hF
      unfold R_SameCells_J1 at hF
      refine Wk_seq ?_
      refine WR [] [4] [] [] [] [] [] ⟨[(4, .bool true)], [], [], [], []⟩ .nil (by kernel_rfl) ?_
      have hF := some_elim hF
      exact Wk_ret (hfin _ ⟨[], [], [], [], [], [], by first | (rw [← hF]; kernel_rfl) | kernel_rfl⟩)

/- tabularylaw.cellsAs -/
noncomputable def law_cellsAs (l : List Cell) (f : Fault) (w0 : Fault) (box : List Cell) (box1 : Ask) : Option Bool :=
  if (!(decide (f.Code = w0.Code) && (decide (f.At = w0.At) && true))) = true then
    some false
  else
    if (!decide (w0.Code = 0)) = true then
      some (decide ((l.length : Int) = 0))
    else
      ob (law_CellAsks_1 box box1) fun x =>
      ob (R_SameCells l x) fun x1 =>
      some x1
theorem law_cellsAs_ok (l : List Cell) (f : Fault) (w0 : Fault) (box : List Cell) (box1 : Ask) (r : Bool) (hF : law_cellsAs l f w0 box box1 = some r) : Pe Try.prog 20 ⟨[], [(100000, [.sl 5 (box.map e_Cell)]), (100001, [.str box1.From, .str box1.To, .int .i64 box1.Time, .int .i64 box1.Many])], [], [], []⟩ [.sl 5 (l.map e_Cell), .agg [.int .i64 f.Code, .int .i64 f.At], .agg [.int .i64 w0.Code, .int .i64 w0.At], .fn 21 [.ptr 100000 0, .ptr 100001 0]] (.bool r) ⟨[], [(100000, [.sl 5 (box.map e_Cell)]), (100001, [.str box1.From, .str box1.To, .int .i64 box1.Time, .int .i64 box1.Many])], [], [], []⟩ := by
  refine Pe_of (N := 22) (res := [.tmp 8]) (ts := [4]) Ty.ok Fn.b20 Try.func20 rfl rfl rfl rfl rfl rfl ?_
  intro Q g hfin
  unfold law_cellsAs at hF
  refine Wk_seq ?_
  refine WR [] [0, 3, 5, 6] [5, 6, 100000, 100001] [] [] [] [] ⟨[(0, .sl 5 (l.map e_Cell)), (3, .fn 21 [.ptr 100000 0, .ptr 100001 0]), (5, .ptr 5 0), (6, .ptr 6 0)], [(5, [.int .i64 f.Code, .int .i64 f.At]), (6, [.int .i64 w0.Code, .int .i64 w0.At]), (100000, [.sl 5 (box.map e_Cell)]), (100001, [.str box1.From, .str box1.To, .int .i64 box1.Time, .int .i64 box1.Many])], [], [], []⟩ .nil (by kernel_rfl) ?_
  refine Wk_seq ?_
  refine Wk_seq ?_
  refine WR [] [0, 3, 6, 11] [6, 100000, 100001] [] [] [] [] ⟨[(0, .sl 5 (l.map e_Cell)), (3, .fn 21 [.ptr 100000 0, .ptr 100001 0]), (6, .ptr 6 0), (11, .bool (!(decide (f.Code = w0.Code) && (decide (f.At = w0.At) && true))))], [(6, [.int .i64 w0.Code, .int .i64 w0.At]), (100000, [.sl 5 (box.map e_Cell)]), (100001, [.str box1.From, .str box1.To, .int .i64 box1.Time, .int .i64 box1.Many])], [], [], []⟩ .nil (by kernel_rfl) ?_
  refine Wk_split rfl (fun hb => ?_) (fun hb => ?_)
  · have hF := ite_t hF hb
    refine Wk_seq ?_
    refine WR [] [8] [100000, 100001] [] [] [] [] ⟨[(8, .bool false)], [(100000, [.sl 5 (box.map e_Cell)]), (100001, [.str box1.From, .str box1.To, .int .i64 box1.Time, .int .i64 box1.Many])], [], [], []⟩ .nil (by kernel_rfl) ?_
    have hF := some_elim hF
    exact Wk_ret (hfin _ ⟨[], [100000, 100001], [], [], [], [], by first | (rw [← hF]; kernel_rfl) | kernel_rfl⟩)
  · have hF := ite_f hF hb
    refine Wk_skip ?_
    refine Wk_seq ?_
    refine Wk_seq ?_
    refine WR [] [0, 3, 14] [100000, 100001] [] [] [] [] ⟨[(0, .sl 5 (l.map e_Cell)), (3, .fn 21 [.ptr 100000 0, .ptr 100001 0]), (14, .bool (!decide (w0.Code = 0)))], [(100000, [.sl 5 (box.map e_Cell)]), (100001, [.str box1.From, .str box1.To, .int .i64 box1.Time, .int .i64 box1.Many])], [], [], []⟩ .nil (by kernel_rfl) ?_
    refine Wk_split rfl (fun hb => ?_) (fun hb => ?_)
    · have hF := ite_t hF hb
      refine Wk_seq ?_
      refine WR [.nat (l.length : Int)] [8] [100000, 100001] [] [] [] [] ⟨[(8, .bool (decide ((l.length : Int) = 0)))], [(100000, [.sl 5 (box.map e_Cell)]), (100001, [.str box1.From, .str box1.To, .int .i64 box1.Time, .int .i64 box1.Many])], [], [], []⟩ (.cons (len_ok e_Cell l) .nil) (by kernel_rfl) ?_
      have hF := some_elim hF
      exact Wk_ret (hfin _ ⟨[], [100000, 100001], [], [], [], [], by first | (rw [← hF]; kernel_rfl) | kernel_rfl⟩)
    · have hF := ite_f hF hb
      refine Wk_skip ?_
      refine Wk_seq ?_
      obtain ⟨x, h0, hF⟩ := ob_elim hF
      obtain ⟨x1, h1, hF⟩ := ob_elim hF
      refine WR [.callR [100000, 100001] [] [] [] (.sl 5 (x.map e_Cell)), .callB (.bool x1)] [8] [100000, 100001] [] [] [] [] ⟨[(8, .bool x1)], [(100000, [.sl 5 (box.map e_Cell)]), (100001, [.str box1.From, .str box1.To, .int .i64 box1.Time, .int .i64 box1.Many])], [], [], []⟩ (.cons (Pe.ren (law_CellAsks_1_ok box box1 x h0) ⟨[], [], [], []⟩) (.cons (R_SameCells_ok l x x1 h1) .nil)) (by kernel_rfl) ?_
      have hF := some_elim hF
      exact Wk_ret (hfin _ ⟨[], [100000, 100001], [], [], [], [], by first | (rw [← hF]; kernel_rfl) | kernel_rfl⟩)

/- tabularylaw.CellAsks -/
noncomputable def law_CellAsks_J1 (l : List Cell) (x5 : List Cell × Fault) (v1 : Ask × Fault × Fault) : Option Bool :=
  ob (
    if (decide (v1.2.2.Code = 0)) = true then
      lt (R_AskFault v1.1) fun x8 =>
      some (v1.1, v1.2.1, x8)
    else
      some (v1.1, v1.2.1, v1.2.2)) fun (v2 : Ask × Fault × Fault) =>
  if ((decide (v2.2.2.Code = 0)) && (decide (150 < (l.length : Int)))) = true then
    some (decide (v2.2.1.Code = 0))
  else
    ob (law_cellsAs x5.1 v2.2.1 v2.2.2 l v2.1) fun x9 =>
    some x9
noncomputable def law_CellAsks (l : List Cell) (row : List UInt8) (col : List UInt8) (a0 : Ask) : Option Bool :=
  ob (law_cellBegun) fun x =>
  if (!x) = true then
    some false
  else
    lt (law_many (l.length : Int)) fun x1 =>
    if x1 = true then
      some true
    else
      ob (law_ownCells_v1 l) fun x2 =>
      ob (cell_Get x2 row col a0.Time) fun x3 =>
      ob (law_ownCells_v1 l) fun x4 =>
      ob (cell_Scan_v1 x4 a0) fun x5 =>
      ob (R_CellsFault l) fun x6 =>
      ob (
        if ((decide (x6.Code = 0)) && ((decide (a0.Time < 0)) || (decide (1000000000 < a0.Time)))) = true then
          lt (R_F 3 (-1)) fun x7 =>
          some (a0, x3.2.2, x5.2, x6, x7)
        else
          some (a0, x3.2.2, x5.2, x6, x6)) fun (v : Ask × Fault × Fault × Fault × Fault) =>
      if ((!(decide (v.2.1.Code = v.2.2.2.2.Code) && (decide (v.2.1.At = v.2.2.2.2.At) && true))) || ((!decide (v.2.2.2.2.Code = 0)) && ((!decide (x3.1 = ([] : List UInt8))) || x3.2.1))) = true then
        some false
      else
        if (decide (v.2.2.2.2.Code = 0)) = true then
          ob (R_SeenCell l row col v.1.Time) fun x10 =>
          if ((!(x3.2.1 == x10.2)) || (!decide (x3.1 = x10.1.Value))) = true then
            some false
          else
            law_CellAsks_J1 l x5 (v.1, v.2.2.1, v.2.2.2.1)
        else
          law_CellAsks_J1 l x5 (v.1, v.2.2.1, v.2.2.2.1)
theorem law_CellAsks_ok (l : List Cell) (row : List UInt8) (col : List UInt8) (a0 : Ask) (r : Bool) (hF : law_CellAsks l row col a0 = some r) : Pe Try.prog 3 S.none [.sl 5 (l.map e_Cell), .str row, .str col, .agg [.str a0.From, .str a0.To, .int .i64 a0.Time, .int .i64 a0.Many]] (.bool r) S.none := by
  refine Pe_of (N := 115) (res := [.tmp 8]) (ts := [4]) Ty.ok Fn.b3 Try.func3 rfl rfl rfl rfl rfl rfl ?_
  intro Q g hfin
  unfold law_CellAsks at hF
  refine Wk_seq ?_
  refine WR [] [1, 2, 4, 7] [4, 7] [] [] [] [] ⟨[(1, .str row), (2, .str col), (4, .ptr 4 0), (7, .ptr 7 0)], [(4, [.sl 5 (l.map e_Cell)]), (7, [.str a0.From, .str a0.To, .int .i64 a0.Time, .int .i64 a0.Many])], [], [], []⟩ .nil (by kernel_rfl) ?_
  refine Wk_seq ?_
  refine Wk_seq ?_
  obtain ⟨x, h0, hF⟩ := ob_elim hF
  refine WR [.callB (.bool x)] [1, 2, 4, 7, 19] [4, 7] [] [] [] [] ⟨[(1, .str row), (2, .str col), (4, .ptr 4 0), (7, .ptr 7 0), (19, .bool (!x))], [(4, [.sl 5 (l.map e_Cell)]), (7, [.str a0.From, .str a0.To, .int .i64 a0.Time, .int .i64 a0.Many])], [], [], []⟩ (.cons (law_cellBegun_ok  x h0) .nil) (by kernel_rfl) ?_
  refine Wk_split rfl (fun hb => ?_) (fun hb => ?_)
  · have hF := ite_t hF hb
    refine Wk_seq ?_
    refine WR [] [8] [] [] [] [] [] ⟨[(8, .bool false)], [], [], [], []⟩ .nil (by kernel_rfl) ?_
    have hF := some_elim hF
    exact Wk_ret (hfin _ ⟨[], [], [], [], [], [], by first | (rw [← hF]; kernel_rfl) | kernel_rfl⟩)
  · have hF := ite_f hF hb
    refine Wk_skip ?_
    refine Wk_seq ?_
    refine Wk_seq ?_
    obtain ⟨x1, h1, hF⟩ := lt_split hF
    refine WR [.nat (l.length : Int), .callB (.bool x1)] [1, 2, 4, 7, 22] [4, 7] [] [] [] [] ⟨[(1, .str row), (2, .str col), (4, .ptr 4 0), (7, .ptr 7 0), (22, .bool x1)], [(4, [.sl 5 (l.map e_Cell)]), (7, [.str a0.From, .str a0.To, .int .i64 a0.Time, .int .i64 a0.Many])], [], [], []⟩ (.cons (len_ok e_Cell l) (.cons (law_many_ok (l.length : Int) x1 h1) .nil)) (by kernel_rfl) ?_
    refine Wk_split rfl (fun hb => ?_) (fun hb => ?_)
    · have hF := ite_t hF hb
      refine Wk_seq ?_
      refine WR [] [8] [] [] [] [] [] ⟨[(8, .bool true)], [], [], [], []⟩ .nil (by kernel_rfl) ?_
      have hF := some_elim hF
      exact Wk_ret (hfin _ ⟨[], [], [], [], [], [], by first | (rw [← hF]; kernel_rfl) | kernel_rfl⟩)
    · have hF := ite_f hF hb
      refine Wk_skip ?_
      refine Wk_seq ?_
      obtain ⟨x2, h2, hF⟩ := ob_elim hF
      obtain ⟨x3, h3, hF⟩ := ob_elim hF
      refine WD [.call (.sl 5 (x2.map e_Cell)), .callB (.tup [.str x3.1, .bool x3.2.1, .agg [.int .i64 x3.2.2.Code, .int .i64 x3.2.2.At]])] [1, 2, 4, 7, 9, 10, 11] [4, 7, 11] [] [] [] [] ⟨[(1, .str row), (2, .str col), (4, .ptr 4 0), (7, .ptr 7 0), (9, .str x3.1), (10, .bool x3.2.1), (11, .ptr 11 0)], [(4, [.sl 5 (l.map e_Cell)]), (7, [.str a0.From, .str a0.To, .int .i64 a0.Time, .int .i64 a0.Many]), (11, [.int .i64 x3.2.2.Code, .int .i64 x3.2.2.At])], [], [], []⟩ (.cons (law_ownCells_v1_ok l x2 h2) (.cons (cell_Get_ok x2 row col a0.Time x3 h3) .nil)) (by kernel_rfl) ?_
      refine Wk_seq ?_
      obtain ⟨x4, h4, hF⟩ := ob_elim hF
      obtain ⟨x5, h5, hF⟩ := ob_elim hF
      refine WD [.call (.sl 5 (x4.map e_Cell)), .call (.tup [.sl 5 (x5.1.map e_Cell), .agg [.int .i64 x5.2.Code, .int .i64 x5.2.At]])] [1, 2, 4, 7, 9, 10, 11, 12, 13] [4, 7, 11, 13] [] [] [] [] ⟨[(1, .str row), (2, .str col), (4, .ptr 4 0), (7, .ptr 7 0), (9, .str x3.1), (10, .bool x3.2.1), (11, .ptr 11 0), (12, .sl 5 (x5.1.map e_Cell)), (13, .ptr 13 0)], [(4, [.sl 5 (l.map e_Cell)]), (7, [.str a0.From, .str a0.To, .int .i64 a0.Time, .int .i64 a0.Many]), (11, [.int .i64 x3.2.2.Code, .int .i64 x3.2.2.At]), (13, [.int .i64 x5.2.Code, .int .i64 x5.2.At])], [], [], []⟩ (.cons (law_ownCells_v1_ok l x4 h4) (.cons (cell_Scan_v1_ok x4 a0 x5 h5) .nil)) (by kernel_rfl) ?_
      refine Wk_seq ?_
      obtain ⟨x6, h6, hF⟩ := ob_elim hF
      refine WR [.callB (.agg [.int .i64 x6.Code, .int .i64 x6.At])] [1, 2, 4, 7, 9, 10, 11, 12, 13, 14] [4, 7, 11, 13, 14] [] [] [] [] ⟨[(1, .str row), (2, .str col), (4, .ptr 4 0), (7, .ptr 7 0), (9, .str x3.1), (10, .bool x3.2.1), (11, .ptr 11 0), (12, .sl 5 (x5.1.map e_Cell)), (13, .ptr 13 0), (14, .ptr 14 0)], [(4, [.sl 5 (l.map e_Cell)]), (7, [.str a0.From, .str a0.To, .int .i64 a0.Time, .int .i64 a0.Many]), (11, [.int .i64 x3.2.2.Code, .int .i64 x3.2.2.At]), (13, [.int .i64 x5.2.Code, .int .i64 x5.2.At]), (14, [.int .i64 x6.Code, .int .i64 x6.At])], [], [], []⟩ (.cons (R_CellsFault_ok l x6 h6) .nil) (by kernel_rfl) ?_
      refine Wk_seq ?_
      refine WR [] [1, 2, 4, 7, 9, 10, 11, 12, 13, 14, 15] [4, 7, 11, 13, 14, 15] [] [] [] [] ⟨[(1, .str row), (2, .str col), (4, .ptr 4 0), (7, .ptr 7 0), (9, .str x3.1), (10, .bool x3.2.1), (11, .ptr 11 0), (12, .sl 5 (x5.1.map e_Cell)), (13, .ptr 13 0), (14, .ptr 14 0), (15, .ptr 15 0)], [(4, [.sl 5 (l.map e_Cell)]), (7, [.str a0.From, .str a0.To, .int .i64 a0.Time, .int .i64 a0.Many]), (11, [.int .i64 x3.2.2.Code, .int .i64 x3.2.2.At]), (13, [.int .i64 x5.2.Code, .int .i64 x5.2.At]), (14, [.int .i64 x6.Code, .int .i64 x6.At]), (15, [.int .i64 x6.Code, .int .i64 x6.At])], [], [], []⟩ .nil (by kernel_rfl) ?_
      refine Wk_seq ?_
      refine Wk_seq ?_
      refine WR [] [1, 2, 4, 7, 9, 10, 11, 12, 13, 14, 15, 56] [4, 7, 11, 13, 14, 15] [] [] [] [] ⟨[(1, .str row), (2, .str col), (4, .ptr 4 0), (7, .ptr 7 0), (9, .str x3.1), (10, .bool x3.2.1), (11, .ptr 11 0), (12, .sl 5 (x5.1.map e_Cell)), (13, .ptr 13 0), (14, .ptr 14 0), (15, .ptr 15 0), (56, .bool ((decide (x6.Code = 0)) && ((decide (a0.Time < 0)) || (decide (1000000000 < a0.Time)))))], [(4, [.sl 5 (l.map e_Cell)]), (7, [.str a0.From, .str a0.To, .int .i64 a0.Time, .int .i64 a0.Many]), (11, [.int .i64 x3.2.2.Code, .int .i64 x3.2.2.At]), (13, [.int .i64 x5.2.Code, .int .i64 x5.2.At]), (14, [.int .i64 x6.Code, .int .i64 x6.At]), (15, [.int .i64 x6.Code, .int .i64 x6.At])], [], [], []⟩ .nil (by kernel_rfl) ?_
      obtain ⟨v, hv, hF⟩ := ob_elim hF
      refine Wk_meet (⟨[(1, .str row), (2, .str col), (4, .ptr 4 0), (7, .ptr 7 0), (9, .str x3.1), (10, .bool x3.2.1), (11, .ptr 11 0), (12, .sl 5 (x5.1.map e_Cell)), (13, .ptr 13 0), (14, .ptr 14 0), (15, .ptr 15 0)], [(4, [.sl 5 (l.map e_Cell)]), (7, [.str v.1.From, .str v.1.To, .int .i64 v.1.Time, .int .i64 v.1.Many]), (11, [.int .i64 v.2.1.Code, .int .i64 v.2.1.At]), (13, [.int .i64 v.2.2.1.Code, .int .i64 v.2.2.1.At]), (14, [.int .i64 v.2.2.2.1.Code, .int .i64 v.2.2.2.1.At]), (15, [.int .i64 v.2.2.2.2.Code, .int .i64 v.2.2.2.2.At])], [], [], []⟩ : S) ?_ ?_
      · have hF := hv
        refine Wk_split rfl (fun hb => ?_) (fun hb => ?_)
        · have hF := ite_t hF hb
          obtain ⟨x7, h7, hF⟩ := lt_split hF
          refine WR [.callB (.agg [.int .i64 x7.Code, .int .i64 x7.At])] [1, 2, 4, 7, 9, 10, 11, 12, 13, 14, 15] [4, 7, 11, 13, 14, 15] [] [] [] [] ⟨[(1, .str row), (2, .str col), (4, .ptr 4 0), (7, .ptr 7 0), (9, .str x3.1), (10, .bool x3.2.1), (11, .ptr 11 0), (12, .sl 5 (x5.1.map e_Cell)), (13, .ptr 13 0), (14, .ptr 14 0), (15, .ptr 15 0)], [(4, [.sl 5 (l.map e_Cell)]), (7, [.str a0.From, .str a0.To, .int .i64 a0.Time, .int .i64 a0.Many]), (11, [.int .i64 x3.2.2.Code, .int .i64 x3.2.2.At]), (13, [.int .i64 x5.2.Code, .int .i64 x5.2.At]), (14, [.int .i64 x6.Code, .int .i64 x6.At]), (15, [.int .i64 x7.Code, .int .i64 x7.At])], [], [], []⟩ (.cons (R_F_ok 3 (-1) x7 h7) .nil) (by kernel_rfl) ?_
          exact Wk_met (fs := [1, 2, 4, 7, 9, 10, 11, 12, 13, 14, 15]) (bs := [4, 7, 11, 13, 14, 15]) (rs := []) (ms := []) (aa := []) (nv := []) (by first | (rw [← some_elim hF]; kernel_rfl) | kernel_rfl)
        · have hF := ite_f hF hb
          refine Wk_skip ?_
          exact Wk_met (fs := [1, 2, 4, 7, 9, 10, 11, 12, 13, 14, 15]) (bs := [4, 7, 11, 13, 14, 15]) (rs := []) (ms := []) (aa := []) (nv := []) (by first | (rw [← some_elim hF]; kernel_rfl) | kernel_rfl)
      · refine Wk_seq ?_
        refine Wk_seq ?_
        refine WR [] [1, 2, 4, 7, 9, 10, 12, 13, 14, 15, 72] [4, 7, 13, 14, 15] [] [] [] [] ⟨[(1, .str row), (2, .str col), (4, .ptr 4 0), (7, .ptr 7 0), (9, .str x3.1), (10, .bool x3.2.1), (12, .sl 5 (x5.1.map e_Cell)), (13, .ptr 13 0), (14, .ptr 14 0), (15, .ptr 15 0), (72, .bool ((!(decide (v.2.1.Code = v.2.2.2.2.Code) && (decide (v.2.1.At = v.2.2.2.2.At) && true))) || ((!decide (v.2.2.2.2.Code = 0)) && ((!decide (x3.1 = ([] : List UInt8))) || x3.2.1))))], [(4, [.sl 5 (l.map e_Cell)]), (7, [.str v.1.From, .str v.1.To, .int .i64 v.1.Time, .int .i64 v.1.Many]), (13, [.int .i64 v.2.2.1.Code, .int .i64 v.2.2.1.At]), (14, [.int .i64 v.2.2.2.1.Code, .int .i64 v.2.2.2.1.At]), (15, [.int .i64 v.2.2.2.2.Code, .int .i64 v.2.2.2.2.At])], [], [], []⟩ .nil (by kernel_rfl) ?_
        refine Wk_split rfl (fun hb => ?_) (fun hb => ?_)
        · have hF := ite_t hF hb
          refine Wk_seq ?_
          refine WR [] [8] [] [] [] [] [] ⟨[(8, .bool false)], [], [], [], []⟩ .nil (by kernel_rfl) ?_
          have hF := some_elim hF
          exact Wk_ret (hfin _ ⟨[], [], [], [], [], [], by first | (rw [← hF]; kernel_rfl) | kernel_rfl⟩)
        · have hF := ite_f hF hb
          refine Wk_skip ?_
          refine Wk_seq ?_
          refine Wk_seq ?_
          refine WR [] [1, 2, 4, 7, 9, 10, 12, 13, 14, 75] [4, 7, 13, 14] [] [] [] [] ⟨[(1, .str row), (2, .str col), (4, .ptr 4 0), (7, .ptr 7 0), (9, .str x3.1), (10, .bool x3.2.1), (12, .sl 5 (x5.1.map e_Cell)), (13, .ptr 13 0), (14, .ptr 14 0), (75, .bool (decide (v.2.2.2.2.Code = 0)))], [(4, [.sl 5 (l.map e_Cell)]), (7, [.str v.1.From, .str v.1.To, .int .i64 v.1.Time, .int .i64 v.1.Many]), (13, [.int .i64 v.2.2.1.Code, .int .i64 v.2.2.1.At]), (14, [.int .i64 v.2.2.2.1.Code, .int .i64 v.2.2.2.1.At])], [], [], []⟩ .nil (by kernel_rfl) ?_
          refine Wk_meetP (fun v1 : Ask × Fault × Fault => (⟨[(4, .ptr 4 0), (7, .ptr 7 0), (12, .sl 5 (x5.1.map e_Cell)), (13, .ptr 13 0), (14, .ptr 14 0)], [(4, [.sl 5 (l.map e_Cell)]), (7, [.str v1.1.From, .str v1.1.To, .int .i64 v1.1.Time, .int .i64 v1.1.Many]), (13, [.int .i64 v1.2.1.Code, .int .i64 v1.2.1.At]), (14, [.int .i64 v1.2.2.Code, .int .i64 v1.2.2.At])], [], [], []⟩ : S)) (fun v1 => law_CellAsks_J1 l x5 v1 = some r) ?_ ?_
          · refine Wk_split rfl (fun hb => ?_) (fun hb => ?_)
            · have hF := ite_t hF hb
              refine Wk_seq ?_
              obtain ⟨x10, h10, hF⟩ := ob_elim hF
              refine WR [.callB (.tup [.agg [.str x10.1.Row, .str x10.1.Col, .int .i64 x10.1.Time, .bool x10.1.Gone, .str x10.1.Value], .bool x10.2])] [4, 7, 9, 10, 12, 13, 14, 16, 17] [4, 7, 13, 14, 16] [] [] [] [] ⟨[(4, .ptr 4 0), (7, .ptr 7 0), (9, .str x3.1), (10, .bool x3.2.1), (12, .sl 5 (x5.1.map e_Cell)), (13, .ptr 13 0), (14, .ptr 14 0), (16, .ptr 16 0), (17, .bool x10.2)], [(4, [.sl 5 (l.map e_Cell)]), (7, [.str v.1.From, .str v.1.To, .int .i64 v.1.Time, .int .i64 v.1.Many]), (13, [.int .i64 v.2.2.1.Code, .int .i64 v.2.2.1.At]), (14, [.int .i64 v.2.2.2.1.Code, .int .i64 v.2.2.2.1.At]), (16, [.str x10.1.Row, .str x10.1.Col, .int .i64 x10.1.Time, .bool x10.1.Gone, .str x10.1.Value])], [], [], []⟩ (.cons (R_SeenCell_ok l row col v.1.Time x10 h10) .nil) (by kernel_rfl) ?_
              refine Wk_seq ?_
              refine WR [] [4, 7, 12, 13, 14, 93] [4, 7, 13, 14] [] [] [] [] ⟨[(4, .ptr 4 0), (7, .ptr 7 0), (12, .sl 5 (x5.1.map e_Cell)), (13, .ptr 13 0), (14, .ptr 14 0), (93, .bool ((!(x3.2.1 == x10.2)) || (!decide (x3.1 = x10.1.Value))))], [(4, [.sl 5 (l.map e_Cell)]), (7, [.str v.1.From, .str v.1.To, .int .i64 v.1.Time, .int .i64 v.1.Many]), (13, [.int .i64 v.2.2.1.Code, .int .i64 v.2.2.1.At]), (14, [.int .i64 v.2.2.2.1.Code, .int .i64 v.2.2.2.1.At])], [], [], []⟩ .nil (by kernel_rfl) ?_
              refine Wk_split rfl (fun hb => ?_) (fun hb => ?_)
              · have hF := ite_t hF hb
                refine Wk_seq ?_
                refine WR [] [8] [] [] [] [] [] ⟨[(8, .bool false)], [], [], [], []⟩ .nil (by kernel_rfl) ?_
                have hF := some_elim hF
                exact Wk_ret (hfin _ ⟨[], [], [], [], [], [], by first | (rw [← hF]; kernel_rfl) | kernel_rfl⟩)
              · have hF := ite_f hF hb
                refine Wk_skip ?_
                exact Wk_metP (v.1, v.2.2.1, v.2.2.2.1) [4, 7, 12, 13, 14] [4, 7, 13, 14] [] [] [] [] hF (by kernel_rfl)
            · have hF := ite_f hF hb
              refine Wk_skip ?_
              exact Wk_metP (v.1, v.2.2.1, v.2.2.2.1) [4, 7, 12, 13, 14] [4, 7, 13, 14] [] [] [] [] hF (by kernel_rfl)
          · intro v1 hF
            have hF : law_CellAsks_J1 l x5 v1 = some r := hF
            unfold law_CellAsks_J1 at hF
            refine Wk_seq ?_
            refine Wk_seq ?_
            refine WR [] [4, 7, 12, 13, 14, 96] [4, 7, 13, 14] [] [] [] [] ⟨[(4, .ptr 4 0), (7, .ptr 7 0), (12, .sl 5 (x5.1.map e_Cell)), (13, .ptr 13 0), (14, .ptr 14 0), (96, .bool (decide (v1.2.2.Code = 0)))], [(4, [.sl 5 (l.map e_Cell)]), (7, [.str v1.1.From, .str v1.1.To, .int .i64 v1.1.Time, .int .i64 v1.1.Many]), (13, [.int .i64 v1.2.1.Code, .int .i64 v1.2.1.At]), (14, [.int .i64 v1.2.2.Code, .int .i64 v1.2.2.At])], [], [], []⟩ .nil (by kernel_rfl) ?_
            obtain ⟨v2, hv, hF⟩ := ob_elim hF
            refine Wk_meet (⟨[(4, .ptr 4 0), (7, .ptr 7 0), (12, .sl 5 (x5.1.map e_Cell)), (13, .ptr 13 0), (14, .ptr 14 0)], [(4, [.sl 5 (l.map e_Cell)]), (7, [.str v2.1.From, .str v2.1.To, .int .i64 v2.1.Time, .int .i64 v2.1.Many]), (13, [.int .i64 v2.2.1.Code, .int .i64 v2.2.1.At]), (14, [.int .i64 v2.2.2.Code, .int .i64 v2.2.2.At])], [], [], []⟩ : S) ?_ ?_
            · have hF := hv
              refine Wk_split rfl (fun hb => ?_) (fun hb => ?_)
              · have hF := ite_t hF hb
                obtain ⟨x8, h8, hF⟩ := lt_split hF
                refine WR [.callB (.agg [.int .i64 x8.Code, .int .i64 x8.At])] [4, 7, 12, 13, 14] [4, 7, 13, 14] [] [] [] [] ⟨[(4, .ptr 4 0), (7, .ptr 7 0), (12, .sl 5 (x5.1.map e_Cell)), (13, .ptr 13 0), (14, .ptr 14 0)], [(4, [.sl 5 (l.map e_Cell)]), (7, [.str v1.1.From, .str v1.1.To, .int .i64 v1.1.Time, .int .i64 v1.1.Many]), (13, [.int .i64 v1.2.1.Code, .int .i64 v1.2.1.At]), (14, [.int .i64 x8.Code, .int .i64 x8.At])], [], [], []⟩ (.cons (R_AskFault_ok v1.1 x8 h8) .nil) (by kernel_rfl) ?_
                exact Wk_met (fs := [4, 7, 12, 13, 14]) (bs := [4, 7, 13, 14]) (rs := []) (ms := []) (aa := []) (nv := []) (by first | (rw [← some_elim hF]; kernel_rfl) | kernel_rfl)
              · have hF := ite_f hF hb
                refine Wk_skip ?_
                exact Wk_met (fs := [4, 7, 12, 13, 14]) (bs := [4, 7, 13, 14]) (rs := []) (ms := []) (aa := []) (nv := []) (by first | (rw [← some_elim hF]; kernel_rfl) | kernel_rfl)
            · refine Wk_seq ?_
              refine Wk_seq ?_
              refine WR [.nat (l.length : Int)] [4, 7, 12, 13, 14, 106] [4, 7, 13, 14] [] [] [] [] ⟨[(4, .ptr 4 0), (7, .ptr 7 0), (12, .sl 5 (x5.1.map e_Cell)), (13, .ptr 13 0), (14, .ptr 14 0), (106, .bool ((decide (v2.2.2.Code = 0)) && (decide (150 < (l.length : Int)))))], [(4, [.sl 5 (l.map e_Cell)]), (7, [.str v2.1.From, .str v2.1.To, .int .i64 v2.1.Time, .int .i64 v2.1.Many]), (13, [.int .i64 v2.2.1.Code, .int .i64 v2.2.1.At]), (14, [.int .i64 v2.2.2.Code, .int .i64 v2.2.2.At])], [], [], []⟩ (.cons (fun (_ : (decide (v2.2.2.Code = 0)) = true) => (len_ok e_Cell l)) .nil) (by kernel_rfl) ?_
              refine Wk_split rfl (fun hb => ?_) (fun hb => ?_)
              · have hF := ite_t hF hb
                refine Wk_seq ?_
                refine WR [] [8] [] [] [] [] [] ⟨[(8, .bool (decide (v2.2.1.Code = 0)))], [], [], [], []⟩ .nil (by kernel_rfl) ?_
                have hF := some_elim hF
                exact Wk_ret (hfin _ ⟨[], [], [], [], [], [], by first | (rw [← hF]; kernel_rfl) | kernel_rfl⟩)
              · have hF := ite_f hF hb
                refine Wk_skip ?_
                refine Wk_seq ?_
                obtain ⟨x9, h9, hF⟩ := ob_elim hF
                refine WR [.callR [4, 7] [] [] [] (.bool x9)] [8] [] [] [] [] [] ⟨[(8, .bool x9)], [], [], [], []⟩ (.cons (Pe.ren (law_cellsAs_ok x5.1 v2.2.1 v2.2.2 l v2.1 x9 h9) ⟨[(100000, 4), (100001, 7)], [], [], []⟩) .nil) (by kernel_rfl) ?_
                have hF := some_elim hF
                exact Wk_ret (hfin _ ⟨[], [], [], [], [], [], by first | (rw [← hF]; kernel_rfl) | kernel_rfl⟩)

/- tabularylaw.CellScans -/
noncomputable def law_CellScans_J2 (x1 : List Cell × Fault) (v1 : Int) : Option Bool :=
  some (decide (v1 = (x1.1.length : Int)))
noncomputable def law_CellScans_J3 (v2 : Ask × Int × Int) (v3 : Ask × Int) : Option ((Ask × Int × Int) ⊕ Bool) :=
  some (Sum.inl (v3.1, v3.2, w64 (v2.2.2 + 1)))
noncomputable def law_CellScans_B1 (l : List Cell) (x1 : List Cell × Fault) (v2 : Ask × Int × Int) : Option ((Ask × Int × Int) ⊕ Bool) :=
  if (decide (v2.2.2 < (l.length : Int))) = true then
    asrt ((decide (0 < v2.2.2)) = true → 0 ≤ w64 (v2.2.2 - 1) ∧ w64 (v2.2.2 - 1) < (l.length : Int)) <|
    asrt ((decide (0 < v2.2.2)) = true → 0 ≤ v2.2.2 ∧ v2.2.2 < (l.length : Int)) <|
    asrt (((decide (0 < v2.2.2)) && (decide (((lget l (w64 (v2.2.2 - 1))).Row) = ((lget l v2.2.2).Row)))) = true → 0 ≤ w64 (v2.2.2 - 1) ∧ w64 (v2.2.2 - 1) < (l.length : Int)) <|
    asrt (((decide (0 < v2.2.2)) && (decide (((lget l (w64 (v2.2.2 - 1))).Row) = ((lget l v2.2.2).Row)))) = true → 0 ≤ v2.2.2 ∧ v2.2.2 < (l.length : Int)) <|
    asrt ((!(((decide (0 < v2.2.2)) && (decide (((lget l (w64 (v2.2.2 - 1))).Row) = ((lget l v2.2.2).Row)))) && (decide (((lget l (w64 (v2.2.2 - 1))).Col) = ((lget l v2.2.2).Col))))) = true → 0 ≤ v2.2.2 ∧ v2.2.2 < (l.length : Int)) <|
    asrt ((!decide (v2.1.To = ([] : List UInt8))) = true → (!((((decide (0 < v2.2.2)) && (decide (((lget l (w64 (v2.2.2 - 1))).Row) = ((lget l v2.2.2).Row)))) && (decide (((lget l (w64 (v2.2.2 - 1))).Col) = ((lget l v2.2.2).Col)))) || (Op.bytesLess ((lget l v2.2.2).Row) v2.1.From))) = true → 0 ≤ v2.2.2 ∧ v2.2.2 < (l.length : Int)) <|
    if (((((decide (0 < v2.2.2)) && (decide (((lget l (w64 (v2.2.2 - 1))).Row) = ((lget l v2.2.2).Row)))) && (decide (((lget l (w64 (v2.2.2 - 1))).Col) = ((lget l v2.2.2).Col)))) || (Op.bytesLess ((lget l v2.2.2).Row) v2.1.From)) || ((!decide (v2.1.To = ([] : List UInt8))) && (!Op.bytesLess ((lget l v2.2.2).Row) v2.1.To))) = true then
      law_CellScans_J3 v2 (v2.1, v2.2.1)
    else
      asrt (0 ≤ v2.2.2 ∧ v2.2.2 < (l.length : Int)) <|
      asrt (0 ≤ v2.2.2 ∧ v2.2.2 < (l.length : Int)) <|
      ob (cell_Get l ((lget l v2.2.2).Row) ((lget l v2.2.2).Col) v2.1.Time) fun x2 =>
      if (!decide (x2.2.2.Code = 0)) = true then
        some (Sum.inr false)
      else
        if x2.2.1 = true then
          law_CellScans_J3 v2 (v2.1, w64 (v2.2.1 + 1))
        else
          law_CellScans_J3 v2 (v2.1, v2.2.1)
  else
    inrO (law_CellScans_J2 x1 v2.2.1)
noncomputable def law_CellScans_L1 (l : List Cell) (x1 : List Cell × Fault) (v0 : Ask × Int × Int) : Option Bool :=
  loopO (fun y => law_CellScans_B1 l x1 y) v0
noncomputable def law_CellScans_J1 (l : List Cell) (x1 : List Cell × Fault) (v : Ask) : Option Bool :=
  if (decide ((x1.1.length : Int) = v.Many)) = true then
    some true
  else
    law_CellScans_L1 l x1 (v, 0, 0)
noncomputable def law_CellScans_B2 (l : List Cell) (x1 : List Cell × Fault) (v4 : Ask × Int) : Option ((Ask × Int) ⊕ Bool) :=
  if (decide (v4.2 < (x1.1.length : Int))) = true then
    asrt (0 ≤ v4.2 ∧ v4.2 < (x1.1.length : Int)) <|
    asrt (0 ≤ v4.2 ∧ v4.2 < (x1.1.length : Int)) <|
    ob (cell_Get l ((lget x1.1 v4.2).Row) ((lget x1.1 v4.2).Col) v4.1.Time) fun x3 =>
    asrt ((!((!decide (x3.2.2.Code = 0)) || (!x3.2.1))) = true → 0 ≤ v4.2 ∧ v4.2 < (x1.1.length : Int)) <|
    asrt ((decide (0 < v4.2)) = true → (!(((!decide (x3.2.2.Code = 0)) || (!x3.2.1)) || (!decide (x3.1 = ((lget x1.1 v4.2).Value))))) = true → 0 ≤ v4.2 ∧ v4.2 < (x1.1.length : Int)) <|
    asrt ((decide (0 < v4.2)) = true → (!(((!decide (x3.2.2.Code = 0)) || (!x3.2.1)) || (!decide (x3.1 = ((lget x1.1 v4.2).Value))))) = true → 0 ≤ w64 (v4.2 - 1) ∧ w64 (v4.2 - 1) < (x1.1.length : Int)) <|
    asrt ((!(Op.bytesLess ((lget x1.1 v4.2).Row) ((lget x1.1 (w64 (v4.2 - 1))).Row))) = true → (decide (0 < v4.2)) = true → (!(((!decide (x3.2.2.Code = 0)) || (!x3.2.1)) || (!decide (x3.1 = ((lget x1.1 v4.2).Value))))) = true → 0 ≤ v4.2 ∧ v4.2 < (x1.1.length : Int)) <|
    asrt ((!(Op.bytesLess ((lget x1.1 v4.2).Row) ((lget x1.1 (w64 (v4.2 - 1))).Row))) = true → (decide (0 < v4.2)) = true → (!(((!decide (x3.2.2.Code = 0)) || (!x3.2.1)) || (!decide (x3.1 = ((lget x1.1 v4.2).Value))))) = true → 0 ≤ w64 (v4.2 - 1) ∧ w64 (v4.2 - 1) < (x1.1.length : Int)) <|
    asrt ((decide (((lget x1.1 v4.2).Row) = ((lget x1.1 (w64 (v4.2 - 1))).Row))) = true → (!(Op.bytesLess ((lget x1.1 v4.2).Row) ((lget x1.1 (w64 (v4.2 - 1))).Row))) = true → (decide (0 < v4.2)) = true → (!(((!decide (x3.2.2.Code = 0)) || (!x3.2.1)) || (!decide (x3.1 = ((lget x1.1 v4.2).Value))))) = true → 0 ≤ v4.2 ∧ v4.2 < (x1.1.length : Int)) <|
    asrt ((decide (((lget x1.1 v4.2).Row) = ((lget x1.1 (w64 (v4.2 - 1))).Row))) = true → (!(Op.bytesLess ((lget x1.1 v4.2).Row) ((lget x1.1 (w64 (v4.2 - 1))).Row))) = true → (decide (0 < v4.2)) = true → (!(((!decide (x3.2.2.Code = 0)) || (!x3.2.1)) || (!decide (x3.1 = ((lget x1.1 v4.2).Value))))) = true → 0 ≤ w64 (v4.2 - 1) ∧ w64 (v4.2 - 1) < (x1.1.length : Int)) <|
    if ((((!decide (x3.2.2.Code = 0)) || (!x3.2.1)) || (!decide (x3.1 = ((lget x1.1 v4.2).Value)))) || ((decide (0 < v4.2)) && ((Op.bytesLess ((lget x1.1 v4.2).Row) ((lget x1.1 (w64 (v4.2 - 1))).Row)) || ((decide (((lget x1.1 v4.2).Row) = ((lget x1.1 (w64 (v4.2 - 1))).Row))) && (!Op.bytesLess ((lget x1.1 (w64 (v4.2 - 1))).Col) ((lget x1.1 v4.2).Col)))))) = true then
      some (Sum.inr false)
    else
      some (Sum.inl (v4.1, w64 (v4.2 + 1)))
  else
    inrO (law_CellScans_J1 l x1 v4.1)
noncomputable def law_CellScans_L2 (l : List Cell) (x1 : List Cell × Fault) (v0 : Ask × Int) : Option Bool :=
  loopO (fun y => law_CellScans_B2 l x1 y) v0
noncomputable def law_CellScans (l : List Cell) (a0 : Ask) : Option Bool :=
  ob (law_cellBegun) fun x =>
  if (!x) = true then
    some false
  else
    if (decide (150 < (l.length : Int))) = true then
      some true
    else
      ob (cell_Scan_v1 l a0) fun x1 =>
      if (!decide (x1.2.Code = 0)) = true then
        some true
      else
        law_CellScans_L2 l x1 (a0, 0)
theorem law_CellScans_ok (l : List Cell) (a0 : Ask) (r : Bool) (hF : law_CellScans l a0 = some r) : Pe Try.prog 4 S.none [.sl 5 (l.map e_Cell), .agg [.str a0.From, .str a0.To, .int .i64 a0.Time, .int .i64 a0.Many]] (.bool r) S.none := by
  refine Pe_of (N := 210) (res := [.tmp 4]) (ts := [4]) Ty.ok Fn.b4 Try.func4 rfl rfl rfl rfl rfl rfl ?_
  intro Q g hfin
  unfold law_CellScans at hF
  refine Wk_seq ?_
  refine WR [] [0, 3] [3] [] [] [] [] ⟨[(0, .sl 5 (l.map e_Cell)), (3, .ptr 3 0)], [(3, [.str a0.From, .str a0.To, .int .i64 a0.Time, .int .i64 a0.Many])], [], [], []⟩ .nil (by kernel_rfl) ?_
  refine Wk_seq ?_
  refine Wk_seq ?_
  obtain ⟨x, h0, hF⟩ := ob_elim hF
  refine WR [.callB (.bool x)] [0, 3, 17] [3] [] [] [] [] ⟨[(0, .sl 5 (l.map e_Cell)), (3, .ptr 3 0), (17, .bool (!x))], [(3, [.str a0.From, .str a0.To, .int .i64 a0.Time, .int .i64 a0.Many])], [], [], []⟩ (.cons (law_cellBegun_ok  x h0) .nil) (by kernel_rfl) ?_
  refine Wk_split rfl (fun hb => ?_) (fun hb => ?_)
  · have hF := ite_t hF hb
    refine Wk_seq ?_
    refine WR [] [4] [] [] [] [] [] ⟨[(4, .bool false)], [], [], [], []⟩ .nil (by kernel_rfl) ?_
    have hF := some_elim hF
    exact Wk_ret (hfin _ ⟨[], [], [], [], [], [], by first | (rw [← hF]; kernel_rfl) | kernel_rfl⟩)
  · have hF := ite_f hF hb
    refine Wk_skip ?_
    refine Wk_seq ?_
    refine Wk_seq ?_
    refine WR [.nat (l.length : Int)] [0, 3, 20] [3] [] [] [] [] ⟨[(0, .sl 5 (l.map e_Cell)), (3, .ptr 3 0), (20, .bool (decide (150 < (l.length : Int))))], [(3, [.str a0.From, .str a0.To, .int .i64 a0.Time, .int .i64 a0.Many])], [], [], []⟩ (.cons (len_ok e_Cell l) .nil) (by kernel_rfl) ?_
    refine Wk_split rfl (fun hb => ?_) (fun hb => ?_)
    · have hF := ite_t hF hb
      refine Wk_seq ?_
      refine WR [] [4] [] [] [] [] [] ⟨[(4, .bool true)], [], [], [], []⟩ .nil (by kernel_rfl) ?_
      have hF := some_elim hF
      exact Wk_ret (hfin _ ⟨[], [], [], [], [], [], by first | (rw [← hF]; kernel_rfl) | kernel_rfl⟩)
    · have hF := ite_f hF hb
      refine Wk_skip ?_
      refine Wk_seq ?_
      obtain ⟨x1, h1, hF⟩ := ob_elim hF
      refine WR [.call (.tup [.sl 5 (x1.1.map e_Cell), .agg [.int .i64 x1.2.Code, .int .i64 x1.2.At]])] [0, 3, 5, 6] [3, 6] [] [] [] [] ⟨[(0, .sl 5 (l.map e_Cell)), (3, .ptr 3 0), (5, .sl 5 (x1.1.map e_Cell)), (6, .ptr 6 0)], [(3, [.str a0.From, .str a0.To, .int .i64 a0.Time, .int .i64 a0.Many]), (6, [.int .i64 x1.2.Code, .int .i64 x1.2.At])], [], [], []⟩ (.cons (cell_Scan_v1_ok l a0 x1 h1) .nil) (by kernel_rfl) ?_
      refine Wk_seq ?_
      refine Wk_seq ?_
      refine WR [] [0, 3, 5, 29] [3] [] [] [] [] ⟨[(0, .sl 5 (l.map e_Cell)), (3, .ptr 3 0), (5, .sl 5 (x1.1.map e_Cell)), (29, .bool (!decide (x1.2.Code = 0)))], [(3, [.str a0.From, .str a0.To, .int .i64 a0.Time, .int .i64 a0.Many])], [], [], []⟩ .nil (by kernel_rfl) ?_
      refine Wk_split rfl (fun hb => ?_) (fun hb => ?_)
      · have hF := ite_t hF hb
        refine Wk_seq ?_
        refine WR [] [4] [] [] [] [] [] ⟨[(4, .bool true)], [], [], [], []⟩ .nil (by kernel_rfl) ?_
        have hF := some_elim hF
        exact Wk_ret (hfin _ ⟨[], [], [], [], [], [], by first | (rw [← hF]; kernel_rfl) | kernel_rfl⟩)
      · have hF := ite_f hF hb
        refine Wk_skip ?_
        refine Wk_seq ?_
        refine Wk_seq ?_
        refine WR [] [0, 3, 5, 7] [3] [] [] [] [] ⟨[(0, .sl 5 (l.map e_Cell)), (3, .ptr 3 0), (5, .sl 5 (x1.1.map e_Cell)), (7, .int .i64 0)], [(3, [.str a0.From, .str a0.To, .int .i64 a0.Time, .int .i64 a0.Many])], [], [], []⟩ .nil (by kernel_rfl) ?_
        refine Wk_meetP (fun v : Ask => (⟨[(0, .sl 5 (l.map e_Cell)), (3, .ptr 3 0), (5, .sl 5 (x1.1.map e_Cell))], [(3, [.str v.From, .str v.To, .int .i64 v.Time, .int .i64 v.Many])], [], [], []⟩ : S)) (fun v => law_CellScans_J1 l x1 v = some r) ?_ ?_
        · refine Wk_block ?_
          unfold law_CellScans_L2 at hF
          refine Wk_trim (fs := [0, 3, 5, 7]) (bs := [3]) (rs := []) (ms := []) (aa := []) (nv := []) (t := (fun v4 : Ask × Int => (⟨[(0, .sl 5 (l.map e_Cell)), (3, .ptr 3 0), (5, .sl 5 (x1.1.map e_Cell)), (7, .int .i64 v4.2)], [(3, [.str v4.1.From, .str v4.1.To, .int .i64 v4.1.Time, .int .i64 v4.1.Many])], [], [], []⟩ : S)) (a0, 0)) (by kernel_rfl) ?_
          refine Wk_iter (step := fun y => law_CellScans_B2 l x1 y) (r := r) (fun v4 : Ask × Int => (⟨[(0, .sl 5 (l.map e_Cell)), (3, .ptr 3 0), (5, .sl 5 (x1.1.map e_Cell)), (7, .int .i64 v4.2)], [(3, [.str v4.1.From, .str v4.1.To, .int .i64 v4.1.Time, .int .i64 v4.1.Many])], [], [], []⟩ : S)) (a0, 0) hF ?_
          intro n1 v4 y1 hF ih1 dn1
          have hF : law_CellScans_B2 l x1 v4 = some y1 := hF
          unfold law_CellScans_B2 at hF
          refine Wk_seq ?_
          refine Wk_seq ?_
          refine WR [.nat (x1.1.length : Int)] [0, 3, 5, 7, 33] [3] [] [] [] [] ⟨[(0, .sl 5 (l.map e_Cell)), (3, .ptr 3 0), (5, .sl 5 (x1.1.map e_Cell)), (7, .int .i64 v4.2), (33, .bool (decide (v4.2 < (x1.1.length : Int))))], [(3, [.str v4.1.From, .str v4.1.To, .int .i64 v4.1.Time, .int .i64 v4.1.Many])], [], [], []⟩ (.cons (len_ok e_Cell x1.1) .nil) (by kernel_rfl) ?_
          refine Wk_split rfl (fun hb => ?_) (fun hb => ?_)
          · have hF := ite_t hF hb
            refine Wk_skip ?_
            refine Wk_seq ?_
            refine Wk_block ?_
            refine Wk_seq ?_
            obtain ⟨h11, hF⟩ := asrt_elim hF
            obtain ⟨h12, hF⟩ := asrt_elim hF
            obtain ⟨x3, h13, hF⟩ := ob_elim hF
            refine WD [.av (e_Cell (lget x1.1 v4.2)), .av (e_Cell (lget x1.1 v4.2)), .callB (.tup [.str x3.1, .bool x3.2.1, .agg [.int .i64 x3.2.2.Code, .int .i64 x3.2.2.At]])] [0, 3, 5, 7, 8, 9, 10] [3, 10] [] [] [] [] ⟨[(0, .sl 5 (l.map e_Cell)), (3, .ptr 3 0), (5, .sl 5 (x1.1.map e_Cell)), (7, .int .i64 v4.2), (8, .str x3.1), (9, .bool x3.2.1), (10, .ptr 10 0)], [(3, [.str v4.1.From, .str v4.1.To, .int .i64 v4.1.Time, .int .i64 v4.1.Many]), (10, [.int .i64 x3.2.2.Code, .int .i64 x3.2.2.At])], [], [], []⟩ (.cons (idx_ok e_Cell h11) (.cons (idx_ok e_Cell h12) (.cons (cell_Get_ok l ((lget x1.1 v4.2).Row) ((lget x1.1 v4.2).Col) v4.1.Time x3 h13) .nil))) (by kernel_rfl) ?_
            refine Wk_seq ?_
            obtain ⟨h14, hF⟩ := asrt_elim hF
            obtain ⟨h15, hF⟩ := asrt_elim hF
            obtain ⟨h16, hF⟩ := asrt_elim hF
            obtain ⟨h17, hF⟩ := asrt_elim hF
            obtain ⟨h18, hF⟩ := asrt_elim hF
            obtain ⟨h19, hF⟩ := asrt_elim hF
            obtain ⟨h20, hF⟩ := asrt_elim hF
            refine WD [.av (e_Cell (lget x1.1 v4.2)), .av (e_Cell (lget x1.1 v4.2)), .av (e_Cell (lget x1.1 (w64 (v4.2 - 1)))), .av (e_Cell (lget x1.1 v4.2)), .av (e_Cell (lget x1.1 (w64 (v4.2 - 1)))), .av (e_Cell (lget x1.1 v4.2)), .av (e_Cell (lget x1.1 (w64 (v4.2 - 1))))] [0, 3, 5, 7, 115] [3] [] [] [] [] ⟨[(0, .sl 5 (l.map e_Cell)), (3, .ptr 3 0), (5, .sl 5 (x1.1.map e_Cell)), (7, .int .i64 v4.2), (115, .bool ((((!decide (x3.2.2.Code = 0)) || (!x3.2.1)) || (!decide (x3.1 = ((lget x1.1 v4.2).Value)))) || ((decide (0 < v4.2)) && ((Op.bytesLess ((lget x1.1 v4.2).Row) ((lget x1.1 (w64 (v4.2 - 1))).Row)) || ((decide (((lget x1.1 v4.2).Row) = ((lget x1.1 (w64 (v4.2 - 1))).Row))) && (!Op.bytesLess ((lget x1.1 (w64 (v4.2 - 1))).Col) ((lget x1.1 v4.2).Col)))))))], [(3, [.str v4.1.From, .str v4.1.To, .int .i64 v4.1.Time, .int .i64 v4.1.Many])], [], [], []⟩ (.cons (fun (ga0 : (!((!decide (x3.2.2.Code = 0)) || (!x3.2.1))) = true) => (idx_ok e_Cell (h14 ga0))) (.cons (fun (ga0 : (decide (0 < v4.2)) = true) (ga1 : (!(((!decide (x3.2.2.Code = 0)) || (!x3.2.1)) || (!decide (x3.1 = ((lget x1.1 v4.2).Value))))) = true) => (idx_ok e_Cell (h15 ga0 ga1))) (.cons (fun (ga0 : (decide (0 < v4.2)) = true) (ga1 : (!(((!decide (x3.2.2.Code = 0)) || (!x3.2.1)) || (!decide (x3.1 = ((lget x1.1 v4.2).Value))))) = true) => (idx_ok e_Cell (h16 ga0 ga1))) (.cons (fun (ga0 : (!(Op.bytesLess ((lget x1.1 v4.2).Row) ((lget x1.1 (w64 (v4.2 - 1))).Row))) = true) (ga1 : (decide (0 < v4.2)) = true) (ga2 : (!(((!decide (x3.2.2.Code = 0)) || (!x3.2.1)) || (!decide (x3.1 = ((lget x1.1 v4.2).Value))))) = true) => (idx_ok e_Cell (h17 ga0 ga1 ga2))) (.cons (fun (ga0 : (!(Op.bytesLess ((lget x1.1 v4.2).Row) ((lget x1.1 (w64 (v4.2 - 1))).Row))) = true) (ga1 : (decide (0 < v4.2)) = true) (ga2 : (!(((!decide (x3.2.2.Code = 0)) || (!x3.2.1)) || (!decide (x3.1 = ((lget x1.1 v4.2).Value))))) = true) => (idx_ok e_Cell (h18 ga0 ga1 ga2))) (.cons (fun (ga0 : (decide (((lget x1.1 v4.2).Row) = ((lget x1.1 (w64 (v4.2 - 1))).Row))) = true) (ga1 : (!(Op.bytesLess ((lget x1.1 v4.2).Row) ((lget x1.1 (w64 (v4.2 - 1))).Row))) = true) (ga2 : (decide (0 < v4.2)) = true) (ga3 : (!(((!decide (x3.2.2.Code = 0)) || (!x3.2.1)) || (!decide (x3.1 = ((lget x1.1 v4.2).Value))))) = true) => (idx_ok e_Cell (h19 ga0 ga1 ga2 ga3))) (.cons (fun (ga0 : (decide (((lget x1.1 v4.2).Row) = ((lget x1.1 (w64 (v4.2 - 1))).Row))) = true) (ga1 : (!(Op.bytesLess ((lget x1.1 v4.2).Row) ((lget x1.1 (w64 (v4.2 - 1))).Row))) = true) (ga2 : (decide (0 < v4.2)) = true) (ga3 : (!(((!decide (x3.2.2.Code = 0)) || (!x3.2.1)) || (!decide (x3.1 = ((lget x1.1 v4.2).Value))))) = true) => (idx_ok e_Cell (h20 ga0 ga1 ga2 ga3))) .nil))))))) (by kernel_rfl) ?_
            refine Wk_split rfl (fun hb => ?_) (fun hb => ?_)
            · have hF := ite_t hF hb
              refine Wk_seq ?_
              refine WR [] [4] [] [] [] [] [] ⟨[(4, .bool false)], [], [], [], []⟩ .nil (by kernel_rfl) ?_
              have hF := ret_done hF dn1
              have hF := some_elim hF
              exact Wk_ret (hfin _ ⟨[], [], [], [], [], [], by first | (rw [← hF]; kernel_rfl) | kernel_rfl⟩)
            · have hF := ite_f hF hb
              refine Wk_skip ?_
              refine Wk_blk ?_
              refine WR [] [0, 3, 5, 7] [3] [] [] [] [] ⟨[(0, .sl 5 (l.map e_Cell)), (3, .ptr 3 0), (5, .sl 5 (x1.1.map e_Cell)), (7, .int .i64 (w64 (v4.2 + 1)))], [(3, [.str v4.1.From, .str v4.1.To, .int .i64 v4.1.Time, .int .i64 v4.1.Many])], [], [], []⟩ .nil (by kernel_rfl) ?_
              refine Wk_trim (fs := [0, 3, 5, 7]) (bs := [3]) (rs := []) (ms := []) (aa := []) (nv := []) ?_ (ih1 _ (some_elim hF).symm)
              kernel_rfl
          · have hF := ite_f hF hb
            refine Wk_exit rfl ?_
            have hF := inrO_done hF dn1
            exact Wk_metP v4.1 [0, 3, 5] [3] [] [] [] [] hF (by kernel_rfl)
        · intro v hF
          have hF : law_CellScans_J1 l x1 v = some r := hF
          unfold law_CellScans_J1 at hF
          refine Wk_seq ?_
          refine Wk_seq ?_
          refine WR [.nat (x1.1.length : Int)] [0, 3, 5, 120] [3] [] [] [] [] ⟨[(0, .sl 5 (l.map e_Cell)), (3, .ptr 3 0), (5, .sl 5 (x1.1.map e_Cell)), (120, .bool (decide ((x1.1.length : Int) = v.Many)))], [(3, [.str v.From, .str v.To, .int .i64 v.Time, .int .i64 v.Many])], [], [], []⟩ (.cons (len_ok e_Cell x1.1) .nil) (by kernel_rfl) ?_
          refine Wk_split rfl (fun hb => ?_) (fun hb => ?_)
          · have hF := ite_t hF hb
            refine Wk_seq ?_
            refine WR [] [4] [] [] [] [] [] ⟨[(4, .bool true)], [], [], [], []⟩ .nil (by kernel_rfl) ?_
            have hF := some_elim hF
            exact Wk_ret (hfin _ ⟨[], [], [], [], [], [], by first | (rw [← hF]; kernel_rfl) | kernel_rfl⟩)
          · have hF := ite_f hF hb
            refine Wk_skip ?_
            refine Wk_seq ?_
            refine WR [] [0, 3, 5, 11] [3] [] [] [] [] ⟨[(0, .sl 5 (l.map e_Cell)), (3, .ptr 3 0), (5, .sl 5 (x1.1.map e_Cell)), (11, .int .i64 0)], [(3, [.str v.From, .str v.To, .int .i64 v.Time, .int .i64 v.Many])], [], [], []⟩ .nil (by kernel_rfl) ?_
            refine Wk_seq ?_
            refine Wk_seq ?_
            refine WR [] [0, 3, 5, 11, 12] [3] [] [] [] [] ⟨[(0, .sl 5 (l.map e_Cell)), (3, .ptr 3 0), (5, .sl 5 (x1.1.map e_Cell)), (11, .int .i64 0), (12, .int .i64 0)], [(3, [.str v.From, .str v.To, .int .i64 v.Time, .int .i64 v.Many])], [], [], []⟩ .nil (by kernel_rfl) ?_
            refine Wk_meetP (fun v1 : Int => (⟨[(5, .sl 5 (x1.1.map e_Cell)), (11, .int .i64 v1)], [], [], [], []⟩ : S)) (fun v1 => law_CellScans_J2 x1 v1 = some r) ?_ ?_
            · refine Wk_block ?_
              unfold law_CellScans_L1 at hF
              refine Wk_trim (fs := [0, 3, 5, 11, 12]) (bs := [3]) (rs := []) (ms := []) (aa := []) (nv := []) (t := (fun v2 : Ask × Int × Int => (⟨[(0, .sl 5 (l.map e_Cell)), (3, .ptr 3 0), (5, .sl 5 (x1.1.map e_Cell)), (11, .int .i64 v2.2.1), (12, .int .i64 v2.2.2)], [(3, [.str v2.1.From, .str v2.1.To, .int .i64 v2.1.Time, .int .i64 v2.1.Many])], [], [], []⟩ : S)) (v, 0, 0)) (by kernel_rfl) ?_
              refine Wk_iter (step := fun y => law_CellScans_B1 l x1 y) (r := r) (fun v2 : Ask × Int × Int => (⟨[(0, .sl 5 (l.map e_Cell)), (3, .ptr 3 0), (5, .sl 5 (x1.1.map e_Cell)), (11, .int .i64 v2.2.1), (12, .int .i64 v2.2.2)], [(3, [.str v2.1.From, .str v2.1.To, .int .i64 v2.1.Time, .int .i64 v2.1.Many])], [], [], []⟩ : S)) (v, 0, 0) hF ?_
              intro n1 v2 y1 hF ih1 dn1
              have hF : law_CellScans_B1 l x1 v2 = some y1 := hF
              unfold law_CellScans_B1 at hF
              refine Wk_seq ?_
              refine Wk_seq ?_
              refine WR [.nat (l.length : Int)] [0, 3, 5, 11, 12, 124] [3] [] [] [] [] ⟨[(0, .sl 5 (l.map e_Cell)), (3, .ptr 3 0), (5, .sl 5 (x1.1.map e_Cell)), (11, .int .i64 v2.2.1), (12, .int .i64 v2.2.2), (124, .bool (decide (v2.2.2 < (l.length : Int))))], [(3, [.str v2.1.From, .str v2.1.To, .int .i64 v2.1.Time, .int .i64 v2.1.Many])], [], [], []⟩ (.cons (len_ok e_Cell l) .nil) (by kernel_rfl) ?_
              refine Wk_split rfl (fun hb => ?_) (fun hb => ?_)
              · have hF := ite_t hF hb
                refine Wk_skip ?_
                refine Wk_seq ?_
                refine Wk_meetP (fun v3 : Ask × Int => (⟨[(0, .sl 5 (l.map e_Cell)), (3, .ptr 3 0), (5, .sl 5 (x1.1.map e_Cell)), (11, .int .i64 v3.2), (12, .int .i64 v2.2.2)], [(3, [.str v3.1.From, .str v3.1.To, .int .i64 v3.1.Time, .int .i64 v3.1.Many])], [], [], []⟩ : S)) (fun v3 => law_CellScans_J3 v2 v3 = some y1) ?_ ?_
                · refine Wk_block ?_
                  refine Wk_seq ?_
                  refine Wk_seq ?_
                  obtain ⟨h2, hF⟩ := asrt_elim hF
                  obtain ⟨h3, hF⟩ := asrt_elim hF
                  obtain ⟨h4, hF⟩ := asrt_elim hF
                  obtain ⟨h5, hF⟩ := asrt_elim hF
                  obtain ⟨h6, hF⟩ := asrt_elim hF
                  obtain ⟨h7, hF⟩ := asrt_elim hF
                  refine WD [.av (e_Cell (lget l (w64 (v2.2.2 - 1)))), .av (e_Cell (lget l v2.2.2)), .av (e_Cell (lget l (w64 (v2.2.2 - 1)))), .av (e_Cell (lget l v2.2.2)), .av (e_Cell (lget l v2.2.2)), .av (e_Cell (lget l v2.2.2))] [0, 3, 5, 11, 12, 181] [3] [] [] [] [] ⟨[(0, .sl 5 (l.map e_Cell)), (3, .ptr 3 0), (5, .sl 5 (x1.1.map e_Cell)), (11, .int .i64 v2.2.1), (12, .int .i64 v2.2.2), (181, .bool (((((decide (0 < v2.2.2)) && (decide (((lget l (w64 (v2.2.2 - 1))).Row) = ((lget l v2.2.2).Row)))) && (decide (((lget l (w64 (v2.2.2 - 1))).Col) = ((lget l v2.2.2).Col)))) || (Op.bytesLess ((lget l v2.2.2).Row) v2.1.From)) || ((!decide (v2.1.To = ([] : List UInt8))) && (!Op.bytesLess ((lget l v2.2.2).Row) v2.1.To))))], [(3, [.str v2.1.From, .str v2.1.To, .int .i64 v2.1.Time, .int .i64 v2.1.Many])], [], [], []⟩ (.cons (fun (ga0 : (decide (0 < v2.2.2)) = true) => (idx_ok e_Cell (h2 ga0))) (.cons (fun (ga0 : (decide (0 < v2.2.2)) = true) => (idx_ok e_Cell (h3 ga0))) (.cons (fun (ga0 : ((decide (0 < v2.2.2)) && (decide (((lget l (w64 (v2.2.2 - 1))).Row) = ((lget l v2.2.2).Row)))) = true) => (idx_ok e_Cell (h4 ga0))) (.cons (fun (ga0 : ((decide (0 < v2.2.2)) && (decide (((lget l (w64 (v2.2.2 - 1))).Row) = ((lget l v2.2.2).Row)))) = true) => (idx_ok e_Cell (h5 ga0))) (.cons (fun (ga0 : (!(((decide (0 < v2.2.2)) && (decide (((lget l (w64 (v2.2.2 - 1))).Row) = ((lget l v2.2.2).Row)))) && (decide (((lget l (w64 (v2.2.2 - 1))).Col) = ((lget l v2.2.2).Col))))) = true) => (idx_ok e_Cell (h6 ga0))) (.cons (fun (ga0 : (!decide (v2.1.To = ([] : List UInt8))) = true) (ga1 : (!((((decide (0 < v2.2.2)) && (decide (((lget l (w64 (v2.2.2 - 1))).Row) = ((lget l v2.2.2).Row)))) && (decide (((lget l (w64 (v2.2.2 - 1))).Col) = ((lget l v2.2.2).Col)))) || (Op.bytesLess ((lget l v2.2.2).Row) v2.1.From))) = true) => (idx_ok e_Cell (h7 ga0 ga1))) .nil)))))) (by kernel_rfl) ?_
                  refine Wk_split rfl (fun hb => ?_) (fun hb => ?_)
                  · have hF := ite_t hF hb
                    refine Wk_exit rfl ?_
                    exact Wk_metP (v2.1, v2.2.1) [0, 3, 5, 11, 12] [3] [] [] [] [] hF (by kernel_rfl)
                  · have hF := ite_f hF hb
                    refine Wk_skip ?_
                    refine Wk_seq ?_
                    obtain ⟨h8, hF⟩ := asrt_elim hF
                    obtain ⟨h9, hF⟩ := asrt_elim hF
                    obtain ⟨x2, h10, hF⟩ := ob_elim hF
                    refine WD [.av (e_Cell (lget l v2.2.2)), .av (e_Cell (lget l v2.2.2)), .callB (.tup [.str x2.1, .bool x2.2.1, .agg [.int .i64 x2.2.2.Code, .int .i64 x2.2.2.At]])] [0, 3, 5, 11, 12, 14, 15] [3, 15] [] [] [] [] ⟨[(0, .sl 5 (l.map e_Cell)), (3, .ptr 3 0), (5, .sl 5 (x1.1.map e_Cell)), (11, .int .i64 v2.2.1), (12, .int .i64 v2.2.2), (14, .bool x2.2.1), (15, .ptr 15 0)], [(3, [.str v2.1.From, .str v2.1.To, .int .i64 v2.1.Time, .int .i64 v2.1.Many]), (15, [.int .i64 x2.2.2.Code, .int .i64 x2.2.2.At])], [], [], []⟩ (.cons (idx_ok e_Cell h8) (.cons (idx_ok e_Cell h9) (.cons (cell_Get_ok l ((lget l v2.2.2).Row) ((lget l v2.2.2).Col) v2.1.Time x2 h10) .nil))) (by kernel_rfl) ?_
                    refine Wk_seq ?_
                    refine Wk_seq ?_
                    refine WR [] [0, 3, 5, 11, 12, 14, 202] [3] [] [] [] [] ⟨[(0, .sl 5 (l.map e_Cell)), (3, .ptr 3 0), (5, .sl 5 (x1.1.map e_Cell)), (11, .int .i64 v2.2.1), (12, .int .i64 v2.2.2), (14, .bool x2.2.1), (202, .bool (!decide (x2.2.2.Code = 0)))], [(3, [.str v2.1.From, .str v2.1.To, .int .i64 v2.1.Time, .int .i64 v2.1.Many])], [], [], []⟩ .nil (by kernel_rfl) ?_
                    refine Wk_split rfl (fun hb => ?_) (fun hb => ?_)
                    · have hF := ite_t hF hb
                      refine Wk_seq ?_
                      refine WR [] [4] [] [] [] [] [] ⟨[(4, .bool false)], [], [], [], []⟩ .nil (by kernel_rfl) ?_
                      have hF := ret_done hF dn1
                      have hF := some_elim hF
                      exact Wk_ret (hfin _ ⟨[], [], [], [], [], [], by first | (rw [← hF]; kernel_rfl) | kernel_rfl⟩)
                    · have hF := ite_f hF hb
                      refine Wk_skip ?_
                      refine Wk_seq ?_
                      refine WR [] [0, 3, 5, 11, 12, 203] [3] [] [] [] [] ⟨[(0, .sl 5 (l.map e_Cell)), (3, .ptr 3 0), (5, .sl 5 (x1.1.map e_Cell)), (11, .int .i64 v2.2.1), (12, .int .i64 v2.2.2), (203, .bool x2.2.1)], [(3, [.str v2.1.From, .str v2.1.To, .int .i64 v2.1.Time, .int .i64 v2.1.Many])], [], [], []⟩ .nil (by kernel_rfl) ?_
                      refine Wk_split rfl (fun hb => ?_) (fun hb => ?_)
                      · have hF := ite_t hF hb
                        refine WR [] [0, 3, 5, 11, 12] [3] [] [] [] [] ⟨[(0, .sl 5 (l.map e_Cell)), (3, .ptr 3 0), (5, .sl 5 (x1.1.map e_Cell)), (11, .int .i64 (w64 (v2.2.1 + 1))), (12, .int .i64 v2.2.2)], [(3, [.str v2.1.From, .str v2.1.To, .int .i64 v2.1.Time, .int .i64 v2.1.Many])], [], [], []⟩ .nil (by kernel_rfl) ?_
                        refine Wk_blk ?_
                        exact Wk_metP (v2.1, w64 (v2.2.1 + 1)) [0, 3, 5, 11, 12] [3] [] [] [] [] hF (by kernel_rfl)
                      · have hF := ite_f hF hb
                        refine Wk_skip ?_
                        refine Wk_blk ?_
                        exact Wk_metP (v2.1, v2.2.1) [0, 3, 5, 11, 12] [3] [] [] [] [] hF (by kernel_rfl)
                · intro v3 hF
                  have hF : law_CellScans_J3 v2 v3 = some y1 := hF
                  unfold law_CellScans_J3 at hF
                  refine WR [] [0, 3, 5, 11, 12] [3] [] [] [] [] ⟨[(0, .sl 5 (l.map e_Cell)), (3, .ptr 3 0), (5, .sl 5 (x1.1.map e_Cell)), (11, .int .i64 v3.2), (12, .int .i64 (w64 (v2.2.2 + 1)))], [(3, [.str v3.1.From, .str v3.1.To, .int .i64 v3.1.Time, .int .i64 v3.1.Many])], [], [], []⟩ .nil (by kernel_rfl) ?_
                  refine Wk_trim (fs := [0, 3, 5, 11, 12]) (bs := [3]) (rs := []) (ms := []) (aa := []) (nv := []) ?_ (ih1 _ (some_elim hF).symm)
                  kernel_rfl
              · have hF := ite_f hF hb
                refine Wk_exit rfl ?_
                have hF := inrO_done hF dn1
                exact Wk_metP v2.2.1 [5, 11] [] [] [] [] [] hF (by kernel_rfl)
            · intro v1 hF
              have hF : law_CellScans_J2 x1 v1 = some r := hF
              unfold law_CellScans_J2 at hF
              refine Wk_seq ?_
              refine WR [.nat (x1.1.length : Int)] [4] [] [] [] [] [] ⟨[(4, .bool (decide (v1 = (x1.1.length : Int))))], [], [], [], []⟩ (.cons (len_ok e_Cell x1.1) .nil) (by kernel_rfl) ?_
              have hF := some_elim hF
              exact Wk_ret (hfin _ ⟨[], [], [], [], [], [], by first | (rw [← hF]; kernel_rfl) | kernel_rfl⟩)

/- wire.AddNum -/
noncomputable def wire_AddNum_v2_J1 (v : List UInt8 × Int) : Option (List UInt8) :=
  asrt (((v.1 ++ ([toU8 v.2] : List UInt8)).length : Int) * 1 ≤ 140737488351232) <|
  some (v.1 ++ ([toU8 v.2] : List UInt8))
noncomputable def wire_AddNum_v2_B1 (v1 : List UInt8 × Int) : Option ((List UInt8 × Int) ⊕ (List UInt8)) :=
  if (decide (127 < v1.2)) = true then
    asrt (((v1.1 ++ ([toU8 (((BitVec.ofInt 8 ((toU8 v1.2).toNat : Int) ||| BitVec.ofInt 8 ((128 : UInt8).toNat : Int)).toNat : Int))] : List UInt8)).length : Int) * 1 ≤ 140737488351232) <|
    lt ((v1.1 ++ ([toU8 (((BitVec.ofInt 8 ((toU8 v1.2).toNat : Int) ||| BitVec.ofInt 8 ((128 : UInt8).toNat : Int)).toNat : Int))] : List UInt8))) fun (v2 : List UInt8) =>
    some (Sum.inl (v2, Int.fdiv v1.2 (2 ^ (min (7 : Int).toNat 64))))
  else
    inrO (wire_AddNum_v2_J1 (v1.1, v1.2))
noncomputable def wire_AddNum_v2_L1 (v0 : List UInt8 × Int) : Option (List UInt8) :=
  loopO (fun y => wire_AddNum_v2_B1 y) v0
noncomputable def wire_AddNum_v2 (num : Int) (row : List UInt8) : Option (List UInt8) :=
  wire_AddNum_v2_L1 (row, num)
theorem wire_AddNum_v2_ok (num : Int) (row : List UInt8) (rk : Nat) (rc : Nat) (rn : Bool) (r : List UInt8) (hF : wire_AddNum_v2 num row = some r) : Pe Try.prog 77 ⟨[], [], [(100000, ⟨5, 1, 0, rk, rc, rn, 0, [], (row.map e_u8)⟩)], [], []⟩ [.row 100000 0, .int .i64 num] (.row 100000 2) ⟨[], [], [(100000, ⟨5, 1, 2, rk, rc, rn, 0, [], (r.map e_u8)⟩)], [], []⟩ := by
  refine Pe_of (N := 20) (res := [.tmp 4]) (ts := [56]) Ty.ok Fn.b77 Try.func77 rfl rfl rfl rfl rfl rfl ?_
  intro Q g hfin
  unfold wire_AddNum_v2 at hF
  refine Wk_seq ?_
  refine WR [] [0, 1] [] [100000] [] [] [] ⟨[(0, .row 100000 0), (1, .int .i64 num)], [], [(100000, ⟨5, 1, 0, rk, rc, rn, 0, [], (row.map e_u8)⟩)], [], []⟩ .nil (by kernel_rfl) ?_
  refine Wk_seq ?_
  refine Wk_meetP (fun v : List UInt8 × Int => (⟨[(0, .row 100000 1), (1, .int .i64 v.2)], [], [(100000, ⟨5, 1, 1, rk, rc, rn, 0, [], (v.1.map e_u8)⟩)], [], []⟩ : S)) (fun v => wire_AddNum_v2_J1 v = some r) ?_ ?_
  · refine Wk_block ?_
    unfold wire_AddNum_v2_L1 at hF
    refine Wk_trim (fs := [0, 1]) (bs := []) (rs := [100000]) (ms := []) (aa := []) (nv := [(100000, ⟨1, true, true, false⟩)]) (t := (fun v1 : List UInt8 × Int => (⟨[(0, .row 100000 1), (1, .int .i64 v1.2)], [], [(100000, ⟨5, 1, 1, rk, rc, rn, 0, [], (v1.1.map e_u8)⟩)], [], []⟩ : S)) (row, num)) (by kernel_rfl) ?_
    refine Wk_iter (step := fun y => wire_AddNum_v2_B1 y) (r := r) (fun v1 : List UInt8 × Int => (⟨[(0, .row 100000 1), (1, .int .i64 v1.2)], [], [(100000, ⟨5, 1, 1, rk, rc, rn, 0, [], (v1.1.map e_u8)⟩)], [], []⟩ : S)) (row, num) hF ?_
    intro n1 v1 y1 hF ih1 dn1
    have hF : wire_AddNum_v2_B1 v1 = some y1 := hF
    unfold wire_AddNum_v2_B1 at hF
    refine Wk_seq ?_
    refine Wk_seq ?_
    refine WR [] [0, 1, 6] [] [100000] [] [] [] ⟨[(0, .row 100000 1), (1, .int .i64 v1.2), (6, .bool (decide (127 < v1.2)))], [], [(100000, ⟨5, 1, 1, rk, rc, rn, 0, [], (v1.1.map e_u8)⟩)], [], []⟩ .nil (by kernel_rfl) ?_
    refine Wk_split rfl (fun hb => ?_) (fun hb => ?_)
    · have hF := ite_t hF hb
      refine Wk_skip ?_
      refine Wk_seq ?_
      refine Wk_block ?_
      obtain ⟨h1, hF⟩ := asrt_elim hF
      refine WRL ((v1.1 ++ ([toU8 (((BitVec.ofInt 8 ((toU8 v1.2).toNat : Int) ||| BitVec.ofInt 8 ((128 : UInt8).toNat : Int)).toNat : Int))] : List UInt8))) (fun v2 : List UInt8 => ⟨[(0, .row 100000 2), (1, .int .i64 v1.2)], [], [(100000, ⟨5, 1, 2, rk, rc, rn, 0, [], (v2.map e_u8)⟩)], [], []⟩) [.sealed, .xs ((v1.1 ++ ([toU8 (((BitVec.ofInt 8 ((toU8 v1.2).toNat : Int) ||| BitVec.ofInt 8 ((128 : UInt8).toNat : Int)).toNat : Int))] : List UInt8)).map e_u8)] [0, 1] [] [100000] [] [] [] (.cons (app_ok e_u8 v1.1 ([toU8 (((BitVec.ofInt 8 ((toU8 v1.2).toNat : Int) ||| BitVec.ofInt 8 ((128 : UInt8).toNat : Int)).toNat : Int))] : List UInt8)) (.cons (appl_ok e_u8 h1) .nil)) (by kernel_rfl) (fun v2 hv => ?_)
      have hF := lt_elim hF hv
      refine Wk_blk ?_
      refine WR [] [0, 1] [] [100000] [] [] [] ⟨[(0, .row 100000 2), (1, .int .i64 (Int.fdiv v1.2 (2 ^ (min (7 : Int).toNat 64))))], [], [(100000, ⟨5, 1, 2, rk, rc, rn, 0, [], (v2.map e_u8)⟩)], [], []⟩ (.cons (by decide : (0 : Int) ≤ 7) .nil) (by kernel_rfl) ?_
      refine Wk_trim (fs := [0, 1]) (bs := []) (rs := [100000]) (ms := []) (aa := []) (nv := [(100000, ⟨1, true, true, false⟩)]) ?_ (ih1 _ (some_elim hF).symm)
      kernel_rfl
    · have hF := ite_f hF hb
      refine Wk_exit rfl ?_
      have hF := inrO_done hF dn1
      exact Wk_metP (v1.1, v1.2) [0, 1] [] [100000] [] [] [] hF (by kernel_rfl)
  · intro v hF
    have hF : wire_AddNum_v2_J1 v = some r := hF
    unfold wire_AddNum_v2_J1 at hF
    refine Wk_seq ?_
    obtain ⟨h0, hF⟩ := asrt_elim hF
    refine WR [.sealed, .xs ((v.1 ++ ([toU8 v.2] : List UInt8)).map e_u8)] [4] [] [100000] [] [] [] ⟨[(4, .row 100000 2)], [], [(100000, ⟨5, 1, 2, rk, rc, rn, 0, [], ((v.1 ++ ([toU8 v.2] : List UInt8)).map e_u8)⟩)], [], []⟩ (.cons (app_ok e_u8 v.1 ([toU8 v.2] : List UInt8)) (.cons (appl_ok e_u8 h0) .nil)) (by kernel_rfl) ?_
    have hF := some_elim hF
    exact Wk_ret (hfin _ ⟨[100000], [], [100000], [], [], [], by first | (rw [← hF]; kernel_rfl) | kernel_rfl⟩)

/- wire.AddText -/
noncomputable def wire_AddText_v2 (s0 : List UInt8) (row : List UInt8) : Option (List UInt8) :=
  ob (wire_AddNum_v2 (s0.length : Int) row) fun x =>
  asrt (((x ++ s0).length : Int) * 1 ≤ 140737488351232) <|
  some (x ++ s0)
theorem wire_AddText_v2_ok (s0 : List UInt8) (row : List UInt8) (rk : Nat) (rc : Nat) (rn : Bool) (r : List UInt8) (hF : wire_AddText_v2 s0 row = some r) : Pe Try.prog 76 ⟨[], [], [(100000, ⟨5, 1, 0, rk, rc, rn, 0, [], (row.map e_u8)⟩)], [], []⟩ [.row 100000 0, .str s0] (.row 100000 3) ⟨[], [], [(100000, ⟨5, 1, 3, rk, rc, rn, 0, [], (r.map e_u8)⟩)], [], []⟩ := by
  refine Pe_of (N := 11) (res := [.tmp 4]) (ts := [56]) Ty.ok Fn.b76 Try.func76 rfl rfl rfl rfl rfl rfl ?_
  intro Q g hfin
  unfold wire_AddText_v2 at hF
  refine Wk_seq ?_
  refine WR [] [0, 1] [] [100000] [] [] [] ⟨[(0, .row 100000 0), (1, .str s0)], [], [(100000, ⟨5, 1, 0, rk, rc, rn, 0, [], (row.map e_u8)⟩)], [], []⟩ .nil (by kernel_rfl) ?_
  refine Wk_seq ?_
  obtain ⟨x, h0, hF⟩ := ob_elim hF
  obtain ⟨h1, hF⟩ := asrt_elim hF
  refine WR [.callE [] [100000] [] [] (.row 100000 2) ⟨[], [], [(100000, ⟨5, 1, 2, rk, rc, rn, 0, [], (x.map e_u8)⟩)], [], []⟩, .xs ((x ++ s0).map e_u8)] [4] [] [100000] [] [] [] ⟨[(4, .row 100000 3)], [], [(100000, ⟨5, 1, 3, rk, rc, rn, 0, [], ((x ++ s0).map e_u8)⟩)], [], []⟩ (.cons (Pe.ren (wire_AddNum_v2_ok (s0.length : Int) row rk rc rn x h0) ⟨[], [], [], []⟩) (.cons (app_ok e_u8 x s0) (.cons (appl_ok e_u8 h1) .nil))) (by kernel_rfl) ?_
  have hF := some_elim hF
  exact Wk_ret (hfin _ ⟨[100000], [], [100000], [], [], [], by first | (rw [← hF]; kernel_rfl) | kernel_rfl⟩)

/- cell.Add -/
noncomputable def cell_Add_v2 (c : Cell) (row : List UInt8) : Option (List UInt8) :=
  ob (wire_AddText_v2 c.Row row) fun x =>
  ob (wire_AddText_v2 c.Col x) fun x1 =>
  ob (
    if c.Gone = true then
      some (c, 1)
    else
      some (c, 0)) fun (v : Cell × Int) =>
  ob (wire_AddNum_v2 v.1.Time x1) fun x2 =>
  ob (wire_AddNum_v2 v.2 x2) fun x3 =>
  ob (wire_AddText_v2 v.1.Value x3) fun x4 =>
  some x4
theorem cell_Add_v2_ok (c : Cell) (row : List UInt8) (rk : Nat) (rc : Nat) (rn : Bool) (r : List UInt8) (hF : cell_Add_v2 c row = some r) : Pe Try.prog 58 ⟨[], [], [(100000, ⟨5, 1, 0, rk, rc, rn, 0, [], (row.map e_u8)⟩)], [], []⟩ [.row 100000 0, .agg [.str c.Row, .str c.Col, .int .i64 c.Time, .bool c.Gone, .str c.Value]] (.row 100000 13) ⟨[], [], [(100000, ⟨5, 1, 13, rk, rc, rn, 0, [], (r.map e_u8)⟩)], [], []⟩ := by
  refine Pe_of (N := 24) (res := [.tmp 4]) (ts := [56]) Ty.ok Fn.b58 Try.func58 rfl rfl rfl rfl rfl rfl ?_
  intro Q g hfin
  unfold cell_Add_v2 at hF
  refine Wk_seq ?_
  refine WR [] [0, 3] [3] [100000] [] [] [] ⟨[(0, .row 100000 0), (3, .ptr 3 0)], [(3, [.str c.Row, .str c.Col, .int .i64 c.Time, .bool c.Gone, .str c.Value])], [(100000, ⟨5, 1, 0, rk, rc, rn, 0, [], (row.map e_u8)⟩)], [], []⟩ .nil (by kernel_rfl) ?_
  refine Wk_seq ?_
  obtain ⟨x, h0, hF⟩ := ob_elim hF
  obtain ⟨x1, h1, hF⟩ := ob_elim hF
  refine WD [.callE [] [100000] [] [] (.row 100000 3) ⟨[], [], [(100000, ⟨5, 1, 3, rk, rc, rn, 0, [], (x.map e_u8)⟩)], [], []⟩, .callE [] [100000] [] [] (.row 100000 6) ⟨[], [], [(100000, ⟨5, 1, 6, rk, rc, rn, 0, [], (x1.map e_u8)⟩)], [], []⟩] [0, 3] [3] [100000] [] [] [] ⟨[(0, .row 100000 6), (3, .ptr 3 0)], [(3, [.str c.Row, .str c.Col, .int .i64 c.Time, .bool c.Gone, .str c.Value])], [(100000, ⟨5, 1, 6, rk, rc, rn, 0, [], (x1.map e_u8)⟩)], [], []⟩ (.cons (Pe.ren (wire_AddText_v2_ok c.Row row rk rc rn x h0) ⟨[], [], [], []⟩) (.cons (Pe.ren (wire_AddText_v2_ok c.Col x rk rc rn x1 h1) ⟨[], [], [], [(100000, 3)]⟩) .nil)) (by kernel_rfl) ?_
  refine Wk_seq ?_
  refine WR [] [0, 3, 5] [3] [100000] [] [] [] ⟨[(0, .row 100000 6), (3, .ptr 3 0), (5, .int .i64 0)], [(3, [.str c.Row, .str c.Col, .int .i64 c.Time, .bool c.Gone, .str c.Value])], [(100000, ⟨5, 1, 6, rk, rc, rn, 0, [], (x1.map e_u8)⟩)], [], []⟩ .nil (by kernel_rfl) ?_
  refine Wk_seq ?_
  refine Wk_seq ?_
  refine WR [] [0, 3, 5, 14] [3] [100000] [] [] [] ⟨[(0, .row 100000 6), (3, .ptr 3 0), (5, .int .i64 0), (14, .bool c.Gone)], [(3, [.str c.Row, .str c.Col, .int .i64 c.Time, .bool c.Gone, .str c.Value])], [(100000, ⟨5, 1, 6, rk, rc, rn, 0, [], (x1.map e_u8)⟩)], [], []⟩ .nil (by kernel_rfl) ?_
  obtain ⟨v, hv, hF⟩ := ob_elim hF
  refine Wk_meet (⟨[(0, .row 100000 6), (3, .ptr 3 0), (5, .int .i64 v.2)], [(3, [.str v.1.Row, .str v.1.Col, .int .i64 v.1.Time, .bool v.1.Gone, .str v.1.Value])], [(100000, ⟨5, 1, 6, rk, rc, rn, 0, [], (x1.map e_u8)⟩)], [], []⟩ : S) ?_ ?_
  · have hF := hv
    refine Wk_split rfl (fun hb => ?_) (fun hb => ?_)
    · have hF := ite_t hF hb
      refine WR [] [0, 3, 5] [3] [100000] [] [] [] ⟨[(0, .row 100000 6), (3, .ptr 3 0), (5, .int .i64 1)], [(3, [.str c.Row, .str c.Col, .int .i64 c.Time, .bool c.Gone, .str c.Value])], [(100000, ⟨5, 1, 6, rk, rc, rn, 0, [], (x1.map e_u8)⟩)], [], []⟩ .nil (by kernel_rfl) ?_
      exact Wk_met (fs := [0, 3, 5]) (bs := [3]) (rs := [100000]) (ms := []) (aa := []) (nv := []) (by first | (rw [← some_elim hF]; kernel_rfl) | kernel_rfl)
    · have hF := ite_f hF hb
      refine Wk_skip ?_
      exact Wk_met (fs := [0, 3, 5]) (bs := [3]) (rs := [100000]) (ms := []) (aa := []) (nv := []) (by first | (rw [← some_elim hF]; kernel_rfl) | kernel_rfl)
  · refine Wk_seq ?_
    obtain ⟨x2, h2, hF⟩ := ob_elim hF
    obtain ⟨x3, h3, hF⟩ := ob_elim hF
    obtain ⟨x4, h4, hF⟩ := ob_elim hF
    refine WD [.callE [] [100000] [] [] (.row 100000 8) ⟨[], [], [(100000, ⟨5, 1, 8, rk, rc, rn, 0, [], (x2.map e_u8)⟩)], [], []⟩, .callE [] [100000] [] [] (.row 100000 10) ⟨[], [], [(100000, ⟨5, 1, 10, rk, rc, rn, 0, [], (x3.map e_u8)⟩)], [], []⟩, .callE [] [100000] [] [] (.row 100000 13) ⟨[], [], [(100000, ⟨5, 1, 13, rk, rc, rn, 0, [], (x4.map e_u8)⟩)], [], []⟩] [4] [] [100000] [] [] [] ⟨[(4, .row 100000 13)], [], [(100000, ⟨5, 1, 13, rk, rc, rn, 0, [], (x4.map e_u8)⟩)], [], []⟩ (.cons (Pe.ren (wire_AddNum_v2_ok v.1.Time x1 rk rc rn x2 h2) ⟨[], [], [], [(100000, 6)]⟩) (.cons (Pe.ren (wire_AddNum_v2_ok v.2 x2 rk rc rn x3 h3) ⟨[], [], [], [(100000, 8)]⟩) (.cons (Pe.ren (wire_AddText_v2_ok v.1.Value x3 rk rc rn x4 h4) ⟨[], [], [], [(100000, 10)]⟩) .nil))) (by kernel_rfl) ?_
    have hF := some_elim hF
    exact Wk_ret (hfin _ ⟨[100000], [], [100000], [], [], [], by first | (rw [← hF]; kernel_rfl) | kernel_rfl⟩)

/- cell.Write -/
noncomputable def cell_Write_v1_J1 (v : Fault × List UInt8) : Option (List UInt8 × Fault) :=
  some (v.2, (⟨0, 0⟩ : Fault))
noncomputable def cell_Write_v1_B1 (l : List Cell) (v1 : Fault × List UInt8 × Int) : Option ((Fault × List UInt8 × Int) ⊕ (List UInt8 × Fault)) :=
  if (decide (v1.2.2 < (l.length : Int))) = true then
    asrt (0 ≤ v1.2.2 ∧ v1.2.2 < (l.length : Int)) <|
    ob (cell_Add_v2 (⟨(lget l v1.2.2).Row, (lget l v1.2.2).Col, (lget l v1.2.2).Time, (lget l v1.2.2).Gone, (lget l v1.2.2).Value⟩ : Cell) v1.2.1) fun x1 =>
    if (decide (60000 < (x1.length : Int))) = true then
      lt (cell_fault 9 0) fun x2 =>
      some (Sum.inr (([] : List UInt8), x2))
    else
      some (Sum.inl (v1.1, x1, w64 (v1.2.2 + 1)))
  else
    inrO (cell_Write_v1_J1 (v1.1, v1.2.1))
noncomputable def cell_Write_v1_L1 (l : List Cell) (v0 : Fault × List UInt8 × Int) : Option (List UInt8 × Fault) :=
  loopO (fun y => cell_Write_v1_B1 l y) v0
noncomputable def cell_Write_v1 (l : List Cell) : Option (List UInt8 × Fault) :=
  ob (cell_Check l) fun x =>
  if (!decide (x.Code = 0)) = true then
    some (([] : List UInt8), x)
  else
    cell_Write_v1_L1 l ((⟨0, 0⟩ : Fault), ([] : List UInt8), 0)
theorem cell_Write_v1_ok (l : List Cell) (r : List UInt8 × Fault) (hF : cell_Write_v1 l = some r) : Pe Try.prog 33 S.none [.sl 5 (l.map e_Cell)] (.tup [.sl 1 (r.1.map e_u8), .agg [.int .i64 r.2.Code, .int .i64 r.2.At]]) S.none := by
  refine Pe_of (N := 30) (res := [.tmp 2, .cell 3 28]) (ts := [56, 28]) Ty.ok Fn.b33 Try.func33 rfl rfl rfl rfl rfl rfl ?_
  intro Q g hfin
  unfold cell_Write_v1 at hF
  refine Wk_seq ?_
  refine WR [] [0, 3] [3] [] [] [] [] ⟨[(0, .sl 5 (l.map e_Cell)), (3, .ptr 3 0)], [(3, [.int .i64 0, .int .i64 0])], [], [], []⟩ .nil (by kernel_rfl) ?_
  refine Wk_seq ?_
  refine Wk_seq ?_
  obtain ⟨x, h0, hF⟩ := ob_elim hF
  refine WR [.callB (.agg [.int .i64 x.Code, .int .i64 x.At])] [0, 3, 4] [3, 4] [] [] [] [] ⟨[(0, .sl 5 (l.map e_Cell)), (3, .ptr 3 0), (4, .ptr 4 0)], [(3, [.int .i64 0, .int .i64 0]), (4, [.int .i64 x.Code, .int .i64 x.At])], [], [], []⟩ (.cons (cell_Check_ok l x h0) .nil) (by kernel_rfl) ?_
  refine Wk_seq ?_
  refine WR [] [0, 3, 4, 12] [3, 4] [] [] [] [] ⟨[(0, .sl 5 (l.map e_Cell)), (3, .ptr 3 0), (4, .ptr 4 0), (12, .bool (!decide (x.Code = 0)))], [(3, [.int .i64 0, .int .i64 0]), (4, [.int .i64 x.Code, .int .i64 x.At])], [], [], []⟩ .nil (by kernel_rfl) ?_
  refine Wk_split rfl (fun hb => ?_) (fun hb => ?_)
  · have hF := ite_t hF hb
    refine Wk_seq ?_
    refine WD [] [2, 3] [3] [] [] [] [] ⟨[(2, .nils), (3, .ptr 3 0)], [(3, [.int .i64 x.Code, .int .i64 x.At])], [], [], []⟩ .nil (by kernel_rfl) ?_
    have hF := some_elim hF
    exact Wk_ret (hfin _ ⟨[], [], [], [], [], [], by first | (rw [← hF]; kernel_rfl) | kernel_rfl⟩)
  · have hF := ite_f hF hb
    refine Wk_skip ?_
    refine Wk_seq ?_
    refine WR [] [0, 3, 5] [3] [] [] [] [] ⟨[(0, .sl 5 (l.map e_Cell)), (3, .ptr 3 0), (5, .nils)], [(3, [.int .i64 0, .int .i64 0])], [], [], []⟩ .nil (by kernel_rfl) ?_
    refine Wk_seq ?_
    refine Wk_seq ?_
    refine WR [.nat (l.length : Int)] [3, 5, 14, 15, 16] [3] [] [] [] [] ⟨[(3, .ptr 3 0), (5, .nils), (14, .sl 5 (l.map e_Cell)), (15, .int .i64 (l.length : Int)), (16, .int .i64 0)], [(3, [.int .i64 0, .int .i64 0])], [], [], []⟩ (.cons (len_ok e_Cell l) .nil) (by kernel_rfl) ?_
    refine Wk_meetP (fun v : Fault × List UInt8 => (⟨[(3, .ptr 3 0), (5, .row 22 0)], [(3, [.int .i64 v.1.Code, .int .i64 v.1.At])], [(22, ⟨5, 1, 0, 0, 0, true, 0, [], (v.2.map e_u8)⟩)], [], []⟩ : S)) (fun v => cell_Write_v1_J1 v = some r) ?_ ?_
    · refine Wk_block ?_
      unfold cell_Write_v1_L1 at hF
      refine Wk_nilrow 5 60000 5 1 rfl rfl rfl ?_
      refine Wk_trim (fs := [3, 5, 14, 15, 16]) (bs := [3]) (rs := [60000]) (ms := []) (aa := []) (nv := []) rfl ?_
      refine Wk_ren' ⟨[], [(60000, 22)], [], []⟩ rfl ?_
      refine Wk_trim (fs := [3, 5, 14, 15, 16]) (bs := [3]) (rs := [22]) (ms := []) (aa := []) (nv := []) (t := (fun v1 : Fault × List UInt8 × Int => (⟨[(3, .ptr 3 0), (5, .row 22 0), (14, .sl 5 (l.map e_Cell)), (15, .int .i64 (l.length : Int)), (16, .int .i64 v1.2.2)], [(3, [.int .i64 v1.1.Code, .int .i64 v1.1.At])], [(22, ⟨5, 1, 0, 0, 0, true, 0, [], (v1.2.1.map e_u8)⟩)], [], []⟩ : S)) ((⟨0, 0⟩ : Fault), ([] : List UInt8), 0)) (by kernel_rfl) ?_
      refine Wk_iter (step := fun y => cell_Write_v1_B1 l y) (r := r) (fun v1 : Fault × List UInt8 × Int => (⟨[(3, .ptr 3 0), (5, .row 22 0), (14, .sl 5 (l.map e_Cell)), (15, .int .i64 (l.length : Int)), (16, .int .i64 v1.2.2)], [(3, [.int .i64 v1.1.Code, .int .i64 v1.1.At])], [(22, ⟨5, 1, 0, 0, 0, true, 0, [], (v1.2.1.map e_u8)⟩)], [], []⟩ : S)) ((⟨0, 0⟩ : Fault), ([] : List UInt8), 0) hF ?_
      intro n1 v1 y1 hF ih1 dn1
      have hF : cell_Write_v1_B1 l v1 = some y1 := hF
      unfold cell_Write_v1_B1 at hF
      refine Wk_seq ?_
      refine WR [] [3, 5, 14, 15, 16, 17] [3] [22] [] [] [] ⟨[(3, .ptr 3 0), (5, .row 22 0), (14, .sl 5 (l.map e_Cell)), (15, .int .i64 (l.length : Int)), (16, .int .i64 v1.2.2), (17, .bool (decide (v1.2.2 < (l.length : Int))))], [(3, [.int .i64 v1.1.Code, .int .i64 v1.1.At])], [(22, ⟨5, 1, 0, 0, 0, true, 0, [], (v1.2.1.map e_u8)⟩)], [], []⟩ .nil (by kernel_rfl) ?_
      refine Wk_seq ?_
      refine Wk_split rfl (fun hb => ?_) (fun hb => ?_)
      · have hF := ite_t hF hb
        refine Wk_skip ?_
        refine Wk_seq ?_
        refine Wk_block ?_
        refine Wk_seq ?_
        obtain ⟨h1, hF⟩ := asrt_elim hF
        refine WR [.av (e_Cell (lget l v1.2.2))] [3, 5, 7, 14, 15, 16] [3, 7] [22] [] [] [] ⟨[(3, .ptr 3 0), (5, .row 22 0), (7, .ptr 7 0), (14, .sl 5 (l.map e_Cell)), (15, .int .i64 (l.length : Int)), (16, .int .i64 v1.2.2)], [(3, [.int .i64 v1.1.Code, .int .i64 v1.1.At]), (7, [.str ((lget l v1.2.2).Row), .str ((lget l v1.2.2).Col), .int .i64 ((lget l v1.2.2).Time), .bool ((lget l v1.2.2).Gone), .str ((lget l v1.2.2).Value)])], [(22, ⟨5, 1, 0, 0, 0, true, 0, [], (v1.2.1.map e_u8)⟩)], [], []⟩ (.cons (idx_ok e_Cell h1) .nil) (by kernel_rfl) ?_
        refine Wk_seq ?_
        obtain ⟨x1, h2, hF⟩ := ob_elim hF
        refine WR [.callE [] [22] [] [] (.row 22 13) ⟨[], [], [(22, ⟨5, 1, 13, 0, 0, true, 0, [], (x1.map e_u8)⟩)], [], []⟩] [3, 5, 14, 15, 16] [3] [22] [] [] [] ⟨[(3, .ptr 3 0), (5, .row 22 13), (14, .sl 5 (l.map e_Cell)), (15, .int .i64 (l.length : Int)), (16, .int .i64 v1.2.2)], [(3, [.int .i64 v1.1.Code, .int .i64 v1.1.At])], [(22, ⟨5, 1, 13, 0, 0, true, 0, [], (x1.map e_u8)⟩)], [], []⟩ (.cons (Pe.ren (cell_Add_v2_ok (⟨(lget l v1.2.2).Row, (lget l v1.2.2).Col, (lget l v1.2.2).Time, (lget l v1.2.2).Gone, (lget l v1.2.2).Value⟩ : Cell) v1.2.1 0 0 true x1 h2) ⟨[], [(100000, 22)], [], []⟩) .nil) (by kernel_rfl) ?_
        refine Wk_seq ?_
        refine WR [.nat (x1.length : Int)] [3, 5, 14, 15, 16, 25] [3] [22] [] [] [] ⟨[(3, .ptr 3 0), (5, .row 22 13), (14, .sl 5 (l.map e_Cell)), (15, .int .i64 (l.length : Int)), (16, .int .i64 v1.2.2), (25, .bool (decide (60000 < (x1.length : Int))))], [(3, [.int .i64 v1.1.Code, .int .i64 v1.1.At])], [(22, ⟨5, 1, 13, 0, 0, true, 0, [], (x1.map e_u8)⟩)], [], []⟩ (.cons (len_ok e_u8 x1) .nil) (by kernel_rfl) ?_
        refine Wk_split rfl (fun hb => ?_) (fun hb => ?_)
        · have hF := ite_t hF hb
          refine Wk_seq ?_
          obtain ⟨x2, h3, hF⟩ := lt_split hF
          refine WR [.callB (.agg [.int .i64 x2.Code, .int .i64 x2.At])] [2, 3] [3] [] [] [] [] ⟨[(2, .nils), (3, .ptr 3 0)], [(3, [.int .i64 x2.Code, .int .i64 x2.At])], [], [], []⟩ (.cons (cell_fault_ok 9 0 x2 h3) .nil) (by kernel_rfl) ?_
          have hF := ret_done hF dn1
          have hF := some_elim hF
          exact Wk_ret (hfin _ ⟨[], [], [], [], [], [], by first | (rw [← hF]; kernel_rfl) | kernel_rfl⟩)
        · have hF := ite_f hF hb
          refine Wk_skip ?_
          refine Wk_blk ?_
          refine WR [] [3, 5, 14, 15, 16] [3] [22] [] [] [] ⟨[(3, .ptr 3 0), (5, .row 22 13), (14, .sl 5 (l.map e_Cell)), (15, .int .i64 (l.length : Int)), (16, .int .i64 (w64 (v1.2.2 + 1)))], [(3, [.int .i64 v1.1.Code, .int .i64 v1.1.At])], [(22, ⟨5, 1, 13, 0, 0, true, 0, [], (x1.map e_u8)⟩)], [], []⟩ .nil (by kernel_rfl) ?_
          refine Wk_trim (fs := [3, 5, 14, 15, 16]) (bs := [3]) (rs := [22]) (ms := []) (aa := []) (nv := [(22, ⟨0, true, true, false⟩)]) ?_ (ih1 _ (some_elim hF).symm)
          kernel_rfl
      · have hF := ite_f hF hb
        refine Wk_exit rfl ?_
        have hF := inrO_done hF dn1
        exact Wk_metP (v1.1, v1.2.1) [3, 5] [3] [22] [] [] [] hF (by kernel_rfl)
    · intro v hF
      have hF : cell_Write_v1_J1 v = some r := hF
      unfold cell_Write_v1_J1 at hF
      refine Wk_seq ?_
      refine WR [] [2, 3] [3] [22] [] [] [] ⟨[(2, .row 22 0), (3, .ptr 3 0)], [(3, [.int .i64 0, .int .i64 0])], [(22, ⟨5, 1, 0, 0, 0, true, 0, [], (v.2.map e_u8)⟩)], [], []⟩ .nil (by kernel_rfl) ?_
      have hF := some_elim hF
      exact Wk_ret (hfin _ ⟨[], [], [], [], [], [], by first | (rw [← hF]; kernel_rfl) | kernel_rfl⟩)

/- tabularylaw.ownBytes -/
noncomputable def law_ownBytes_v1 (b : List UInt8) : Option (List UInt8) :=
  asrt ((b.length : Int) * 1 ≤ 140737488351232) <|
  some b
theorem law_ownBytes_v1_ok (b : List UInt8) (r : List UInt8) (hF : law_ownBytes_v1 b = some r) : Pe Try.prog 35 S.none [.sl 1 (b.map e_u8)] (.sl 1 (r.map e_u8)) S.none := by
  refine Pe_of (N := 5) (res := [.tmp 2]) (ts := [56]) Ty.ok Fn.b35 Try.func35 rfl rfl rfl rfl rfl rfl ?_
  intro Q g hfin
  unfold law_ownBytes_v1 at hF
  refine Wk_seq ?_
  refine WR [] [0] [] [] [] [] [] ⟨[(0, .sl 1 (b.map e_u8))], [], [], [], []⟩ .nil (by kernel_rfl) ?_
  refine Wk_seq ?_
  obtain ⟨h0, hF⟩ := asrt_elim hF
  refine WR [.xs (b.map e_u8)] [2] [] [4] [] [] [] ⟨[(2, .row 4 1)], [], [(4, ⟨5, 1, 1, 0, 0, true, 0, [], (b.map e_u8)⟩)], [], []⟩ (.cons (app0_ok e_u8 b) (.cons (appl_ok e_u8 h0) .nil)) (by kernel_rfl) ?_
  have hF := some_elim hF
  exact Wk_ret (hfin _ ⟨[], [], [], [], [], [], by first | (rw [← hF]; kernel_rfl) | kernel_rfl⟩)

/- wire.Read -/
noncomputable def wire_Read (b : List UInt8) : Reader :=
  (⟨b, false⟩ : Reader)
theorem wire_Read_ok (b : List UInt8) (r : Reader) (hF : wire_Read b = r) : Pe Try.prog 59 ⟨[], [], [], [], []⟩ [.sl 1 (b.map e_u8)] (.ptr 5 0) ⟨[], [(5, [.sl 1 (r.b.map e_u8), .bool r.bad])], [], [], []⟩ := by
  refine Pe_of (N := 6) (res := [.tmp 2]) (ts := [75]) Ty.ok Fn.b59 Try.func59 rfl rfl rfl rfl rfl rfl ?_
  intro Q g hfin
  unfold wire_Read at hF
  refine Wk_seq ?_
  refine WR [] [0] [] [] [] [] [] ⟨[(0, .sl 1 (b.map e_u8))], [], [], [], []⟩ .nil (by kernel_rfl) ?_
  refine Wk_seq ?_
  refine WR [] [2] [5] [] [] [] [] ⟨[(2, .ptr 5 0)], [(5, [.sl 1 (b.map e_u8), .bool false])], [], [], []⟩ .nil (by kernel_rfl) ?_
  exact Wk_ret (hfin _ ⟨[], [5], [], [], [], [], by first | (rw [← hF]; kernel_rfl) | kernel_rfl⟩)

/- (*wire.Reader).More -/
noncomputable def wire_Reader_More (box : Reader) : Bool :=
  decide (0 < (box.b.length : Int))
theorem wire_Reader_More_ok (box : Reader) (r : Bool) (hF : wire_Reader_More box = r) : Pe Try.prog 60 ⟨[], [(100000, [.sl 1 (box.b.map e_u8), .bool box.bad])], [], [], []⟩ [.ptr 100000 0] (.bool r) ⟨[], [(100000, [.sl 1 (box.b.map e_u8), .bool box.bad])], [], [], []⟩ := by
  refine Pe_of (N := 9) (res := [.tmp 2]) (ts := [4]) Ty.ok Fn.b60 Try.func60 rfl rfl rfl rfl rfl rfl ?_
  intro Q g hfin
  unfold wire_Reader_More at hF
  refine Wk_seq ?_
  refine WR [] [0] [100000] [] [] [] [] ⟨[(0, .ptr 100000 0)], [(100000, [.sl 1 (box.b.map e_u8), .bool box.bad])], [], [], []⟩ .nil (by kernel_rfl) ?_
  refine Wk_seq ?_
  refine WR [.nat (box.b.length : Int)] [2] [100000] [] [] [] [] ⟨[(2, .bool (decide (0 < (box.b.length : Int))))], [(100000, [.sl 1 (box.b.map e_u8), .bool box.bad])], [], [], []⟩ (.cons (len_ok e_u8 box.b) .nil) (by kernel_rfl) ?_
  exact Wk_ret (hfin _ ⟨[], [100000], [], [], [], [], by first | (rw [← hF]; kernel_rfl) | kernel_rfl⟩)

/- (*wire.Reader).Num -/
noncomputable def wire_Reader_Num_J1 (v : Reader) : Option (Int × Reader) :=
  some (0, (⟨([] : List UInt8), true⟩ : Reader))
noncomputable def wire_Reader_Num_B1 (v1 : Reader × Int × List UInt8 × Int × Int) : Option ((Reader × Int × List UInt8 × Int × Int) ⊕ (Int × Reader)) :=
  if (decide (v1.2.2.2.2 < v1.2.2.2.1)) = true then
    asrt (0 ≤ v1.2.2.2.2 ∧ v1.2.2.2.2 < (v1.2.2.1.length : Int)) <|
    asrt (0 ≤ (w64 (7 * v1.2.2.2.2))) <|
    lt (bitsOp .or .i64 v1.2.1 (w64 ((w64 ((toU8 (((BitVec.ofInt 8 ((lget v1.2.2.1 v1.2.2.2.2).toNat : Int) &&& BitVec.ofInt 8 ((127 : UInt8).toNat : Int)).toNat : Int))).toNat : Int)) * 2 ^ (min (w64 (7 * v1.2.2.2.2)).toNat 64)))) fun (v2 : Int) =>
    if ((decide (4 < v1.2.2.2.2)) || (decide (1000000000 < v2))) = true then
      inrO (wire_Reader_Num_J1 v1.1)
    else
      if (decide (((lget v1.2.2.1 v1.2.2.2.2).toNat : Int) < ((128 : UInt8).toNat : Int))) = true then
        if ((decide (0 < v1.2.2.2.2)) && (decide (((lget v1.2.2.1 v1.2.2.2.2).toNat : Int) = ((0 : UInt8).toNat : Int)))) = true then
          inrO (wire_Reader_Num_J1 v1.1)
        else
          asrt (0 ≤ w64 (v1.2.2.2.2 + 1) ∧ w64 (v1.2.2.2.2 + 1) ≤ (v1.1.b.length : Int)) <|
          some (Sum.inr (v2, (⟨(ldrop v1.1.b (w64 (v1.2.2.2.2 + 1))), v1.1.bad⟩ : Reader)))
      else
        some (Sum.inl (v1.1, v2, v1.2.2.1, v1.2.2.2.1, w64 (v1.2.2.2.2 + 1)))
  else
    inrO (wire_Reader_Num_J1 v1.1)
noncomputable def wire_Reader_Num_L1 (v0 : Reader × Int × List UInt8 × Int × Int) : Option (Int × Reader) :=
  loopO (fun y => wire_Reader_Num_B1 y) v0
noncomputable def wire_Reader_Num (box : Reader) : Option (Int × Reader) :=
  wire_Reader_Num_L1 (box, 0, box.b, (box.b.length : Int), 0)
theorem wire_Reader_Num_ok (box : Reader) (r : Int × Reader) (hF : wire_Reader_Num box = some r) : Pe Try.prog 79 ⟨[], [(100000, [.sl 1 (box.b.map e_u8), .bool box.bad])], [], [], []⟩ [.ptr 100000 0] (.int .i64 r.1) ⟨[], [(100000, [.sl 1 (r.2.b.map e_u8), .bool r.2.bad])], [], [], []⟩ := by
  refine Pe_of (N := 56) (res := [.tmp 2]) (ts := [3]) Ty.ok Fn.b79 Try.func79 rfl rfl rfl rfl rfl rfl ?_
  intro Q g hfin
  unfold wire_Reader_Num at hF
  refine Wk_seq ?_
  refine WR [] [0] [100000] [] [] [] [] ⟨[(0, .ptr 100000 0)], [(100000, [.sl 1 (box.b.map e_u8), .bool box.bad])], [], [], []⟩ .nil (by kernel_rfl) ?_
  refine Wk_seq ?_
  refine WR [] [0, 3] [100000] [] [] [] [] ⟨[(0, .ptr 100000 0), (3, .int .i64 0)], [(100000, [.sl 1 (box.b.map e_u8), .bool box.bad])], [], [], []⟩ .nil (by kernel_rfl) ?_
  refine Wk_seq ?_
  refine Wk_seq ?_
  refine WR [.nat (box.b.length : Int)] [0, 3, 9, 10, 11] [100000] [] [] [] [] ⟨[(0, .ptr 100000 0), (3, .int .i64 0), (9, .sl 1 (box.b.map e_u8)), (10, .int .i64 (box.b.length : Int)), (11, .int .i64 0)], [(100000, [.sl 1 (box.b.map e_u8), .bool box.bad])], [], [], []⟩ (.cons (len_ok e_u8 box.b) .nil) (by kernel_rfl) ?_
  refine Wk_meetP (fun v : Reader => (⟨[(0, .ptr 100000 0)], [(100000, [.sl 1 (v.b.map e_u8), .bool v.bad])], [], [], []⟩ : S)) (fun v => wire_Reader_Num_J1 v = some r) ?_ ?_
  · refine Wk_block ?_
    unfold wire_Reader_Num_L1 at hF
    refine Wk_trim (fs := [0, 3, 9, 10, 11]) (bs := [100000]) (rs := []) (ms := []) (aa := []) (nv := []) (t := (fun v1 : Reader × Int × List UInt8 × Int × Int => (⟨[(0, .ptr 100000 0), (3, .int .i64 v1.2.1), (9, .sl 1 (v1.2.2.1.map e_u8)), (10, .int .i64 v1.2.2.2.1), (11, .int .i64 v1.2.2.2.2)], [(100000, [.sl 1 (v1.1.b.map e_u8), .bool v1.1.bad])], [], [], []⟩ : S)) (box, 0, box.b, (box.b.length : Int), 0)) (by kernel_rfl) ?_
    refine Wk_iter (step := fun y => wire_Reader_Num_B1 y) (r := r) (fun v1 : Reader × Int × List UInt8 × Int × Int => (⟨[(0, .ptr 100000 0), (3, .int .i64 v1.2.1), (9, .sl 1 (v1.2.2.1.map e_u8)), (10, .int .i64 v1.2.2.2.1), (11, .int .i64 v1.2.2.2.2)], [(100000, [.sl 1 (v1.1.b.map e_u8), .bool v1.1.bad])], [], [], []⟩ : S)) (box, 0, box.b, (box.b.length : Int), 0) hF ?_
    intro n1 v1 y1 hF ih1 dn1
    have hF : wire_Reader_Num_B1 v1 = some y1 := hF
    unfold wire_Reader_Num_B1 at hF
    refine Wk_seq ?_
    refine WR [] [0, 3, 9, 10, 11, 12] [100000] [] [] [] [] ⟨[(0, .ptr 100000 0), (3, .int .i64 v1.2.1), (9, .sl 1 (v1.2.2.1.map e_u8)), (10, .int .i64 v1.2.2.2.1), (11, .int .i64 v1.2.2.2.2), (12, .bool (decide (v1.2.2.2.2 < v1.2.2.2.1)))], [(100000, [.sl 1 (v1.1.b.map e_u8), .bool v1.1.bad])], [], [], []⟩ .nil (by kernel_rfl) ?_
    refine Wk_seq ?_
    refine Wk_split rfl (fun hb => ?_) (fun hb => ?_)
    · have hF := ite_t hF hb
      refine Wk_skip ?_
      refine Wk_seq ?_
      refine Wk_block ?_
      refine Wk_seq ?_
      obtain ⟨h0, hF⟩ := asrt_elim hF
      refine WR [.av (e_u8 (lget v1.2.2.1 v1.2.2.2.2))] [0, 3, 4, 5, 9, 10, 11] [100000] [] [] [] [] ⟨[(0, .ptr 100000 0), (3, .int .i64 v1.2.1), (4, .int .i64 v1.2.2.2.2), (5, .int .u8 (((lget v1.2.2.1 v1.2.2.2.2)).toNat : Int)), (9, .sl 1 (v1.2.2.1.map e_u8)), (10, .int .i64 v1.2.2.2.1), (11, .int .i64 v1.2.2.2.2)], [(100000, [.sl 1 (v1.1.b.map e_u8), .bool v1.1.bad])], [], [], []⟩ (.cons (idx_ok e_u8 h0) .nil) (by kernel_rfl) ?_
      refine Wk_seq ?_
      refine Wk_seq ?_
      obtain ⟨h1, hF⟩ := asrt_elim hF
      refine WRL (bitsOp .or .i64 v1.2.1 (w64 ((w64 ((toU8 (((BitVec.ofInt 8 ((lget v1.2.2.1 v1.2.2.2.2).toNat : Int) &&& BitVec.ofInt 8 ((127 : UInt8).toNat : Int)).toNat : Int))).toNat : Int)) * 2 ^ (min (w64 (7 * v1.2.2.2.2)).toNat 64)))) (fun v2 : Int => ⟨[(0, .ptr 100000 0), (3, .int .i64 v2), (4, .int .i64 v1.2.2.2.2), (5, .int .u8 (((lget v1.2.2.1 v1.2.2.2.2)).toNat : Int)), (9, .sl 1 (v1.2.2.1.map e_u8)), (10, .int .i64 v1.2.2.2.1), (11, .int .i64 v1.2.2.2.2)], [(100000, [.sl 1 (v1.1.b.map e_u8), .bool v1.1.bad])], [], [], []⟩) [] [0, 3, 4, 5, 9, 10, 11] [100000] [] [] [] [] (.cons h1 .nil) (by kernel_rfl) (fun v2 hv => ?_)
      have hF := lt_elim hF hv
      refine Wk_seq ?_
      refine WR [] [0, 3, 4, 5, 9, 10, 11, 29] [100000] [] [] [] [] ⟨[(0, .ptr 100000 0), (3, .int .i64 v2), (4, .int .i64 v1.2.2.2.2), (5, .int .u8 (((lget v1.2.2.1 v1.2.2.2.2)).toNat : Int)), (9, .sl 1 (v1.2.2.1.map e_u8)), (10, .int .i64 v1.2.2.2.1), (11, .int .i64 v1.2.2.2.2), (29, .bool ((decide (4 < v1.2.2.2.2)) || (decide (1000000000 < v2))))], [(100000, [.sl 1 (v1.1.b.map e_u8), .bool v1.1.bad])], [], [], []⟩ .nil (by kernel_rfl) ?_
      refine Wk_split rfl (fun hb => ?_) (fun hb => ?_)
      · have hF := ite_t hF hb
        refine Wk_exit rfl ?_
        have hF := inrO_done hF dn1
        exact Wk_metP v1.1 [0] [100000] [] [] [] [] hF (by kernel_rfl)
      · have hF := ite_f hF hb
        refine Wk_skip ?_
        refine Wk_seq ?_
        refine WR [] [0, 3, 4, 5, 9, 10, 11, 31] [100000] [] [] [] [] ⟨[(0, .ptr 100000 0), (3, .int .i64 v2), (4, .int .i64 v1.2.2.2.2), (5, .int .u8 (((lget v1.2.2.1 v1.2.2.2.2)).toNat : Int)), (9, .sl 1 (v1.2.2.1.map e_u8)), (10, .int .i64 v1.2.2.2.1), (11, .int .i64 v1.2.2.2.2), (31, .bool (decide (((lget v1.2.2.1 v1.2.2.2.2).toNat : Int) < ((128 : UInt8).toNat : Int))))], [(100000, [.sl 1 (v1.1.b.map e_u8), .bool v1.1.bad])], [], [], []⟩ .nil (by kernel_rfl) ?_
        refine Wk_split rfl (fun hb => ?_) (fun hb => ?_)
        · have hF := ite_t hF hb
          refine Wk_seq ?_
          refine Wk_seq ?_
          refine WR [] [0, 3, 4, 37] [100000] [] [] [] [] ⟨[(0, .ptr 100000 0), (3, .int .i64 v2), (4, .int .i64 v1.2.2.2.2), (37, .bool ((decide (0 < v1.2.2.2.2)) && (decide (((lget v1.2.2.1 v1.2.2.2.2).toNat : Int) = ((0 : UInt8).toNat : Int)))))], [(100000, [.sl 1 (v1.1.b.map e_u8), .bool v1.1.bad])], [], [], []⟩ .nil (by kernel_rfl) ?_
          refine Wk_split rfl (fun hb => ?_) (fun hb => ?_)
          · have hF := ite_t hF hb
            refine Wk_exit rfl ?_
            have hF := inrO_done hF dn1
            exact Wk_metP v1.1 [0] [100000] [] [] [] [] hF (by kernel_rfl)
          · have hF := ite_f hF hb
            refine Wk_skip ?_
            refine Wk_seq ?_
            obtain ⟨h2, hF⟩ := asrt_elim hF
            refine WR [.xs ((ldrop v1.1.b (w64 (v1.2.2.2.2 + 1))).map e_u8)] [3] [100000] [] [] [] [] ⟨[(3, .int .i64 v2)], [(100000, [.sl 1 ((ldrop v1.1.b (w64 (v1.2.2.2.2 + 1))).map e_u8), .bool v1.1.bad])], [], [], []⟩ (.cons (sl10_ok e_u8 h2) .nil) (by kernel_rfl) ?_
            refine Wk_seq ?_
            refine WR [] [2] [100000] [] [] [] [] ⟨[(2, .int .i64 v2)], [(100000, [.sl 1 ((ldrop v1.1.b (w64 (v1.2.2.2.2 + 1))).map e_u8), .bool v1.1.bad])], [], [], []⟩ .nil (by kernel_rfl) ?_
            have hF := ret_done hF dn1
            have hF := some_elim hF
            exact Wk_ret (hfin _ ⟨[], [100000], [], [], [], [], by first | (rw [← hF]; kernel_rfl) | kernel_rfl⟩)
        · have hF := ite_f hF hb
          refine Wk_skip ?_
          refine Wk_blk ?_
          refine WR [] [0, 3, 9, 10, 11] [100000] [] [] [] [] ⟨[(0, .ptr 100000 0), (3, .int .i64 v2), (9, .sl 1 (v1.2.2.1.map e_u8)), (10, .int .i64 v1.2.2.2.1), (11, .int .i64 (w64 (v1.2.2.2.2 + 1)))], [(100000, [.sl 1 (v1.1.b.map e_u8), .bool v1.1.bad])], [], [], []⟩ .nil (by kernel_rfl) ?_
          refine Wk_trim (fs := [0, 3, 9, 10, 11]) (bs := [100000]) (rs := []) (ms := []) (aa := []) (nv := []) ?_ (ih1 _ (some_elim hF).symm)
          kernel_rfl
    · have hF := ite_f hF hb
      refine Wk_exit rfl ?_
      have hF := inrO_done hF dn1
      exact Wk_metP v1.1 [0] [100000] [] [] [] [] hF (by kernel_rfl)
  · intro v hF
    have hF : wire_Reader_Num_J1 v = some r := hF
    unfold wire_Reader_Num_J1 at hF
    refine Wk_seq ?_
    refine WR [] [] [100000] [] [] [] [] ⟨[], [(100000, [.nils, .bool true])], [], [], []⟩ .nil (by kernel_rfl) ?_
    refine Wk_seq ?_
    refine WR [] [2] [100000] [] [] [] [] ⟨[(2, .int .i64 0)], [(100000, [.nils, .bool true])], [], [], []⟩ .nil (by kernel_rfl) ?_
    have hF := some_elim hF
    refine Wk_coeB 100000 [.sl 1 (([] : List UInt8).map e_u8), .bool true] rfl (.cons (CoeS.nils 1) (.cons (CoeS.refl _) .nil)) ?_
    exact Wk_ret (hfin _ ⟨[], [100000], [], [], [], [], by first | (rw [← hF]; kernel_rfl) | kernel_rfl⟩)

/- (*wire.Reader).Text -/
noncomputable def wire_Reader_Text (box : Reader) : Option (List UInt8 × Reader) :=
  ob (wire_Reader_Num box) fun x =>
  if (x.2.bad || (decide ((x.2.b.length : Int) < x.1))) = true then
    some (([] : List UInt8), (⟨([] : List UInt8), true⟩ : Reader))
  else
    asrt (0 ≤ x.1 ∧ x.1 ≤ (x.2.b.length : Int)) <|
    asrt (0 ≤ x.1 ∧ x.1 ≤ (x.2.b.length : Int)) <|
    some ((ltake x.2.b x.1), (⟨(ldrop x.2.b x.1), x.2.bad⟩ : Reader))
theorem wire_Reader_Text_ok (box : Reader) (r : List UInt8 × Reader) (hF : wire_Reader_Text box = some r) : Pe Try.prog 78 ⟨[], [(100000, [.sl 1 (box.b.map e_u8), .bool box.bad])], [], [], []⟩ [.ptr 100000 0] (.str r.1) ⟨[], [(100000, [.sl 1 (r.2.b.map e_u8), .bool r.2.bad])], [], [], []⟩ := by
  refine Pe_of (N := 43) (res := [.tmp 2]) (ts := [9]) Ty.ok Fn.b78 Try.func78 rfl rfl rfl rfl rfl rfl ?_
  intro Q g hfin
  unfold wire_Reader_Text at hF
  refine Wk_seq ?_
  refine WR [] [0] [100000] [] [] [] [] ⟨[(0, .ptr 100000 0)], [(100000, [.sl 1 (box.b.map e_u8), .bool box.bad])], [], [], []⟩ .nil (by kernel_rfl) ?_
  refine Wk_seq ?_
  obtain ⟨x, h0, hF⟩ := ob_elim hF
  refine WR [.callE [100000] [] [] [] (.int .i64 x.1) ⟨[], [(100000, [.sl 1 (x.2.b.map e_u8), .bool x.2.bad])], [], [], []⟩] [0, 3] [100000] [] [] [] [] ⟨[(0, .ptr 100000 0), (3, .int .i64 x.1)], [(100000, [.sl 1 (x.2.b.map e_u8), .bool x.2.bad])], [], [], []⟩ (.cons (Pe.ren (wire_Reader_Num_ok box x h0) ⟨[], [], [], []⟩) .nil) (by kernel_rfl) ?_
  refine Wk_seq ?_
  refine Wk_seq ?_
  refine WR [.nat (x.2.b.length : Int)] [0, 3, 19] [100000] [] [] [] [] ⟨[(0, .ptr 100000 0), (3, .int .i64 x.1), (19, .bool (x.2.bad || (decide ((x.2.b.length : Int) < x.1))))], [(100000, [.sl 1 (x.2.b.map e_u8), .bool x.2.bad])], [], [], []⟩ (.cons (fun (_ : (!x.2.bad) = true) => (len_ok e_u8 x.2.b)) .nil) (by kernel_rfl) ?_
  refine Wk_split rfl (fun hb => ?_) (fun hb => ?_)
  · have hF := ite_t hF hb
    refine Wk_seq ?_
    refine WR [] [] [100000] [] [] [] [] ⟨[], [(100000, [.nils, .bool true])], [], [], []⟩ .nil (by kernel_rfl) ?_
    refine Wk_seq ?_
    refine WR [] [2] [100000] [] [] [] [] ⟨[(2, .str ([] : List UInt8))], [(100000, [.nils, .bool true])], [], [], []⟩ .nil (by kernel_rfl) ?_
    have hF := some_elim hF
    refine Wk_coeB 100000 [.sl 1 (([] : List UInt8).map e_u8), .bool true] rfl (.cons (CoeS.nils 1) (.cons (CoeS.refl _) .nil)) ?_
    exact Wk_ret (hfin _ ⟨[], [100000], [], [], [], [], by first | (rw [← hF]; kernel_rfl) | kernel_rfl⟩)
  · have hF := ite_f hF hb
    refine Wk_skip ?_
    refine Wk_seq ?_
    obtain ⟨h1, hF⟩ := asrt_elim hF
    refine WR [.xs ((ltake x.2.b x.1).map e_u8), .str (ltake x.2.b x.1)] [0, 3, 4] [100000] [] [] [] [] ⟨[(0, .ptr 100000 0), (3, .int .i64 x.1), (4, .str (ltake x.2.b x.1))], [(100000, [.sl 1 (x.2.b.map e_u8), .bool x.2.bad])], [], [], []⟩ (.cons (sl01_ok e_u8 h1) (.cons (u8s_ok (ltake x.2.b x.1)) .nil)) (by kernel_rfl) ?_
    refine Wk_seq ?_
    obtain ⟨h2, hF⟩ := asrt_elim hF
    refine WR [.xs ((ldrop x.2.b x.1).map e_u8)] [4] [100000] [] [] [] [] ⟨[(4, .str (ltake x.2.b x.1))], [(100000, [.sl 1 ((ldrop x.2.b x.1).map e_u8), .bool x.2.bad])], [], [], []⟩ (.cons (sl10_ok e_u8 h2) .nil) (by kernel_rfl) ?_
    refine Wk_seq ?_
    refine WR [] [2] [100000] [] [] [] [] ⟨[(2, .str (ltake x.2.b x.1))], [(100000, [.sl 1 ((ldrop x.2.b x.1).map e_u8), .bool x.2.bad])], [], [], []⟩ .nil (by kernel_rfl) ?_
    have hF := some_elim hF
    exact Wk_ret (hfin _ ⟨[], [100000], [], [], [], [], by first | (rw [← hF]; kernel_rfl) | kernel_rfl⟩)

/- (*wire.Reader).Fine -/
noncomputable def wire_Reader_Fine (box : Reader) : Bool :=
  !box.bad
theorem wire_Reader_Fine_ok (box : Reader) (r : Bool) (hF : wire_Reader_Fine box = r) : Pe Try.prog 80 ⟨[], [(100000, [.sl 1 (box.b.map e_u8), .bool box.bad])], [], [], []⟩ [.ptr 100000 0] (.bool r) ⟨[], [(100000, [.sl 1 (box.b.map e_u8), .bool box.bad])], [], [], []⟩ := by
  refine Pe_of (N := 8) (res := [.tmp 2]) (ts := [4]) Ty.ok Fn.b80 Try.func80 rfl rfl rfl rfl rfl rfl ?_
  intro Q g hfin
  unfold wire_Reader_Fine at hF
  refine Wk_seq ?_
  refine WR [] [0] [100000] [] [] [] [] ⟨[(0, .ptr 100000 0)], [(100000, [.sl 1 (box.b.map e_u8), .bool box.bad])], [], [], []⟩ .nil (by kernel_rfl) ?_
  refine Wk_seq ?_
  refine WR [] [2] [100000] [] [] [] [] ⟨[(2, .bool (!box.bad))], [(100000, [.sl 1 (box.b.map e_u8), .bool box.bad])], [], [], []⟩ .nil (by kernel_rfl) ?_
  exact Wk_ret (hfin _ ⟨[], [100000], [], [], [], [], by first | (rw [← hF]; kernel_rfl) | kernel_rfl⟩)

/- cell.From -/
noncomputable def cell_From (box : Reader) : Option (Cell × Bool × Reader) :=
  ob (wire_Reader_Text box) fun x =>
  ob (wire_Reader_Text x.2) fun x1 =>
  ob (wire_Reader_Num x1.2) fun x2 =>
  ob (wire_Reader_Num x2.2) fun x3 =>
  ob (wire_Reader_Text x3.2) fun x4 =>
  lt (wire_Reader_Fine x4.2) fun x5 =>
  lt (cell_code (⟨x.1, x1.1, x2.1, decide (x3.1 = 1), x4.1⟩ : Cell)) fun x6 =>
  some ((⟨x.1, x1.1, x2.1, decide (x3.1 = 1), x4.1⟩ : Cell), ((decide (x3.1 < 2)) && x5) && (decide (x6 = 0)), x4.2)
theorem cell_From_ok (box : Reader) (r : Cell × Bool × Reader) (hF : cell_From box = some r) : Pe Try.prog 61 ⟨[], [(100000, [.sl 1 (box.b.map e_u8), .bool box.bad])], [], [], []⟩ [.ptr 100000 0] (.tup [.agg [.str r.1.Row, .str r.1.Col, .int .i64 r.1.Time, .bool r.1.Gone, .str r.1.Value], .bool r.2.1]) ⟨[], [(100000, [.sl 1 (r.2.2.b.map e_u8), .bool r.2.2.bad])], [], [], []⟩ := by
  refine Pe_of (N := 33) (res := [.cell 2 37, .tmp 3]) (ts := [37, 4]) Ty.ok Fn.b61 Try.func61 rfl rfl rfl rfl rfl rfl ?_
  intro Q g hfin
  unfold cell_From at hF
  refine Wk_seq ?_
  refine WR [] [0, 2] [2, 100000] [] [] [] [] ⟨[(0, .ptr 100000 0), (2, .ptr 2 0)], [(2, [.str [], .str [], .int .i64 0, .bool false, .str []]), (100000, [.sl 1 (box.b.map e_u8), .bool box.bad])], [], [], []⟩ .nil (by kernel_rfl) ?_
  refine Wk_seq ?_
  obtain ⟨x, h0, hF⟩ := ob_elim hF
  obtain ⟨x1, h1, hF⟩ := ob_elim hF
  obtain ⟨x2, h2, hF⟩ := ob_elim hF
  refine WR [.callE [100000] [] [] [] (.str x.1) ⟨[], [(100000, [.sl 1 (x.2.b.map e_u8), .bool x.2.bad])], [], [], []⟩, .callE [100000] [] [] [] (.str x1.1) ⟨[], [(100000, [.sl 1 (x1.2.b.map e_u8), .bool x1.2.bad])], [], [], []⟩, .callE [100000] [] [] [] (.int .i64 x2.1) ⟨[], [(100000, [.sl 1 (x2.2.b.map e_u8), .bool x2.2.bad])], [], [], []⟩] [0, 2, 4] [2, 4, 100000] [] [] [] [] ⟨[(0, .ptr 100000 0), (2, .ptr 2 0), (4, .ptr 4 0)], [(2, [.str [], .str [], .int .i64 0, .bool false, .str []]), (4, [.str x.1, .str x1.1, .int .i64 x2.1, .bool false, .str []]), (100000, [.sl 1 (x2.2.b.map e_u8), .bool x2.2.bad])], [], [], []⟩ (.cons (Pe.ren (wire_Reader_Text_ok box x h0) ⟨[], [], [], []⟩) (.cons (Pe.ren (wire_Reader_Text_ok x.2 x1 h1) ⟨[], [], [], []⟩) (.cons (Pe.ren (wire_Reader_Num_ok x1.2 x2 h2) ⟨[], [], [], []⟩) .nil))) (by kernel_rfl) ?_
  refine Wk_seq ?_
  obtain ⟨x3, h3, hF⟩ := ob_elim hF
  refine WR [.callE [100000] [] [] [] (.int .i64 x3.1) ⟨[], [(100000, [.sl 1 (x3.2.b.map e_u8), .bool x3.2.bad])], [], [], []⟩] [0, 2, 4, 5] [2, 4, 100000] [] [] [] [] ⟨[(0, .ptr 100000 0), (2, .ptr 2 0), (4, .ptr 4 0), (5, .int .i64 x3.1)], [(2, [.str [], .str [], .int .i64 0, .bool false, .str []]), (4, [.str x.1, .str x1.1, .int .i64 x2.1, .bool false, .str []]), (100000, [.sl 1 (x3.2.b.map e_u8), .bool x3.2.bad])], [], [], []⟩ (.cons (Pe.ren (wire_Reader_Num_ok x2.2 x3 h3) ⟨[], [], [], []⟩) .nil) (by kernel_rfl) ?_
  refine Wk_seq ?_
  obtain ⟨x4, h4, hF⟩ := ob_elim hF
  refine WR [.callE [100000] [] [] [] (.str x4.1) ⟨[], [(100000, [.sl 1 (x4.2.b.map e_u8), .bool x4.2.bad])], [], [], []⟩] [0, 2, 4, 5] [2, 4, 100000] [] [] [] [] ⟨[(0, .ptr 100000 0), (2, .ptr 2 0), (4, .ptr 4 0), (5, .int .i64 x3.1)], [(2, [.str [], .str [], .int .i64 0, .bool false, .str []]), (4, [.str x.1, .str x1.1, .int .i64 x2.1, .bool (decide (x3.1 = 1)), .str x4.1]), (100000, [.sl 1 (x4.2.b.map e_u8), .bool x4.2.bad])], [], [], []⟩ (.cons (Pe.ren (wire_Reader_Text_ok x3.2 x4 h4) ⟨[], [], [], []⟩) .nil) (by kernel_rfl) ?_
  refine Wk_seq ?_
  obtain ⟨x5, h5, hF⟩ := lt_split hF
  obtain ⟨x6, h6, hF⟩ := lt_split hF
  refine WD [.callR [100000] [] [] [] (.bool x5), .callB (.int .i64 x6)] [2, 3] [2, 100000] [] [] [] [] ⟨[(2, .ptr 2 0), (3, .bool (((decide (x3.1 < 2)) && x5) && (decide (x6 = 0))))], [(2, [.str x.1, .str x1.1, .int .i64 x2.1, .bool (decide (x3.1 = 1)), .str x4.1]), (100000, [.sl 1 (x4.2.b.map e_u8), .bool x4.2.bad])], [], [], []⟩ (.cons (fun (ga0 : (decide (x3.1 < 2)) = true) => (Pe.ren (wire_Reader_Fine_ok x4.2 x5 h5) ⟨[], [], [], []⟩)) (.cons (fun (ga0 : ((decide (x3.1 < 2)) && x5) = true) => (cell_code_ok (⟨x.1, x1.1, x2.1, decide (x3.1 = 1), x4.1⟩ : Cell) x6 h6)) .nil)) (by kernel_rfl) ?_
  have hF := some_elim hF
  exact Wk_ret (hfin _ ⟨[], [100000], [], [], [], [], by first | (rw [← hF]; kernel_rfl) | kernel_rfl⟩)

/- cell.Read -/
noncomputable def cell_Read_v1_J1 (v : Fault × List Cell) : Option (List Cell × Fault) :=
  ob (cell_Check v.2) fun x2 =>
  if (!decide (x2.Code = 0)) = true then
    some (([] : List Cell), x2)
  else
    some (v.2, (⟨0, 0⟩ : Fault))
noncomputable def cell_Read_v1_B1 (v1 : Fault × List Cell × Reader) : Option ((Fault × List Cell × Reader) ⊕ (List Cell × Fault)) :=
  lt (wire_Reader_More v1.2.2) fun x3 =>
  if x3 = true then
    ob (cell_From v1.2.2) fun x4 =>
    if (!x4.2.1) = true then
      lt (cell_fault 5 (v1.2.1.length : Int)) fun x5 =>
      some (Sum.inr (([] : List Cell), x5))
    else
      asrt (((v1.2.1 ++ [x4.1]).length : Int) * 64 ≤ 140737488351232) <|
      some (Sum.inl (v1.1, (v1.2.1 ++ [x4.1]), x4.2.2))
  else
    inrO (cell_Read_v1_J1 (v1.1, v1.2.1))
noncomputable def cell_Read_v1_L1 (v0 : Fault × List Cell × Reader) : Option (List Cell × Fault) :=
  loopO (fun y => cell_Read_v1_B1 y) v0
noncomputable def cell_Read_v1 (b : List UInt8) : Option (List Cell × Fault) :=
  if (decide (60000 < (b.length : Int))) = true then
    lt (cell_fault 8 0) fun x =>
    some (([] : List Cell), x)
  else
    lt (wire_Read b) fun x1 =>
    cell_Read_v1_L1 ((⟨0, 0⟩ : Fault), ([] : List Cell), x1)
theorem cell_Read_v1_ok (b : List UInt8) (r : List Cell × Fault) (hF : cell_Read_v1 b = some r) : Pe Try.prog 34 S.none [.sl 1 (b.map e_u8)] (.tup [.sl 5 (r.1.map e_Cell), .agg [.int .i64 r.2.Code, .int .i64 r.2.At]]) S.none := by
  refine Pe_of (N := 39) (res := [.tmp 2, .cell 3 28]) (ts := [22, 28]) Ty.ok Fn.b34 Try.func34 rfl rfl rfl rfl rfl rfl ?_
  intro Q g hfin
  unfold cell_Read_v1 at hF
  refine Wk_seq ?_
  refine WR [] [0, 3] [3] [] [] [] [] ⟨[(0, .sl 1 (b.map e_u8)), (3, .ptr 3 0)], [(3, [.int .i64 0, .int .i64 0])], [], [], []⟩ .nil (by kernel_rfl) ?_
  refine Wk_seq ?_
  refine Wk_seq ?_
  refine WR [.nat (b.length : Int)] [0, 3, 11] [3] [] [] [] [] ⟨[(0, .sl 1 (b.map e_u8)), (3, .ptr 3 0), (11, .bool (decide (60000 < (b.length : Int))))], [(3, [.int .i64 0, .int .i64 0])], [], [], []⟩ (.cons (len_ok e_u8 b) .nil) (by kernel_rfl) ?_
  refine Wk_split rfl (fun hb => ?_) (fun hb => ?_)
  · have hF := ite_t hF hb
    refine Wk_seq ?_
    obtain ⟨x, h0, hF⟩ := lt_split hF
    refine WR [.callB (.agg [.int .i64 x.Code, .int .i64 x.At])] [2, 3] [3] [] [] [] [] ⟨[(2, .nils), (3, .ptr 3 0)], [(3, [.int .i64 x.Code, .int .i64 x.At])], [], [], []⟩ (.cons (cell_fault_ok 8 0 x h0) .nil) (by kernel_rfl) ?_
    have hF := some_elim hF
    exact Wk_ret (hfin _ ⟨[], [], [], [], [], [], by first | (rw [← hF]; kernel_rfl) | kernel_rfl⟩)
  · have hF := ite_f hF hb
    refine Wk_skip ?_
    refine Wk_seq ?_
    refine WR [] [0, 3, 4] [3] [] [] [] [] ⟨[(0, .sl 1 (b.map e_u8)), (3, .ptr 3 0), (4, .nils)], [(3, [.int .i64 0, .int .i64 0])], [], [], []⟩ .nil (by kernel_rfl) ?_
    refine Wk_seq ?_
    refine Wk_seq ?_
    obtain ⟨x1, h1, hF⟩ := lt_split hF
    refine WR [.callE [] [] [] [] (.ptr 14 0) ⟨[], [(14, [.sl 1 (x1.b.map e_u8), .bool x1.bad])], [], [], []⟩] [3, 4, 5] [3, 14] [] [] [] [] ⟨[(3, .ptr 3 0), (4, .nils), (5, .ptr 14 0)], [(3, [.int .i64 0, .int .i64 0]), (14, [.sl 1 (x1.b.map e_u8), .bool x1.bad])], [], [], []⟩ (.cons (Pe.ren (wire_Read_ok b x1 h1) ⟨[(5, 14)], [], [], []⟩) .nil) (by kernel_rfl) ?_
    refine Wk_meetP (fun v : Fault × List Cell => (⟨[(3, .ptr 3 0), (4, .row 30 0)], [(3, [.int .i64 v.1.Code, .int .i64 v.1.At])], [(30, ⟨37, 5, 0, 0, 0, true, 0, [], (v.2.map e_Cell)⟩)], [], []⟩ : S)) (fun v => cell_Read_v1_J1 v = some r) ?_ ?_
    · refine Wk_block ?_
      unfold cell_Read_v1_L1 at hF
      refine Wk_nilrow 4 60000 37 5 rfl rfl rfl ?_
      refine Wk_trim (fs := [3, 4, 5]) (bs := [3, 14]) (rs := [60000]) (ms := []) (aa := []) (nv := []) rfl ?_
      refine Wk_ren' ⟨[], [(60000, 30)], [], []⟩ rfl ?_
      refine Wk_trim (fs := [3, 4, 5]) (bs := [3, 14]) (rs := [30]) (ms := []) (aa := []) (nv := []) (t := (fun v1 : Fault × List Cell × Reader => (⟨[(3, .ptr 3 0), (4, .row 30 0), (5, .ptr 14 0)], [(3, [.int .i64 v1.1.Code, .int .i64 v1.1.At]), (14, [.sl 1 (v1.2.2.b.map e_u8), .bool v1.2.2.bad])], [(30, ⟨37, 5, 0, 0, 0, true, 0, [], (v1.2.1.map e_Cell)⟩)], [], []⟩ : S)) ((⟨0, 0⟩ : Fault), ([] : List Cell), x1)) (by kernel_rfl) ?_
      refine Wk_iter (step := fun y => cell_Read_v1_B1 y) (r := r) (fun v1 : Fault × List Cell × Reader => (⟨[(3, .ptr 3 0), (4, .row 30 0), (5, .ptr 14 0)], [(3, [.int .i64 v1.1.Code, .int .i64 v1.1.At]), (14, [.sl 1 (v1.2.2.b.map e_u8), .bool v1.2.2.bad])], [(30, ⟨37, 5, 0, 0, 0, true, 0, [], (v1.2.1.map e_Cell)⟩)], [], []⟩ : S)) ((⟨0, 0⟩ : Fault), ([] : List Cell), x1) hF ?_
      intro n1 v1 y1 hF ih1 dn1
      have hF : cell_Read_v1_B1 v1 = some y1 := hF
      unfold cell_Read_v1_B1 at hF
      refine Wk_seq ?_
      refine Wk_seq ?_
      obtain ⟨x3, h3, hF⟩ := lt_split hF
      refine WR [.callR [14] [] [] [] (.bool x3)] [3, 4, 5, 16] [3, 14] [30] [] [] [] ⟨[(3, .ptr 3 0), (4, .row 30 0), (5, .ptr 14 0), (16, .bool x3)], [(3, [.int .i64 v1.1.Code, .int .i64 v1.1.At]), (14, [.sl 1 (v1.2.2.b.map e_u8), .bool v1.2.2.bad])], [(30, ⟨37, 5, 0, 0, 0, true, 0, [], (v1.2.1.map e_Cell)⟩)], [], []⟩ (.cons (Pe.ren (wire_Reader_More_ok v1.2.2 x3 h3) ⟨[(100000, 14)], [], [], []⟩) .nil) (by kernel_rfl) ?_
      refine Wk_split rfl (fun hb => ?_) (fun hb => ?_)
      · have hF := ite_t hF hb
        refine Wk_skip ?_
        refine Wk_block ?_
        refine Wk_seq ?_
        obtain ⟨x4, h4, hF⟩ := ob_elim hF
        refine WR [.callE [14] [] [] [] (.tup [.agg [.str x4.1.Row, .str x4.1.Col, .int .i64 x4.1.Time, .bool x4.1.Gone, .str x4.1.Value], .bool x4.2.1]) ⟨[], [(14, [.sl 1 (x4.2.2.b.map e_u8), .bool x4.2.2.bad])], [], [], []⟩] [3, 4, 5, 6, 7] [3, 6, 14] [30] [] [] [] ⟨[(3, .ptr 3 0), (4, .row 30 0), (5, .ptr 14 0), (6, .ptr 6 0), (7, .bool x4.2.1)], [(3, [.int .i64 v1.1.Code, .int .i64 v1.1.At]), (6, [.str x4.1.Row, .str x4.1.Col, .int .i64 x4.1.Time, .bool x4.1.Gone, .str x4.1.Value]), (14, [.sl 1 (x4.2.2.b.map e_u8), .bool x4.2.2.bad])], [(30, ⟨37, 5, 0, 0, 0, true, 0, [], (v1.2.1.map e_Cell)⟩)], [], []⟩ (.cons (Pe.ren (cell_From_ok v1.2.2 x4 h4) ⟨[(100000, 14)], [], [], []⟩) .nil) (by kernel_rfl) ?_
        refine Wk_seq ?_
        refine Wk_seq ?_
        refine WR [] [3, 4, 5, 6, 23] [3, 6, 14] [30] [] [] [] ⟨[(3, .ptr 3 0), (4, .row 30 0), (5, .ptr 14 0), (6, .ptr 6 0), (23, .bool (!x4.2.1))], [(3, [.int .i64 v1.1.Code, .int .i64 v1.1.At]), (6, [.str x4.1.Row, .str x4.1.Col, .int .i64 x4.1.Time, .bool x4.1.Gone, .str x4.1.Value]), (14, [.sl 1 (x4.2.2.b.map e_u8), .bool x4.2.2.bad])], [(30, ⟨37, 5, 0, 0, 0, true, 0, [], (v1.2.1.map e_Cell)⟩)], [], []⟩ .nil (by kernel_rfl) ?_
        refine Wk_split rfl (fun hb => ?_) (fun hb => ?_)
        · have hF := ite_t hF hb
          refine Wk_seq ?_
          obtain ⟨x5, h5, hF⟩ := lt_split hF
          refine WR [.nat (v1.2.1.length : Int), .callB (.agg [.int .i64 x5.Code, .int .i64 x5.At])] [2, 3] [3] [] [] [] [] ⟨[(2, .nils), (3, .ptr 3 0)], [(3, [.int .i64 x5.Code, .int .i64 x5.At])], [], [], []⟩ (.cons (len_ok e_Cell v1.2.1) (.cons (cell_fault_ok 5 (v1.2.1.length : Int) x5 h5) .nil)) (by kernel_rfl) ?_
          have hF := ret_done hF dn1
          have hF := some_elim hF
          exact Wk_ret (hfin _ ⟨[], [], [], [], [], [], by first | (rw [← hF]; kernel_rfl) | kernel_rfl⟩)
        · have hF := ite_f hF hb
          refine Wk_skip ?_
          obtain ⟨h6, hF⟩ := asrt_elim hF
          refine WR [.sealed, .xs ((v1.2.1 ++ [x4.1]).map e_Cell)] [3, 4, 5] [3, 14] [30] [] [] [] ⟨[(3, .ptr 3 0), (4, .row 30 1), (5, .ptr 14 0)], [(3, [.int .i64 v1.1.Code, .int .i64 v1.1.At]), (14, [.sl 1 (x4.2.2.b.map e_u8), .bool x4.2.2.bad])], [(30, ⟨37, 5, 1, 0, 0, true, 0, [], ((v1.2.1 ++ [x4.1]).map e_Cell)⟩)], [], []⟩ (.cons (app_ok e_Cell v1.2.1 [x4.1]) (.cons (appl_ok e_Cell h6) .nil)) (by kernel_rfl) ?_
          refine Wk_blk ?_
          refine Wk_trim (fs := [3, 4, 5]) (bs := [3, 14]) (rs := [30]) (ms := []) (aa := []) (nv := [(30, ⟨0, true, true, false⟩)]) ?_ (ih1 _ (some_elim hF).symm)
          kernel_rfl
      · have hF := ite_f hF hb
        refine Wk_exit rfl ?_
        have hF := inrO_done hF dn1
        exact Wk_metP (v1.1, v1.2.1) [3, 4] [3] [30] [] [] [] hF (by kernel_rfl)
    · intro v hF
      have hF : cell_Read_v1_J1 v = some r := hF
      unfold cell_Read_v1_J1 at hF
      refine Wk_seq ?_
      refine Wk_seq ?_
      obtain ⟨x2, h2, hF⟩ := ob_elim hF
      refine WR [.callB (.agg [.int .i64 x2.Code, .int .i64 x2.At])] [3, 4, 8] [3, 8] [30] [] [] [] ⟨[(3, .ptr 3 0), (4, .row 30 0), (8, .ptr 8 0)], [(3, [.int .i64 v.1.Code, .int .i64 v.1.At]), (8, [.int .i64 x2.Code, .int .i64 x2.At])], [(30, ⟨37, 5, 0, 0, 0, true, 0, [], (v.2.map e_Cell)⟩)], [], []⟩ (.cons (cell_Check_ok v.2 x2 h2) .nil) (by kernel_rfl) ?_
      refine Wk_seq ?_
      refine WR [] [3, 4, 8, 35] [3, 8] [30] [] [] [] ⟨[(3, .ptr 3 0), (4, .row 30 0), (8, .ptr 8 0), (35, .bool (!decide (x2.Code = 0)))], [(3, [.int .i64 v.1.Code, .int .i64 v.1.At]), (8, [.int .i64 x2.Code, .int .i64 x2.At])], [(30, ⟨37, 5, 0, 0, 0, true, 0, [], (v.2.map e_Cell)⟩)], [], []⟩ .nil (by kernel_rfl) ?_
      refine Wk_split rfl (fun hb => ?_) (fun hb => ?_)
      · have hF := ite_t hF hb
        refine Wk_seq ?_
        refine WD [] [2, 3] [3] [] [] [] [] ⟨[(2, .nils), (3, .ptr 3 0)], [(3, [.int .i64 x2.Code, .int .i64 x2.At])], [], [], []⟩ .nil (by kernel_rfl) ?_
        have hF := some_elim hF
        exact Wk_ret (hfin _ ⟨[], [], [], [], [], [], by first | (rw [← hF]; kernel_rfl) | kernel_rfl⟩)
      · have hF := ite_f hF hb
        refine Wk_skip ?_
        refine Wk_seq ?_
        refine WR [] [2, 3] [3] [30] [] [] [] ⟨[(2, .row 30 0), (3, .ptr 3 0)], [(3, [.int .i64 0, .int .i64 0])], [(30, ⟨37, 5, 0, 0, 0, true, 0, [], (v.2.map e_Cell)⟩)], [], []⟩ .nil (by kernel_rfl) ?_
        have hF := some_elim hF
        exact Wk_ret (hfin _ ⟨[], [], [], [], [], [], by first | (rw [← hF]; kernel_rfl) | kernel_rfl⟩)

/- tabularyref.Number -/
noncomputable def R_Number_S (rec : Int → Option (List UInt8)) (num : Int) : Option (List UInt8) :=
  if (decide (num < 128)) = true then
    some ([toU8 num] : List UInt8)
  else
    ob (rec (w64 (Int.tdiv num 128))) fun x =>
    asrt (((([toU8 (w64 ((Int.tmod num 128) + 128))] : List UInt8) ++ x).length : Int) * 1 ≤ 140737488351232) <|
    some (([toU8 (w64 ((Int.tmod num 128) + 128))] : List UInt8) ++ x)
noncomputable def R_Number (num : Int) : Option (List UInt8) := recO (fun rec (x : Int) => R_Number_S rec x) num
theorem R_Number_ok (num : Int) (r : List UInt8) (hF : R_Number num = some r) : Pe Try.prog 64 ⟨[], [], [], [], []⟩ [.int .i64 num] (.row 7 0) ⟨[], [], [(7, ⟨5, 1, 0, 0, 0, true, 0, [], (r.map e_u8)⟩)], [], []⟩ := by
  have key : ∀ (k : Nat) (x : Int) (r : List UInt8), fuelO (fun rec (x : Int) => R_Number_S rec x) k x = some r → Pe Try.prog 64 ⟨[], [], [], [], []⟩ [.int .i64 x] (.row 7 0) ⟨[], [], [(7, ⟨5, 1, 0, 0, 0, true, 0, [], (r.map e_u8)⟩)], [], []⟩ := by
    intro k
    induction k with
    | zero => intro x r hF; cases hF
    | succ k ih =>
      intro x r hF
      have hF : R_Number_S (fuelO (fun rec (x : Int) => R_Number_S rec x) k) x = some r := hF
      generalize fuelO (fun rec (x : Int) => R_Number_S rec x) k = rec at ih hF
      revert hF
      generalize x = num
      intro hF
      refine Pe_of (N := 17) (res := [.tmp 2]) (ts := [56]) Ty.ok Fn.b64 Try.func64 rfl rfl rfl rfl rfl rfl ?_
      intro Q g hfin
      unfold R_Number_S at hF
      refine Wk_seq ?_
      refine WR [] [0] [] [] [] [] [] ⟨[(0, .int .i64 num)], [], [], [], []⟩ .nil (by kernel_rfl) ?_
      refine Wk_seq ?_
      refine Wk_seq ?_
      refine WR [] [0, 4] [] [] [] [] [] ⟨[(0, .int .i64 num), (4, .bool (decide (num < 128)))], [], [], [], []⟩ .nil (by kernel_rfl) ?_
      refine Wk_split rfl (fun hb => ?_) (fun hb => ?_)
      · have hF := ite_t hF hb
        refine Wk_seq ?_
        refine WR [] [2] [] [7] [] [] [] ⟨[(2, .row 7 0)], [], [(7, ⟨5, 1, 0, 0, 0, true, 0, [], (([toU8 num] : List UInt8).map e_u8)⟩)], [], []⟩ .nil (by kernel_rfl) ?_
        have hF := some_elim hF
        exact Wk_ret (hfin _ ⟨[7], [], [7], [], [], [], by first | (rw [← hF]; kernel_rfl) | kernel_rfl⟩)
      · have hF := ite_f hF hb
        refine Wk_skip ?_
        refine Wk_seq ?_
        obtain ⟨x, h0, hF⟩ := ob_elim hF
        obtain ⟨h1, hF⟩ := asrt_elim hF
        refine WR [.callE [] [] [] [] (.row 15 0) ⟨[], [], [(15, ⟨5, 1, 0, 0, 0, true, 0, [], (x.map e_u8)⟩)], [], []⟩, .xs ((([toU8 (w64 ((Int.tmod num 128) + 128))] : List UInt8) ++ x).map e_u8)] [2] [] [12] [] [] [] ⟨[(2, .row 12 1)], [], [(12, ⟨5, 1, 1, 0, 0, true, 0, [], ((([toU8 (w64 ((Int.tmod num 128) + 128))] : List UInt8) ++ x).map e_u8)⟩)], [], []⟩ (.cons (by decide : (128 : Int) ≠ 0) (.cons (by decide : (128 : Int) ≠ 0) (.cons (Pe.ren (ih (w64 (Int.tdiv num 128)) x h0) ⟨[], [(7, 15)], [], []⟩) (.cons (app_ok e_u8 ([toU8 (w64 ((Int.tmod num 128) + 128))] : List UInt8) x) (.cons (appl_ok e_u8 h1) .nil))))) (by kernel_rfl) ?_
        have hF := some_elim hF
        refine Wk_ren' ⟨[], [(12, 7)], [], []⟩ rfl ?_
        exact Wk_ret (hfin _ ⟨[7], [], [7], [], [], [(7, ⟨0, true, true, false⟩)], by first | (rw [← hF]; kernel_rfl) | kernel_rfl⟩)
  obtain ⟨k, hF⟩ := recO_elim hF
  exact key k _ r hF

/- tabularyref.Number -/
noncomputable def R_Number_v1 (num : Int) : Option (List UInt8) :=
  if (decide (num < 128)) = true then
    some ([toU8 num] : List UInt8)
  else
    ob (R_Number (w64 (Int.tdiv num 128))) fun x =>
    asrt (((([toU8 (w64 ((Int.tmod num 128) + 128))] : List UInt8) ++ x).length : Int) * 1 ≤ 140737488351232) <|
    some (([toU8 (w64 ((Int.tmod num 128) + 128))] : List UInt8) ++ x)
theorem R_Number_v1_ok (num : Int) (r : List UInt8) (hF : R_Number_v1 num = some r) : Pe Try.prog 64 S.none [.int .i64 num] (.sl 1 (r.map e_u8)) S.none := by
  refine Pe_of (N := 17) (res := [.tmp 2]) (ts := [56]) Ty.ok Fn.b64 Try.func64 rfl rfl rfl rfl rfl rfl ?_
  intro Q g hfin
  unfold R_Number_v1 at hF
  refine Wk_seq ?_
  refine WR [] [0] [] [] [] [] [] ⟨[(0, .int .i64 num)], [], [], [], []⟩ .nil (by kernel_rfl) ?_
  refine Wk_seq ?_
  refine Wk_seq ?_
  refine WR [] [0, 4] [] [] [] [] [] ⟨[(0, .int .i64 num), (4, .bool (decide (num < 128)))], [], [], [], []⟩ .nil (by kernel_rfl) ?_
  refine Wk_split rfl (fun hb => ?_) (fun hb => ?_)
  · have hF := ite_t hF hb
    refine Wk_seq ?_
    refine WR [] [2] [] [7] [] [] [] ⟨[(2, .row 7 0)], [], [(7, ⟨5, 1, 0, 0, 0, true, 0, [], (([toU8 num] : List UInt8).map e_u8)⟩)], [], []⟩ .nil (by kernel_rfl) ?_
    have hF := some_elim hF
    exact Wk_ret (hfin _ ⟨[], [], [], [], [], [], by first | (rw [← hF]; kernel_rfl) | kernel_rfl⟩)
  · have hF := ite_f hF hb
    refine Wk_skip ?_
    refine Wk_seq ?_
    obtain ⟨x, h0, hF⟩ := ob_elim hF
    obtain ⟨h1, hF⟩ := asrt_elim hF
    refine WR [.callE [] [] [] [] (.row 15 0) ⟨[], [], [(15, ⟨5, 1, 0, 0, 0, true, 0, [], (x.map e_u8)⟩)], [], []⟩, .xs ((([toU8 (w64 ((Int.tmod num 128) + 128))] : List UInt8) ++ x).map e_u8)] [2] [] [12] [] [] [] ⟨[(2, .row 12 1)], [], [(12, ⟨5, 1, 1, 0, 0, true, 0, [], ((([toU8 (w64 ((Int.tmod num 128) + 128))] : List UInt8) ++ x).map e_u8)⟩)], [], []⟩ (.cons (by decide : (128 : Int) ≠ 0) (.cons (by decide : (128 : Int) ≠ 0) (.cons (Pe.ren (R_Number_ok (w64 (Int.tdiv num 128)) x h0) ⟨[], [(7, 15)], [], []⟩) (.cons (app_ok e_u8 ([toU8 (w64 ((Int.tmod num 128) + 128))] : List UInt8) x) (.cons (appl_ok e_u8 h1) .nil))))) (by kernel_rfl) ?_
    have hF := some_elim hF
    exact Wk_ret (hfin _ ⟨[], [], [], [], [], [], by first | (rw [← hF]; kernel_rfl) | kernel_rfl⟩)

/- tabularyref.Same -/
noncomputable def R_Same (a0 : List UInt8) (b : List UInt8) : Bool :=
  decide (a0 = b)
theorem R_Same_ok (a0 : List UInt8) (b : List UInt8) (r : Bool) (hF : R_Same a0 b = r) : Pe Try.prog 65 S.none [.sl 1 (a0.map e_u8), .sl 1 (b.map e_u8)] (.bool r) S.none := by
  refine Pe_of (N := 10) (res := [.tmp 4]) (ts := [4]) Ty.ok Fn.b65 Try.func65 rfl rfl rfl rfl rfl rfl ?_
  intro Q g hfin
  unfold R_Same at hF
  refine Wk_seq ?_
  refine WR [] [0, 1] [] [] [] [] [] ⟨[(0, .sl 1 (a0.map e_u8)), (1, .sl 1 (b.map e_u8))], [], [], [], []⟩ .nil (by kernel_rfl) ?_
  refine Wk_seq ?_
  refine WR [.str a0, .str b] [4] [] [] [] [] [] ⟨[(4, .bool (decide (a0 = b)))], [], [], [], []⟩ (.cons (u8s_ok a0) (.cons (u8s_ok b) .nil)) (by kernel_rfl) ?_
  exact Wk_ret (hfin _ ⟨[], [], [], [], [], [], by first | (rw [← hF]; kernel_rfl) | kernel_rfl⟩)

end G
end Go.Proofs.Ytkbgkkbinnclmaa
