/- The program's functions as plain functions, and that they are these. Written by a program (dec2.py). -/
import Derived.Test.YtollmifjbcccgaaTys
namespace Go.Proofs.Ytollmifjbcccgaa
open Go Go.Dm
set_option linter.unusedVariables false
set_option linter.unusedSimpArgs false
set_option maxRecDepth 100000
namespace G
/- cell.fault -/
noncomputable def cell_fault (code : Int) (at0 : Int) : Fault :=
 (⟨code, at0⟩ : Fault)
theorem cell_fault_ok (code : Int) (at0 : Int) (r : Fault) (hF : cell_fault code at0 = r) : Pe Try.prog 103 S.none [.i code, .i at0] (.agg (c_Fault r)) S.none := by
 refine PeN 8 [.cell 4 31] [31] Ty.ok Fn.b103 Try.func103 ?_
 intro Q g hfin
 unfold cell_fault at hF
 refine VR [] [0, 1, 4] [4] [] [] [(4, .ptr 4 0)] [(4, [.i 0, .i 0])] [] [] .nil ?_
 refine VR [] [4] [4] [] [] [] [(4, [.i code, .i at0])] [] [] .nil ?_
 cases hF
 exact Wk_ret (hfin _ ⟨[], [], [], [], [], [], by kernel_rfl⟩)

/- cell.code -/
noncomputable def cell_code (c : Cell) : Int :=
 if ((((decide (c.Row = ([] : List UInt8))) || (decide (40 < (c.Row.length : Int)))) || (decide (40 < (c.Col.length : Int)))) || (decide (200 < (c.Value.length : Int)))) = true then
  8
 else
  if ((decide (c.Time < 0)) || (decide (1000000000 < c.Time))) = true then
   3
  else
   if (c.Gone && (!decide (c.Value = ([] : List UInt8)))) = true then
    5
   else
    0
theorem cell_code_ok (c : Cell) (r : Int) (hF : cell_code c = r) : Pe Try.prog 108 S.none [.agg (c_Cell c)] (.i r) S.none := by
 refine PeN 42 [.tmp 2] [3] Ty.ok Fn.b108 Try.func108 ?_
 intro Q g hfin
 unfold cell_code at hF
 refine VR [] [1] [1] [] [] [(1, .ptr 1 0)] [(1, (c_Cell c))] [] [] .nil ?_
 refine Nblk ?_
 refine NR [] [1, 3] [1] [] [(3, .bool ((((decide (c.Row = ([] : List UInt8))) || (decide (40 < (c.Row.length : Int)))) || (decide (40 < (c.Col.length : Int)))) || (decide (200 < (c.Value.length : Int)))))] .nil ?_
 refine Nif hF (fun hb hF => ?_) (fun hb hF => ?_)
 ·refine NR [] [2] [] [] [(2, .i 8)] .nil ?_
  cases hF
  exact Wk_ret (hfin _ ⟨[], [], [], [], [], [], by kernel_rfl⟩)
 ·refine NR [] [1, 25] [1] [] [(25, .bool ((decide (c.Time < 0)) || (decide (1000000000 < c.Time))))] .nil ?_
  refine Nif hF (fun hb hF => ?_) (fun hb hF => ?_)
  ·refine NR [] [2] [] [] [(2, .i 3)] .nil ?_
   cases hF
   exact Wk_ret (hfin _ ⟨[], [], [], [], [], [], by kernel_rfl⟩)
  ·refine NR [] [34] [] [] [(34, .bool (c.Gone && (!decide (c.Value = ([] : List UInt8)))))] .nil ?_
   refine Nif hF (fun hb hF => ?_) (fun hb hF => ?_)
   ·refine NR [] [2] [] [] [(2, .i 5)] .nil ?_
    cases hF
    exact Wk_ret (hfin _ ⟨[], [], [], [], [], [], by kernel_rfl⟩)
   ·refine NR [] [2] [] [] [(2, .i 0)] .nil ?_
    cases hF
    exact Wk_ret (hfin _ ⟨[], [], [], [], [], [], by kernel_rfl⟩)

/- cmp.isNaN[string] -/
noncomputable def cmp_isNaN_string (x : List UInt8) : Bool :=
 !decide (x = x)
theorem cmp_isNaN_string_ok (x : List UInt8) (r : Bool) (hF : cmp_isNaN_string x = r) : Pe Try.prog 130 S.none [.str x] (.bool r) S.none := by
 refine PeN 6 [.tmp 2] [4] Ty.ok Fn.b130 Try.func130 ?_
 intro Q g hfin
 unfold cmp_isNaN_string at hF
 refine NR [] [0] [] [] [] .nil ?_
 refine NR [] [2] [] [] [(2, .bool (!decide (x = x)))] .nil ?_
 cases hF
 exact Wk_ret (hfin _ ⟨[], [], [], [], [], [], by kernel_rfl⟩)

/- cmp.Compare[string] -/
noncomputable def cmp_Compare_string (x : List UInt8) (y0 : List UInt8) : Int :=
 lt (cmp_isNaN_string x) fun x1 =>
 lt (cmp_isNaN_string y0) fun x2 =>
 if x1 = true then
  if x2 = true then
   0
  else
   (-1)
 else
  if x2 = true then
   1
  else
   if (Op.bytesLess x y0) = true then
    (-1)
   else
    if (Op.bytesLess y0 x) = true then
     1
    else
     0
theorem cmp_Compare_string_ok (x : List UInt8) (y0 : List UInt8) (r : Int) (hF : cmp_Compare_string x y0 = r) : Pe Try.prog 122 S.none [.str x, .str y0] (.i r) S.none := by
 refine PeN 20 [.tmp 4] [3] Ty.ok Fn.b122 Try.func122 ?_
 intro Q g hfin
 unfold cmp_Compare_string at hF
 refine NR [] [0, 1] [] [] [] .nil ?_
 obtain ⟨x1, h0, hF⟩ := lt_split hF
 refine NR [.callB (.bool x1)] [0, 1, 5] [] [] [(5, .bool x1)] (hc (cmp_isNaN_string_ok x x1 h0) .nil) ?_
 obtain ⟨x2, h1, hF⟩ := lt_split hF
 refine NR [.callB (.bool x2)] [0, 1, 5, 6] [] [] [(6, .bool x2)] (hc (cmp_isNaN_string_ok y0 x2 h1) .nil) ?_
 refine NR [] [0, 1, 6, 11] [] [] [(11, .bool x1)] .nil ?_
 refine Nif hF (fun hb hF => ?_) (fun hb hF => ?_)
 ·refine NR [] [12] [] [] [(12, .bool x2)] .nil ?_
  refine Nif hF (fun hb hF => ?_) (fun hb hF => ?_)
  ·refine NR [] [4] [] [] [(4, .i 0)] .nil ?_
   cases hF
   exact Wk_ret (hfin _ ⟨[], [], [], [], [], [], by kernel_rfl⟩)
  ·refine NR [] [4] [] [] [(4, .i (-1))] .nil ?_
   cases hF
   exact Wk_ret (hfin _ ⟨[], [], [], [], [], [], by kernel_rfl⟩)
 ·refine NR [] [0, 1, 13] [] [] [(13, .bool x2)] .nil ?_
  refine Nif hF (fun hb hF => ?_) (fun hb hF => ?_)
  ·refine NR [] [4] [] [] [(4, .i 1)] .nil ?_
   cases hF
   exact Wk_ret (hfin _ ⟨[], [], [], [], [], [], by kernel_rfl⟩)
  ·refine NR [] [0, 1, 16] [] [] [(16, .bool (Op.bytesLess x y0))] .nil ?_
   refine Nif hF (fun hb hF => ?_) (fun hb hF => ?_)
   ·refine NR [] [4] [] [] [(4, .i (-1))] .nil ?_
    cases hF
    exact Wk_ret (hfin _ ⟨[], [], [], [], [], [], by kernel_rfl⟩)
   ·refine NR [] [19] [] [] [(19, .bool (Op.bytesLess y0 x))] .nil ?_
    refine Nif hF (fun hb hF => ?_) (fun hb hF => ?_)
    ·refine NR [] [4] [] [] [(4, .i 1)] .nil ?_
     cases hF
     exact Wk_ret (hfin _ ⟨[], [], [], [], [], [], by kernel_rfl⟩)
    ·refine NR [] [4] [] [] [(4, .i 0)] .nil ?_
     cases hF
     exact Wk_ret (hfin _ ⟨[], [], [], [], [], [], by kernel_rfl⟩)

/- cmp.isNaN[int] -/
noncomputable def cmp_isNaN_int (x : Int) : Bool :=
 !decide (x = x)
theorem cmp_isNaN_int_ok (x : Int) (r : Bool) (hF : cmp_isNaN_int x = r) : Pe Try.prog 131 S.none [.i x] (.bool r) S.none := by
 refine PeN 6 [.tmp 2] [4] Ty.ok Fn.b131 Try.func131 ?_
 intro Q g hfin
 unfold cmp_isNaN_int at hF
 refine NR [] [0] [] [] [] .nil ?_
 refine NR [] [2] [] [] [(2, .bool (!decide (x = x)))] .nil ?_
 cases hF
 exact Wk_ret (hfin _ ⟨[], [], [], [], [], [], by kernel_rfl⟩)

/- cmp.Compare[int] -/
noncomputable def cmp_Compare_int (x : Int) (y0 : Int) : Int :=
 lt (cmp_isNaN_int x) fun x1 =>
 lt (cmp_isNaN_int y0) fun x2 =>
 if x1 = true then
  if x2 = true then
   0
  else
   (-1)
 else
  if x2 = true then
   1
  else
   if (decide (x < y0)) = true then
    (-1)
   else
    if (decide (y0 < x)) = true then
     1
    else
     0
theorem cmp_Compare_int_ok (x : Int) (y0 : Int) (r : Int) (hF : cmp_Compare_int x y0 = r) : Pe Try.prog 123 S.none [.i x, .i y0] (.i r) S.none := by
 refine PeN 20 [.tmp 4] [3] Ty.ok Fn.b123 Try.func123 ?_
 intro Q g hfin
 unfold cmp_Compare_int at hF
 refine NR [] [0, 1] [] [] [] .nil ?_
 obtain ⟨x1, h0, hF⟩ := lt_split hF
 refine NR [.callB (.bool x1)] [0, 1, 5] [] [] [(5, .bool x1)] (hc (cmp_isNaN_int_ok x x1 h0) .nil) ?_
 obtain ⟨x2, h1, hF⟩ := lt_split hF
 refine NR [.callB (.bool x2)] [0, 1, 5, 6] [] [] [(6, .bool x2)] (hc (cmp_isNaN_int_ok y0 x2 h1) .nil) ?_
 refine NR [] [0, 1, 6, 11] [] [] [(11, .bool x1)] .nil ?_
 refine Nif hF (fun hb hF => ?_) (fun hb hF => ?_)
 ·refine NR [] [12] [] [] [(12, .bool x2)] .nil ?_
  refine Nif hF (fun hb hF => ?_) (fun hb hF => ?_)
  ·refine NR [] [4] [] [] [(4, .i 0)] .nil ?_
   cases hF
   exact Wk_ret (hfin _ ⟨[], [], [], [], [], [], by kernel_rfl⟩)
  ·refine NR [] [4] [] [] [(4, .i (-1))] .nil ?_
   cases hF
   exact Wk_ret (hfin _ ⟨[], [], [], [], [], [], by kernel_rfl⟩)
 ·refine NR [] [0, 1, 13] [] [] [(13, .bool x2)] .nil ?_
  refine Nif hF (fun hb hF => ?_) (fun hb hF => ?_)
  ·refine NR [] [4] [] [] [(4, .i 1)] .nil ?_
   cases hF
   exact Wk_ret (hfin _ ⟨[], [], [], [], [], [], by kernel_rfl⟩)
  ·refine NR [] [0, 1, 16] [] [] [(16, .bool (decide (x < y0)))] .nil ?_
   refine Nif hF (fun hb hF => ?_) (fun hb hF => ?_)
   ·refine NR [] [4] [] [] [(4, .i (-1))] .nil ?_
    cases hF
    exact Wk_ret (hfin _ ⟨[], [], [], [], [], [], by kernel_rfl⟩)
   ·refine NR [] [19] [] [] [(19, .bool (decide (y0 < x)))] .nil ?_
    refine Nif hF (fun hb hF => ?_) (fun hb hF => ?_)
    ·refine NR [] [4] [] [] [(4, .i 1)] .nil ?_
     cases hF
     exact Wk_ret (hfin _ ⟨[], [], [], [], [], [], by kernel_rfl⟩)
    ·refine NR [] [4] [] [] [(4, .i 0)] .nil ?_
     cases hF
     exact Wk_ret (hfin _ ⟨[], [], [], [], [], [], by kernel_rfl⟩)

/- cmp.Or[int] -/
noncomputable def cmp_Or_int_J1 (v : Unit) : Option Int :=
 some 0
noncomputable def cmp_Or_int_B1 (vals : List Int) (v1 : Int) : Option (Int ⊕ Int) :=
 if (decide (v1 < (vals.length : Int))) = true then
  asrt (0 ≤ v1 ∧ v1 < (vals.length : Int)) <|
  if (!decide ((lget vals v1) = 0)) = true then
   some (Sum.inr (lget vals v1))
  else
   some (Sum.inl (w64 (v1 + 1)))
 else
  inrO (cmp_Or_int_J1 ())
noncomputable def cmp_Or_int_L1 (vals : List Int) (v0 : Int) : Option Int :=
 loopO (fun y => cmp_Or_int_B1 vals y) v0
noncomputable def cmp_Or_int (vals : List Int) : Option Int :=
 cmp_Or_int_L1 vals 0
theorem cmp_Or_int_ok (vals : List Int) (r : Int) (hF : cmp_Or_int vals = some r) : Pe Try.prog 121 S.none [.sl 1 (vals.map e_i64)] (.i r) S.none := by
 refine PeN 18 [.tmp 2] [3] Ty.ok Fn.b121 Try.func121 ?_
 intro Q g hfin
 unfold cmp_Or_int at hF
 refine NR [] [0] [] [] [] .nil ?_
 refine NR [] [0, 3] [] [] [(3, .i 0)] .nil ?_
 refine NR [.nat (vals.length : Int)] [3, 6, 7, 8] [] [] [(6, .sl 1 (vals.map e_i64)), (7, .i (vals.length : Int)), (8, .i 0)] (hc (len_ok e_i64 vals) .nil) ?_
 refine NmeetP (fun v : Unit => (⟨[(3, .i 0)], [], [], [], []⟩ : S)) (fun v => cmp_Or_int_J1 v = some r) ?_ ?_
 ·refine Nblk ?_
  unfold cmp_Or_int_L1 at hF
  refine Niter (fun v1 : Int => (⟨[(3, .i 0), (6, .sl 1 (vals.map e_i64)), (7, .i (vals.length : Int)), (8, .i v1)], [], [], [], []⟩ : S)) [] hF (by kernel_rfl) ?_
  intro n1 v1 y1 hF ih1 dn1
  unfold cmp_Or_int_B1 at hF
  refine NR [] [3, 6, 7, 8, 9] [] [] [(9, .bool (decide (v1 < (vals.length : Int))))] .nil ?_
  refine Nif hF (fun hb hF => ?_) (fun hb hF => ?_)
  ·refine Nblk ?_
   obtain ⟨h0, hF⟩ := asrt_elim hF
   refine NR [.av (e_i64 (lget vals v1))] [3, 5, 6, 7, 8] [] [] [(5, .i (lget vals v1))] (hc (idx_ok e_i64 h0) .nil) ?_
   refine NR [] [3, 5, 6, 7, 8, 14] [] [] [(14, .bool (!decide ((lget vals v1) = 0)))] .nil ?_
   refine Nif hF (fun hb hF => ?_) (fun hb hF => ?_)
   ·refine NR [] [2] [] [] [(2, .i (lget vals v1))] .nil ?_
    have hF := ret_done hF dn1
    cases hF
    exact Wk_ret (hfin _ ⟨[], [], [], [], [], [], by kernel_rfl⟩)
   ·refine NR [] [3, 6, 7, 8] [] [] [(8, .i (w64 (v1 + 1)))] .nil ?_
    exact Nrnd [] hF ih1 (by kernel_rfl)
  ·refine Nexit rfl ?_
   have hF := inrO_done hF dn1
   exact metP () [] hF (by kernel_rfl)
 ·intro v hF
  have hF : cmp_Or_int_J1 v = some r := hF
  unfold cmp_Or_int_J1 at hF
  refine NR [] [2] [] [] [(2, .i 0)] .nil ?_
  cases hF
  exact Wk_ret (hfin _ ⟨[], [], [], [], [], [], by kernel_rfl⟩)

/- cell.Order -/
noncomputable def cell_Order (a0 : Cell) (b : Cell) : Option Int :=
 lt (cmp_Compare_string a0.Row b.Row) fun x =>
 lt (cmp_Compare_string a0.Col b.Col) fun x1 =>
 lt (cmp_Compare_int b.Time a0.Time) fun x2 =>
 ob (cmp_Or_int ([x, x1, x2] : List Int)) fun x3 =>
 some x3
theorem cell_Order_ok (a0 : Cell) (b : Cell) (r : Int) (hF : cell_Order a0 b = some r) : Pe Try.prog 109 S.none [.agg (c_Cell a0), .agg (c_Cell b)] (.i r) S.none := by
 refine PeN 22 [.tmp 4] [3] Ty.ok Fn.b109 Try.func109 ?_
 intro Q g hfin
 unfold cell_Order at hF
 refine VR [] [2, 3] [2, 3] [] [] [(2, .ptr 2 0), (3, .ptr 3 0)] [(2, (c_Cell a0)), (3, (c_Cell b))] [] [] .nil ?_
 obtain ⟨x, h0, hF⟩ := lt_split hF
 obtain ⟨x1, h1, hF⟩ := lt_split hF
 obtain ⟨x2, h2, hF⟩ := lt_split hF
 obtain ⟨x3, h3, hF⟩ := ob_elim hF
 refine ND [.callB (.i x), .callB (.i x1), .callB (.i x2), .sealed, .callB (.i x3)] [4] [] [] [(4, .i x3)] (hc (cmp_Compare_string_ok a0.Row b.Row x h0) (hc (cmp_Compare_string_ok a0.Col b.Col x1 h1) (hc (cmp_Compare_int_ok b.Time a0.Time x2 h2) (hc (cmp_Or_int_ok ([x, x1, x2] : List Int) x3 h3) .nil)))) ?_
 cases hF
 exact Wk_ret (hfin _ ⟨[], [], [], [], [], [], by kernel_rfl⟩)

/- cell.Check -/
noncomputable def cell_Check_J1 (v : Fault) : Option Fault :=
 some (⟨0, 0⟩ : Fault)
noncomputable def cell_Check_B1 (l : List Cell) (v1 : Fault × Int) : Option ((Fault × Int) ⊕ Fault) :=
 if (decide (v1.2 < (l.length : Int))) = true then
  asrt (0 ≤ v1.2 ∧ v1.2 < (l.length : Int)) <|
  lt (cell_code (⟨(lget l v1.2).Row, (lget l v1.2).Col, (lget l v1.2).Time, (lget l v1.2).Gone, (lget l v1.2).Value⟩ : Cell)) fun x1 =>
  if (!decide (x1 = 0)) = true then
   lt (cell_fault x1 v1.2) fun x2 =>
   some (Sum.inr x2)
  else
   asrt ((decide (0 < v1.2)) = true → 0 ≤ w64 (v1.2 - 1) ∧ w64 (v1.2 - 1) < (l.length : Int)) <|
   ob (if (decide (0 < v1.2)) = true then (cell_Order (⟨(lget l (w64 (v1.2 - 1))).Row, (lget l (w64 (v1.2 - 1))).Col, (lget l (w64 (v1.2 - 1))).Time, (lget l (w64 (v1.2 - 1))).Gone, (lget l (w64 (v1.2 - 1))).Value⟩ : Cell) (⟨(lget l v1.2).Row, (lget l v1.2).Col, (lget l v1.2).Time, (lget l v1.2).Gone, (lget l v1.2).Value⟩ : Cell)) else some default) fun x3 =>
   if ((decide (0 < v1.2)) && (decide (0 ≤ x3))) = true then
    lt (cell_fault 10 v1.2) fun x4 =>
    some (Sum.inr x4)
   else
    some (Sum.inl (v1.1, w64 (v1.2 + 1)))
 else
  inrO (cell_Check_J1 v1.1)
noncomputable def cell_Check_L1 (l : List Cell) (v0 : Fault × Int) : Option Fault :=
 loopO (fun y => cell_Check_B1 l y) v0
noncomputable def cell_Check (l : List Cell) : Option Fault :=
 if (decide (1000 < (l.length : Int))) = true then
  lt (cell_fault 2 0) fun x =>
  some x
 else
  cell_Check_L1 l ((⟨0, 0⟩ : Fault), 0)
theorem cell_Check_ok (l : List Cell) (r : Fault) (hF : cell_Check l = some r) : Pe Try.prog 75 S.none [.sl 5 (l.map e_Cell)] (.agg (c_Fault r)) S.none := by
 refine PeN 40 [.cell 2 31] [31] Ty.ok Fn.b75 Try.func75 ?_
 intro Q g hfin
 unfold cell_Check at hF
 refine VR [] [0, 2] [2] [] [] [(2, .ptr 2 0)] [(2, [.i 0, .i 0])] [] [] .nil ?_
 refine NR [.nat (l.length : Int)] [0, 2, 8] [2] [] [(8, .bool (decide (1000 < (l.length : Int))))] (hc (len_ok e_Cell l) .nil) ?_
 refine Nif hF (fun hb hF => ?_) (fun hb hF => ?_)
 ·obtain ⟨x, h0, hF⟩ := lt_split hF
  refine VR [.callB (.agg (c_Fault x))] [2] [2] [] [] [] [(2, (c_Fault x))] [] [] (hc (cell_fault_ok 2 0 x h0) .nil) ?_
  cases hF
  exact Wk_ret (hfin _ ⟨[], [], [], [], [], [], by kernel_rfl⟩)
 ·refine NR [.nat (l.length : Int)] [0, 2, 10, 11, 12] [2] [] [(10, .sl 5 (l.map e_Cell)), (11, .i (l.length : Int)), (12, .i 0)] (hc (len_ok e_Cell l) .nil) ?_
  refine NmeetP (fun v : Fault => (⟨[(2, .ptr 2 0)], [(2, (c_Fault v))], [], [], []⟩ : S)) (fun v => cell_Check_J1 v = some r) ?_ ?_
  ·refine Nblk ?_
   unfold cell_Check_L1 at hF
   refine Niter (fun v1 : Fault × Int => (⟨[(0, .sl 5 (l.map e_Cell)), (2, .ptr 2 0), (10, .sl 5 (l.map e_Cell)), (11, .i (l.length : Int)), (12, .i v1.2)], [(2, (c_Fault v1.1))], [], [], []⟩ : S)) [] hF (by kernel_rfl) ?_
   intro n1 v1 y1 hF ih1 dn1
   unfold cell_Check_B1 at hF
   refine NR [] [0, 2, 10, 11, 12, 13] [2] [] [(13, .bool (decide (v1.2 < (l.length : Int))))] .nil ?_
   refine Nif hF (fun hb hF => ?_) (fun hb hF => ?_)
   ·refine Nblk ?_
    obtain ⟨h1, hF⟩ := asrt_elim hF
    refine VR [.av (e_Cell (lget l v1.2))] [0, 2, 3, 4, 10, 11, 12] [2, 4] [] [] [(3, .i v1.2), (4, .ptr 4 0)] [(4, (c_Cell (lget l v1.2)))] [] [] (hc (idx_ok e_Cell h1) .nil) ?_
    obtain ⟨x1, h2, hF⟩ := lt_split hF
    refine NR [.callB (.i x1)] [0, 2, 3, 4, 5, 10, 11, 12] [2, 4] [] [(5, .i x1)] (hc (cell_code_ok (⟨(lget l v1.2).Row, (lget l v1.2).Col, (lget l v1.2).Time, (lget l v1.2).Gone, (lget l v1.2).Value⟩ : Cell) x1 h2) .nil) ?_
    refine NR [] [0, 2, 3, 4, 5, 10, 11, 12, 20] [2, 4] [] [(20, .bool (!decide (x1 = 0)))] .nil ?_
    refine Nif hF (fun hb hF => ?_) (fun hb hF => ?_)
    ·obtain ⟨x2, h3, hF⟩ := lt_split hF
     refine VR [.callB (.agg (c_Fault x2))] [2] [2] [] [] [] [(2, (c_Fault x2))] [] [] (hc (cell_fault_ok x1 v1.2 x2 h3) .nil) ?_
     have hF := ret_done hF dn1
     cases hF
     exact Wk_ret (hfin _ ⟨[], [], [], [], [], [], by kernel_rfl⟩)
    ·obtain ⟨h4, hF⟩ := asrt_elim hF
     obtain ⟨x3, h5, hF⟩ := ob_elim hF
     refine ND [.av (e_Cell (lget l (w64 (v1.2 - 1)))), .callB (.i x3)] [0, 2, 3, 10, 11, 12, 35] [2] [] [(35, .bool ((decide (0 < v1.2)) && (decide (0 ≤ x3))))] (hc (fun (ga0 : (decide (0 < v1.2)) = true) => (idx_ok e_Cell (h4 ga0))) (hc (fun (ga0 : (decide (0 < v1.2)) = true) => (cell_Order_ok (⟨(lget l (w64 (v1.2 - 1))).Row, (lget l (w64 (v1.2 - 1))).Col, (lget l (w64 (v1.2 - 1))).Time, (lget l (w64 (v1.2 - 1))).Gone, (lget l (w64 (v1.2 - 1))).Value⟩ : Cell) (⟨(lget l v1.2).Row, (lget l v1.2).Col, (lget l v1.2).Time, (lget l v1.2).Gone, (lget l v1.2).Value⟩ : Cell) x3 (ite_t h5 ga0))) .nil)) ?_
     refine Nif hF (fun hb hF => ?_) (fun hb hF => ?_)
     ·obtain ⟨x4, h6, hF⟩ := lt_split hF
      refine VR [.callB (.agg (c_Fault x4))] [2] [2] [] [] [] [(2, (c_Fault x4))] [] [] (hc (cell_fault_ok 10 v1.2 x4 h6) .nil) ?_
      have hF := ret_done hF dn1
      cases hF
      exact Wk_ret (hfin _ ⟨[], [], [], [], [], [], by kernel_rfl⟩)
     ·refine NR [] [0, 2, 10, 11, 12] [2] [] [(12, .i (w64 (v1.2 + 1)))] .nil ?_
      exact Nrnd [] hF ih1 (by kernel_rfl)
   ·refine Nexit rfl ?_
    have hF := inrO_done hF dn1
    exact metP v1.1 [] hF (by kernel_rfl)
  ·intro v hF
   have hF : cell_Check_J1 v = some r := hF
   unfold cell_Check_J1 at hF
   refine VR [] [2] [2] [] [] [] [(2, [.i 0, .i 0])] [] [] .nil ?_
   cases hF
   exact Wk_ret (hfin _ ⟨[], [], [], [], [], [], by kernel_rfl⟩)

/- file.fault -/
noncomputable def file_fault (code : Int) (at0 : Int) : Fault :=
 (⟨code, at0⟩ : Fault)
theorem file_fault_ok (code : Int) (at0 : Int) (r : Fault) (hF : file_fault code at0 = r) : Pe Try.prog 76 S.none [.i code, .i at0] (.agg (c_Fault r)) S.none := by
 refine PeN 8 [.cell 4 31] [31] Ty.ok Fn.b76 Try.func76 ?_
 intro Q g hfin
 unfold file_fault at hF
 refine VR [] [0, 1, 4] [4] [] [] [(4, .ptr 4 0)] [(4, [.i 0, .i 0])] [] [] .nil ?_
 refine VR [] [4] [4] [] [] [] [(4, [.i code, .i at0])] [] [] .nil ?_
 cases hF
 exact Wk_ret (hfin _ ⟨[], [], [], [], [], [], by kernel_rfl⟩)

/- wire.AddNum -/
noncomputable def wire_AddNum_v2_J1 (v : List UInt8 × Int) : Option (List UInt8) :=
 asrt (((v.1 ++ ([toU8 v.2] : List UInt8)).length : Int) * 1 ≤ 140737488351232) <|
 some (v.1 ++ ([toU8 v.2] : List UInt8))
noncomputable def wire_AddNum_v2_B1 (v1 : List UInt8 × Int) : Option ((List UInt8 × Int) ⊕ (List UInt8)) :=
 if (decide (127 < v1.2)) = true then
  asrt (((v1.1 ++ ([toU8 (((BitVec.ofInt 8 ((toU8 v1.2).toNat : Int) ||| BitVec.ofInt 8 ((128 : UInt8).toNat : Int)).toNat : Int))] : List UInt8)).length : Int) * 1 ≤ 140737488351232) <|
  lt ((v1.1 ++ ([toU8 (((BitVec.ofInt 8 ((toU8 v1.2).toNat : Int) ||| BitVec.ofInt 8 ((128 : UInt8).toNat : Int)).toNat : Int))] : List UInt8))) fun (v2 : List UInt8) =>
  some (Sum.inl (v2, Int.fdiv v1.2 (2 ^ (min (7 : Int).toNat 64))))
 else
  inrO (wire_AddNum_v2_J1 (v1.1, v1.2))
noncomputable def wire_AddNum_v2_L1 (v0 : List UInt8 × Int) : Option (List UInt8) :=
 loopO (fun y => wire_AddNum_v2_B1 y) v0
noncomputable def wire_AddNum_v2 (num : Int) (row : List UInt8) : Option (List UInt8) :=
 wire_AddNum_v2_L1 (row, num)
theorem wire_AddNum_v2_ok (num : Int) (row : List UInt8) (rk : Nat) (rc : Nat) (rn : Bool) (r : List UInt8) (hF : wire_AddNum_v2 num row = some r) : Pe Try.prog 78 ⟨[], [], [(100000, ⟨5, 1, 0, rk, rc, rn, 0, [], (row.map e_u8)⟩)], [], []⟩ [.row 100000 0, .i num] (.row 100000 2) ⟨[], [], [(100000, ⟨5, 1, 2, rk, rc, rn, 0, [], (r.map e_u8)⟩)], [], []⟩ := by
 refine PeN 20 [.tmp 4] [25] Ty.ok Fn.b78 Try.func78 ?_
 intro Q g hfin
 unfold wire_AddNum_v2 at hF
 refine NR [] [0, 1] [] [100000] [] .nil ?_
 refine NmeetP (fun v : List UInt8 × Int => (⟨[(0, .row 100000 1), (1, .i v.2)], [], [(100000, ⟨5, 1, 1, rk, rc, rn, 0, [], (v.1.map e_u8)⟩)], [], []⟩ : S)) (fun v => wire_AddNum_v2_J1 v = some r) ?_ ?_
 ·refine Nblk ?_
  unfold wire_AddNum_v2_L1 at hF
  refine Niter (fun v1 : List UInt8 × Int => (⟨[(0, .row 100000 1), (1, .i v1.2)], [], [(100000, ⟨5, 1, 1, rk, rc, rn, 0, [], (v1.1.map e_u8)⟩)], [], []⟩ : S)) [(100000, ⟨1, true, true, false⟩)] hF (by kernel_rfl) ?_
  intro n1 v1 y1 hF ih1 dn1
  unfold wire_AddNum_v2_B1 at hF
  refine NR [] [0, 1, 6] [] [100000] [(6, .bool (decide (127 < v1.2)))] .nil ?_
  refine Nif hF (fun hb hF => ?_) (fun hb hF => ?_)
  ·refine Nblk ?_
   obtain ⟨h1, hF⟩ := asrt_elim hF
   refine NRL ((v1.1 ++ ([toU8 (((BitVec.ofInt 8 ((toU8 v1.2).toNat : Int) ||| BitVec.ofInt 8 ((128 : UInt8).toNat : Int)).toNat : Int))] : List UInt8))) (fun v2 : List UInt8 => ([(0, .row 100000 2)], [], [(100000, ⟨5, 1, 2, rk, rc, rn, 0, [], (v2.map e_u8)⟩)], [])) [.sealed, .xs ((v1.1 ++ ([toU8 (((BitVec.ofInt 8 ((toU8 v1.2).toNat : Int) ||| BitVec.ofInt 8 ((128 : UInt8).toNat : Int)).toNat : Int))] : List UInt8)).map e_u8)] [0, 1] [] [100000] [] (hc (app_ok e_u8 v1.1 ([toU8 (((BitVec.ofInt 8 ((toU8 v1.2).toNat : Int) ||| BitVec.ofInt 8 ((128 : UInt8).toNat : Int)).toNat : Int))] : List UInt8)) (hc (appl_ok e_u8 h1) .nil)) (fun v2 hv => ?_)
   have hF := lt_elim hF hv
   refine NR [] [0, 1] [] [100000] [(1, .i (Int.fdiv v1.2 (2 ^ (min (7 : Int).toNat 64))))] (hc (by decide : (0 : Int) ≤ 7) .nil) ?_
   exact Nrnd [(100000, ⟨1, true, true, false⟩)] hF ih1 (by kernel_rfl)
  ·refine Nexit rfl ?_
   have hF := inrO_done hF dn1
   exact metP (v1.1, v1.2) [] hF (by kernel_rfl)
 ·intro v hF
  have hF : wire_AddNum_v2_J1 v = some r := hF
  unfold wire_AddNum_v2_J1 at hF
  obtain ⟨h0, hF⟩ := asrt_elim hF
  refine VR [.sealed, .xs ((v.1 ++ ([toU8 v.2] : List UInt8)).map e_u8)] [4] [] [100000] [] [(4, .row 100000 2)] [] [(100000, ⟨5, 1, 2, rk, rc, rn, 0, [], ((v.1 ++ ([toU8 v.2] : List UInt8)).map e_u8)⟩)] [] (hc (app_ok e_u8 v.1 ([toU8 v.2] : List UInt8)) (hc (appl_ok e_u8 h0) .nil)) ?_
  cases hF
  exact Wk_ret (hfin _ ⟨[100000], [], [100000], [], [], [], by kernel_rfl⟩)

/- wire.AddText -/
noncomputable def wire_AddText_v2 (s0 : List UInt8) (row : List UInt8) : Option (List UInt8) :=
 ob (wire_AddNum_v2 (s0.length : Int) row) fun x =>
 asrt (((x ++ s0).length : Int) * 1 ≤ 140737488351232) <|
 some (x ++ s0)
theorem wire_AddText_v2_ok (s0 : List UInt8) (row : List UInt8) (rk : Nat) (rc : Nat) (rn : Bool) (r : List UInt8) (hF : wire_AddText_v2 s0 row = some r) : Pe Try.prog 79 ⟨[], [], [(100000, ⟨5, 1, 0, rk, rc, rn, 0, [], (row.map e_u8)⟩)], [], []⟩ [.row 100000 0, .str s0] (.row 100000 3) ⟨[], [], [(100000, ⟨5, 1, 3, rk, rc, rn, 0, [], (r.map e_u8)⟩)], [], []⟩ := by
 refine PeN 11 [.tmp 4] [25] Ty.ok Fn.b79 Try.func79 ?_
 intro Q g hfin
 unfold wire_AddText_v2 at hF
 refine NR [] [0, 1] [] [100000] [] .nil ?_
 obtain ⟨x, h0, hF⟩ := ob_elim hF
 obtain ⟨h1, hF⟩ := asrt_elim hF
 refine VR [.callE [] [100000] [] [] (.row 100000 2) ⟨[], [], [(100000, ⟨5, 1, 2, rk, rc, rn, 0, [], (x.map e_u8)⟩)], [], []⟩, .xs ((x ++ s0).map e_u8)] [4] [] [100000] [] [(4, .row 100000 3)] [] [(100000, ⟨5, 1, 3, rk, rc, rn, 0, [], ((x ++ s0).map e_u8)⟩)] [] (hc (Pe.ren (wire_AddNum_v2_ok (s0.length : Int) row rk rc rn x h0) ⟨[], [], [], []⟩) (hc (app_ok e_u8 x s0) (hc (appl_ok e_u8 h1) .nil))) ?_
 cases hF
 exact Wk_ret (hfin _ ⟨[100000], [], [100000], [], [], [], by kernel_rfl⟩)

/- cell.Add -/
noncomputable def cell_Add_v2 (c : Cell) (row : List UInt8) : Option (List UInt8) :=
 ob (wire_AddText_v2 c.Row row) fun x =>
 ob (wire_AddText_v2 c.Col x) fun x1 =>
 ob (
  if c.Gone = true then
   some (c, 1)
  else
   some (c, 0)) fun (v : Cell × Int) =>
 ob (wire_AddNum_v2 v.1.Time x1) fun x2 =>
 ob (wire_AddNum_v2 v.2 x2) fun x3 =>
 ob (wire_AddText_v2 v.1.Value x3) fun x4 =>
 some x4
theorem cell_Add_v2_ok (c : Cell) (row : List UInt8) (rk : Nat) (rc : Nat) (rn : Bool) (r : List UInt8) (hF : cell_Add_v2 c row = some r) : Pe Try.prog 104 ⟨[], [], [(100000, ⟨5, 1, 0, rk, rc, rn, 0, [], (row.map e_u8)⟩)], [], []⟩ [.row 100000 0, .agg (c_Cell c)] (.row 100000 13) ⟨[], [], [(100000, ⟨5, 1, 13, rk, rc, rn, 0, [], (r.map e_u8)⟩)], [], []⟩ := by
 refine PeN 24 [.tmp 4] [25] Ty.ok Fn.b104 Try.func104 ?_
 intro Q g hfin
 unfold cell_Add_v2 at hF
 refine VR [] [0, 3] [3] [100000] [] [(3, .ptr 3 0)] [(3, (c_Cell c))] [] [] .nil ?_
 obtain ⟨x, h0, hF⟩ := ob_elim hF
 obtain ⟨x1, h1, hF⟩ := ob_elim hF
 refine VD [.callE [] [100000] [] [] (.row 100000 3) ⟨[], [], [(100000, ⟨5, 1, 3, rk, rc, rn, 0, [], (x.map e_u8)⟩)], [], []⟩, .callE [] [100000] [] [] (.row 100000 6) ⟨[], [], [(100000, ⟨5, 1, 6, rk, rc, rn, 0, [], (x1.map e_u8)⟩)], [], []⟩] [0, 3] [3] [100000] [] [(0, .row 100000 6)] [] [(100000, ⟨5, 1, 6, rk, rc, rn, 0, [], (x1.map e_u8)⟩)] [] (hc (Pe.ren (wire_AddText_v2_ok c.Row row rk rc rn x h0) ⟨[], [], [], []⟩) (hc (Pe.ren (wire_AddText_v2_ok c.Col x rk rc rn x1 h1) ⟨[], [], [], [(100000, 3)]⟩) .nil)) ?_
 refine NR [] [0, 3, 5] [3] [100000] [(5, .i 0)] .nil ?_
 refine NR [] [0, 3, 5, 14] [3] [100000] [(14, .bool c.Gone)] .nil ?_
 obtain ⟨v, hv, hF⟩ := ob_elim hF
 refine Nmeet (⟨[(0, .row 100000 6), (3, .ptr 3 0), (5, .i v.2)], [(3, (c_Cell v.1))], [(100000, ⟨5, 1, 6, rk, rc, rn, 0, [], (x1.map e_u8)⟩)], [], []⟩ : S) ?_ ?_
 ·have hF := hv
  refine Nif hF (fun hb hF => ?_) (fun hb hF => ?_)
  ·refine NR [] [0, 3, 5] [3] [100000] [(5, .i 1)] .nil ?_
   cases hF
   exact met [] (by kernel_rfl)
  ·cases hF
   exact met [] (by kernel_rfl)
 ·obtain ⟨x2, h2, hF⟩ := ob_elim hF
  obtain ⟨x3, h3, hF⟩ := ob_elim hF
  obtain ⟨x4, h4, hF⟩ := ob_elim hF
  refine VD [.callE [] [100000] [] [] (.row 100000 8) ⟨[], [], [(100000, ⟨5, 1, 8, rk, rc, rn, 0, [], (x2.map e_u8)⟩)], [], []⟩, .callE [] [100000] [] [] (.row 100000 10) ⟨[], [], [(100000, ⟨5, 1, 10, rk, rc, rn, 0, [], (x3.map e_u8)⟩)], [], []⟩, .callE [] [100000] [] [] (.row 100000 13) ⟨[], [], [(100000, ⟨5, 1, 13, rk, rc, rn, 0, [], (x4.map e_u8)⟩)], [], []⟩] [4] [] [100000] [] [(4, .row 100000 13)] [] [(100000, ⟨5, 1, 13, rk, rc, rn, 0, [], (x4.map e_u8)⟩)] [] (hc (Pe.ren (wire_AddNum_v2_ok v.1.Time x1 rk rc rn x2 h2) ⟨[], [], [], [(100000, 6)]⟩) (hc (Pe.ren (wire_AddNum_v2_ok v.2 x2 rk rc rn x3 h3) ⟨[], [], [], [(100000, 8)]⟩) (hc (Pe.ren (wire_AddText_v2_ok v.1.Value x3 rk rc rn x4 h4) ⟨[], [], [], [(100000, 10)]⟩) .nil))) ?_
  cases hF
  exact Wk_ret (hfin _ ⟨[100000], [], [100000], [], [], [], by kernel_rfl⟩)

/- file.blocks -/
noncomputable def file_blocks_J1 (v : List (List UInt8) × List (List UInt8)) : Option (List (List UInt8) × List (List UInt8)) :=
 some (v.1, v.2)
noncomputable def file_blocks_B1 (l : List Cell) (size : Int) (v1 : List (List UInt8) × List (List UInt8) × List UInt8 × Int) : Option ((List (List UInt8) × List (List UInt8) × List UInt8 × Int) ⊕ (List (List UInt8) × List (List UInt8))) :=
 if (decide (v1.2.2.2 < (l.length : Int))) = true then
  asrt (0 ≤ v1.2.2.2 ∧ v1.2.2.2 < (l.length : Int)) <|
  ob (
   if (decide (v1.2.2.1.length = 0)) = true then
    asrt (((v1.2.1 ++ ([(lget l v1.2.2.2).Row] : List (List UInt8))).length : Int) * 16 ≤ 140737488351232) <|
    some ((v1.2.1 ++ ([(lget l v1.2.2.2).Row] : List (List UInt8))), (⟨(lget l v1.2.2.2).Row, (lget l v1.2.2.2).Col, (lget l v1.2.2.2).Time, (lget l v1.2.2.2).Gone, (lget l v1.2.2.2).Value⟩ : Cell))
   else
    some (v1.2.1, (⟨(lget l v1.2.2.2).Row, (lget l v1.2.2.2).Col, (lget l v1.2.2.2).Time, (lget l v1.2.2.2).Gone, (lget l v1.2.2.2).Value⟩ : Cell))) fun (v2 : List (List UInt8) × Cell) =>
  ob (cell_Add_v2 v2.2 v1.2.2.1) fun x =>
  ob (
   if ((decide (size ≤ (x.length : Int))) || (decide (v1.2.2.2 = (w64 ((l.length : Int) - 1))))) = true then
    asrt (((v1.1 ++ ([x] : List (List UInt8))).length : Int) * 24 ≤ 140737488351232) <|
    some ((v1.1 ++ ([x] : List (List UInt8))), ([] : List UInt8))
   else
    some (v1.1, x)) fun (v3 : List (List UInt8) × List UInt8) =>
  some (Sum.inl (v3.1, v2.1, v3.2, w64 (v1.2.2.2 + 1)))
 else
  inrO (file_blocks_J1 (v1.1, v1.2.1))
noncomputable def file_blocks_L1 (l : List Cell) (size : Int) (v0 : List (List UInt8) × List (List UInt8) × List UInt8 × Int) : Option (List (List UInt8) × List (List UInt8)) :=
 loopO (fun y => file_blocks_B1 l size y) v0
noncomputable def file_blocks (l : List Cell) (size : Int) : Option (List (List UInt8) × List (List UInt8)) :=
 file_blocks_L1 l size (([] : List (List UInt8)), ([] : List (List UInt8)), ([] : List UInt8), 0)
theorem file_blocks_ok (l : List Cell) (size : Int) (r : List (List UInt8) × List (List UInt8)) (hF : file_blocks l size = some r) : Pe Try.prog 77 S.none [.sl 5 (l.map e_Cell), .i size] (.tup [.row 40 0, .row 22 0]) ⟨[], [], [(22, .z 9 1 0 (r.2.map e_str)), (40, .z 25 1 0 (r.1.map e_L_u8))], [], []⟩ := by
 refine PeN 44 [.tmp 4, .tmp 5] [52, 112] Ty.ok Fn.b77 Try.func77 ?_
 intro Q g hfin
 unfold file_blocks at hF
 refine NR [] [0, 1, 4, 5] [] [] [(4, .nils), (5, .nils)] .nil ?_
 refine NR [] [0, 1, 4, 5, 6] [] [] [(6, .nils)] .nil ?_
 refine NR [.nat (l.length : Int)] [0, 1, 4, 5, 6, 9, 10, 11] [] [] [(9, .sl 5 (l.map e_Cell)), (10, .i (l.length : Int)), (11, .i 0)] (hc (len_ok e_Cell l) .nil) ?_
 refine NmeetP (fun v : List (List UInt8) × List (List UInt8) => (⟨[(4, .row 40 0), (5, .row 22 0)], [], [(22, .z 9 1 0 (v.2.map e_str)), (40, .z 25 1 0 (v.1.map e_L_u8))], [], []⟩ : S)) (fun v => file_blocks_J1 v = some r) ?_ ?_
 ·refine Nblk ?_
  unfold file_blocks_L1 at hF
  refine Wk_nilrow 4 60000 25 1 rfl rfl rfl ?_
  refine Wk_nilrow 5 60001 9 1 rfl rfl rfl ?_
  refine Wk_nilrow 6 60002 5 1 rfl rfl rfl ?_
  refine Wk_trim (fs := [0, 1, 4, 5, 6, 9, 10, 11]) (bs := []) (rs := [60000, 60001, 60002]) (ms := []) (aa := []) (nv := []) rfl ?_
  refine Wk_ren' ⟨[], [(60000, 40), (60001, 22), (60002, 25)], [], []⟩ rfl ?_
  refine Niter (fun v1 : List (List UInt8) × List (List UInt8) × List UInt8 × Int => (⟨[(0, .sl 5 (l.map e_Cell)), (1, .i size), (4, .row 40 0), (5, .row 22 0), (6, .row 25 0), (9, .sl 5 (l.map e_Cell)), (10, .i (l.length : Int)), (11, .i v1.2.2.2)], [], [(22, .z 9 1 0 (v1.2.1.map e_str)), (25, .z 5 1 0 (v1.2.2.1.map e_u8)), (40, .z 25 1 0 (v1.1.map e_L_u8))], [], []⟩ : S)) [] hF (by kernel_rfl) ?_
  intro n1 v1 y1 hF ih1 dn1
  unfold file_blocks_B1 at hF
  refine NR [] [0, 1, 4, 5, 6, 9, 10, 11, 12] [] [22, 25, 40] [(12, .bool (decide (v1.2.2.2 < (l.length : Int))))] .nil ?_
  refine Nif hF (fun hb hF => ?_) (fun hb hF => ?_)
  ·refine Nblk ?_
   obtain ⟨h0, hF⟩ := asrt_elim hF
   refine VR [.av (e_Cell (lget l v1.2.2.2))] [0, 1, 4, 5, 6, 7, 8, 9, 10, 11] [8] [22, 25, 40] [] [(7, .i v1.2.2.2), (8, .ptr 8 0)] [(8, (c_Cell (lget l v1.2.2.2)))] [] [] (hc (idx_ok e_Cell h0) .nil) ?_
   refine NR [.bo (decide (v1.2.2.1.length = 0))] [0, 1, 4, 5, 6, 7, 8, 9, 10, 11, 17] [8] [22, 25, 40] [(17, .bool (decide (v1.2.2.1.length = 0)))] (hc (nil_ok e_u8 v1.2.2.1) .nil) ?_
   obtain ⟨v2, hv, hF⟩ := ob_elim hF
   refine Nmeet (⟨[(0, .sl 5 (l.map e_Cell)), (1, .i size), (4, .row 40 0), (5, .row 22 0), (6, .row 25 0), (7, .i v1.2.2.2), (8, .ptr 8 0), (9, .sl 5 (l.map e_Cell)), (10, .i (l.length : Int)), (11, .i v1.2.2.2)], [(8, (c_Cell v2.2))], [(22, .z 9 1 0 (v2.1.map e_str)), (25, .z 5 1 0 (v1.2.2.1.map e_u8)), (40, .z 25 1 0 (v1.1.map e_L_u8))], [], []⟩ : S) ?_ ?_
   ·have hF := hv
    refine Nif hF (fun hb hF => ?_) (fun hb hF => ?_)
    ·obtain ⟨h1, hF⟩ := asrt_elim hF
     refine VR [.sealed, .xs ((v1.2.1 ++ ([(lget l v1.2.2.2).Row] : List (List UInt8))).map e_str)] [0, 1, 4, 5, 6, 7, 8, 9, 10, 11] [8] [22, 25, 40] [] [(5, .row 22 1)] [] [(22, .z 9 1 1 ((v1.2.1 ++ ([(lget l v1.2.2.2).Row] : List (List UInt8))).map e_str))] [] (hc (app_ok e_str v1.2.1 ([(lget l v1.2.2.2).Row] : List (List UInt8))) (hc (appl_ok e_str h1) .nil)) ?_
     cases hF
     exact met [(22, ⟨0, true, true, false⟩)] (by kernel_rfl)
    ·cases hF
     exact met [] (by kernel_rfl)
   ·obtain ⟨x, h2, hF⟩ := ob_elim hF
    refine VR [.callE [] [25] [] [] (.row 25 13) ⟨[], [], [(25, .z 5 1 13 (x.map e_u8))], [], []⟩] [0, 1, 4, 5, 6, 7, 9, 10, 11] [] [22, 25, 40] [] [(6, .row 25 13)] [] [(25, .z 5 1 13 (x.map e_u8))] [] (hc (Pe.ren (cell_Add_v2_ok v2.2 v1.2.2.1 0 0 true x h2) ⟨[], [(100000, 25)], [], []⟩) .nil) ?_
    refine NR [.nat (x.length : Int), .nat (l.length : Int)] [0, 1, 4, 5, 6, 9, 10, 11, 36] [] [22, 25, 40] [(36, .bool ((decide (size ≤ (x.length : Int))) || (decide (v1.2.2.2 = (w64 ((l.length : Int) - 1))))))] (hc (len_ok e_u8 x) (hc (fun (_ : (!(decide (size ≤ (x.length : Int)))) = true) => (len_ok e_Cell l)) .nil)) ?_
    obtain ⟨v3, hv, hF⟩ := ob_elim hF
    refine Nmeet (⟨[(0, .sl 5 (l.map e_Cell)), (1, .i size), (4, .row 40 0), (5, .row 22 0), (6, .row 25 0), (9, .sl 5 (l.map e_Cell)), (10, .i (l.length : Int)), (11, .i v1.2.2.2)], [], [(22, .z 9 1 0 (v2.1.map e_str)), (25, .z 5 1 0 (v3.2.map e_u8)), (40, .z 25 1 0 (v3.1.map e_L_u8))], [], []⟩ : S) ?_ ?_
    ·have hF := hv
     refine Nif hF (fun hb hF => ?_) (fun hb hF => ?_)
     ·obtain ⟨h3, hF⟩ := asrt_elim hF
      refine VR [.sealed, .xs ((v1.1 ++ ([x] : List (List UInt8))).map e_L_u8)] [0, 1, 4, 5, 6, 9, 10, 11] [] [22, 40] [] [(4, .row 40 1), (6, .nils)] [] [(40, .z 25 1 1 ((v1.1 ++ ([x] : List (List UInt8))).map e_L_u8))] [] (hc (app_ok e_L_u8 v1.1 ([x] : List (List UInt8))) (hc (appl_ok e_L_u8 h3) .nil)) ?_
      refine Wk_nilrow 6 60003 5 1 rfl rfl rfl ?_
      refine Wk_trim (fs := [0, 1, 4, 5, 6, 9, 10, 11]) (bs := []) (rs := [22, 40, 60003]) (ms := []) (aa := []) (nv := []) rfl ?_
      refine Wk_ren' ⟨[], [(60003, 25)], [], []⟩ rfl ?_
      cases hF
      exact met [(40, ⟨0, true, true, false⟩)] (by kernel_rfl)
     ·cases hF
      exact met [(25, ⟨0, true, true, false⟩)] (by kernel_rfl)
    ·refine NR [] [0, 1, 4, 5, 6, 9, 10, 11] [] [22, 25, 40] [(11, .i (w64 (v1.2.2.2 + 1)))] .nil ?_
     exact Nrnd [] hF ih1 (by kernel_rfl)
  ·refine Nexit rfl ?_
   have hF := inrO_done hF dn1
   exact metP (v1.1, v1.2.1) [] hF (by kernel_rfl)
 ·intro v hF
  have hF : file_blocks_J1 v = some r := hF
  unfold file_blocks_J1 at hF
  refine NR [] [4, 5] [] [22, 40] [] .nil ?_
  cases hF
  exact Wk_ret (hfin _ ⟨[22, 40], [], [22, 40], [], [], [], by kernel_rfl⟩)

/- wire.Crc -/
noncomputable def wire_Crc_J1 (v : Int) : Option Int :=
 lt (bitsOp .xor .u32 (if IntKind.signed .u32 = true then -1 else IntKind.max .u32) v) fun (v1 : Int) =>
 some v1
noncomputable def wire_Crc_J2 (v2 : Int × Int) (v3 : Int) : Option ((Int × Int) ⊕ Int) :=
 some (Sum.inl (v3, w64 (v2.2 + 1)))
noncomputable def wire_Crc_B2 (v2 : Int × Int) (v4 : Int × Int) : Option ((Int × Int) ⊕ ((Int × Int) ⊕ Int)) :=
 if (decide (v4.2 < 8)) = true then
  ob (
   if (decide ((bitsOp .and .u32 v4.1 1) = 1)) = true then
    lt (bitsOp .xor .u32 (Int.fdiv v4.1 (2 ^ (min (1 : Int).toNat 32))) 3988292384) fun (v6 : Int) =>
    some v6
   else
    some (Int.fdiv v4.1 (2 ^ (min (1 : Int).toNat 32)))) fun (v5 : Int) =>
  some (Sum.inl (v5, w64 (v4.2 + 1)))
 else
  inrO (wire_Crc_J2 v2 v4.1)
noncomputable def wire_Crc_L2 (v2 : Int × Int) (v0 : Int × Int) : Option ((Int × Int) ⊕ Int) :=
 loopO (fun y => wire_Crc_B2 v2 y) v0
noncomputable def wire_Crc_B1 (b : List UInt8) (v2 : Int × Int) : Option ((Int × Int) ⊕ Int) :=
 if (decide (v2.2 < (b.length : Int))) = true then
  asrt (0 ≤ v2.2 ∧ v2.2 < (b.length : Int)) <|
  wire_Crc_L2 v2 (bitsOp .xor .u32 v2.1 (IntKind.u32.wrap ((lget b v2.2).toNat : Int)), 0)
 else
  inrO (wire_Crc_J1 v2.1)
noncomputable def wire_Crc_L1 (b : List UInt8) (v0 : Int × Int) : Option Int :=
 loopO (fun y => wire_Crc_B1 b y) v0
noncomputable def wire_Crc (b : List UInt8) : Option Int :=
 wire_Crc_L1 b (4294967295, 0)
theorem wire_Crc_ok (b : List UInt8) (r : Int) (hF : wire_Crc b = some r) : Pe Try.prog 111 S.none [.sl 1 (b.map e_u8)] (.int .u32 r) S.none := by
 refine PeN 31 [.tmp 2] [133] Ty.ok Fn.b111 Try.func111 ?_
 intro Q g hfin
 unfold wire_Crc at hF
 refine NR [] [0] [] [] [] .nil ?_
 refine NR [] [0, 3] [] [] [(3, .int .u32 4294967295)] .nil ?_
 refine NR [.nat (b.length : Int)] [3, 7, 8, 9] [] [] [(7, .sl 1 (b.map e_u8)), (8, .i (b.length : Int)), (9, .i 0)] (hc (len_ok e_u8 b) .nil) ?_
 refine NmeetP (fun v : Int => (⟨[(3, .int .u32 v)], [], [], [], []⟩ : S)) (fun v => wire_Crc_J1 v = some r) ?_ ?_
 ·refine Nblk ?_
  unfold wire_Crc_L1 at hF
  refine Niter (fun v2 : Int × Int => (⟨[(3, .int .u32 v2.1), (7, .sl 1 (b.map e_u8)), (8, .i (b.length : Int)), (9, .i v2.2)], [], [], [], []⟩ : S)) [] hF (by kernel_rfl) ?_
  intro n1 v2 y1 hF ih1 dn1
  unfold wire_Crc_B1 at hF
  refine NR [] [3, 7, 8, 9, 10] [] [] [(10, .bool (decide (v2.2 < (b.length : Int))))] .nil ?_
  refine Nif hF (fun hb hF => ?_) (fun hb hF => ?_)
  ·refine Nblk ?_
   obtain ⟨h0, hF⟩ := asrt_elim hF
   refine NR [.av (e_u8 (lget b v2.2))] [3, 5, 7, 8, 9] [] [] [(5, .int .u8 (((lget b v2.2)).toNat : Int))] (hc (idx_ok e_u8 h0) .nil) ?_
   refine NR [] [3, 7, 8, 9] [] [] [(3, .int .u32 (bitsOp .xor .u32 v2.1 (IntKind.u32.wrap ((lget b v2.2).toNat : Int))))] .nil ?_
   refine NR [] [3, 7, 8, 9, 17] [] [] [(17, .i 0)] .nil ?_
   refine NmeetP (fun v3 : Int => (⟨[(3, .int .u32 v3), (7, .sl 1 (b.map e_u8)), (8, .i (b.length : Int)), (9, .i v2.2)], [], [], [], []⟩ : S)) (fun v3 => wire_Crc_J2 v2 v3 = some y1) ?_ ?_
   ·refine Nblk ?_
    unfold wire_Crc_L2 at hF
    refine Niter (fun v4 : Int × Int => (⟨[(3, .int .u32 v4.1), (7, .sl 1 (b.map e_u8)), (8, .i (b.length : Int)), (9, .i v2.2), (17, .i v4.2)], [], [], [], []⟩ : S)) [] hF (by kernel_rfl) ?_
    intro n2 v4 y2 hF ih2 dn2
    unfold wire_Crc_B2 at hF
    refine NR [] [3, 7, 8, 9, 17, 18] [] [] [(18, .bool (decide (v4.2 < 8)))] .nil ?_
    refine Nif hF (fun hb hF => ?_) (fun hb hF => ?_)
    ·refine Nblk ?_
     refine NR [] [3, 6, 7, 8, 9, 17] [] [] [(6, .int .u32 (bitsOp .and .u32 v4.1 1))] .nil ?_
     refine NR [] [3, 6, 7, 8, 9, 17] [] [] [(3, .int .u32 (Int.fdiv v4.1 (2 ^ (min (1 : Int).toNat 32))))] (hc (by decide : (0 : Int) ≤ 1) .nil) ?_
     refine NR [] [3, 7, 8, 9, 17, 24] [] [] [(24, .bool (decide ((bitsOp .and .u32 v4.1 1) = 1)))] .nil ?_
     obtain ⟨v5, hv, hF⟩ := ob_elim hF
     refine Nmeet (⟨[(3, .int .u32 v5), (7, .sl 1 (b.map e_u8)), (8, .i (b.length : Int)), (9, .i v2.2), (17, .i v4.2)], [], [], [], []⟩ : S) ?_ ?_
     ·have hF := hv
      refine Nif hF (fun hb hF => ?_) (fun hb hF => ?_)
      ·refine NRL (bitsOp .xor .u32 (Int.fdiv v4.1 (2 ^ (min (1 : Int).toNat 32))) 3988292384) (fun v6 : Int => ([(3, .int .u32 v6)], [], [], [])) [] [3, 7, 8, 9, 17] [] [] [] .nil (fun v6 hv => ?_)
       have hF := lt_elim hF hv
       cases hF
       exact met [] (by kernel_rfl)
      ·cases hF
       exact met [] (by kernel_rfl)
     ·refine NR [] [3, 7, 8, 9, 17] [] [] [(17, .i (w64 (v4.2 + 1)))] .nil ?_
      exact Nrnd [] hF ih2 (by kernel_rfl)
    ·refine Nexit rfl ?_
     have hF := inrO_done hF dn2
     exact metP v4.1 [] hF (by kernel_rfl)
   ·intro v3 hF
    have hF : wire_Crc_J2 v2 v3 = some y1 := hF
    unfold wire_Crc_J2 at hF
    refine NR [] [3, 7, 8, 9] [] [] [(9, .i (w64 (v2.2 + 1)))] .nil ?_
    exact Nrnd [] hF ih1 (by kernel_rfl)
  ·refine Nexit rfl ?_
   have hF := inrO_done hF dn1
   exact metP v2.1 [] hF (by kernel_rfl)
 ·intro v hF
  have hF : wire_Crc_J1 v = some r := hF
  unfold wire_Crc_J1 at hF
  refine NRL (bitsOp .xor .u32 (if IntKind.signed .u32 = true then -1 else IntKind.max .u32) v) (fun v1 : Int => ([(2, .int .u32 v1)], [], [], [])) [] [2] [] [] [] .nil (fun v1 hv => ?_)
  have hF := lt_elim hF hv
  cases hF
  exact Wk_ret (hfin _ ⟨[], [], [], [], [], [], by kernel_rfl⟩)

/- file.spots -/
noncomputable def file_spots_J1 (v : Arr3_3 × Arr3_3) : Option Arr3_3 :=
 some v.2
noncomputable def file_spots (row : List UInt8) (bits : Int) : Option Arr3_3 :=
 asrt ((row.length : Int) ≤ 140737488351232) <|
 ob (wire_Crc row) fun x =>
 asrt (bits ≠ 0) <|
 lt (Int.tmod (w64 ((Int.tmod (w64 x) 65536) + (w64 (0 * (w64 (Int.tdiv (w64 x) 65536)))))) bits) fun (v1 : Int) =>
 asrt (bits ≠ 0) <|
 lt (Int.tmod (w64 ((Int.tmod (w64 x) 65536) + (w64 (1 * (w64 (Int.tdiv (w64 x) 65536)))))) bits) fun (v2 : Int) =>
 asrt (bits ≠ 0) <|
 lt (Int.tmod (w64 ((Int.tmod (w64 x) 65536) + (w64 (2 * (w64 (Int.tdiv (w64 x) 65536)))))) bits) fun (v3 : Int) =>
 file_spots_J1 ((⟨0, 0, 0⟩ : Arr3_3), (⟨v1, v2, v3⟩ : Arr3_3))
theorem file_spots_ok (row : List UInt8) (bits : Int) (r : Arr3_3) (hF : file_spots row bits = some r) : Pe Try.prog 110 S.none [.str row, .i bits] (.agg (c_Arr3_3 r)) S.none := by
 refine PeN 28 [.cell 4 145] [145] Ty.ok Fn.b110 Try.func110 ?_
 intro Q g hfin
 unfold file_spots at hF
 refine VR [] [0, 1, 4] [4] [] [] [(4, .ptr 4 0)] [(4, [.i 0, .i 0, .i 0])] [] [] .nil ?_
 obtain ⟨h0, hF⟩ := asrt_elim hF
 obtain ⟨x, h1, hF⟩ := ob_elim hF
 refine NR [.callB (.int .u32 x)] [1, 4, 5] [4] [] [(5, .i (w64 x))] (hc (bof_ok h0) (hc (wire_Crc_ok row x h1) .nil)) ?_
 refine VR [] [1, 4, 5, 6] [4, 6] [] [] [(6, .ptr 6 0)] [(6, [.i 0, .i 0, .i 0])] [] [] .nil ?_
 refine NR [] [1, 4, 5, 6, 12] [4, 6] [] [(12, .i 0)] .nil ?_
 refine NmeetP (fun v : Arr3_3 × Arr3_3 => (⟨[(4, .ptr 4 0), (6, .ptr 6 0)], [(4, (c_Arr3_3 v.1)), (6, (c_Arr3_3 v.2))], [], [], []⟩ : S)) (fun v => file_spots_J1 v = some r) ?_ ?_
 ·refine Nblk ?_
  refine Wk_unroll 9 ?_
  refine Nagain ?_
  refine NR [] [1, 4, 5, 6, 12, 13] [4, 6] [] [(13, .bool true)] .nil ?_
  refine Ntrue rfl ?_
  refine Nblk ?_
  refine NR [] [1, 4, 5, 6, 7, 12] [4, 6] [] [(7, .i 0)] .nil ?_
  obtain ⟨h2, hF⟩ := asrt_elim hF
  refine NRL (Int.tmod (w64 ((Int.tmod (w64 x) 65536) + (w64 (0 * (w64 (Int.tdiv (w64 x) 65536)))))) bits) (fun v1 : Int => ([], [(6, [.i v1, .i 0, .i 0])], [], [])) [] [1, 4, 5, 6, 12] [4, 6] [] [] (hc (by decide : (65536 : Int) ≠ 0) (hc (by decide : (65536 : Int) ≠ 0) (hc h2 (hc (⟨by decide, by decide⟩ : (0 : Int) ≤ 0 ∧ (0 : Int) < ((3 : Nat) : Int)) .nil)))) (fun v1 hv => ?_)
  have hF := lt_elim hF hv
  refine NR [] [1, 4, 5, 6, 12] [4, 6] [] [(12, .i 1)] .nil ?_
  refine Nagain ?_
  refine NR [] [1, 4, 5, 6, 12, 13] [4, 6] [] [(13, .bool true)] .nil ?_
  refine Ntrue rfl ?_
  refine Nblk ?_
  refine NR [] [1, 4, 5, 6, 7, 12] [4, 6] [] [(7, .i 1)] .nil ?_
  obtain ⟨h3, hF⟩ := asrt_elim hF
  refine NRL (Int.tmod (w64 ((Int.tmod (w64 x) 65536) + (w64 (1 * (w64 (Int.tdiv (w64 x) 65536)))))) bits) (fun v2 : Int => ([], [(6, [.i v1, .i v2, .i 0])], [], [])) [] [1, 4, 5, 6, 12] [4, 6] [] [] (hc (by decide : (65536 : Int) ≠ 0) (hc (by decide : (65536 : Int) ≠ 0) (hc h3 (hc (⟨by decide, by decide⟩ : (0 : Int) ≤ 1 ∧ (1 : Int) < ((3 : Nat) : Int)) .nil)))) (fun v2 hv => ?_)
  have hF := lt_elim hF hv
  refine NR [] [1, 4, 5, 6, 12] [4, 6] [] [(12, .i 2)] .nil ?_
  refine Nagain ?_
  refine NR [] [1, 4, 5, 6, 12, 13] [4, 6] [] [(13, .bool true)] .nil ?_
  refine Ntrue rfl ?_
  refine Nblk ?_
  refine NR [] [1, 4, 5, 6, 7, 12] [4, 6] [] [(7, .i 2)] .nil ?_
  obtain ⟨h4, hF⟩ := asrt_elim hF
  refine NRL (Int.tmod (w64 ((Int.tmod (w64 x) 65536) + (w64 (2 * (w64 (Int.tdiv (w64 x) 65536)))))) bits) (fun v3 : Int => ([], [(6, [.i v1, .i v2, .i v3])], [], [])) [] [1, 4, 5, 6, 12] [4, 6] [] [] (hc (by decide : (65536 : Int) ≠ 0) (hc (by decide : (65536 : Int) ≠ 0) (hc h4 (hc (⟨by decide, by decide⟩ : (0 : Int) ≤ 2 ∧ (2 : Int) < ((3 : Nat) : Int)) .nil)))) (fun v3 hv => ?_)
  have hF := lt_elim hF hv
  refine NR [] [1, 4, 5, 6, 12] [4, 6] [] [(12, .i 3)] .nil ?_
  refine Nagain ?_
  refine NR [] [1, 4, 5, 6, 12, 13] [4, 6] [] [(13, .bool false)] .nil ?_
  refine Nfalse rfl ?_
  refine Nexit rfl ?_
  exact metP ((⟨0, 0, 0⟩ : Arr3_3), (⟨v1, v2, v3⟩ : Arr3_3)) [] hF (by kernel_rfl)
 ·intro v hF
  have hF : file_spots_J1 v = some r := hF
  unfold file_spots_J1 at hF
  refine VR [] [4] [4] [] [] [] [(4, (c_Arr3_3 v.2))] [] [] .nil ?_
  cases hF
  exact Wk_ret (hfin _ ⟨[], [], [], [], [], [], by kernel_rfl⟩)

/- file.filter -/
noncomputable def file_filter_J2 (v1 : List UInt8) : Option (List UInt8) :=
 some v1
noncomputable def file_filter_J3 (v2 : List UInt8 × Int) (v3 : List UInt8) : Option ((List UInt8 × Int) ⊕ (List UInt8)) :=
 some (Sum.inl (v3, w64 (v2.2 + 1)))
noncomputable def file_filter_B1 (l : List Cell) (v2 : List UInt8 × Int) : Option ((List UInt8 × Int) ⊕ (List UInt8)) :=
 if (decide (v2.2 < (l.length : Int))) = true then
  asrt (0 ≤ v2.2 ∧ v2.2 < (l.length : Int)) <|
  ob (file_spots ((lget l v2.2).Row) (w64 (8 * (v2.1.length : Int)))) fun x =>
  asrt (0 ≤ w64 (Int.tdiv x.p0 8) ∧ w64 (Int.tdiv x.p0 8) < (v2.1.length : Int)) <|
  asrt (0 ≤ w64 (Int.tdiv x.p0 8) ∧ w64 (Int.tdiv x.p0 8) < (v2.1.length : Int)) <|
  asrt (0 ≤ (Int.tmod x.p0 8)) <|
  asrt (0 ≤ w64 (Int.tdiv x.p0 8) ∧ w64 (Int.tdiv x.p0 8) < (v2.1.length : Int)) <|
  asrt (0 ≤ w64 (Int.tdiv x.p0 8) ∧ w64 (Int.tdiv x.p0 8) < (v2.1.length : Int)) <|
  lt ((lset v2.1 (w64 (Int.tdiv x.p0 8)) (toU8 (((BitVec.ofInt 8 ((lget v2.1 (w64 (Int.tdiv x.p0 8))).toNat : Int) ||| BitVec.ofInt 8 ((toU8 (((1 : UInt8).toNat : Int) * 2 ^ (min (Int.tmod x.p0 8).toNat 8))).toNat : Int)).toNat : Int))))) fun (v4 : List UInt8) =>
  asrt (0 ≤ w64 (Int.tdiv x.p1 8) ∧ w64 (Int.tdiv x.p1 8) < (v4.length : Int)) <|
  asrt (0 ≤ w64 (Int.tdiv x.p1 8) ∧ w64 (Int.tdiv x.p1 8) < (v4.length : Int)) <|
  asrt (0 ≤ (Int.tmod x.p1 8)) <|
  asrt (0 ≤ w64 (Int.tdiv x.p1 8) ∧ w64 (Int.tdiv x.p1 8) < (v4.length : Int)) <|
  asrt (0 ≤ w64 (Int.tdiv x.p1 8) ∧ w64 (Int.tdiv x.p1 8) < (v4.length : Int)) <|
  lt ((lset v4 (w64 (Int.tdiv x.p1 8)) (toU8 (((BitVec.ofInt 8 ((lget v4 (w64 (Int.tdiv x.p1 8))).toNat : Int) ||| BitVec.ofInt 8 ((toU8 (((1 : UInt8).toNat : Int) * 2 ^ (min (Int.tmod x.p1 8).toNat 8))).toNat : Int)).toNat : Int))))) fun (v5 : List UInt8) =>
  asrt (0 ≤ w64 (Int.tdiv x.p2 8) ∧ w64 (Int.tdiv x.p2 8) < (v5.length : Int)) <|
  asrt (0 ≤ w64 (Int.tdiv x.p2 8) ∧ w64 (Int.tdiv x.p2 8) < (v5.length : Int)) <|
  asrt (0 ≤ (Int.tmod x.p2 8)) <|
  asrt (0 ≤ w64 (Int.tdiv x.p2 8) ∧ w64 (Int.tdiv x.p2 8) < (v5.length : Int)) <|
  asrt (0 ≤ w64 (Int.tdiv x.p2 8) ∧ w64 (Int.tdiv x.p2 8) < (v5.length : Int)) <|
  lt ((lset v5 (w64 (Int.tdiv x.p2 8)) (toU8 (((BitVec.ofInt 8 ((lget v5 (w64 (Int.tdiv x.p2 8))).toNat : Int) ||| BitVec.ofInt 8 ((toU8 (((1 : UInt8).toNat : Int) * 2 ^ (min (Int.tmod x.p2 8).toNat 8))).toNat : Int)).toNat : Int))))) fun (v6 : List UInt8) =>
  file_filter_J3 v2 v6
 else
  inrO (file_filter_J2 v2.1)
noncomputable def file_filter_L1 (l : List Cell) (v0 : List UInt8 × Int) : Option (List UInt8) :=
 loopO (fun y => file_filter_B1 l y) v0
noncomputable def file_filter_J1 (l : List Cell) (v : Int) : Option (List UInt8) :=
 asrt (0 ≤ ((max 1 v) : Int) ∧ (max 1 v) ≤ (max 1 v) ∧ (max 1 v) * 1 ≤ 140737488351232) <|
 file_filter_L1 l ((List.replicate (max 1 v).toNat ((0 : UInt8) : UInt8)), 0)
noncomputable def file_filter_B2 (l : List Cell) (v7 : Int × Int) : Option ((Int × Int) ⊕ (List UInt8)) :=
 if (decide (v7.2 < (l.length : Int))) = true then
  asrt (0 ≤ v7.2 ∧ v7.2 < (l.length : Int)) <|
  asrt ((!(decide (v7.2 = 0))) = true → 0 ≤ w64 (v7.2 - 1) ∧ w64 (v7.2 - 1) < (l.length : Int)) <|
  ob (
   if ((decide (v7.2 = 0)) || (!decide (((lget l v7.2).Row) = ((lget l (w64 (v7.2 - 1))).Row)))) = true then
    some (w64 (v7.1 + 1))
   else
    some v7.1) fun (v8 : Int) =>
  some (Sum.inl (v8, w64 (v7.2 + 1)))
 else
  inrO (file_filter_J1 l v7.1)
noncomputable def file_filter_L2 (l : List Cell) (v0 : Int × Int) : Option (List UInt8) :=
 loopO (fun y => file_filter_B2 l y) v0
noncomputable def file_filter (l : List Cell) : Option (List UInt8) :=
 file_filter_L2 l (0, 0)
theorem file_filter_ok (l : List Cell) (r : List UInt8) (hF : file_filter l = some r) : Pe Try.prog 80 S.none [.sl 5 (l.map e_Cell)] (.row 36 0) ⟨[], [], [(36, .o 5 1 0 (r.map e_u8))], [], []⟩ := by
 refine PeN 65 [.tmp 2] [25] Ty.ok Fn.b80 Try.func80 ?_
 intro Q g hfin
 unfold file_filter at hF
 refine NR [] [0] [] [] [] .nil ?_
 refine NR [] [0, 3] [] [] [(3, .i 0)] .nil ?_
 refine NR [.nat (l.length : Int)] [0, 3, 11, 12, 13] [] [] [(11, .sl 5 (l.map e_Cell)), (12, .i (l.length : Int)), (13, .i 0)] (hc (len_ok e_Cell l) .nil) ?_
 refine NmeetP (fun v : Int => (⟨[(0, .sl 5 (l.map e_Cell)), (3, .i v)], [], [], [], []⟩ : S)) (fun v => file_filter_J1 l v = some r) ?_ ?_
 ·refine Nblk ?_
  unfold file_filter_L2 at hF
  refine Niter (fun v7 : Int × Int => (⟨[(0, .sl 5 (l.map e_Cell)), (3, .i v7.1), (11, .sl 5 (l.map e_Cell)), (12, .i (l.length : Int)), (13, .i v7.2)], [], [], [], []⟩ : S)) [] hF (by kernel_rfl) ?_
  intro n1 v7 y1 hF ih1 dn1
  unfold file_filter_B2 at hF
  refine NR [] [0, 3, 11, 12, 13, 14] [] [] [(14, .bool (decide (v7.2 < (l.length : Int))))] .nil ?_
  refine Nif hF (fun hb hF => ?_) (fun hb hF => ?_)
  ·refine Nblk ?_
   obtain ⟨h18, hF⟩ := asrt_elim hF
   refine VR [.av (e_Cell (lget l v7.2))] [0, 3, 4, 5, 11, 12, 13] [5] [] [] [(4, .i v7.2), (5, .ptr 5 0)] [(5, (c_Cell (lget l v7.2)))] [] [] (hc (idx_ok e_Cell h18) .nil) ?_
   obtain ⟨h19, hF⟩ := asrt_elim hF
   refine ND [.av (e_Cell (lget l (w64 (v7.2 - 1))))] [0, 3, 11, 12, 13, 30] [] [] [(30, .bool ((decide (v7.2 = 0)) || (!decide (((lget l v7.2).Row) = ((lget l (w64 (v7.2 - 1))).Row)))))] (hc (fun (ga0 : (!(decide (v7.2 = 0))) = true) => (idx_ok e_Cell (h19 ga0))) .nil) ?_
   obtain ⟨v8, hv, hF⟩ := ob_elim hF
   refine Nmeet (⟨[(0, .sl 5 (l.map e_Cell)), (3, .i v8), (11, .sl 5 (l.map e_Cell)), (12, .i (l.length : Int)), (13, .i v7.2)], [], [], [], []⟩ : S) ?_ ?_
   ·have hF := hv
    refine Nif hF (fun hb hF => ?_) (fun hb hF => ?_)
    ·refine NR [] [0, 3, 11, 12, 13] [] [] [(3, .i (w64 (v7.1 + 1)))] .nil ?_
     cases hF
     exact met [] (by kernel_rfl)
    ·cases hF
     exact met [] (by kernel_rfl)
   ·refine NR [] [0, 3, 11, 12, 13] [] [] [(13, .i (w64 (v7.2 + 1)))] .nil ?_
    exact Nrnd [] hF ih1 (by kernel_rfl)
  ·refine Nexit rfl ?_
   have hF := inrO_done hF dn1
   exact metP v7.1 [] hF (by kernel_rfl)
 ·intro v hF
  have hF : file_filter_J1 l v = some r := hF
  unfold file_filter_J1 at hF
  obtain ⟨h0, hF⟩ := asrt_elim hF
  refine VR [.xs ((List.replicate (max 1 v).toNat ((0 : UInt8) : UInt8)).map e_u8)] [0, 6] [] [36] [] [(6, .row 36 0)] [] [(36, .o 5 1 0 ((List.replicate (max 1 v).toNat ((0 : UInt8) : UInt8)).map e_u8))] [] (hc (mk_ok h0) (hc (rep_ok e_u8 (max 1 v) ((0 : UInt8) : UInt8)) .nil)) ?_
  refine NR [.nat (l.length : Int)] [6, 37, 38, 39] [] [36] [(37, .sl 5 (l.map e_Cell)), (38, .i (l.length : Int)), (39, .i 0)] (hc (len_ok e_Cell l) .nil) ?_
  refine NmeetP (fun v1 : List UInt8 => (⟨[(6, .row 36 0)], [], [(36, .o 5 1 0 (v1.map e_u8))], [], []⟩ : S)) (fun v1 => file_filter_J2 v1 = some r) ?_ ?_
  ·refine Nblk ?_
   unfold file_filter_L1 at hF
   refine Niter (fun v2 : List UInt8 × Int => (⟨[(6, .row 36 0), (37, .sl 5 (l.map e_Cell)), (38, .i (l.length : Int)), (39, .i v2.2)], [], [(36, .o 5 1 0 (v2.1.map e_u8))], [], []⟩ : S)) [] hF (by kernel_rfl) ?_
   intro n1 v2 y1 hF ih1 dn1
   unfold file_filter_B1 at hF
   refine NR [] [6, 37, 38, 39, 40] [] [36] [(40, .bool (decide (v2.2 < (l.length : Int))))] .nil ?_
   refine Nif hF (fun hb hF => ?_) (fun hb hF => ?_)
   ·refine Nblk ?_
    obtain ⟨h1, hF⟩ := asrt_elim hF
    refine VR [.av (e_Cell (lget l v2.2))] [6, 8, 37, 38, 39] [8] [36] [] [(8, .ptr 8 0)] [(8, (c_Cell (lget l v2.2)))] [] [] (hc (idx_ok e_Cell h1) .nil) ?_
    obtain ⟨x, h2, hF⟩ := ob_elim hF
    refine NR [.nat (v2.1.length : Int), .callB (.agg (c_Arr3_3 x))] [6, 37, 38, 39, 48, 49] [] [36] [(48, .agg (c_Arr3_3 x)), (49, .i 0)] (hc (len_ok e_u8 v2.1) (hc (file_spots_ok ((lget l v2.2).Row) (w64 (8 * (v2.1.length : Int))) x h2) .nil)) ?_
    refine NmeetP (fun v3 : List UInt8 => (⟨[(6, .row 36 0), (37, .sl 5 (l.map e_Cell)), (38, .i (l.length : Int)), (39, .i v2.2)], [], [(36, .o 5 1 0 (v3.map e_u8))], [], []⟩ : S)) (fun v3 => file_filter_J3 v2 v3 = some y1) ?_ ?_
    ·refine Nblk ?_
     refine Wk_unroll 9 ?_
     refine Nagain ?_
     refine NR [] [6, 37, 38, 39, 48, 49, 50] [] [36] [(50, .bool true)] .nil ?_
     refine Ntrue rfl ?_
     refine Nblk ?_
     refine NR [] [6, 10, 37, 38, 39, 48, 49] [] [36] [(10, .i x.p0)] (hc (⟨by decide, by decide⟩ : (0 : Int) ≤ 0 ∧ (0 : Int) < ((3 : Nat) : Int)) .nil) ?_
     obtain ⟨h3, h4, h5, h6, hF⟩ := asrt4 hF
     obtain ⟨h7, hF⟩ := asrt_elim hF
     refine NDL ((lset v2.1 (w64 (Int.tdiv x.p0 8)) (toU8 (((BitVec.ofInt 8 ((lget v2.1 (w64 (Int.tdiv x.p0 8))).toNat : Int) ||| BitVec.ofInt 8 ((toU8 (((1 : UInt8).toNat : Int) * 2 ^ (min (Int.tmod x.p0 8).toNat 8))).toNat : Int)).toNat : Int))))) (fun v4 : List UInt8 => ([], [], [(36, .o 5 1 0 (v4.map e_u8))], [])) [.av (e_u8 (lget v2.1 (w64 (Int.tdiv x.p0 8)))), .av (e_u8 (lget v2.1 (w64 (Int.tdiv x.p0 8)))), .xs ((lset v2.1 (w64 (Int.tdiv x.p0 8)) (toU8 (((BitVec.ofInt 8 ((lget v2.1 (w64 (Int.tdiv x.p0 8))).toNat : Int) ||| BitVec.ofInt 8 ((toU8 (((1 : UInt8).toNat : Int) * 2 ^ (min (Int.tmod x.p0 8).toNat 8))).toNat : Int)).toNat : Int)))).map e_u8)] [6, 37, 38, 39, 48, 49] [] [36] [] (hc (by decide : (8 : Int) ≠ 0) (hc (ixr_ok e_u8 h3) (hc (ldr_ok e_u8 h4) (hc (by decide : (8 : Int) ≠ 0) (hc h5 (hc (ixr_ok e_u8 h6) (hc (ldr_ok e_u8 h7) (hc (set_ok e_u8 v2.1 (w64 (Int.tdiv x.p0 8)) (toU8 (((BitVec.ofInt 8 ((lget v2.1 (w64 (Int.tdiv x.p0 8))).toNat : Int) ||| BitVec.ofInt 8 ((toU8 (((1 : UInt8).toNat : Int) * 2 ^ (min (Int.tmod x.p0 8).toNat 8))).toNat : Int)).toNat : Int)))) (hc (Nat.zero_le ((w64 (Int.tdiv x.p0 8)).toNat)) .nil))))))))) (fun v4 hv => ?_)
     have hF := lt_elim hF hv
     refine NR [] [6, 37, 38, 39, 48, 49] [] [36] [(49, .i 1)] .nil ?_
     refine Nagain ?_
     refine NR [] [6, 37, 38, 39, 48, 49, 50] [] [36] [(50, .bool true)] .nil ?_
     refine Ntrue rfl ?_
     refine Nblk ?_
     refine NR [] [6, 10, 37, 38, 39, 48, 49] [] [36] [(10, .i x.p1)] (hc (⟨by decide, by decide⟩ : (0 : Int) ≤ 1 ∧ (1 : Int) < ((3 : Nat) : Int)) .nil) ?_
     obtain ⟨h8, h9, h10, h11, hF⟩ := asrt4 hF
     obtain ⟨h12, hF⟩ := asrt_elim hF
     refine NDL ((lset v4 (w64 (Int.tdiv x.p1 8)) (toU8 (((BitVec.ofInt 8 ((lget v4 (w64 (Int.tdiv x.p1 8))).toNat : Int) ||| BitVec.ofInt 8 ((toU8 (((1 : UInt8).toNat : Int) * 2 ^ (min (Int.tmod x.p1 8).toNat 8))).toNat : Int)).toNat : Int))))) (fun v5 : List UInt8 => ([], [], [(36, .o 5 1 0 (v5.map e_u8))], [])) [.av (e_u8 (lget v4 (w64 (Int.tdiv x.p1 8)))), .av (e_u8 (lget v4 (w64 (Int.tdiv x.p1 8)))), .xs ((lset v4 (w64 (Int.tdiv x.p1 8)) (toU8 (((BitVec.ofInt 8 ((lget v4 (w64 (Int.tdiv x.p1 8))).toNat : Int) ||| BitVec.ofInt 8 ((toU8 (((1 : UInt8).toNat : Int) * 2 ^ (min (Int.tmod x.p1 8).toNat 8))).toNat : Int)).toNat : Int)))).map e_u8)] [6, 37, 38, 39, 48, 49] [] [36] [] (hc (by decide : (8 : Int) ≠ 0) (hc (ixr_ok e_u8 h8) (hc (ldr_ok e_u8 h9) (hc (by decide : (8 : Int) ≠ 0) (hc h10 (hc (ixr_ok e_u8 h11) (hc (ldr_ok e_u8 h12) (hc (set_ok e_u8 v4 (w64 (Int.tdiv x.p1 8)) (toU8 (((BitVec.ofInt 8 ((lget v4 (w64 (Int.tdiv x.p1 8))).toNat : Int) ||| BitVec.ofInt 8 ((toU8 (((1 : UInt8).toNat : Int) * 2 ^ (min (Int.tmod x.p1 8).toNat 8))).toNat : Int)).toNat : Int)))) (hc (Nat.zero_le ((w64 (Int.tdiv x.p1 8)).toNat)) .nil))))))))) (fun v5 hv => ?_)
     have hF := lt_elim hF hv
     refine NR [] [6, 37, 38, 39, 48, 49] [] [36] [(49, .i 2)] .nil ?_
     refine Nagain ?_
     refine NR [] [6, 37, 38, 39, 48, 49, 50] [] [36] [(50, .bool true)] .nil ?_
     refine Ntrue rfl ?_
     refine Nblk ?_
     refine NR [] [6, 10, 37, 38, 39, 48, 49] [] [36] [(10, .i x.p2)] (hc (⟨by decide, by decide⟩ : (0 : Int) ≤ 2 ∧ (2 : Int) < ((3 : Nat) : Int)) .nil) ?_
     obtain ⟨h13, h14, h15, h16, hF⟩ := asrt4 hF
     obtain ⟨h17, hF⟩ := asrt_elim hF
     refine NDL ((lset v5 (w64 (Int.tdiv x.p2 8)) (toU8 (((BitVec.ofInt 8 ((lget v5 (w64 (Int.tdiv x.p2 8))).toNat : Int) ||| BitVec.ofInt 8 ((toU8 (((1 : UInt8).toNat : Int) * 2 ^ (min (Int.tmod x.p2 8).toNat 8))).toNat : Int)).toNat : Int))))) (fun v6 : List UInt8 => ([], [], [(36, .o 5 1 0 (v6.map e_u8))], [])) [.av (e_u8 (lget v5 (w64 (Int.tdiv x.p2 8)))), .av (e_u8 (lget v5 (w64 (Int.tdiv x.p2 8)))), .xs ((lset v5 (w64 (Int.tdiv x.p2 8)) (toU8 (((BitVec.ofInt 8 ((lget v5 (w64 (Int.tdiv x.p2 8))).toNat : Int) ||| BitVec.ofInt 8 ((toU8 (((1 : UInt8).toNat : Int) * 2 ^ (min (Int.tmod x.p2 8).toNat 8))).toNat : Int)).toNat : Int)))).map e_u8)] [6, 37, 38, 39, 48, 49] [] [36] [] (hc (by decide : (8 : Int) ≠ 0) (hc (ixr_ok e_u8 h13) (hc (ldr_ok e_u8 h14) (hc (by decide : (8 : Int) ≠ 0) (hc h15 (hc (ixr_ok e_u8 h16) (hc (ldr_ok e_u8 h17) (hc (set_ok e_u8 v5 (w64 (Int.tdiv x.p2 8)) (toU8 (((BitVec.ofInt 8 ((lget v5 (w64 (Int.tdiv x.p2 8))).toNat : Int) ||| BitVec.ofInt 8 ((toU8 (((1 : UInt8).toNat : Int) * 2 ^ (min (Int.tmod x.p2 8).toNat 8))).toNat : Int)).toNat : Int)))) (hc (Nat.zero_le ((w64 (Int.tdiv x.p2 8)).toNat)) .nil))))))))) (fun v6 hv => ?_)
     have hF := lt_elim hF hv
     refine NR [] [6, 37, 38, 39, 48, 49] [] [36] [(49, .i 3)] .nil ?_
     refine Nagain ?_
     refine NR [] [6, 37, 38, 39, 48, 49, 50] [] [36] [(50, .bool false)] .nil ?_
     refine Nfalse rfl ?_
     refine Nexit rfl ?_
     exact metP v6 [] hF (by kernel_rfl)
    ·intro v3 hF
     have hF : file_filter_J3 v2 v3 = some y1 := hF
     unfold file_filter_J3 at hF
     refine NR [] [6, 37, 38, 39] [] [36] [(39, .i (w64 (v2.2 + 1)))] .nil ?_
     exact Nrnd [] hF ih1 (by kernel_rfl)
   ·refine Nexit rfl ?_
    have hF := inrO_done hF dn1
    exact metP v2.1 [] hF (by kernel_rfl)
  ·intro v1 hF
   have hF : file_filter_J2 v1 = some r := hF
   unfold file_filter_J2 at hF
   refine NR [] [2] [] [36] [(2, .row 36 0)] .nil ?_
   cases hF
   exact Wk_ret (hfin _ ⟨[36], [], [36], [], [], [], by kernel_rfl⟩)

/- wire.AddFrame -/
noncomputable def wire_AddFrame_v2 (body : List UInt8) (row : List UInt8) : Option (List UInt8) :=
 asrt (((row ++ ([toU8 (Int.fdiv (body.length : Int) (2 ^ (min (8 : Int).toNat 64))), toU8 (body.length : Int)] : List UInt8)).length : Int) * 1 ≤ 140737488351232) <|
 lt ((row ++ ([toU8 (Int.fdiv (body.length : Int) (2 ^ (min (8 : Int).toNat 64))), toU8 (body.length : Int)] : List UInt8))) fun (v : List UInt8) =>
 asrt (((v ++ body).length : Int) * 1 ≤ 140737488351232) <|
 asrt (0 ≤ (row.length : Int) ∧ (row.length : Int) ≤ ((v ++ body).length : Int)) <|
 ob (wire_Crc (ldrop (v ++ body) (row.length : Int))) fun x =>
 asrt ((((v ++ body) ++ ([toU8 (Int.fdiv x (2 ^ (min (24 : Int).toNat 32))), toU8 (Int.fdiv x (2 ^ (min (16 : Int).toNat 32))), toU8 (Int.fdiv x (2 ^ (min (8 : Int).toNat 32))), toU8 x] : List UInt8)).length : Int) * 1 ≤ 140737488351232) <|
 lt (((v ++ body) ++ ([toU8 (Int.fdiv x (2 ^ (min (24 : Int).toNat 32))), toU8 (Int.fdiv x (2 ^ (min (16 : Int).toNat 32))), toU8 (Int.fdiv x (2 ^ (min (8 : Int).toNat 32))), toU8 x] : List UInt8))) fun (v1 : List UInt8) =>
 some v1
theorem wire_AddFrame_v2_ok (body : List UInt8) (row : List UInt8) (rk : Nat) (rc : Nat) (rn : Bool) (r : List UInt8) (hF : wire_AddFrame_v2 body row = some r) : Pe Try.prog 81 ⟨[], [], [(100000, ⟨5, 1, 0, rk, rc, rn, 0, [], (row.map e_u8)⟩)], [], []⟩ [.row 100000 0, .sl 1 (body.map e_u8)] (.row 100000 3) ⟨[], [], [(100000, ⟨5, 1, 3, (r.map e_u8).length, rc, rn, 0, [], (r.map e_u8)⟩)], [], []⟩ := by
 refine PeN 40 [.tmp 4] [25] Ty.ok Fn.b81 Try.func81 ?_
 intro Q g hfin
 unfold wire_AddFrame_v2 at hF
 refine NR [] [0, 1] [] [100000] [] .nil ?_
 refine NR [.nat (row.length : Int)] [0, 1, 5] [] [100000] [(5, .i (row.length : Int))] (hc (len_ok e_u8 row) .nil) ?_
 obtain ⟨h0, hF⟩ := asrt_elim hF
 refine NRL ((row ++ ([toU8 (Int.fdiv (body.length : Int) (2 ^ (min (8 : Int).toNat 64))), toU8 (body.length : Int)] : List UInt8))) (fun v : List UInt8 => ([(0, .row 100000 1)], [], [(100000, ⟨5, 1, 1, rk, rc, rn, 0, [], (v.map e_u8)⟩)], [])) [.nat (body.length : Int), .nat (body.length : Int), .sealed, .xs ((row ++ ([toU8 (Int.fdiv (body.length : Int) (2 ^ (min (8 : Int).toNat 64))), toU8 (body.length : Int)] : List UInt8)).map e_u8)] [0, 1, 5] [] [100000] [] (hc (len_ok e_u8 body) (hc (by decide : (0 : Int) ≤ 8) (hc (len_ok e_u8 body) (hc (app_ok e_u8 row ([toU8 (Int.fdiv (body.length : Int) (2 ^ (min (8 : Int).toNat 64))), toU8 (body.length : Int)] : List UInt8)) (hc (appl_ok e_u8 h0) .nil))))) (fun v hv => ?_)
 have hF := lt_elim hF hv
 obtain ⟨h1, hF⟩ := asrt_elim hF
 refine VR [.xs ((v ++ body).map e_u8)] [0, 5] [] [100000] [] [(0, .row 100000 2)] [] [(100000, ⟨5, 1, 2, rk, rc, rn, 0, [], ((v ++ body).map e_u8)⟩)] [] (hc (app_ok e_u8 v body) (hc (appl_ok e_u8 h1) .nil)) ?_
 obtain ⟨h2, hF⟩ := asrt_elim hF
 obtain ⟨x, h3, hF⟩ := ob_elim hF
 refine VR [.xs ((ldrop (v ++ body) (row.length : Int)).map e_u8), .callB (.int .u32 x)] [0, 6] [] [100000] [] [(6, .int .u32 x)] [] [(100000, ⟨5, 1, 2, ((v ++ body).map e_u8).length, rc, rn, 0, [], ((v ++ body).map e_u8)⟩)] [] (hc (sl10_ok e_u8 h2) (hc (wire_Crc_ok (ldrop (v ++ body) (row.length : Int)) x h3) .nil)) ?_
 obtain ⟨h4, hF⟩ := asrt_elim hF
 refine NRL (((v ++ body) ++ ([toU8 (Int.fdiv x (2 ^ (min (24 : Int).toNat 32))), toU8 (Int.fdiv x (2 ^ (min (16 : Int).toNat 32))), toU8 (Int.fdiv x (2 ^ (min (8 : Int).toNat 32))), toU8 x] : List UInt8))) (fun v1 : List UInt8 => ([(4, .row 100000 3)], [], [(100000, ⟨5, 1, 3, ((v ++ body).map e_u8).length, rc, rn, 0, [], (v1.map e_u8)⟩)], [])) [.sealed, .xs (((v ++ body) ++ ([toU8 (Int.fdiv x (2 ^ (min (24 : Int).toNat 32))), toU8 (Int.fdiv x (2 ^ (min (16 : Int).toNat 32))), toU8 (Int.fdiv x (2 ^ (min (8 : Int).toNat 32))), toU8 x] : List UInt8)).map e_u8)] [4] [] [100000] [] (hc (by decide : (0 : Int) ≤ 24) (hc (by decide : (0 : Int) ≤ 16) (hc (by decide : (0 : Int) ≤ 8) (hc (app_ok e_u8 (v ++ body) ([toU8 (Int.fdiv x (2 ^ (min (24 : Int).toNat 32))), toU8 (Int.fdiv x (2 ^ (min (16 : Int).toNat 32))), toU8 (Int.fdiv x (2 ^ (min (8 : Int).toNat 32))), toU8 x] : List UInt8)) (hc (appl_ok e_u8 h4) .nil))))) (fun v1 hv => ?_)
 have hF := lt_elim hF hv
 cases hF
 exact Wk_ret (hfin _ ⟨[100000], [], [100000], [], [], [(100000, ⟨3, true, true, true⟩)], by kernel_rfl⟩)

/- file.Make -/
noncomputable def file_Make_J2 (v1 : Fault × List UInt8) : Option (List UInt8 × Fault) :=
 some (v1.2, (⟨0, 0⟩ : Fault))
noncomputable def file_Make_B1 (x3 : List (List UInt8) × List (List UInt8)) (v : Fault × List UInt8) (x4 : List UInt8) (v2 : Fault × List UInt8 × Int) : Option ((Fault × List UInt8 × Int) ⊕ (List UInt8 × Fault)) :=
 lt (decide (v2.2.2 < ((x3.1 ++ ([v.2, x4] : List (List UInt8))).length : Int))) fun (v3 : Bool) =>
 if v3 = true then
  asrt (0 ≤ v2.2.2 ∧ v2.2.2 < ((x3.1 ++ ([v.2, x4] : List (List UInt8))).length : Int)) <|
  asrt (0 ≤ v2.2.2 ∧ v2.2.2 < ((x3.1 ++ ([v.2, x4] : List (List UInt8))).length : Int)) <|
  if (decide (60000 < (w64 ((w64 ((v2.2.1.length : Int) + ((lget (x3.1 ++ ([v.2, x4] : List (List UInt8))) v2.2.2).length : Int))) + 6)))) = true then
   lt (file_fault 9 0) fun x5 =>
   some (Sum.inr (([] : List UInt8), x5))
  else
   ob (wire_AddFrame_v2 (lget (x3.1 ++ ([v.2, x4] : List (List UInt8))) v2.2.2) v2.2.1) fun x6 =>
   some (Sum.inl (v2.1, x6, w64 (v2.2.2 + 1)))
 else
  inrO (file_Make_J2 (v2.1, v2.2.1))
noncomputable def file_Make_L1 (x3 : List (List UInt8) × List (List UInt8)) (v : Fault × List UInt8) (x4 : List UInt8) (v0 : Fault × List UInt8 × Int) : Option (List UInt8 × Fault) :=
 loopO (fun y => file_Make_B1 x3 v x4 y) v0
noncomputable def file_Make_J1 (l : List Cell) (x3 : List (List UInt8) × List (List UInt8)) (v : Fault × List UInt8) : Option (List UInt8 × Fault) :=
 ob (file_filter l) fun x4 =>
 asrt (((x3.1 ++ ([v.2, x4] : List (List UInt8))).length : Int) * 24 ≤ 140737488351232) <|
 file_Make_L1 x3 v x4 (v.1, ([] : List UInt8), 0)
noncomputable def file_Make_B2 (l : List Cell) (x3 : List (List UInt8) × List (List UInt8)) (v4 : Fault × List UInt8 × Int) : Option ((Fault × List UInt8 × Int) ⊕ (List UInt8 × Fault)) :=
 if (decide (v4.2.2 < (x3.1.length : Int))) = true then
  asrt (0 ≤ v4.2.2 ∧ v4.2.2 < (x3.1.length : Int)) <|
  asrt (0 ≤ v4.2.2 ∧ v4.2.2 < (x3.1.length : Int)) <|
  asrt (0 ≤ v4.2.2 ∧ v4.2.2 < (x3.2.length : Int)) <|
  asrt (0 ≤ v4.2.2 ∧ v4.2.2 < (x3.2.length : Int)) <|
  ob (wire_AddText_v2 (lget x3.2 v4.2.2) v4.2.1) fun x7 =>
  ob (wire_AddNum_v2 ((lget x3.1 v4.2.2).length : Int) x7) fun x8 =>
  some (Sum.inl (v4.1, x8, w64 (v4.2.2 + 1)))
 else
  inrO (file_Make_J1 l x3 (v4.1, v4.2.1))
noncomputable def file_Make_L2 (l : List Cell) (x3 : List (List UInt8) × List (List UInt8)) (v0 : Fault × List UInt8 × Int) : Option (List UInt8 × Fault) :=
 loopO (fun y => file_Make_B2 l x3 y) v0
noncomputable def file_Make (l : List Cell) (size : Int) : Option (List UInt8 × Fault) :=
 ob (cell_Check l) fun x =>
 if (!decide (x.Code = 0)) = true then
  some (([] : List UInt8), x)
 else
  if (decide (500 < (l.length : Int))) = true then
   lt (file_fault 2 (-1)) fun x1 =>
   some (([] : List UInt8), x1)
  else
   if ((decide (size < 50)) || (decide (4000 < size))) = true then
    lt (file_fault 3 (-1)) fun x2 =>
    some (([] : List UInt8), x2)
   else
    ob (file_blocks l size) fun x3 =>
    file_Make_L2 l x3 ((⟨0, 0⟩ : Fault), ([] : List UInt8), 0)
theorem file_Make_ok (l : List Cell) (size : Int) (r : List UInt8 × Fault) (hF : file_Make l size = some r) : Pe Try.prog 25 S.none [.sl 5 (l.map e_Cell), .i size] (.tup [.row 76 0, .agg (c_Fault r.2)]) ⟨[], [], [(76, ⟨5, 1, 0, (r.1.map e_u8).length, 0, true, 0, [], (r.1.map e_u8)⟩)], [], []⟩ := by
 refine PeN 80 [.tmp 4, .cell 5 31] [25, 31] Ty.ok Fn.b25 Try.func25 ?_
 intro Q g hfin
 unfold file_Make at hF
 refine VR [] [0, 1, 5] [5] [] [] [(5, .ptr 5 0)] [(5, [.i 0, .i 0])] [] [] .nil ?_
 obtain ⟨x, h0, hF⟩ := ob_elim hF
 refine VR [.callB (.agg (c_Fault x))] [0, 1, 5, 6] [5, 6] [] [] [(6, .ptr 6 0)] [(6, (c_Fault x))] [] [] (hc (cell_Check_ok l x h0) .nil) ?_
 refine NR [] [0, 1, 5, 6, 19] [5, 6] [] [(19, .bool (!decide (x.Code = 0)))] .nil ?_
 refine Nif hF (fun hb hF => ?_) (fun hb hF => ?_)
 ·refine VD [] [4, 5] [5] [] [] [(4, .nils)] [(5, (c_Fault x))] [] [] .nil ?_
  cases hF
  refine Wk_nilrow 4 60000 5 1 rfl rfl rfl ?_
  refine Wk_ren' ⟨[], [(60000, 76)], [], []⟩ rfl ?_
  exact Wk_ret (hfin _ ⟨[76], [], [76], [], [], [(76, ⟨0, true, true, true⟩)], by kernel_rfl⟩)
 ·refine NR [.nat (l.length : Int)] [0, 1, 5, 23] [5] [] [(23, .bool (decide (500 < (l.length : Int))))] (hc (len_ok e_Cell l) .nil) ?_
  refine Nif hF (fun hb hF => ?_) (fun hb hF => ?_)
  ·obtain ⟨x1, h1, hF⟩ := lt_split hF
   refine VR [.callB (.agg (c_Fault x1))] [4, 5] [5] [] [] [(4, .nils)] [(5, (c_Fault x1))] [] [] (hc (file_fault_ok 2 (-1) x1 h1) .nil) ?_
   cases hF
   refine Wk_nilrow 4 60001 5 1 rfl rfl rfl ?_
   refine Wk_ren' ⟨[], [(60001, 76)], [], []⟩ rfl ?_
   exact Wk_ret (hfin _ ⟨[76], [], [76], [], [], [(76, ⟨0, true, true, true⟩)], by kernel_rfl⟩)
  ·refine NR [] [0, 1, 5, 30] [5] [] [(30, .bool ((decide (size < 50)) || (decide (4000 < size))))] .nil ?_
   refine Nif hF (fun hb hF => ?_) (fun hb hF => ?_)
   ·obtain ⟨x2, h2, hF⟩ := lt_split hF
    refine VR [.callB (.agg (c_Fault x2))] [4, 5] [5] [] [] [(4, .nils)] [(5, (c_Fault x2))] [] [] (hc (file_fault_ok 3 (-1) x2 h2) .nil) ?_
    cases hF
    refine Wk_nilrow 4 60002 5 1 rfl rfl rfl ?_
    refine Wk_ren' ⟨[], [(60002, 76)], [], []⟩ rfl ?_
    exact Wk_ret (hfin _ ⟨[76], [], [76], [], [], [(76, ⟨0, true, true, true⟩)], by kernel_rfl⟩)
   ·obtain ⟨x3, h3, hF⟩ := ob_elim hF
    refine VR [.callE [] [] [] [] (.tup [.row 20035 0, .row 35 0]) ⟨[], [], [(35, .z 9 1 0 (x3.2.map e_str)), (20035, .z 25 1 0 (x3.1.map e_L_u8))], [], []⟩] [0, 5, 7, 8] [5] [35, 20035] [] [(7, .row 20035 0), (8, .row 35 0)] [] [(35, .z 9 1 0 (x3.2.map e_str)), (20035, .z 25 1 0 (x3.1.map e_L_u8))] [] (hc (Pe.ren (file_blocks_ok l size x3 h3) ⟨[], [(22, 35), (40, 20035)], [], []⟩) .nil) ?_
    refine NR [] [0, 5, 7, 8, 9] [5] [35, 20035] [(9, .nils)] .nil ?_
    refine NR [.nat (x3.1.length : Int)] [0, 5, 7, 8, 9, 38, 39, 40] [5] [35, 20035] [(38, .row 20035 0), (39, .i (x3.1.length : Int)), (40, .i 0)] (hc (len_ok e_L_u8 x3.1) .nil) ?_
    refine NmeetP (fun v : Fault × List UInt8 => (⟨[(0, .sl 5 (l.map e_Cell)), (5, .ptr 5 0), (7, .row 20035 0), (9, .row 50 0)], [(5, (c_Fault v.1))], [(50, .z 5 1 0 (v.2.map e_u8)), (20035, .z 25 1 0 (x3.1.map e_L_u8))], [], []⟩ : S)) (fun v => file_Make_J1 l x3 v = some r) ?_ ?_
    ·refine Nblk ?_
     unfold file_Make_L2 at hF
     refine Wk_nilrow 9 60005 5 1 rfl rfl rfl ?_
     refine Wk_trim (fs := [0, 5, 7, 8, 9, 38, 39, 40]) (bs := [5]) (rs := [35, 20035, 60005]) (ms := []) (aa := []) (nv := []) rfl ?_
     refine Wk_ren' ⟨[], [(60005, 50)], [], []⟩ rfl ?_
     refine Niter (fun v4 : Fault × List UInt8 × Int => (⟨[(0, .sl 5 (l.map e_Cell)), (5, .ptr 5 0), (7, .row 20035 0), (8, .row 35 0), (9, .row 50 0), (38, .row 20035 0), (39, .i (x3.1.length : Int)), (40, .i v4.2.2)], [(5, (c_Fault v4.1))], [(35, .z 9 1 0 (x3.2.map e_str)), (50, .z 5 1 0 (v4.2.1.map e_u8)), (20035, .z 25 1 0 (x3.1.map e_L_u8))], [], []⟩ : S)) [] hF (by kernel_rfl) ?_
     intro n1 v4 y1 hF ih1 dn1
     unfold file_Make_B2 at hF
     refine NR [] [0, 5, 7, 8, 9, 38, 39, 40, 41] [5] [35, 50, 20035] [(41, .bool (decide (v4.2.2 < (x3.1.length : Int))))] .nil ?_
     refine Nif hF (fun hb hF => ?_) (fun hb hF => ?_)
     ·refine Nblk ?_
      obtain ⟨h10, h11, hF⟩ := asrt2 hF
      refine NR [.av (e_L_u8 (lget x3.1 v4.2.2))] [0, 5, 7, 8, 9, 10, 11, 38, 39, 40] [5] [35, 50, 20035] [(10, .i v4.2.2), (11, .sl 1 ((lget x3.1 v4.2.2).map e_u8))] (hc (ixr_ok e_L_u8 h10) (hc (ldr_ok e_L_u8 h11) .nil)) ?_
      obtain ⟨h12, h13, hF⟩ := asrt2 hF
      obtain ⟨x7, h14, hF⟩ := ob_elim hF
      obtain ⟨x8, h15, hF⟩ := ob_elim hF
      refine VR [.av (e_str (lget x3.2 v4.2.2)), .callE [] [50] [] [] (.row 50 3) ⟨[], [], [(50, .z 5 1 3 (x7.map e_u8))], [], []⟩, .nat ((lget x3.1 v4.2.2).length : Int), .callE [] [50] [] [] (.row 50 5) ⟨[], [], [(50, .z 5 1 5 (x8.map e_u8))], [], []⟩] [0, 5, 7, 8, 9, 38, 39, 40] [5] [35, 50, 20035] [] [(9, .row 50 5)] [] [(50, .z 5 1 5 (x8.map e_u8))] [] (hc (ixr_ok e_str h12) (hc (ldr_ok e_str h13) (hc (Pe.ren (wire_AddText_v2_ok (lget x3.2 v4.2.2) v4.2.1 0 0 true x7 h14) ⟨[], [(100000, 50)], [], []⟩) (hc (len_ok e_u8 (lget x3.1 v4.2.2)) (hc (Pe.ren (wire_AddNum_v2_ok ((lget x3.1 v4.2.2).length : Int) x7 0 0 true x8 h15) ⟨[], [(100000, 50)], [], [(100000, 3)]⟩) .nil))))) ?_
      refine NR [] [0, 5, 7, 8, 9, 38, 39, 40] [5] [35, 50, 20035] [(40, .i (w64 (v4.2.2 + 1)))] .nil ?_
      exact Nrnd [(50, ⟨0, true, true, false⟩)] hF ih1 (by kernel_rfl)
     ·refine Nexit rfl ?_
      have hF := inrO_done hF dn1
      exact metP (v4.1, v4.2.1) [] hF (by kernel_rfl)
    ·intro v hF
     have hF : file_Make_J1 l x3 v = some r := hF
     unfold file_Make_J1 at hF
     refine NR [] [0, 5, 7, 9, 12] [5] [50, 20035] [(12, .nils)] .nil ?_
     obtain ⟨x4, h4, hF⟩ := ob_elim hF
     obtain ⟨h5, hF⟩ := asrt_elim hF
     refine VR [.callE [] [] [] [] (.row 58 0) ⟨[], [], [(58, .o 5 1 0 (x4.map e_u8))], [], []⟩, .sealed, .xs ((x3.1 ++ ([v.2, x4] : List (List UInt8))).map e_L_u8), .nat ((x3.1 ++ ([v.2, x4] : List (List UInt8))).length : Int)] [5, 12, 60, 61, 62] [5] [20035] [] [(60, .row 20035 1), (61, .i ((x3.1 ++ ([v.2, x4] : List (List UInt8))).length : Int)), (62, .i 0)] [] [(20035, .z 25 1 1 ((x3.1 ++ ([v.2, x4] : List (List UInt8))).map e_L_u8))] [] (hc (Pe.ren (file_filter_ok l x4 h4) ⟨[], [(36, 58)], [], []⟩) (hc (app_ok e_L_u8 x3.1 ([v.2, x4] : List (List UInt8))) (hc (appl_ok e_L_u8 h5) (hc (len_ok e_L_u8 (x3.1 ++ ([v.2, x4] : List (List UInt8)))) .nil)))) ?_
     refine NmeetP (fun v1 : Fault × List UInt8 => (⟨[(5, .ptr 5 0), (12, .row 76 0)], [(5, (c_Fault v1.1))], [(76, ⟨5, 1, 0, (v1.2.map e_u8).length, 0, true, 0, [], (v1.2.map e_u8)⟩)], [], []⟩ : S)) (fun v1 => file_Make_J2 v1 = some r) ?_ ?_
     ·refine Nblk ?_
      unfold file_Make_L1 at hF
      refine Wk_nilrow 12 60003 5 1 rfl rfl rfl ?_
      refine Wk_trim (fs := [5, 12, 60, 61, 62]) (bs := [5]) (rs := [20035, 60003]) (ms := []) (aa := []) (nv := []) rfl ?_
      refine Wk_ren' ⟨[], [(60003, 76)], [], []⟩ rfl ?_
      refine Niter (fun v2 : Fault × List UInt8 × Int => (⟨[(5, .ptr 5 0), (12, .row 76 0), (60, .row 20035 1), (61, .i ((x3.1 ++ ([v.2, x4] : List (List UInt8))).length : Int)), (62, .i v2.2.2)], [(5, (c_Fault v2.1))], [(76, ⟨5, 1, 0, (v2.2.1.map e_u8).length, 0, true, 0, [], (v2.2.1.map e_u8)⟩), (20035, .z 25 1 1 ((x3.1 ++ ([v.2, x4] : List (List UInt8))).map e_L_u8))], [], []⟩ : S)) [(76, ⟨0, true, true, true⟩)] hF (by kernel_rfl) ?_
      intro n1 v2 y1 hF ih1 dn1
      unfold file_Make_B1 at hF
      refine NRL (decide (v2.2.2 < ((x3.1 ++ ([v.2, x4] : List (List UInt8))).length : Int))) (fun v3 : Bool => ([(63, .bool v3)], [], [], [])) [] [5, 12, 60, 61, 62, 63] [5] [76, 20035] [] .nil (fun v3 hv => ?_)
      have hF := lt_elim hF hv
      refine Nif hF (fun hb hF => ?_) (fun hb hF => ?_)
      ·refine Nblk ?_
       obtain ⟨h6, h7, hF⟩ := asrt2 hF
       refine NR [.av (e_L_u8 (lget (x3.1 ++ ([v.2, x4] : List (List UInt8))) v2.2.2))] [5, 12, 14, 60, 61, 62] [5] [76, 20035] [(14, .sl 1 ((lget (x3.1 ++ ([v.2, x4] : List (List UInt8))) v2.2.2).map e_u8))] (hc (ixr_ok e_L_u8 h6) (hc (ldr_ok e_L_u8 h7) .nil)) ?_
       refine NR [.nat (v2.2.1.length : Int), .nat ((lget (x3.1 ++ ([v.2, x4] : List (List UInt8))) v2.2.2).length : Int)] [5, 12, 14, 60, 61, 62, 72] [5] [76, 20035] [(72, .bool (decide (60000 < (w64 ((w64 ((v2.2.1.length : Int) + ((lget (x3.1 ++ ([v.2, x4] : List (List UInt8))) v2.2.2).length : Int))) + 6)))))] (hc (len_ok e_u8 v2.2.1) (hc (len_ok e_u8 (lget (x3.1 ++ ([v.2, x4] : List (List UInt8))) v2.2.2)) .nil)) ?_
       refine Nif hF (fun hb hF => ?_) (fun hb hF => ?_)
       ·obtain ⟨x5, h8, hF⟩ := lt_split hF
        refine VR [.callB (.agg (c_Fault x5))] [4, 5] [5] [] [] [(4, .nils)] [(5, (c_Fault x5))] [] [] (hc (file_fault_ok 9 0 x5 h8) .nil) ?_
        have hF := ret_done hF dn1
        cases hF
        refine Wk_nilrow 4 60004 5 1 rfl rfl rfl ?_
        refine Wk_ren' ⟨[], [(60004, 76)], [], []⟩ rfl ?_
        exact Wk_ret (hfin _ ⟨[76], [], [76], [], [], [(76, ⟨0, true, true, true⟩)], by kernel_rfl⟩)
       ·obtain ⟨x6, h9, hF⟩ := ob_elim hF
        refine VR [.callE [] [76] [] [] (.row 76 3) ⟨[], [], [(76, ⟨5, 1, 3, (x6.map e_u8).length, 0, true, 0, [], (x6.map e_u8)⟩)], [], []⟩] [5, 12, 60, 61, 62] [5] [76, 20035] [] [(12, .row 76 3)] [] [(76, ⟨5, 1, 3, (x6.map e_u8).length, 0, true, 0, [], (x6.map e_u8)⟩)] [] (hc (Pe.ren (wire_AddFrame_v2_ok (lget (x3.1 ++ ([v.2, x4] : List (List UInt8))) v2.2.2) v2.2.1 ((v2.2.1.map e_u8).length) 0 true x6 h9) ⟨[], [(100000, 76)], [], []⟩) .nil) ?_
        refine NR [] [5, 12, 60, 61, 62] [5] [76, 20035] [(62, .i (w64 (v2.2.2 + 1)))] .nil ?_
        exact Nrnd [(76, ⟨0, true, true, true⟩)] hF ih1 (by kernel_rfl)
      ·refine Nexit rfl ?_
       have hF := inrO_done hF dn1
       exact metP (v2.1, v2.2.1) [] hF (by kernel_rfl)
     ·intro v1 hF
      have hF : file_Make_J2 v1 = some r := hF
      unfold file_Make_J2 at hF
      refine VR [] [4, 5] [5] [76] [] [(4, .row 76 0)] [(5, [.i 0, .i 0])] [] [] .nil ?_
      cases hF
      exact Wk_ret (hfin _ ⟨[76], [], [76], [], [], [], by kernel_rfl⟩)

/- file.Make -/
noncomputable def file_Make_v1_J2 (v1 : Fault × List UInt8) : Option (List UInt8 × Fault) :=
 some (v1.2, (⟨0, 0⟩ : Fault))
noncomputable def file_Make_v1_B1 (x3 : List (List UInt8) × List (List UInt8)) (v : Fault × List UInt8) (x4 : List UInt8) (v2 : Fault × List UInt8 × Int) : Option ((Fault × List UInt8 × Int) ⊕ (List UInt8 × Fault)) :=
 lt (decide (v2.2.2 < ((x3.1 ++ ([v.2, x4] : List (List UInt8))).length : Int))) fun (v3 : Bool) =>
 if v3 = true then
  asrt (0 ≤ v2.2.2 ∧ v2.2.2 < ((x3.1 ++ ([v.2, x4] : List (List UInt8))).length : Int)) <|
  asrt (0 ≤ v2.2.2 ∧ v2.2.2 < ((x3.1 ++ ([v.2, x4] : List (List UInt8))).length : Int)) <|
  if (decide (60000 < (w64 ((w64 ((v2.2.1.length : Int) + ((lget (x3.1 ++ ([v.2, x4] : List (List UInt8))) v2.2.2).length : Int))) + 6)))) = true then
   lt (file_fault 9 0) fun x5 =>
   some (Sum.inr (([] : List UInt8), x5))
  else
   ob (wire_AddFrame_v2 (lget (x3.1 ++ ([v.2, x4] : List (List UInt8))) v2.2.2) v2.2.1) fun x6 =>
   some (Sum.inl (v2.1, x6, w64 (v2.2.2 + 1)))
 else
  inrO (file_Make_v1_J2 (v2.1, v2.2.1))
noncomputable def file_Make_v1_L1 (x3 : List (List UInt8) × List (List UInt8)) (v : Fault × List UInt8) (x4 : List UInt8) (v0 : Fault × List UInt8 × Int) : Option (List UInt8 × Fault) :=
 loopO (fun y => file_Make_v1_B1 x3 v x4 y) v0
noncomputable def file_Make_v1_J1 (l : List Cell) (x3 : List (List UInt8) × List (List UInt8)) (v : Fault × List UInt8) : Option (List UInt8 × Fault) :=
 ob (file_filter l) fun x4 =>
 asrt (((x3.1 ++ ([v.2, x4] : List (List UInt8))).length : Int) * 24 ≤ 140737488351232) <|
 file_Make_v1_L1 x3 v x4 (v.1, ([] : List UInt8), 0)
noncomputable def file_Make_v1_B2 (l : List Cell) (x3 : List (List UInt8) × List (List UInt8)) (v4 : Fault × List UInt8 × Int) : Option ((Fault × List UInt8 × Int) ⊕ (List UInt8 × Fault)) :=
 if (decide (v4.2.2 < (x3.1.length : Int))) = true then
  asrt (0 ≤ v4.2.2 ∧ v4.2.2 < (x3.1.length : Int)) <|
  asrt (0 ≤ v4.2.2 ∧ v4.2.2 < (x3.1.length : Int)) <|
  asrt (0 ≤ v4.2.2 ∧ v4.2.2 < (x3.2.length : Int)) <|
  asrt (0 ≤ v4.2.2 ∧ v4.2.2 < (x3.2.length : Int)) <|
  ob (wire_AddText_v2 (lget x3.2 v4.2.2) v4.2.1) fun x7 =>
  ob (wire_AddNum_v2 ((lget x3.1 v4.2.2).length : Int) x7) fun x8 =>
  some (Sum.inl (v4.1, x8, w64 (v4.2.2 + 1)))
 else
  inrO (file_Make_v1_J1 l x3 (v4.1, v4.2.1))
noncomputable def file_Make_v1_L2 (l : List Cell) (x3 : List (List UInt8) × List (List UInt8)) (v0 : Fault × List UInt8 × Int) : Option (List UInt8 × Fault) :=
 loopO (fun y => file_Make_v1_B2 l x3 y) v0
noncomputable def file_Make_v1 (l : List Cell) (size : Int) : Option (List UInt8 × Fault) :=
 ob (cell_Check l) fun x =>
 if (!decide (x.Code = 0)) = true then
  some (([] : List UInt8), x)
 else
  if (decide (500 < (l.length : Int))) = true then
   lt (file_fault 2 (-1)) fun x1 =>
   some (([] : List UInt8), x1)
  else
   if ((decide (size < 50)) || (decide (4000 < size))) = true then
    lt (file_fault 3 (-1)) fun x2 =>
    some (([] : List UInt8), x2)
   else
    ob (file_blocks l size) fun x3 =>
    file_Make_v1_L2 l x3 ((⟨0, 0⟩ : Fault), ([] : List UInt8), 0)
theorem file_Make_v1_ok (l : List Cell) (size : Int) (r : List UInt8 × Fault) (hF : file_Make_v1 l size = some r) : Pe Try.prog 25 S.none [.sl 5 (l.map e_Cell), .i size] (.tup [.sl 1 (r.1.map e_u8), .agg (c_Fault r.2)]) S.none := by
 refine PeN 80 [.tmp 4, .cell 5 31] [25, 31] Ty.ok Fn.b25 Try.func25 ?_
 intro Q g hfin
 unfold file_Make_v1 at hF
 refine VR [] [0, 1, 5] [5] [] [] [(5, .ptr 5 0)] [(5, [.i 0, .i 0])] [] [] .nil ?_
 obtain ⟨x, h0, hF⟩ := ob_elim hF
 refine VR [.callB (.agg (c_Fault x))] [0, 1, 5, 6] [5, 6] [] [] [(6, .ptr 6 0)] [(6, (c_Fault x))] [] [] (hc (cell_Check_ok l x h0) .nil) ?_
 refine NR [] [0, 1, 5, 6, 19] [5, 6] [] [(19, .bool (!decide (x.Code = 0)))] .nil ?_
 refine Nif hF (fun hb hF => ?_) (fun hb hF => ?_)
 ·refine VD [] [4, 5] [5] [] [] [(4, .nils)] [(5, (c_Fault x))] [] [] .nil ?_
  cases hF
  exact Wk_ret (hfin _ ⟨[], [], [], [], [], [], by kernel_rfl⟩)
 ·refine NR [.nat (l.length : Int)] [0, 1, 5, 23] [5] [] [(23, .bool (decide (500 < (l.length : Int))))] (hc (len_ok e_Cell l) .nil) ?_
  refine Nif hF (fun hb hF => ?_) (fun hb hF => ?_)
  ·obtain ⟨x1, h1, hF⟩ := lt_split hF
   refine VR [.callB (.agg (c_Fault x1))] [4, 5] [5] [] [] [(4, .nils)] [(5, (c_Fault x1))] [] [] (hc (file_fault_ok 2 (-1) x1 h1) .nil) ?_
   cases hF
   exact Wk_ret (hfin _ ⟨[], [], [], [], [], [], by kernel_rfl⟩)
  ·refine NR [] [0, 1, 5, 30] [5] [] [(30, .bool ((decide (size < 50)) || (decide (4000 < size))))] .nil ?_
   refine Nif hF (fun hb hF => ?_) (fun hb hF => ?_)
   ·obtain ⟨x2, h2, hF⟩ := lt_split hF
    refine VR [.callB (.agg (c_Fault x2))] [4, 5] [5] [] [] [(4, .nils)] [(5, (c_Fault x2))] [] [] (hc (file_fault_ok 3 (-1) x2 h2) .nil) ?_
    cases hF
    exact Wk_ret (hfin _ ⟨[], [], [], [], [], [], by kernel_rfl⟩)
   ·obtain ⟨x3, h3, hF⟩ := ob_elim hF
    refine VR [.callE [] [] [] [] (.tup [.row 20035 0, .row 35 0]) ⟨[], [], [(35, .z 9 1 0 (x3.2.map e_str)), (20035, .z 25 1 0 (x3.1.map e_L_u8))], [], []⟩] [0, 5, 7, 8] [5] [35, 20035] [] [(7, .row 20035 0), (8, .row 35 0)] [] [(35, .z 9 1 0 (x3.2.map e_str)), (20035, .z 25 1 0 (x3.1.map e_L_u8))] [] (hc (Pe.ren (file_blocks_ok l size x3 h3) ⟨[], [(22, 35), (40, 20035)], [], []⟩) .nil) ?_
    refine NR [] [0, 5, 7, 8, 9] [5] [35, 20035] [(9, .nils)] .nil ?_
    refine NR [.nat (x3.1.length : Int)] [0, 5, 7, 8, 9, 38, 39, 40] [5] [35, 20035] [(38, .row 20035 0), (39, .i (x3.1.length : Int)), (40, .i 0)] (hc (len_ok e_L_u8 x3.1) .nil) ?_
    refine NmeetP (fun v : Fault × List UInt8 => (⟨[(0, .sl 5 (l.map e_Cell)), (5, .ptr 5 0), (7, .row 20035 0), (9, .row 50 0)], [(5, (c_Fault v.1))], [(50, .z 5 1 0 (v.2.map e_u8)), (20035, .z 25 1 0 (x3.1.map e_L_u8))], [], []⟩ : S)) (fun v => file_Make_v1_J1 l x3 v = some r) ?_ ?_
    ·refine Nblk ?_
     unfold file_Make_v1_L2 at hF
     refine Wk_nilrow 9 60001 5 1 rfl rfl rfl ?_
     refine Wk_trim (fs := [0, 5, 7, 8, 9, 38, 39, 40]) (bs := [5]) (rs := [35, 20035, 60001]) (ms := []) (aa := []) (nv := []) rfl ?_
     refine Wk_ren' ⟨[], [(60001, 50)], [], []⟩ rfl ?_
     refine Niter (fun v4 : Fault × List UInt8 × Int => (⟨[(0, .sl 5 (l.map e_Cell)), (5, .ptr 5 0), (7, .row 20035 0), (8, .row 35 0), (9, .row 50 0), (38, .row 20035 0), (39, .i (x3.1.length : Int)), (40, .i v4.2.2)], [(5, (c_Fault v4.1))], [(35, .z 9 1 0 (x3.2.map e_str)), (50, .z 5 1 0 (v4.2.1.map e_u8)), (20035, .z 25 1 0 (x3.1.map e_L_u8))], [], []⟩ : S)) [] hF (by kernel_rfl) ?_
     intro n1 v4 y1 hF ih1 dn1
     unfold file_Make_v1_B2 at hF
     refine NR [] [0, 5, 7, 8, 9, 38, 39, 40, 41] [5] [35, 50, 20035] [(41, .bool (decide (v4.2.2 < (x3.1.length : Int))))] .nil ?_
     refine Nif hF (fun hb hF => ?_) (fun hb hF => ?_)
     ·refine Nblk ?_
      obtain ⟨h10, h11, hF⟩ := asrt2 hF
      refine NR [.av (e_L_u8 (lget x3.1 v4.2.2))] [0, 5, 7, 8, 9, 10, 11, 38, 39, 40] [5] [35, 50, 20035] [(10, .i v4.2.2), (11, .sl 1 ((lget x3.1 v4.2.2).map e_u8))] (hc (ixr_ok e_L_u8 h10) (hc (ldr_ok e_L_u8 h11) .nil)) ?_
      obtain ⟨h12, h13, hF⟩ := asrt2 hF
      obtain ⟨x7, h14, hF⟩ := ob_elim hF
      obtain ⟨x8, h15, hF⟩ := ob_elim hF
      refine VR [.av (e_str (lget x3.2 v4.2.2)), .callE [] [50] [] [] (.row 50 3) ⟨[], [], [(50, .z 5 1 3 (x7.map e_u8))], [], []⟩, .nat ((lget x3.1 v4.2.2).length : Int), .callE [] [50] [] [] (.row 50 5) ⟨[], [], [(50, .z 5 1 5 (x8.map e_u8))], [], []⟩] [0, 5, 7, 8, 9, 38, 39, 40] [5] [35, 50, 20035] [] [(9, .row 50 5)] [] [(50, .z 5 1 5 (x8.map e_u8))] [] (hc (ixr_ok e_str h12) (hc (ldr_ok e_str h13) (hc (Pe.ren (wire_AddText_v2_ok (lget x3.2 v4.2.2) v4.2.1 0 0 true x7 h14) ⟨[], [(100000, 50)], [], []⟩) (hc (len_ok e_u8 (lget x3.1 v4.2.2)) (hc (Pe.ren (wire_AddNum_v2_ok ((lget x3.1 v4.2.2).length : Int) x7 0 0 true x8 h15) ⟨[], [(100000, 50)], [], [(100000, 3)]⟩) .nil))))) ?_
      refine NR [] [0, 5, 7, 8, 9, 38, 39, 40] [5] [35, 50, 20035] [(40, .i (w64 (v4.2.2 + 1)))] .nil ?_
      exact Nrnd [(50, ⟨0, true, true, false⟩)] hF ih1 (by kernel_rfl)
     ·refine Nexit rfl ?_
      have hF := inrO_done hF dn1
      exact metP (v4.1, v4.2.1) [] hF (by kernel_rfl)
    ·intro v hF
     have hF : file_Make_v1_J1 l x3 v = some r := hF
     unfold file_Make_v1_J1 at hF
     refine NR [] [0, 5, 7, 9, 12] [5] [50, 20035] [(12, .nils)] .nil ?_
     obtain ⟨x4, h4, hF⟩ := ob_elim hF
     obtain ⟨h5, hF⟩ := asrt_elim hF
     refine VR [.callE [] [] [] [] (.row 58 0) ⟨[], [], [(58, .o 5 1 0 (x4.map e_u8))], [], []⟩, .sealed, .xs ((x3.1 ++ ([v.2, x4] : List (List UInt8))).map e_L_u8), .nat ((x3.1 ++ ([v.2, x4] : List (List UInt8))).length : Int)] [5, 12, 60, 61, 62] [5] [20035] [] [(60, .row 20035 1), (61, .i ((x3.1 ++ ([v.2, x4] : List (List UInt8))).length : Int)), (62, .i 0)] [] [(20035, .z 25 1 1 ((x3.1 ++ ([v.2, x4] : List (List UInt8))).map e_L_u8))] [] (hc (Pe.ren (file_filter_ok l x4 h4) ⟨[], [(36, 58)], [], []⟩) (hc (app_ok e_L_u8 x3.1 ([v.2, x4] : List (List UInt8))) (hc (appl_ok e_L_u8 h5) (hc (len_ok e_L_u8 (x3.1 ++ ([v.2, x4] : List (List UInt8)))) .nil)))) ?_
     refine NmeetP (fun v1 : Fault × List UInt8 => (⟨[(5, .ptr 5 0), (12, .row 76 0)], [(5, (c_Fault v1.1))], [(76, ⟨5, 1, 0, (v1.2.map e_u8).length, 0, true, 0, [], (v1.2.map e_u8)⟩)], [], []⟩ : S)) (fun v1 => file_Make_v1_J2 v1 = some r) ?_ ?_
     ·refine Nblk ?_
      unfold file_Make_v1_L1 at hF
      refine Wk_nilrow 12 60000 5 1 rfl rfl rfl ?_
      refine Wk_trim (fs := [5, 12, 60, 61, 62]) (bs := [5]) (rs := [20035, 60000]) (ms := []) (aa := []) (nv := []) rfl ?_
      refine Wk_ren' ⟨[], [(60000, 76)], [], []⟩ rfl ?_
      refine Niter (fun v2 : Fault × List UInt8 × Int => (⟨[(5, .ptr 5 0), (12, .row 76 0), (60, .row 20035 1), (61, .i ((x3.1 ++ ([v.2, x4] : List (List UInt8))).length : Int)), (62, .i v2.2.2)], [(5, (c_Fault v2.1))], [(76, ⟨5, 1, 0, (v2.2.1.map e_u8).length, 0, true, 0, [], (v2.2.1.map e_u8)⟩), (20035, .z 25 1 1 ((x3.1 ++ ([v.2, x4] : List (List UInt8))).map e_L_u8))], [], []⟩ : S)) [(76, ⟨0, true, true, true⟩)] hF (by kernel_rfl) ?_
      intro n1 v2 y1 hF ih1 dn1
      unfold file_Make_v1_B1 at hF
      refine NRL (decide (v2.2.2 < ((x3.1 ++ ([v.2, x4] : List (List UInt8))).length : Int))) (fun v3 : Bool => ([(63, .bool v3)], [], [], [])) [] [5, 12, 60, 61, 62, 63] [5] [76, 20035] [] .nil (fun v3 hv => ?_)
      have hF := lt_elim hF hv
      refine Nif hF (fun hb hF => ?_) (fun hb hF => ?_)
      ·refine Nblk ?_
       obtain ⟨h6, h7, hF⟩ := asrt2 hF
       refine NR [.av (e_L_u8 (lget (x3.1 ++ ([v.2, x4] : List (List UInt8))) v2.2.2))] [5, 12, 14, 60, 61, 62] [5] [76, 20035] [(14, .sl 1 ((lget (x3.1 ++ ([v.2, x4] : List (List UInt8))) v2.2.2).map e_u8))] (hc (ixr_ok e_L_u8 h6) (hc (ldr_ok e_L_u8 h7) .nil)) ?_
       refine NR [.nat (v2.2.1.length : Int), .nat ((lget (x3.1 ++ ([v.2, x4] : List (List UInt8))) v2.2.2).length : Int)] [5, 12, 14, 60, 61, 62, 72] [5] [76, 20035] [(72, .bool (decide (60000 < (w64 ((w64 ((v2.2.1.length : Int) + ((lget (x3.1 ++ ([v.2, x4] : List (List UInt8))) v2.2.2).length : Int))) + 6)))))] (hc (len_ok e_u8 v2.2.1) (hc (len_ok e_u8 (lget (x3.1 ++ ([v.2, x4] : List (List UInt8))) v2.2.2)) .nil)) ?_
       refine Nif hF (fun hb hF => ?_) (fun hb hF => ?_)
       ·obtain ⟨x5, h8, hF⟩ := lt_split hF
        refine VR [.callB (.agg (c_Fault x5))] [4, 5] [5] [] [] [(4, .nils)] [(5, (c_Fault x5))] [] [] (hc (file_fault_ok 9 0 x5 h8) .nil) ?_
        have hF := ret_done hF dn1
        cases hF
        exact Wk_ret (hfin _ ⟨[], [], [], [], [], [], by kernel_rfl⟩)
       ·obtain ⟨x6, h9, hF⟩ := ob_elim hF
        refine VR [.callE [] [76] [] [] (.row 76 3) ⟨[], [], [(76, ⟨5, 1, 3, (x6.map e_u8).length, 0, true, 0, [], (x6.map e_u8)⟩)], [], []⟩] [5, 12, 60, 61, 62] [5] [76, 20035] [] [(12, .row 76 3)] [] [(76, ⟨5, 1, 3, (x6.map e_u8).length, 0, true, 0, [], (x6.map e_u8)⟩)] [] (hc (Pe.ren (wire_AddFrame_v2_ok (lget (x3.1 ++ ([v.2, x4] : List (List UInt8))) v2.2.2) v2.2.1 ((v2.2.1.map e_u8).length) 0 true x6 h9) ⟨[], [(100000, 76)], [], []⟩) .nil) ?_
        refine NR [] [5, 12, 60, 61, 62] [5] [76, 20035] [(62, .i (w64 (v2.2.2 + 1)))] .nil ?_
        exact Nrnd [(76, ⟨0, true, true, true⟩)] hF ih1 (by kernel_rfl)
      ·refine Nexit rfl ?_
       have hF := inrO_done hF dn1
       exact metP (v2.1, v2.2.1) [] hF (by kernel_rfl)
     ·intro v1 hF
      have hF : file_Make_v1_J2 v1 = some r := hF
      unfold file_Make_v1_J2 at hF
      refine VR [] [4, 5] [5] [76] [] [(4, .row 76 0)] [(5, [.i 0, .i 0])] [] [] .nil ?_
      cases hF
      exact Wk_ret (hfin _ ⟨[], [], [], [], [], [], by kernel_rfl⟩)

/- tabularylaw.versions -/
noncomputable def law_versions  : List Cell :=
 lt ([(⟨([114] : List UInt8), ([99] : List UInt8), 2, false, ([98] : List UInt8)⟩ : Cell), (⟨([114] : List UInt8), ([99] : List UInt8), 1, false, ([97] : List UInt8)⟩ : Cell)]) fun (v : List Cell) =>
 v
theorem law_versions_ok  (r : List Cell) (hF : law_versions  = r) : Pe Try.prog 74 S.none [] (.sl 5 (r.map e_Cell)) S.none := by
 refine PeN 4 [.tmp 0] [22] Ty.ok Fn.b74 Try.func74 ?_
 intro Q g hfin
 unfold law_versions at hF
 refine NR [] [] [] [] [] .nil ?_
 refine NRL ([(⟨([114] : List UInt8), ([99] : List UInt8), 2, false, ([98] : List UInt8)⟩ : Cell), (⟨([114] : List UInt8), ([99] : List UInt8), 1, false, ([97] : List UInt8)⟩ : Cell)]) (fun v : List Cell => ([(0, .sl 5 (v.map e_Cell))], [], [], [])) [.sealed] [0] [] [] [] .nil (fun v hv => ?_)
 have hF := lt_elim hF hv
 cases hF
 exact Wk_ret (hfin _ ⟨[], [], [], [], [], [], by kernel_rfl⟩)

/- slices.Equal[[]byte,byte] -/
noncomputable def slices_Equal_byte_byte_J1 (v : Unit) : Option Bool :=
 some true
noncomputable def slices_Equal_byte_byte_B1 (s1 : List UInt8) (s2 : List UInt8) (v1 : Int) : Option (Int ⊕ Bool) :=
 if (decide (v1 < (s1.length : Int))) = true then
  asrt (0 ≤ v1 ∧ v1 < (s1.length : Int)) <|
  asrt (0 ≤ v1 ∧ v1 < (s2.length : Int)) <|
  if (!decide (((lget s1 v1).toNat : Int) = ((lget s2 v1).toNat : Int))) = true then
   some (Sum.inr false)
  else
   some (Sum.inl (w64 (v1 + 1)))
 else
  inrO (slices_Equal_byte_byte_J1 ())
noncomputable def slices_Equal_byte_byte_L1 (s1 : List UInt8) (s2 : List UInt8) (v0 : Int) : Option Bool :=
 loopO (fun y => slices_Equal_byte_byte_B1 s1 s2 y) v0
noncomputable def slices_Equal_byte_byte (s1 : List UInt8) (s2 : List UInt8) : Option Bool :=
 if (!decide ((s1.length : Int) = (s2.length : Int))) = true then
  some false
 else
  slices_Equal_byte_byte_L1 s1 s2 0
theorem slices_Equal_byte_byte_ok (s1 : List UInt8) (s2 : List UInt8) (r : Bool) (hF : slices_Equal_byte_byte s1 s2 = some r) : Pe Try.prog 88 S.none [.sl 1 (s1.map e_u8), .sl 1 (s2.map e_u8)] (.bool r) S.none := by
 refine PeN 26 [.tmp 4] [4] Ty.ok Fn.b88 Try.func88 ?_
 intro Q g hfin
 unfold slices_Equal_byte_byte at hF
 refine NR [] [0, 1] [] [] [] .nil ?_
 refine NR [.nat (s1.length : Int), .nat (s2.length : Int)] [0, 1, 10] [] [] [(10, .bool (!decide ((s1.length : Int) = (s2.length : Int))))] (hc (len_ok e_u8 s1) (hc (len_ok e_u8 s2) .nil)) ?_
 refine Nif hF (fun hb hF => ?_) (fun hb hF => ?_)
 ·refine NR [] [4] [] [] [(4, .bool false)] .nil ?_
  cases hF
  exact Wk_ret (hfin _ ⟨[], [], [], [], [], [], by kernel_rfl⟩)
 ·refine NR [.nat (s1.length : Int)] [0, 1, 12, 13] [] [] [(12, .i (s1.length : Int)), (13, .i 0)] (hc (len_ok e_u8 s1) .nil) ?_
  refine NmeetP (fun v : Unit => (S.none : S)) (fun v => slices_Equal_byte_byte_J1 v = some r) ?_ ?_
  ·refine Nblk ?_
   unfold slices_Equal_byte_byte_L1 at hF
   refine Niter (fun v1 : Int => (⟨[(0, .sl 1 (s1.map e_u8)), (1, .sl 1 (s2.map e_u8)), (12, .i (s1.length : Int)), (13, .i v1)], [], [], [], []⟩ : S)) [] hF (by kernel_rfl) ?_
   intro n1 v1 y1 hF ih1 dn1
   unfold slices_Equal_byte_byte_B1 at hF
   refine NR [] [0, 1, 12, 13, 14] [] [] [(14, .bool (decide (v1 < (s1.length : Int))))] .nil ?_
   refine Nif hF (fun hb hF => ?_) (fun hb hF => ?_)
   ·refine Nblk ?_
    refine NR [] [0, 1, 5, 12, 13] [] [] [(5, .i v1)] .nil ?_
    obtain ⟨h0, h1, hF⟩ := asrt2 hF
    refine ND [.av (e_u8 (lget s1 v1)), .av (e_u8 (lget s2 v1))] [0, 1, 12, 13, 24] [] [] [(24, .bool (!decide (((lget s1 v1).toNat : Int) = ((lget s2 v1).toNat : Int))))] (hc (idx_ok e_u8 h0) (hc (idx_ok e_u8 h1) .nil)) ?_
    refine Nif hF (fun hb hF => ?_) (fun hb hF => ?_)
    ·refine NR [] [4] [] [] [(4, .bool false)] .nil ?_
     have hF := ret_done hF dn1
     cases hF
     exact Wk_ret (hfin _ ⟨[], [], [], [], [], [], by kernel_rfl⟩)
    ·refine NR [] [0, 1, 12, 13] [] [] [(13, .i (w64 (v1 + 1)))] .nil ?_
     exact Nrnd [] hF ih1 (by kernel_rfl)
   ·refine Nexit rfl ?_
    have hF := inrO_done hF dn1
    exact metP () [] hF (by kernel_rfl)
  ·intro v hF
   have hF : slices_Equal_byte_byte_J1 v = some r := hF
   unfold slices_Equal_byte_byte_J1 at hF
   refine NR [] [4] [] [] [(4, .bool true)] .nil ?_
   cases hF
   exact Wk_ret (hfin _ ⟨[], [], [], [], [], [], by kernel_rfl⟩)

/- slices.Clone[[]byte,byte] -/
noncomputable def slices_Clone_byte_byte (s0 : List UInt8) : Option (List UInt8) :=
 ubO (decide (s0.length = 0)) (
  some ([] : List UInt8)) (
  asrt (((([] : List UInt8) ++ s0).length : Int) * 1 ≤ 140737488351232) <|
  some (([] : List UInt8) ++ s0))
theorem slices_Clone_byte_byte_ok (s0 : List UInt8) (r : List UInt8) (hF : slices_Clone_byte_byte s0 = some r) : Pe Try.prog 95 S.none [.sl 1 (s0.map e_u8)] (.row 5 0) ⟨[], [], [(5, .o 5 1 0 (r.map e_u8))], [], []⟩ := by
 refine PeN 8 [.tmp 2] [25] Ty.ok Fn.b95 Try.func95 ?_
 intro Q g hfin
 unfold slices_Clone_byte_byte at hF
 refine NR [] [0] [] [] [] .nil ?_
 refine NR [.bo (decide (s0.length = 0))] [0, 4] [] [] [(4, .ub (decide (s0.length = 0)) true)] (hc (ubn_ok e_u8 s0) .nil) ?_
 refine Wk_ub 4 rfl fun b hb1 hb2 => ?_
 refine Nsplit rfl (fun hb => ?_) (fun hb => ?_)
 ·have hb := hb1 hb
  have hF := (ubO_elim hF).1 hb
  refine NR [] [2] [] [] [(2, .nils)] .nil ?_
  cases hF
  refine Wk_nilrow 2 60000 5 1 rfl rfl rfl ?_
  refine Wk_ren' ⟨[], [(60000, 5)], [], []⟩ rfl ?_
  exact Wk_ret (hfin _ ⟨[5], [], [5], [], [], [(5, ⟨0, true, false, false⟩)], by kernel_rfl⟩)
 ·have hF := (ubO_elim hF).2
  obtain ⟨h0, hF⟩ := asrt_elim hF
  refine VR [.xs ((([] : List UInt8) ++ s0).map e_u8)] [2] [] [5] [] [(2, .row 5 1)] [] [(5, .o 5 1 1 ((([] : List UInt8) ++ s0).map e_u8))] [] (hc (app_ok e_u8 ([] : List UInt8) s0) (hc (appl_ok e_u8 h0) .nil)) ?_
  cases hF
  exact Wk_ret (hfin _ ⟨[5], [], [5], [], [], [(5, ⟨0, true, true, false⟩)], by kernel_rfl⟩)

/- wire.Read -/
noncomputable def wire_Read (b : List UInt8) : Reader :=
 (⟨b, false⟩ : Reader)
theorem wire_Read_ok (b : List UInt8) (r : Reader) (hF : wire_Read b = r) : Pe Try.prog 66 S.none [.sl 1 (b.map e_u8)] (.ptr 5 0) ⟨[], [(5, (c_Reader r))], [], [], []⟩ := by
 refine PeN 6 [.tmp 2] [105] Ty.ok Fn.b66 Try.func66 ?_
 intro Q g hfin
 unfold wire_Read at hF
 refine NR [] [0] [] [] [] .nil ?_
 refine VR [] [2] [5] [] [] [(2, .ptr 5 0)] [(5, [.sl 1 (b.map e_u8), .bool false])] [] [] .nil ?_
 cases hF
 exact Wk_ret (hfin _ ⟨[], [5], [], [], [], [], by kernel_rfl⟩)

/- (*wire.Reader).Num -/
noncomputable def wire_Reader_Num_J1 (v : Reader) : Option (Int × Reader) :=
 some (0, (⟨([] : List UInt8), true⟩ : Reader))
noncomputable def wire_Reader_Num_B1 (v1 : Reader × Int × List UInt8 × Int × Int) : Option ((Reader × Int × List UInt8 × Int × Int) ⊕ (Int × Reader)) :=
 if (decide (v1.2.2.2.2 < v1.2.2.2.1)) = true then
  asrt (0 ≤ v1.2.2.2.2 ∧ v1.2.2.2.2 < (v1.2.2.1.length : Int)) <|
  asrt (0 ≤ (w64 (7 * v1.2.2.2.2))) <|
  lt (bitsOp .or .i64 v1.2.1 (w64 ((w64 ((toU8 (((BitVec.ofInt 8 ((lget v1.2.2.1 v1.2.2.2.2).toNat : Int) &&& BitVec.ofInt 8 ((127 : UInt8).toNat : Int)).toNat : Int))).toNat : Int)) * 2 ^ (min (w64 (7 * v1.2.2.2.2)).toNat 64)))) fun (v2 : Int) =>
  if ((decide (4 < v1.2.2.2.2)) || (decide (1000000000 < v2))) = true then
   inrO (wire_Reader_Num_J1 v1.1)
  else
   if (decide (((lget v1.2.2.1 v1.2.2.2.2).toNat : Int) < ((128 : UInt8).toNat : Int))) = true then
    if ((decide (0 < v1.2.2.2.2)) && (decide (((lget v1.2.2.1 v1.2.2.2.2).toNat : Int) = ((0 : UInt8).toNat : Int)))) = true then
     inrO (wire_Reader_Num_J1 v1.1)
    else
     asrt (0 ≤ w64 (v1.2.2.2.2 + 1) ∧ w64 (v1.2.2.2.2 + 1) ≤ (v1.1.b.length : Int)) <|
     some (Sum.inr (v2, (⟨(ldrop v1.1.b (w64 (v1.2.2.2.2 + 1))), v1.1.bad⟩ : Reader)))
   else
    some (Sum.inl (v1.1, v2, v1.2.2.1, v1.2.2.2.1, w64 (v1.2.2.2.2 + 1)))
 else
  inrO (wire_Reader_Num_J1 v1.1)
noncomputable def wire_Reader_Num_L1 (v0 : Reader × Int × List UInt8 × Int × Int) : Option (Int × Reader) :=
 loopO (fun y => wire_Reader_Num_B1 y) v0
noncomputable def wire_Reader_Num (box : Reader) : Option (Int × Reader) :=
 wire_Reader_Num_L1 (box, 0, box.b, (box.b.length : Int), 0)
theorem wire_Reader_Num_ok (box : Reader) (r : Int × Reader) (hF : wire_Reader_Num box = some r) : Pe Try.prog 67 ⟨[], [(100000, (c_Reader box))], [], [], []⟩ [.ptr 100000 0] (.i r.1) ⟨[], [(100000, (c_Reader r.2))], [], [], []⟩ := by
 refine PeN 56 [.tmp 2] [3] Ty.ok Fn.b67 Try.func67 ?_
 intro Q g hfin
 unfold wire_Reader_Num at hF
 refine NR [] [0] [100000] [] [] .nil ?_
 refine NR [] [0, 3] [100000] [] [(3, .i 0)] .nil ?_
 refine NR [.nat (box.b.length : Int)] [0, 3, 9, 10, 11] [100000] [] [(9, .sl 1 (box.b.map e_u8)), (10, .i (box.b.length : Int)), (11, .i 0)] (hc (len_ok e_u8 box.b) .nil) ?_
 refine NmeetP (fun v : Reader => (⟨[(0, .ptr 100000 0)], [(100000, (c_Reader v))], [], [], []⟩ : S)) (fun v => wire_Reader_Num_J1 v = some r) ?_ ?_
 ·refine Nblk ?_
  unfold wire_Reader_Num_L1 at hF
  refine Niter (fun v1 : Reader × Int × List UInt8 × Int × Int => (⟨[(0, .ptr 100000 0), (3, .i v1.2.1), (9, .sl 1 (v1.2.2.1.map e_u8)), (10, .i v1.2.2.2.1), (11, .i v1.2.2.2.2)], [(100000, (c_Reader v1.1))], [], [], []⟩ : S)) [] hF (by kernel_rfl) ?_
  intro n1 v1 y1 hF ih1 dn1
  unfold wire_Reader_Num_B1 at hF
  refine NR [] [0, 3, 9, 10, 11, 12] [100000] [] [(12, .bool (decide (v1.2.2.2.2 < v1.2.2.2.1)))] .nil ?_
  refine Nif hF (fun hb hF => ?_) (fun hb hF => ?_)
  ·refine Nblk ?_
   obtain ⟨h0, hF⟩ := asrt_elim hF
   refine NR [.av (e_u8 (lget v1.2.2.1 v1.2.2.2.2))] [0, 3, 4, 5, 9, 10, 11] [100000] [] [(4, .i v1.2.2.2.2), (5, .int .u8 (((lget v1.2.2.1 v1.2.2.2.2)).toNat : Int))] (hc (idx_ok e_u8 h0) .nil) ?_
   obtain ⟨h1, hF⟩ := asrt_elim hF
   refine NRL (bitsOp .or .i64 v1.2.1 (w64 ((w64 ((toU8 (((BitVec.ofInt 8 ((lget v1.2.2.1 v1.2.2.2.2).toNat : Int) &&& BitVec.ofInt 8 ((127 : UInt8).toNat : Int)).toNat : Int))).toNat : Int)) * 2 ^ (min (w64 (7 * v1.2.2.2.2)).toNat 64)))) (fun v2 : Int => ([(3, .i v2)], [], [], [])) [] [0, 3, 4, 5, 9, 10, 11] [100000] [] [] (hc h1 .nil) (fun v2 hv => ?_)
   have hF := lt_elim hF hv
   refine NR [] [0, 3, 4, 5, 9, 10, 11, 29] [100000] [] [(29, .bool ((decide (4 < v1.2.2.2.2)) || (decide (1000000000 < v2))))] .nil ?_
   refine Nif hF (fun hb hF => ?_) (fun hb hF => ?_)
   ·refine Nexit rfl ?_
    have hF := inrO_done hF dn1
    exact metP v1.1 [] hF (by kernel_rfl)
   ·refine NR [] [0, 3, 4, 5, 9, 10, 11, 31] [100000] [] [(31, .bool (decide (((lget v1.2.2.1 v1.2.2.2.2).toNat : Int) < ((128 : UInt8).toNat : Int))))] .nil ?_
    refine Nif hF (fun hb hF => ?_) (fun hb hF => ?_)
    ·refine NR [] [0, 3, 4, 37] [100000] [] [(37, .bool ((decide (0 < v1.2.2.2.2)) && (decide (((lget v1.2.2.1 v1.2.2.2.2).toNat : Int) = ((0 : UInt8).toNat : Int)))))] .nil ?_
     refine Nif hF (fun hb hF => ?_) (fun hb hF => ?_)
     ·refine Nexit rfl ?_
      have hF := inrO_done hF dn1
      exact metP v1.1 [] hF (by kernel_rfl)
     ·obtain ⟨h2, hF⟩ := asrt_elim hF
      refine VR [.xs ((ldrop v1.1.b (w64 (v1.2.2.2.2 + 1))).map e_u8)] [3] [100000] [] [] [] [(100000, [.sl 1 ((ldrop v1.1.b (w64 (v1.2.2.2.2 + 1))).map e_u8), .bool v1.1.bad])] [] [] (hc (sl10_ok e_u8 h2) .nil) ?_
      refine NR [] [2] [100000] [] [(2, .i v2)] .nil ?_
      have hF := ret_done hF dn1
      cases hF
      exact Wk_ret (hfin _ ⟨[], [100000], [], [], [], [], by kernel_rfl⟩)
    ·refine NR [] [0, 3, 9, 10, 11] [100000] [] [(11, .i (w64 (v1.2.2.2.2 + 1)))] .nil ?_
     exact Nrnd [] hF ih1 (by kernel_rfl)
  ·refine Nexit rfl ?_
   have hF := inrO_done hF dn1
   exact metP v1.1 [] hF (by kernel_rfl)
 ·intro v hF
  have hF : wire_Reader_Num_J1 v = some r := hF
  unfold wire_Reader_Num_J1 at hF
  refine VR [] [] [100000] [] [] [] [(100000, [.nils, .bool true])] [] [] .nil ?_
  refine NR [] [2] [100000] [] [(2, .i 0)] .nil ?_
  cases hF
  refine Wk_coeB 100000 [.sl 1 (([] : List UInt8).map e_u8), .bool true] rfl (.cons (CoeS.nils 1) (.cons (CoeS.refl _) .nil)) ?_
  exact Wk_ret (hfin _ ⟨[], [100000], [], [], [], [], by kernel_rfl⟩)

/- (*wire.Reader).Text -/
noncomputable def wire_Reader_Text (box : Reader) : Option (List UInt8 × Reader) :=
 ob (wire_Reader_Num box) fun x =>
 if (x.2.bad || (decide ((x.2.b.length : Int) < x.1))) = true then
  some (([] : List UInt8), (⟨([] : List UInt8), true⟩ : Reader))
 else
  asrt (0 ≤ x.1 ∧ x.1 ≤ (x.2.b.length : Int)) <|
  asrt (0 ≤ x.1 ∧ x.1 ≤ (x.2.b.length : Int)) <|
  some ((ltake x.2.b x.1), (⟨(ldrop x.2.b x.1), x.2.bad⟩ : Reader))
theorem wire_Reader_Text_ok (box : Reader) (r : List UInt8 × Reader) (hF : wire_Reader_Text box = some r) : Pe Try.prog 114 ⟨[], [(100000, (c_Reader box))], [], [], []⟩ [.ptr 100000 0] (.str r.1) ⟨[], [(100000, (c_Reader r.2))], [], [], []⟩ := by
 refine PeN 43 [.tmp 2] [9] Ty.ok Fn.b114 Try.func114 ?_
 intro Q g hfin
 unfold wire_Reader_Text at hF
 refine NR [] [0] [100000] [] [] .nil ?_
 obtain ⟨x, h0, hF⟩ := ob_elim hF
 refine VR [.callE [100000] [] [] [] (.i x.1) ⟨[], [(100000, (c_Reader x.2))], [], [], []⟩] [0, 3] [100000] [] [] [(3, .i x.1)] [(100000, (c_Reader x.2))] [] [] (hc (Pe.ren (wire_Reader_Num_ok box x h0) ⟨[], [], [], []⟩) .nil) ?_
 refine NR [.nat (x.2.b.length : Int)] [0, 3, 19] [100000] [] [(19, .bool (x.2.bad || (decide ((x.2.b.length : Int) < x.1))))] (hc (fun (_ : (!x.2.bad) = true) => (len_ok e_u8 x.2.b)) .nil) ?_
 refine Nif hF (fun hb hF => ?_) (fun hb hF => ?_)
 ·refine VR [] [] [100000] [] [] [] [(100000, [.nils, .bool true])] [] [] .nil ?_
  refine NR [] [2] [100000] [] [(2, .str ([] : List UInt8))] .nil ?_
  cases hF
  refine Wk_coeB 100000 [.sl 1 (([] : List UInt8).map e_u8), .bool true] rfl (.cons (CoeS.nils 1) (.cons (CoeS.refl _) .nil)) ?_
  exact Wk_ret (hfin _ ⟨[], [100000], [], [], [], [], by kernel_rfl⟩)
 ·obtain ⟨h1, hF⟩ := asrt_elim hF
  refine NR [.xs ((ltake x.2.b x.1).map e_u8), .str (ltake x.2.b x.1)] [0, 3, 4] [100000] [] [(4, .str (ltake x.2.b x.1))] (hc (sl01_ok e_u8 h1) (hc (u8s_ok (ltake x.2.b x.1)) .nil)) ?_
  obtain ⟨h2, hF⟩ := asrt_elim hF
  refine VR [.xs ((ldrop x.2.b x.1).map e_u8)] [4] [100000] [] [] [] [(100000, [.sl 1 ((ldrop x.2.b x.1).map e_u8), .bool x.2.bad])] [] [] (hc (sl10_ok e_u8 h2) .nil) ?_
  refine NR [] [2] [100000] [] [(2, .str (ltake x.2.b x.1))] .nil ?_
  cases hF
  exact Wk_ret (hfin _ ⟨[], [100000], [], [], [], [], by kernel_rfl⟩)

/- (*wire.Reader).Ok -/
noncomputable def wire_Reader_Ok (box : Reader) : Bool :=
 (!box.bad) && (decide ((box.b.length : Int) = 0))
theorem wire_Reader_Ok_ok (box : Reader) (r : Bool) (hF : wire_Reader_Ok box = r) : Pe Try.prog 68 ⟨[], [(100000, (c_Reader box))], [], [], []⟩ [.ptr 100000 0] (.bool r) ⟨[], [(100000, (c_Reader box))], [], [], []⟩ := by
 refine PeN 16 [.tmp 2] [4] Ty.ok Fn.b68 Try.func68 ?_
 intro Q g hfin
 unfold wire_Reader_Ok at hF
 refine NR [] [0] [100000] [] [] .nil ?_
 refine NR [.nat (box.b.length : Int)] [2] [100000] [] [(2, .bool ((!box.bad) && (decide ((box.b.length : Int) = 0))))] (hc (fun (_ : (!box.bad) = true) => (len_ok e_u8 box.b)) .nil) ?_
 cases hF
 exact Wk_ret (hfin _ ⟨[], [100000], [], [], [], [], by kernel_rfl⟩)

/- wire.Opened -/
noncomputable def wire_Opened_v1_J1 (v : List (List UInt8) × Int) : Option (List (List UInt8) × Int) :=
 some (v.1, v.2)
noncomputable def wire_Opened_v1_B1 (b : List UInt8) (v1 : List (List UInt8) × Int) : Option ((List (List UInt8) × Int) ⊕ (List (List UInt8) × Int)) :=
 if (decide (6 ≤ (w64 ((b.length : Int) - v1.2)))) = true then
  asrt (0 ≤ v1.2 ∧ v1.2 < (b.length : Int)) <|
  asrt (0 ≤ w64 (v1.2 + 1) ∧ w64 (v1.2 + 1) < (b.length : Int)) <|
  lt (bitsOp .or .i64 (w64 ((w64 ((lget b v1.2).toNat : Int)) * 2 ^ (min (8 : Int).toNat 64))) (w64 ((lget b (w64 (v1.2 + 1))).toNat : Int))) fun (v2 : Int) =>
  if (decide ((b.length : Int) < (w64 ((w64 ((w64 (v1.2 + 2)) + v2)) + 4)))) = true then
   inrO (wire_Opened_v1_J1 (v1.1, v1.2))
  else
   asrt (0 ≤ v1.2 ∧ v1.2 ≤ w64 ((w64 (v1.2 + 2)) + v2) ∧ w64 ((w64 (v1.2 + 2)) + v2) ≤ (b.length : Int)) <|
   ob (wire_Crc (ldrop (ltake b (w64 ((w64 (v1.2 + 2)) + v2))) v1.2)) fun x =>
   asrt (0 ≤ w64 ((w64 (v1.2 + 2)) + v2) ∧ w64 ((w64 (v1.2 + 2)) + v2) ≤ w64 ((w64 ((w64 (v1.2 + 2)) + v2)) + 4) ∧ w64 ((w64 ((w64 (v1.2 + 2)) + v2)) + 4) ≤ (b.length : Int)) <|
   ob (slices_Equal_byte_byte (ldrop (ltake b (w64 ((w64 ((w64 (v1.2 + 2)) + v2)) + 4))) (w64 ((w64 (v1.2 + 2)) + v2))) ([toU8 (Int.fdiv x (2 ^ (min (24 : Int).toNat 32))), toU8 (Int.fdiv x (2 ^ (min (16 : Int).toNat 32))), toU8 (Int.fdiv x (2 ^ (min (8 : Int).toNat 32))), toU8 x] : List UInt8)) fun x1 =>
   if (!x1) = true then
    inrO (wire_Opened_v1_J1 (v1.1, v1.2))
   else
    asrt (0 ≤ w64 (v1.2 + 2) ∧ w64 (v1.2 + 2) ≤ w64 ((w64 (v1.2 + 2)) + v2) ∧ w64 ((w64 (v1.2 + 2)) + v2) ≤ (b.length : Int)) <|
    ob (slices_Clone_byte_byte (ldrop (ltake b (w64 ((w64 (v1.2 + 2)) + v2))) (w64 (v1.2 + 2)))) fun x2 =>
    asrt (((v1.1 ++ ([x2] : List (List UInt8))).length : Int) * 24 ≤ 140737488351232) <|
    some (Sum.inl ((v1.1 ++ ([x2] : List (List UInt8))), w64 ((w64 ((w64 (v1.2 + 2)) + v2)) + 4)))
 else
  inrO (wire_Opened_v1_J1 (v1.1, v1.2))
noncomputable def wire_Opened_v1_L1 (b : List UInt8) (v0 : List (List UInt8) × Int) : Option (List (List UInt8) × Int) :=
 loopO (fun y => wire_Opened_v1_B1 b y) v0
noncomputable def wire_Opened_v1 (b : List UInt8) : Option (List (List UInt8) × Int) :=
 wire_Opened_v1_L1 b (([] : List (List UInt8)), 0)
theorem wire_Opened_v1_ok (b : List UInt8) (r : List (List UInt8) × Int) (hF : wire_Opened_v1 b = some r) : Pe Try.prog 113 S.none [.sl 1 (b.map e_u8)] (.tup [.sl 1 (r.1.map e_L_u8), .i r.2]) S.none := by
 refine PeN 71 [.tmp 2, .tmp 3] [52, 3] Ty.ok Fn.b113 Try.func113 ?_
 intro Q g hfin
 unfold wire_Opened_v1 at hF
 refine NR [] [0, 2, 3] [] [] [(2, .nils), (3, .i 0)] .nil ?_
 refine NmeetP (fun v : List (List UInt8) × Int => (⟨[(2, .row 66 0), (3, .i v.2)], [], [(66, .z 25 1 0 (v.1.map e_L_u8))], [], []⟩ : S)) (fun v => wire_Opened_v1_J1 v = some r) ?_ ?_
 ·refine Nblk ?_
  unfold wire_Opened_v1_L1 at hF
  refine Wk_nilrow 2 60000 25 1 rfl rfl rfl ?_
  refine Wk_trim (fs := [0, 2, 3]) (bs := []) (rs := [60000]) (ms := []) (aa := []) (nv := []) rfl ?_
  refine Wk_ren' ⟨[], [(60000, 66)], [], []⟩ rfl ?_
  refine Niter (fun v1 : List (List UInt8) × Int => (⟨[(0, .sl 1 (b.map e_u8)), (2, .row 66 0), (3, .i v1.2)], [], [(66, .z 25 1 0 (v1.1.map e_L_u8))], [], []⟩ : S)) [] hF (by kernel_rfl) ?_
  intro n1 v1 y1 hF ih1 dn1
  unfold wire_Opened_v1_B1 at hF
  refine NR [.nat (b.length : Int)] [0, 2, 3, 11] [] [66] [(11, .bool (decide (6 ≤ (w64 ((b.length : Int) - v1.2)))))] (hc (len_ok e_u8 b) .nil) ?_
  refine Nif hF (fun hb hF => ?_) (fun hb hF => ?_)
  ·refine Nblk ?_
   obtain ⟨h0, h1, hF⟩ := asrt2 hF
   refine NDL (bitsOp .or .i64 (w64 ((w64 ((lget b v1.2).toNat : Int)) * 2 ^ (min (8 : Int).toNat 64))) (w64 ((lget b (w64 (v1.2 + 1))).toNat : Int))) (fun v2 : Int => ([(4, .i v2)], [], [], [])) [.av (e_u8 (lget b v1.2)), .av (e_u8 (lget b (w64 (v1.2 + 1))))] [0, 2, 3, 4] [] [66] [] (hc (idx_ok e_u8 h0) (hc (by decide : (0 : Int) ≤ 8) (hc (idx_ok e_u8 h1) .nil))) (fun v2 hv => ?_)
   have hF := lt_elim hF hv
   refine NR [] [0, 2, 3, 5] [] [66] [(5, .i (w64 ((w64 (v1.2 + 2)) + v2)))] .nil ?_
   refine NR [.nat (b.length : Int)] [0, 2, 3, 5, 33] [] [66] [(33, .bool (decide ((b.length : Int) < (w64 ((w64 ((w64 (v1.2 + 2)) + v2)) + 4)))))] (hc (len_ok e_u8 b) .nil) ?_
   refine Nif hF (fun hb hF => ?_) (fun hb hF => ?_)
   ·refine Nexit rfl ?_
    have hF := inrO_done hF dn1
    exact metP (v1.1, v1.2) [] hF (by kernel_rfl)
   ·obtain ⟨h2, hF⟩ := asrt_elim hF
    obtain ⟨x, h3, hF⟩ := ob_elim hF
    refine NR [.xs ((ldrop (ltake b (w64 ((w64 (v1.2 + 2)) + v2))) v1.2).map e_u8), .callB (.int .u32 x)] [0, 2, 3, 5, 6] [] [66] [(6, .int .u32 x)] (hc (sl11_ok e_u8 h2) (hc (wire_Crc_ok (ldrop (ltake b (w64 ((w64 (v1.2 + 2)) + v2))) v1.2) x h3) .nil)) ?_
    obtain ⟨h4, hF⟩ := asrt_elim hF
    obtain ⟨x1, h5, hF⟩ := ob_elim hF
    refine NR [.xs ((ldrop (ltake b (w64 ((w64 ((w64 (v1.2 + 2)) + v2)) + 4))) (w64 ((w64 (v1.2 + 2)) + v2))).map e_u8), .sealed, .callB (.bool x1)] [0, 2, 3, 5, 57] [] [66] [(57, .bool (!x1))] (hc (sl11_ok e_u8 h4) (hc (by decide : (0 : Int) ≤ 24) (hc (by decide : (0 : Int) ≤ 16) (hc (by decide : (0 : Int) ≤ 8) (hc (slices_Equal_byte_byte_ok (ldrop (ltake b (w64 ((w64 ((w64 (v1.2 + 2)) + v2)) + 4))) (w64 ((w64 (v1.2 + 2)) + v2))) ([toU8 (Int.fdiv x (2 ^ (min (24 : Int).toNat 32))), toU8 (Int.fdiv x (2 ^ (min (16 : Int).toNat 32))), toU8 (Int.fdiv x (2 ^ (min (8 : Int).toNat 32))), toU8 x] : List UInt8) x1 h5) .nil))))) ?_
    refine Nif hF (fun hb hF => ?_) (fun hb hF => ?_)
    ·refine Nexit rfl ?_
     have hF := inrO_done hF dn1
     exact metP (v1.1, v1.2) [] hF (by kernel_rfl)
    ·obtain ⟨h6, hF⟩ := asrt_elim hF
     obtain ⟨x2, h7, hF⟩ := ob_elim hF
     obtain ⟨h8, hF⟩ := asrt_elim hF
     refine VR [.xs ((ldrop (ltake b (w64 ((w64 (v1.2 + 2)) + v2))) (w64 (v1.2 + 2))).map e_u8), .callE [] [] [] [] (.row 64 0) ⟨[], [], [(64, .o 5 1 0 (x2.map e_u8))], [], []⟩, .sealed, .xs ((v1.1 ++ ([x2] : List (List UInt8))).map e_L_u8)] [0, 2, 5] [] [66] [] [(2, .row 66 1)] [] [(66, .z 25 1 1 ((v1.1 ++ ([x2] : List (List UInt8))).map e_L_u8))] [] (hc (sl11_ok e_u8 h6) (hc (Pe.ren (slices_Clone_byte_byte_ok (ldrop (ltake b (w64 ((w64 (v1.2 + 2)) + v2))) (w64 (v1.2 + 2))) x2 h7) ⟨[], [(5, 64)], [], []⟩) (hc (app_ok e_L_u8 v1.1 ([x2] : List (List UInt8))) (hc (appl_ok e_L_u8 h8) .nil)))) ?_
     refine NR [] [0, 2, 3] [] [66] [(3, .i (w64 ((w64 ((w64 (v1.2 + 2)) + v2)) + 4)))] .nil ?_
     exact Nrnd [(66, ⟨0, true, true, false⟩)] hF ih1 (by kernel_rfl)
  ·refine Nexit rfl ?_
   have hF := inrO_done hF dn1
   exact metP (v1.1, v1.2) [] hF (by kernel_rfl)
 ·intro v hF
  have hF : wire_Opened_v1_J1 v = some r := hF
  unfold wire_Opened_v1_J1 at hF
  refine NR [] [2, 3] [] [66] [] .nil ?_
  cases hF
  exact Wk_ret (hfin _ ⟨[], [], [], [], [], [], by kernel_rfl⟩)

/- wire.Read -/
noncomputable def wire_Read_v1 (b : List UInt8) : Reader :=
 (⟨b, false⟩ : Reader)
theorem wire_Read_v1_ok (b : List UInt8) (r : Reader) (hF : wire_Read_v1 b = r) : Pe Try.prog 66 S.none [.sl 1 (b.map e_u8)] (.ptr 5 0) ⟨[], [(5, (c_Reader r))], [], [], []⟩ := by
 refine PeN 6 [.tmp 2] [105] Ty.ok Fn.b66 Try.func66 ?_
 intro Q g hfin
 unfold wire_Read_v1 at hF
 refine NR [] [0] [] [] [] .nil ?_
 refine VR [] [2] [5] [] [] [(2, .ptr 5 0)] [(5, [.sl 1 (b.map e_u8), .bool false])] [] [] .nil ?_
 cases hF
 exact Wk_ret (hfin _ ⟨[], [5], [], [], [], [], by kernel_rfl⟩)

end G
end Go.Proofs.Ytollmifjbcccgaa
