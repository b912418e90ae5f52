/- The program's functions as plain functions, and that they are these. Written by a program (dec2.py). -/
import Derived.Test.YtollmifjbcccgaaTys
namespace Go.Proofs.Ytollmifjbcccgaa
open Go Go.Dm
set_option linter.unusedVariables false
set_option linter.unusedSimpArgs false
set_option maxRecDepth 100000
namespace G
/- tabularylaw.oneNote -/
noncomputable def law_oneNote  : Note :=
 lt ([(⟨([114] : List UInt8), ([99] : List UInt8), 7, false, ([97] : List UInt8)⟩ : Cell)]) fun (v : List Cell) =>
 (⟨1, v⟩ : Note)
theorem law_oneNote_ok  (r : Note) (hF : law_oneNote  = r) : Pe Try.prog 52 S.none [] (.agg (c_Note r)) S.none := by
 refine PeN 4 [.cell 0 24] [24] Ty.ok Fn.b52 Try.func52 ?_
 intro Q g hfin
 unfold law_oneNote at hF
 refine VR [] [0] [0] [] [] [(0, .ptr 0 0)] [(0, [.i 0, .nils])] [] [] .nil ?_
 refine NRL ([(⟨([114] : List UInt8), ([99] : List UInt8), 7, false, ([97] : List UInt8)⟩ : Cell)]) (fun v : List Cell => ([], [(0, [.i 1, .sl 5 (v.map e_Cell)])], [], [])) [.sealed] [0] [0] [] [] .nil (fun v hv => ?_)
 have hF := lt_elim hF hv
 cases hF
 exact Wk_ret (hfin _ ⟨[], [], [], [], [], [], by kernel_rfl⟩)

/- wal.fault -/
noncomputable def wal_fault (code : Int) (at0 : Int) : Fault :=
 (⟨code, at0⟩ : Fault)
theorem wal_fault_ok (code : Int) (at0 : Int) (r : Fault) (hF : wal_fault code at0 = r) : Pe Try.prog 63 S.none [.i code, .i at0] (.agg (c_Fault r)) S.none := by
 refine PeN 8 [.cell 4 31] [31] Ty.ok Fn.b63 Try.func63 ?_
 intro Q g hfin
 unfold wal_fault at hF
 refine VR [] [0, 1, 4] [4] [] [] [(4, .ptr 4 0)] [(4, [.i 0, .i 0])] [] [] .nil ?_
 refine VR [] [4] [4] [] [] [] [(4, [.i code, .i at0])] [] [] .nil ?_
 cases hF
 exact Wk_ret (hfin _ ⟨[], [], [], [], [], [], by kernel_rfl⟩)

/- cell.fault -/
noncomputable def cell_fault (code : Int) (at0 : Int) : Fault :=
 (⟨code, at0⟩ : Fault)
theorem cell_fault_ok (code : Int) (at0 : Int) (r : Fault) (hF : cell_fault code at0 = r) : Pe Try.prog 103 S.none [.i code, .i at0] (.agg (c_Fault r)) S.none := by
 refine PeN 8 [.cell 4 31] [31] Ty.ok Fn.b103 Try.func103 ?_
 intro Q g hfin
 unfold cell_fault at hF
 refine VR [] [0, 1, 4] [4] [] [] [(4, .ptr 4 0)] [(4, [.i 0, .i 0])] [] [] .nil ?_
 refine VR [] [4] [4] [] [] [] [(4, [.i code, .i at0])] [] [] .nil ?_
 cases hF
 exact Wk_ret (hfin _ ⟨[], [], [], [], [], [], by kernel_rfl⟩)

/- cell.code -/
noncomputable def cell_code (c : Cell) : Int :=
 if ((((decide (c.Row = ([] : List UInt8))) || (decide (40 < (c.Row.length : Int)))) || (decide (40 < (c.Col.length : Int)))) || (decide (200 < (c.Value.length : Int)))) = true then
  8
 else
  if ((decide (c.Time < 0)) || (decide (1000000000 < c.Time))) = true then
   3
  else
   if (c.Gone && (!decide (c.Value = ([] : List UInt8)))) = true then
    5
   else
    0
theorem cell_code_ok (c : Cell) (r : Int) (hF : cell_code c = r) : Pe Try.prog 108 S.none [.agg (c_Cell c)] (.i r) S.none := by
 refine PeN 42 [.tmp 2] [3] Ty.ok Fn.b108 Try.func108 ?_
 intro Q g hfin
 unfold cell_code at hF
 refine VR [] [1] [1] [] [] [(1, .ptr 1 0)] [(1, (c_Cell c))] [] [] .nil ?_
 refine Nblk ?_
 refine NR [] [1, 3] [1] [] [(3, .bool ((((decide (c.Row = ([] : List UInt8))) || (decide (40 < (c.Row.length : Int)))) || (decide (40 < (c.Col.length : Int)))) || (decide (200 < (c.Value.length : Int)))))] .nil ?_
 refine Nif hF (fun hb hF => ?_) (fun hb hF => ?_)
 ·refine NR [] [2] [] [] [(2, .i 8)] .nil ?_
  cases hF
  exact Wk_ret (hfin _ ⟨[], [], [], [], [], [], by kernel_rfl⟩)
 ·refine NR [] [1, 25] [1] [] [(25, .bool ((decide (c.Time < 0)) || (decide (1000000000 < c.Time))))] .nil ?_
  refine Nif hF (fun hb hF => ?_) (fun hb hF => ?_)
  ·refine NR [] [2] [] [] [(2, .i 3)] .nil ?_
   cases hF
   exact Wk_ret (hfin _ ⟨[], [], [], [], [], [], by kernel_rfl⟩)
  ·refine NR [] [34] [] [] [(34, .bool (c.Gone && (!decide (c.Value = ([] : List UInt8)))))] .nil ?_
   refine Nif hF (fun hb hF => ?_) (fun hb hF => ?_)
   ·refine NR [] [2] [] [] [(2, .i 5)] .nil ?_
    cases hF
    exact Wk_ret (hfin _ ⟨[], [], [], [], [], [], by kernel_rfl⟩)
   ·refine NR [] [2] [] [] [(2, .i 0)] .nil ?_
    cases hF
    exact Wk_ret (hfin _ ⟨[], [], [], [], [], [], by kernel_rfl⟩)

/- cmp.isNaN[string] -/
noncomputable def cmp_isNaN_string (x : List UInt8) : Bool :=
 !decide (x = x)
theorem cmp_isNaN_string_ok (x : List UInt8) (r : Bool) (hF : cmp_isNaN_string x = r) : Pe Try.prog 130 S.none [.str x] (.bool r) S.none := by
 refine PeN 6 [.tmp 2] [4] Ty.ok Fn.b130 Try.func130 ?_
 intro Q g hfin
 unfold cmp_isNaN_string at hF
 refine NR [] [0] [] [] [] .nil ?_
 refine NR [] [2] [] [] [(2, .bool (!decide (x = x)))] .nil ?_
 cases hF
 exact Wk_ret (hfin _ ⟨[], [], [], [], [], [], by kernel_rfl⟩)

/- cmp.Compare[string] -/
noncomputable def cmp_Compare_string (x : List UInt8) (y0 : List UInt8) : Int :=
 lt (cmp_isNaN_string x) fun x1 =>
 lt (cmp_isNaN_string y0) fun x2 =>
 if x1 = true then
  if x2 = true then
   0
  else
   (-1)
 else
  if x2 = true then
   1
  else
   if (Op.bytesLess x y0) = true then
    (-1)
   else
    if (Op.bytesLess y0 x) = true then
     1
    else
     0
theorem cmp_Compare_string_ok (x : List UInt8) (y0 : List UInt8) (r : Int) (hF : cmp_Compare_string x y0 = r) : Pe Try.prog 122 S.none [.str x, .str y0] (.i r) S.none := by
 refine PeN 20 [.tmp 4] [3] Ty.ok Fn.b122 Try.func122 ?_
 intro Q g hfin
 unfold cmp_Compare_string at hF
 refine NR [] [0, 1] [] [] [] .nil ?_
 obtain ⟨x1, h0, hF⟩ := lt_split hF
 refine NR [.callB (.bool x1)] [0, 1, 5] [] [] [(5, .bool x1)] (hc (cmp_isNaN_string_ok x x1 h0) .nil) ?_
 obtain ⟨x2, h1, hF⟩ := lt_split hF
 refine NR [.callB (.bool x2)] [0, 1, 5, 6] [] [] [(6, .bool x2)] (hc (cmp_isNaN_string_ok y0 x2 h1) .nil) ?_
 refine NR [] [0, 1, 6, 11] [] [] [(11, .bool x1)] .nil ?_
 refine Nif hF (fun hb hF => ?_) (fun hb hF => ?_)
 ·refine NR [] [12] [] [] [(12, .bool x2)] .nil ?_
  refine Nif hF (fun hb hF => ?_) (fun hb hF => ?_)
  ·refine NR [] [4] [] [] [(4, .i 0)] .nil ?_
   cases hF
   exact Wk_ret (hfin _ ⟨[], [], [], [], [], [], by kernel_rfl⟩)
  ·refine NR [] [4] [] [] [(4, .i (-1))] .nil ?_
   cases hF
   exact Wk_ret (hfin _ ⟨[], [], [], [], [], [], by kernel_rfl⟩)
 ·refine NR [] [0, 1, 13] [] [] [(13, .bool x2)] .nil ?_
  refine Nif hF (fun hb hF => ?_) (fun hb hF => ?_)
  ·refine NR [] [4] [] [] [(4, .i 1)] .nil ?_
   cases hF
   exact Wk_ret (hfin _ ⟨[], [], [], [], [], [], by kernel_rfl⟩)
  ·refine NR [] [0, 1, 16] [] [] [(16, .bool (Op.bytesLess x y0))] .nil ?_
   refine Nif hF (fun hb hF => ?_) (fun hb hF => ?_)
   ·refine NR [] [4] [] [] [(4, .i (-1))] .nil ?_
    cases hF
    exact Wk_ret (hfin _ ⟨[], [], [], [], [], [], by kernel_rfl⟩)
   ·refine NR [] [19] [] [] [(19, .bool (Op.bytesLess y0 x))] .nil ?_
    refine Nif hF (fun hb hF => ?_) (fun hb hF => ?_)
    ·refine NR [] [4] [] [] [(4, .i 1)] .nil ?_
     cases hF
     exact Wk_ret (hfin _ ⟨[], [], [], [], [], [], by kernel_rfl⟩)
    ·refine NR [] [4] [] [] [(4, .i 0)] .nil ?_
     cases hF
     exact Wk_ret (hfin _ ⟨[], [], [], [], [], [], by kernel_rfl⟩)

/- cmp.isNaN[int] -/
noncomputable def cmp_isNaN_int (x : Int) : Bool :=
 !decide (x = x)
theorem cmp_isNaN_int_ok (x : Int) (r : Bool) (hF : cmp_isNaN_int x = r) : Pe Try.prog 131 S.none [.i x] (.bool r) S.none := by
 refine PeN 6 [.tmp 2] [4] Ty.ok Fn.b131 Try.func131 ?_
 intro Q g hfin
 unfold cmp_isNaN_int at hF
 refine NR [] [0] [] [] [] .nil ?_
 refine NR [] [2] [] [] [(2, .bool (!decide (x = x)))] .nil ?_
 cases hF
 exact Wk_ret (hfin _ ⟨[], [], [], [], [], [], by kernel_rfl⟩)

/- cmp.Compare[int] -/
noncomputable def cmp_Compare_int (x : Int) (y0 : Int) : Int :=
 lt (cmp_isNaN_int x) fun x1 =>
 lt (cmp_isNaN_int y0) fun x2 =>
 if x1 = true then
  if x2 = true then
   0
  else
   (-1)
 else
  if x2 = true then
   1
  else
   if (decide (x < y0)) = true then
    (-1)
   else
    if (decide (y0 < x)) = true then
     1
    else
     0
theorem cmp_Compare_int_ok (x : Int) (y0 : Int) (r : Int) (hF : cmp_Compare_int x y0 = r) : Pe Try.prog 123 S.none [.i x, .i y0] (.i r) S.none := by
 refine PeN 20 [.tmp 4] [3] Ty.ok Fn.b123 Try.func123 ?_
 intro Q g hfin
 unfold cmp_Compare_int at hF
 refine NR [] [0, 1] [] [] [] .nil ?_
 obtain ⟨x1, h0, hF⟩ := lt_split hF
 refine NR [.callB (.bool x1)] [0, 1, 5] [] [] [(5, .bool x1)] (hc (cmp_isNaN_int_ok x x1 h0) .nil) ?_
 obtain ⟨x2, h1, hF⟩ := lt_split hF
 refine NR [.callB (.bool x2)] [0, 1, 5, 6] [] [] [(6, .bool x2)] (hc (cmp_isNaN_int_ok y0 x2 h1) .nil) ?_
 refine NR [] [0, 1, 6, 11] [] [] [(11, .bool x1)] .nil ?_
 refine Nif hF (fun hb hF => ?_) (fun hb hF => ?_)
 ·refine NR [] [12] [] [] [(12, .bool x2)] .nil ?_
  refine Nif hF (fun hb hF => ?_) (fun hb hF => ?_)
  ·refine NR [] [4] [] [] [(4, .i 0)] .nil ?_
   cases hF
   exact Wk_ret (hfin _ ⟨[], [], [], [], [], [], by kernel_rfl⟩)
  ·refine NR [] [4] [] [] [(4, .i (-1))] .nil ?_
   cases hF
   exact Wk_ret (hfin _ ⟨[], [], [], [], [], [], by kernel_rfl⟩)
 ·refine NR [] [0, 1, 13] [] [] [(13, .bool x2)] .nil ?_
  refine Nif hF (fun hb hF => ?_) (fun hb hF => ?_)
  ·refine NR [] [4] [] [] [(4, .i 1)] .nil ?_
   cases hF
   exact Wk_ret (hfin _ ⟨[], [], [], [], [], [], by kernel_rfl⟩)
  ·refine NR [] [0, 1, 16] [] [] [(16, .bool (decide (x < y0)))] .nil ?_
   refine Nif hF (fun hb hF => ?_) (fun hb hF => ?_)
   ·refine NR [] [4] [] [] [(4, .i (-1))] .nil ?_
    cases hF
    exact Wk_ret (hfin _ ⟨[], [], [], [], [], [], by kernel_rfl⟩)
   ·refine NR [] [19] [] [] [(19, .bool (decide (y0 < x)))] .nil ?_
    refine Nif hF (fun hb hF => ?_) (fun hb hF => ?_)
    ·refine NR [] [4] [] [] [(4, .i 1)] .nil ?_
     cases hF
     exact Wk_ret (hfin _ ⟨[], [], [], [], [], [], by kernel_rfl⟩)
    ·refine NR [] [4] [] [] [(4, .i 0)] .nil ?_
     cases hF
     exact Wk_ret (hfin _ ⟨[], [], [], [], [], [], by kernel_rfl⟩)

/- cmp.Or[int] -/
noncomputable def cmp_Or_int_J1 (v : Unit) : Option Int :=
 some 0
noncomputable def cmp_Or_int_B1 (vals : List Int) (v1 : Int) : Option (Int ⊕ Int) :=
 if (decide (v1 < (vals.length : Int))) = true then
  asrt (0 ≤ v1 ∧ v1 < (vals.length : Int)) <|
  if (!decide ((lget vals v1) = 0)) = true then
   some (Sum.inr (lget vals v1))
  else
   some (Sum.inl (w64 (v1 + 1)))
 else
  inrO (cmp_Or_int_J1 ())
noncomputable def cmp_Or_int_L1 (vals : List Int) (v0 : Int) : Option Int :=
 loopO (fun y => cmp_Or_int_B1 vals y) v0
noncomputable def cmp_Or_int (vals : List Int) : Option Int :=
 cmp_Or_int_L1 vals 0
theorem cmp_Or_int_ok (vals : List Int) (r : Int) (hF : cmp_Or_int vals = some r) : Pe Try.prog 121 S.none [.sl 1 (vals.map e_i64)] (.i r) S.none := by
 refine PeN 18 [.tmp 2] [3] Ty.ok Fn.b121 Try.func121 ?_
 intro Q g hfin
 unfold cmp_Or_int at hF
 refine NR [] [0] [] [] [] .nil ?_
 refine NR [] [0, 3] [] [] [(3, .i 0)] .nil ?_
 refine NR [.nat (vals.length : Int)] [3, 6, 7, 8] [] [] [(6, .sl 1 (vals.map e_i64)), (7, .i (vals.length : Int)), (8, .i 0)] (hc (len_ok e_i64 vals) .nil) ?_
 refine NmeetP (fun v : Unit => (⟨[(3, .i 0)], [], [], [], []⟩ : S)) (fun v => cmp_Or_int_J1 v = some r) ?_ ?_
 ·refine Nblk ?_
  unfold cmp_Or_int_L1 at hF
  refine Niter (fun v1 : Int => (⟨[(3, .i 0), (6, .sl 1 (vals.map e_i64)), (7, .i (vals.length : Int)), (8, .i v1)], [], [], [], []⟩ : S)) [] hF (by kernel_rfl) ?_
  intro n1 v1 y1 hF ih1 dn1
  unfold cmp_Or_int_B1 at hF
  refine NR [] [3, 6, 7, 8, 9] [] [] [(9, .bool (decide (v1 < (vals.length : Int))))] .nil ?_
  refine Nif hF (fun hb hF => ?_) (fun hb hF => ?_)
  ·refine Nblk ?_
   obtain ⟨h0, hF⟩ := asrt_elim hF
   refine NR [.av (e_i64 (lget vals v1))] [3, 5, 6, 7, 8] [] [] [(5, .i (lget vals v1))] (hc (idx_ok e_i64 h0) .nil) ?_
   refine NR [] [3, 5, 6, 7, 8, 14] [] [] [(14, .bool (!decide ((lget vals v1) = 0)))] .nil ?_
   refine Nif hF (fun hb hF => ?_) (fun hb hF => ?_)
   ·refine NR [] [2] [] [] [(2, .i (lget vals v1))] .nil ?_
    have hF := ret_done hF dn1
    cases hF
    exact Wk_ret (hfin _ ⟨[], [], [], [], [], [], by kernel_rfl⟩)
   ·refine NR [] [3, 6, 7, 8] [] [] [(8, .i (w64 (v1 + 1)))] .nil ?_
    exact Nrnd [] hF ih1 (by kernel_rfl)
  ·refine Nexit rfl ?_
   have hF := inrO_done hF dn1
   exact metP () [] hF (by kernel_rfl)
 ·intro v hF
  have hF : cmp_Or_int_J1 v = some r := hF
  unfold cmp_Or_int_J1 at hF
  refine NR [] [2] [] [] [(2, .i 0)] .nil ?_
  cases hF
  exact Wk_ret (hfin _ ⟨[], [], [], [], [], [], by kernel_rfl⟩)

/- cell.Order -/
noncomputable def cell_Order (a0 : Cell) (b : Cell) : Option Int :=
 lt (cmp_Compare_string a0.Row b.Row) fun x =>
 lt (cmp_Compare_string a0.Col b.Col) fun x1 =>
 lt (cmp_Compare_int b.Time a0.Time) fun x2 =>
 ob (cmp_Or_int ([x, x1, x2] : List Int)) fun x3 =>
 some x3
theorem cell_Order_ok (a0 : Cell) (b : Cell) (r : Int) (hF : cell_Order a0 b = some r) : Pe Try.prog 109 S.none [.agg (c_Cell a0), .agg (c_Cell b)] (.i r) S.none := by
 refine PeN 22 [.tmp 4] [3] Ty.ok Fn.b109 Try.func109 ?_
 intro Q g hfin
 unfold cell_Order at hF
 refine VR [] [2, 3] [2, 3] [] [] [(2, .ptr 2 0), (3, .ptr 3 0)] [(2, (c_Cell a0)), (3, (c_Cell b))] [] [] .nil ?_
 obtain ⟨x, h0, hF⟩ := lt_split hF
 obtain ⟨x1, h1, hF⟩ := lt_split hF
 obtain ⟨x2, h2, hF⟩ := lt_split hF
 obtain ⟨x3, h3, hF⟩ := ob_elim hF
 refine ND [.callB (.i x), .callB (.i x1), .callB (.i x2), .sealed, .callB (.i x3)] [4] [] [] [(4, .i x3)] (hc (cmp_Compare_string_ok a0.Row b.Row x h0) (hc (cmp_Compare_string_ok a0.Col b.Col x1 h1) (hc (cmp_Compare_int_ok b.Time a0.Time x2 h2) (hc (cmp_Or_int_ok ([x, x1, x2] : List Int) x3 h3) .nil)))) ?_
 cases hF
 exact Wk_ret (hfin _ ⟨[], [], [], [], [], [], by kernel_rfl⟩)

/- cell.Check -/
noncomputable def cell_Check_J1 (v : Fault) : Option Fault :=
 some (⟨0, 0⟩ : Fault)
noncomputable def cell_Check_B1 (l : List Cell) (v1 : Fault × Int) : Option ((Fault × Int) ⊕ Fault) :=
 if (decide (v1.2 < (l.length : Int))) = true then
  asrt (0 ≤ v1.2 ∧ v1.2 < (l.length : Int)) <|
  lt (cell_code (⟨(lget l v1.2).Row, (lget l v1.2).Col, (lget l v1.2).Time, (lget l v1.2).Gone, (lget l v1.2).Value⟩ : Cell)) fun x1 =>
  if (!decide (x1 = 0)) = true then
   lt (cell_fault x1 v1.2) fun x2 =>
   some (Sum.inr x2)
  else
   asrt ((decide (0 < v1.2)) = true → 0 ≤ w64 (v1.2 - 1) ∧ w64 (v1.2 - 1) < (l.length : Int)) <|
   ob (if (decide (0 < v1.2)) = true then (cell_Order (⟨(lget l (w64 (v1.2 - 1))).Row, (lget l (w64 (v1.2 - 1))).Col, (lget l (w64 (v1.2 - 1))).Time, (lget l (w64 (v1.2 - 1))).Gone, (lget l (w64 (v1.2 - 1))).Value⟩ : Cell) (⟨(lget l v1.2).Row, (lget l v1.2).Col, (lget l v1.2).Time, (lget l v1.2).Gone, (lget l v1.2).Value⟩ : Cell)) else some default) fun x3 =>
   if ((decide (0 < v1.2)) && (decide (0 ≤ x3))) = true then
    lt (cell_fault 10 v1.2) fun x4 =>
    some (Sum.inr x4)
   else
    some (Sum.inl (v1.1, w64 (v1.2 + 1)))
 else
  inrO (cell_Check_J1 v1.1)
noncomputable def cell_Check_L1 (l : List Cell) (v0 : Fault × Int) : Option Fault :=
 loopO (fun y => cell_Check_B1 l y) v0
noncomputable def cell_Check (l : List Cell) : Option Fault :=
 if (decide (1000 < (l.length : Int))) = true then
  lt (cell_fault 2 0) fun x =>
  some x
 else
  cell_Check_L1 l ((⟨0, 0⟩ : Fault), 0)
theorem cell_Check_ok (l : List Cell) (r : Fault) (hF : cell_Check l = some r) : Pe Try.prog 75 S.none [.sl 5 (l.map e_Cell)] (.agg (c_Fault r)) S.none := by
 refine PeN 40 [.cell 2 31] [31] Ty.ok Fn.b75 Try.func75 ?_
 intro Q g hfin
 unfold cell_Check at hF
 refine VR [] [0, 2] [2] [] [] [(2, .ptr 2 0)] [(2, [.i 0, .i 0])] [] [] .nil ?_
 refine NR [.nat (l.length : Int)] [0, 2, 8] [2] [] [(8, .bool (decide (1000 < (l.length : Int))))] (hc (len_ok e_Cell l) .nil) ?_
 refine Nif hF (fun hb hF => ?_) (fun hb hF => ?_)
 ·obtain ⟨x, h0, hF⟩ := lt_split hF
  refine VR [.callB (.agg (c_Fault x))] [2] [2] [] [] [] [(2, (c_Fault x))] [] [] (hc (cell_fault_ok 2 0 x h0) .nil) ?_
  cases hF
  exact Wk_ret (hfin _ ⟨[], [], [], [], [], [], by kernel_rfl⟩)
 ·refine NR [.nat (l.length : Int)] [0, 2, 10, 11, 12] [2] [] [(10, .sl 5 (l.map e_Cell)), (11, .i (l.length : Int)), (12, .i 0)] (hc (len_ok e_Cell l) .nil) ?_
  refine NmeetP (fun v : Fault => (⟨[(2, .ptr 2 0)], [(2, (c_Fault v))], [], [], []⟩ : S)) (fun v => cell_Check_J1 v = some r) ?_ ?_
  ·refine Nblk ?_
   unfold cell_Check_L1 at hF
   refine Niter (fun v1 : Fault × Int => (⟨[(0, .sl 5 (l.map e_Cell)), (2, .ptr 2 0), (10, .sl 5 (l.map e_Cell)), (11, .i (l.length : Int)), (12, .i v1.2)], [(2, (c_Fault v1.1))], [], [], []⟩ : S)) [] hF (by kernel_rfl) ?_
   intro n1 v1 y1 hF ih1 dn1
   unfold cell_Check_B1 at hF
   refine NR [] [0, 2, 10, 11, 12, 13] [2] [] [(13, .bool (decide (v1.2 < (l.length : Int))))] .nil ?_
   refine Nif hF (fun hb hF => ?_) (fun hb hF => ?_)
   ·refine Nblk ?_
    obtain ⟨h1, hF⟩ := asrt_elim hF
    refine VR [.av (e_Cell (lget l v1.2))] [0, 2, 3, 4, 10, 11, 12] [2, 4] [] [] [(3, .i v1.2), (4, .ptr 4 0)] [(4, (c_Cell (lget l v1.2)))] [] [] (hc (idx_ok e_Cell h1) .nil) ?_
    obtain ⟨x1, h2, hF⟩ := lt_split hF
    refine NR [.callB (.i x1)] [0, 2, 3, 4, 5, 10, 11, 12] [2, 4] [] [(5, .i x1)] (hc (cell_code_ok (⟨(lget l v1.2).Row, (lget l v1.2).Col, (lget l v1.2).Time, (lget l v1.2).Gone, (lget l v1.2).Value⟩ : Cell) x1 h2) .nil) ?_
    refine NR [] [0, 2, 3, 4, 5, 10, 11, 12, 20] [2, 4] [] [(20, .bool (!decide (x1 = 0)))] .nil ?_
    refine Nif hF (fun hb hF => ?_) (fun hb hF => ?_)
    ·obtain ⟨x2, h3, hF⟩ := lt_split hF
     refine VR [.callB (.agg (c_Fault x2))] [2] [2] [] [] [] [(2, (c_Fault x2))] [] [] (hc (cell_fault_ok x1 v1.2 x2 h3) .nil) ?_
     have hF := ret_done hF dn1
     cases hF
     exact Wk_ret (hfin _ ⟨[], [], [], [], [], [], by kernel_rfl⟩)
    ·obtain ⟨h4, hF⟩ := asrt_elim hF
     obtain ⟨x3, h5, hF⟩ := ob_elim hF
     refine ND [.av (e_Cell (lget l (w64 (v1.2 - 1)))), .callB (.i x3)] [0, 2, 3, 10, 11, 12, 35] [2] [] [(35, .bool ((decide (0 < v1.2)) && (decide (0 ≤ x3))))] (hc (fun (ga0 : (decide (0 < v1.2)) = true) => (idx_ok e_Cell (h4 ga0))) (hc (fun (ga0 : (decide (0 < v1.2)) = true) => (cell_Order_ok (⟨(lget l (w64 (v1.2 - 1))).Row, (lget l (w64 (v1.2 - 1))).Col, (lget l (w64 (v1.2 - 1))).Time, (lget l (w64 (v1.2 - 1))).Gone, (lget l (w64 (v1.2 - 1))).Value⟩ : Cell) (⟨(lget l v1.2).Row, (lget l v1.2).Col, (lget l v1.2).Time, (lget l v1.2).Gone, (lget l v1.2).Value⟩ : Cell) x3 (ite_t h5 ga0))) .nil)) ?_
     refine Nif hF (fun hb hF => ?_) (fun hb hF => ?_)
     ·obtain ⟨x4, h6, hF⟩ := lt_split hF
      refine VR [.callB (.agg (c_Fault x4))] [2] [2] [] [] [] [(2, (c_Fault x4))] [] [] (hc (cell_fault_ok 10 v1.2 x4 h6) .nil) ?_
      have hF := ret_done hF dn1
      cases hF
      exact Wk_ret (hfin _ ⟨[], [], [], [], [], [], by kernel_rfl⟩)
     ·refine NR [] [0, 2, 10, 11, 12] [2] [] [(12, .i (w64 (v1.2 + 1)))] .nil ?_
      exact Nrnd [] hF ih1 (by kernel_rfl)
   ·refine Nexit rfl ?_
    have hF := inrO_done hF dn1
    exact metP v1.1 [] hF (by kernel_rfl)
  ·intro v hF
   have hF : cell_Check_J1 v = some r := hF
   unfold cell_Check_J1 at hF
   refine VR [] [2] [2] [] [] [] [(2, [.i 0, .i 0])] [] [] .nil ?_
   cases hF
   exact Wk_ret (hfin _ ⟨[], [], [], [], [], [], by kernel_rfl⟩)

/- wal.Check -/
noncomputable def wal_Check (num : Note) : Option Fault :=
 if ((decide (num.Seq < 1)) || (decide (1000000000 < num.Seq))) = true then
  lt (wal_fault 3 (-1)) fun x =>
  some x
 else
  if ((decide ((num.Cells.length : Int) = 0)) || (decide (20 < (num.Cells.length : Int)))) = true then
   lt (wal_fault 2 (-1)) fun x1 =>
   some x1
  else
   ob (cell_Check num.Cells) fun x2 =>
   some x2
theorem wal_Check_ok (num : Note) (r : Fault) (hF : wal_Check num = some r) : Pe Try.prog 61 S.none [.agg (c_Note num)] (.agg (c_Fault r)) S.none := by
 refine PeN 28 [.cell 2 31] [31] Ty.ok Fn.b61 Try.func61 ?_
 intro Q g hfin
 unfold wal_Check at hF
 refine VR [] [1, 2] [1, 2] [] [] [(1, .ptr 1 0), (2, .ptr 2 0)] [(1, (c_Note num)), (2, [.i 0, .i 0])] [] [] .nil ?_
 refine Nblk ?_
 refine NR [] [1, 2, 3] [1, 2] [] [(3, .bool ((decide (num.Seq < 1)) || (decide (1000000000 < num.Seq))))] .nil ?_
 refine Nif hF (fun hb hF => ?_) (fun hb hF => ?_)
 ·obtain ⟨x, h0, hF⟩ := lt_split hF
  refine VR [.callB (.agg (c_Fault x))] [2] [2] [] [] [] [(2, (c_Fault x))] [] [] (hc (wal_fault_ok 3 (-1) x h0) .nil) ?_
  cases hF
  exact Wk_ret (hfin _ ⟨[], [], [], [], [], [], by kernel_rfl⟩)
 ·refine NR [.nat (num.Cells.length : Int), .nat (num.Cells.length : Int)] [1, 2, 13] [1, 2] [] [(13, .bool ((decide ((num.Cells.length : Int) = 0)) || (decide (20 < (num.Cells.length : Int)))))] (hc (len_ok e_Cell num.Cells) (hc (fun (_ : (!(decide ((num.Cells.length : Int) = 0))) = true) => (len_ok e_Cell num.Cells)) .nil)) ?_
  refine Nif hF (fun hb hF => ?_) (fun hb hF => ?_)
  ·obtain ⟨x1, h1, hF⟩ := lt_split hF
   refine VR [.callB (.agg (c_Fault x1))] [2] [2] [] [] [] [(2, (c_Fault x1))] [] [] (hc (wal_fault_ok 2 (-1) x1 h1) .nil) ?_
   cases hF
   exact Wk_ret (hfin _ ⟨[], [], [], [], [], [], by kernel_rfl⟩)
  ·obtain ⟨x2, h2, hF⟩ := ob_elim hF
   refine VR [.callB (.agg (c_Fault x2))] [2] [2] [] [] [] [(2, (c_Fault x2))] [] [] (hc (cell_Check_ok num.Cells x2 h2) .nil) ?_
   cases hF
   exact Wk_ret (hfin _ ⟨[], [], [], [], [], [], by kernel_rfl⟩)

/- wire.AddNum -/
noncomputable def wire_AddNum_v1_J1 (v : List UInt8 × Int) : Option (List UInt8) :=
 asrt (((v.1 ++ ([toU8 v.2] : List UInt8)).length : Int) * 1 ≤ 140737488351232) <|
 some (v.1 ++ ([toU8 v.2] : List UInt8))
noncomputable def wire_AddNum_v1_B1 (v1 : List UInt8 × Int) : Option ((List UInt8 × Int) ⊕ (List UInt8)) :=
 if (decide (127 < v1.2)) = true then
  asrt (((v1.1 ++ ([toU8 (((BitVec.ofInt 8 ((toU8 v1.2).toNat : Int) ||| BitVec.ofInt 8 ((128 : UInt8).toNat : Int)).toNat : Int))] : List UInt8)).length : Int) * 1 ≤ 140737488351232) <|
  lt ((v1.1 ++ ([toU8 (((BitVec.ofInt 8 ((toU8 v1.2).toNat : Int) ||| BitVec.ofInt 8 ((128 : UInt8).toNat : Int)).toNat : Int))] : List UInt8))) fun (v2 : List UInt8) =>
  some (Sum.inl (v2, Int.fdiv v1.2 (2 ^ (min (7 : Int).toNat 64))))
 else
  inrO (wire_AddNum_v1_J1 (v1.1, v1.2))
noncomputable def wire_AddNum_v1_L1 (v0 : List UInt8 × Int) : Option (List UInt8) :=
 loopO (fun y => wire_AddNum_v1_B1 y) v0
noncomputable def wire_AddNum_v1 (num : Int) : Option (List UInt8) :=
 wire_AddNum_v1_L1 (([] : List UInt8), num)
theorem wire_AddNum_v1_ok (num : Int) (r : List UInt8) (hF : wire_AddNum_v1 num = some r) : Pe Try.prog 78 S.none [.nils, .i num] (.row 14 1) ⟨[], [], [(14, .z 5 1 1 (r.map e_u8))], [], []⟩ := by
 refine PeN 20 [.tmp 4] [25] Ty.ok Fn.b78 Try.func78 ?_
 intro Q g hfin
 unfold wire_AddNum_v1 at hF
 refine NR [] [0, 1] [] [] [] .nil ?_
 refine NmeetP (fun v : List UInt8 × Int => (⟨[(0, .row 14 0), (1, .i v.2)], [], [(14, .z 5 1 0 (v.1.map e_u8))], [], []⟩ : S)) (fun v => wire_AddNum_v1_J1 v = some r) ?_ ?_
 ·refine Nblk ?_
  unfold wire_AddNum_v1_L1 at hF
  refine Wk_nilrow 0 60000 5 1 rfl rfl rfl ?_
  refine Wk_trim (fs := [0, 1]) (bs := []) (rs := [60000]) (ms := []) (aa := []) (nv := []) rfl ?_
  refine Wk_ren' ⟨[], [(60000, 14)], [], []⟩ rfl ?_
  refine Niter (fun v1 : List UInt8 × Int => (⟨[(0, .row 14 0), (1, .i v1.2)], [], [(14, .z 5 1 0 (v1.1.map e_u8))], [], []⟩ : S)) [] hF (by kernel_rfl) ?_
  intro n1 v1 y1 hF ih1 dn1
  unfold wire_AddNum_v1_B1 at hF
  refine NR [] [0, 1, 6] [] [14] [(6, .bool (decide (127 < v1.2)))] .nil ?_
  refine Nif hF (fun hb hF => ?_) (fun hb hF => ?_)
  ·refine Nblk ?_
   obtain ⟨h1, hF⟩ := asrt_elim hF
   refine NRL ((v1.1 ++ ([toU8 (((BitVec.ofInt 8 ((toU8 v1.2).toNat : Int) ||| BitVec.ofInt 8 ((128 : UInt8).toNat : Int)).toNat : Int))] : List UInt8))) (fun v2 : List UInt8 => ([(0, .row 14 1)], [], [(14, .z 5 1 1 (v2.map e_u8))], [])) [.sealed, .xs ((v1.1 ++ ([toU8 (((BitVec.ofInt 8 ((toU8 v1.2).toNat : Int) ||| BitVec.ofInt 8 ((128 : UInt8).toNat : Int)).toNat : Int))] : List UInt8)).map e_u8)] [0, 1] [] [14] [] (hc (app_ok e_u8 v1.1 ([toU8 (((BitVec.ofInt 8 ((toU8 v1.2).toNat : Int) ||| BitVec.ofInt 8 ((128 : UInt8).toNat : Int)).toNat : Int))] : List UInt8)) (hc (appl_ok e_u8 h1) .nil)) (fun v2 hv => ?_)
   have hF := lt_elim hF hv
   refine NR [] [0, 1] [] [14] [(1, .i (Int.fdiv v1.2 (2 ^ (min (7 : Int).toNat 64))))] (hc (by decide : (0 : Int) ≤ 7) .nil) ?_
   exact Nrnd [(14, ⟨0, true, true, false⟩)] hF ih1 (by kernel_rfl)
  ·refine Nexit rfl ?_
   have hF := inrO_done hF dn1
   exact metP (v1.1, v1.2) [] hF (by kernel_rfl)
 ·intro v hF
  have hF : wire_AddNum_v1_J1 v = some r := hF
  unfold wire_AddNum_v1_J1 at hF
  obtain ⟨h0, hF⟩ := asrt_elim hF
  refine VR [.sealed, .xs ((v.1 ++ ([toU8 v.2] : List UInt8)).map e_u8)] [4] [] [14] [] [(4, .row 14 1)] [] [(14, .z 5 1 1 ((v.1 ++ ([toU8 v.2] : List UInt8)).map e_u8))] [] (hc (app_ok e_u8 v.1 ([toU8 v.2] : List UInt8)) (hc (appl_ok e_u8 h0) .nil)) ?_
  cases hF
  exact Wk_ret (hfin _ ⟨[14], [], [14], [], [], [], by kernel_rfl⟩)

/- wire.AddNum -/
noncomputable def wire_AddNum_v2_J1 (v : List UInt8 × Int) : Option (List UInt8) :=
 asrt (((v.1 ++ ([toU8 v.2] : List UInt8)).length : Int) * 1 ≤ 140737488351232) <|
 some (v.1 ++ ([toU8 v.2] : List UInt8))
noncomputable def wire_AddNum_v2_B1 (v1 : List UInt8 × Int) : Option ((List UInt8 × Int) ⊕ (List UInt8)) :=
 if (decide (127 < v1.2)) = true then
  asrt (((v1.1 ++ ([toU8 (((BitVec.ofInt 8 ((toU8 v1.2).toNat : Int) ||| BitVec.ofInt 8 ((128 : UInt8).toNat : Int)).toNat : Int))] : List UInt8)).length : Int) * 1 ≤ 140737488351232) <|
  lt ((v1.1 ++ ([toU8 (((BitVec.ofInt 8 ((toU8 v1.2).toNat : Int) ||| BitVec.ofInt 8 ((128 : UInt8).toNat : Int)).toNat : Int))] : List UInt8))) fun (v2 : List UInt8) =>
  some (Sum.inl (v2, Int.fdiv v1.2 (2 ^ (min (7 : Int).toNat 64))))
 else
  inrO (wire_AddNum_v2_J1 (v1.1, v1.2))
noncomputable def wire_AddNum_v2_L1 (v0 : List UInt8 × Int) : Option (List UInt8) :=
 loopO (fun y => wire_AddNum_v2_B1 y) v0
noncomputable def wire_AddNum_v2 (num : Int) (row : List UInt8) : Option (List UInt8) :=
 wire_AddNum_v2_L1 (row, num)
theorem wire_AddNum_v2_ok (num : Int) (row : List UInt8) (rk : Nat) (rc : Nat) (rn : Bool) (r : List UInt8) (hF : wire_AddNum_v2 num row = some r) : Pe Try.prog 78 ⟨[], [], [(100000, ⟨5, 1, 0, rk, rc, rn, 0, [], (row.map e_u8)⟩)], [], []⟩ [.row 100000 0, .i num] (.row 100000 2) ⟨[], [], [(100000, ⟨5, 1, 2, rk, rc, rn, 0, [], (r.map e_u8)⟩)], [], []⟩ := by
 refine PeN 20 [.tmp 4] [25] Ty.ok Fn.b78 Try.func78 ?_
 intro Q g hfin
 unfold wire_AddNum_v2 at hF
 refine NR [] [0, 1] [] [100000] [] .nil ?_
 refine NmeetP (fun v : List UInt8 × Int => (⟨[(0, .row 100000 1), (1, .i v.2)], [], [(100000, ⟨5, 1, 1, rk, rc, rn, 0, [], (v.1.map e_u8)⟩)], [], []⟩ : S)) (fun v => wire_AddNum_v2_J1 v = some r) ?_ ?_
 ·refine Nblk ?_
  unfold wire_AddNum_v2_L1 at hF
  refine Niter (fun v1 : List UInt8 × Int => (⟨[(0, .row 100000 1), (1, .i v1.2)], [], [(100000, ⟨5, 1, 1, rk, rc, rn, 0, [], (v1.1.map e_u8)⟩)], [], []⟩ : S)) [(100000, ⟨1, true, true, false⟩)] hF (by kernel_rfl) ?_
  intro n1 v1 y1 hF ih1 dn1
  unfold wire_AddNum_v2_B1 at hF
  refine NR [] [0, 1, 6] [] [100000] [(6, .bool (decide (127 < v1.2)))] .nil ?_
  refine Nif hF (fun hb hF => ?_) (fun hb hF => ?_)
  ·refine Nblk ?_
   obtain ⟨h1, hF⟩ := asrt_elim hF
   refine NRL ((v1.1 ++ ([toU8 (((BitVec.ofInt 8 ((toU8 v1.2).toNat : Int) ||| BitVec.ofInt 8 ((128 : UInt8).toNat : Int)).toNat : Int))] : List UInt8))) (fun v2 : List UInt8 => ([(0, .row 100000 2)], [], [(100000, ⟨5, 1, 2, rk, rc, rn, 0, [], (v2.map e_u8)⟩)], [])) [.sealed, .xs ((v1.1 ++ ([toU8 (((BitVec.ofInt 8 ((toU8 v1.2).toNat : Int) ||| BitVec.ofInt 8 ((128 : UInt8).toNat : Int)).toNat : Int))] : List UInt8)).map e_u8)] [0, 1] [] [100000] [] (hc (app_ok e_u8 v1.1 ([toU8 (((BitVec.ofInt 8 ((toU8 v1.2).toNat : Int) ||| BitVec.ofInt 8 ((128 : UInt8).toNat : Int)).toNat : Int))] : List UInt8)) (hc (appl_ok e_u8 h1) .nil)) (fun v2 hv => ?_)
   have hF := lt_elim hF hv
   refine NR [] [0, 1] [] [100000] [(1, .i (Int.fdiv v1.2 (2 ^ (min (7 : Int).toNat 64))))] (hc (by decide : (0 : Int) ≤ 7) .nil) ?_
   exact Nrnd [(100000, ⟨1, true, true, false⟩)] hF ih1 (by kernel_rfl)
  ·refine Nexit rfl ?_
   have hF := inrO_done hF dn1
   exact metP (v1.1, v1.2) [] hF (by kernel_rfl)
 ·intro v hF
  have hF : wire_AddNum_v2_J1 v = some r := hF
  unfold wire_AddNum_v2_J1 at hF
  obtain ⟨h0, hF⟩ := asrt_elim hF
  refine VR [.sealed, .xs ((v.1 ++ ([toU8 v.2] : List UInt8)).map e_u8)] [4] [] [100000] [] [(4, .row 100000 2)] [] [(100000, ⟨5, 1, 2, rk, rc, rn, 0, [], ((v.1 ++ ([toU8 v.2] : List UInt8)).map e_u8)⟩)] [] (hc (app_ok e_u8 v.1 ([toU8 v.2] : List UInt8)) (hc (appl_ok e_u8 h0) .nil)) ?_
  cases hF
  exact Wk_ret (hfin _ ⟨[100000], [], [100000], [], [], [], by kernel_rfl⟩)

/- wire.AddText -/
noncomputable def wire_AddText_v1 (s0 : List UInt8) (row : List UInt8) : Option (List UInt8) :=
 ob (wire_AddNum_v2 (s0.length : Int) row) fun x =>
 asrt (((x ++ s0).length : Int) * 1 ≤ 140737488351232) <|
 some (x ++ s0)
theorem wire_AddText_v1_ok (s0 : List UInt8) (row : List UInt8) (rk : Nat) (rc : Nat) (rn : Bool) (r : List UInt8) (hF : wire_AddText_v1 s0 row = some r) : Pe Try.prog 79 ⟨[], [], [(100000, ⟨5, 1, 0, rk, rc, rn, 0, [], (row.map e_u8)⟩)], [], []⟩ [.row 100000 0, .str s0] (.row 100000 3) ⟨[], [], [(100000, ⟨5, 1, 3, rk, rc, rn, 0, [], (r.map e_u8)⟩)], [], []⟩ := by
 refine PeN 11 [.tmp 4] [25] Ty.ok Fn.b79 Try.func79 ?_
 intro Q g hfin
 unfold wire_AddText_v1 at hF
 refine NR [] [0, 1] [] [100000] [] .nil ?_
 obtain ⟨x, h0, hF⟩ := ob_elim hF
 obtain ⟨h1, hF⟩ := asrt_elim hF
 refine VR [.callE [] [100000] [] [] (.row 100000 2) ⟨[], [], [(100000, ⟨5, 1, 2, rk, rc, rn, 0, [], (x.map e_u8)⟩)], [], []⟩, .xs ((x ++ s0).map e_u8)] [4] [] [100000] [] [(4, .row 100000 3)] [] [(100000, ⟨5, 1, 3, rk, rc, rn, 0, [], ((x ++ s0).map e_u8)⟩)] [] (hc (Pe.ren (wire_AddNum_v2_ok (s0.length : Int) row rk rc rn x h0) ⟨[], [], [], []⟩) (hc (app_ok e_u8 x s0) (hc (appl_ok e_u8 h1) .nil))) ?_
 cases hF
 exact Wk_ret (hfin _ ⟨[100000], [], [100000], [], [], [], by kernel_rfl⟩)

/- cell.Add -/
noncomputable def cell_Add_v1 (c : Cell) (row : List UInt8) : Option (List UInt8) :=
 ob (wire_AddText_v1 c.Row row) fun x =>
 ob (wire_AddText_v1 c.Col x) fun x1 =>
 ob (
  if c.Gone = true then
   some (c, 1)
  else
   some (c, 0)) fun (v : Cell × Int) =>
 ob (wire_AddNum_v2 v.1.Time x1) fun x2 =>
 ob (wire_AddNum_v2 v.2 x2) fun x3 =>
 ob (wire_AddText_v1 v.1.Value x3) fun x4 =>
 some x4
theorem cell_Add_v1_ok (c : Cell) (row : List UInt8) (rk : Nat) (rc : Nat) (rn : Bool) (r : List UInt8) (hF : cell_Add_v1 c row = some r) : Pe Try.prog 104 ⟨[], [], [(100000, ⟨5, 1, 0, rk, rc, rn, 0, [], (row.map e_u8)⟩)], [], []⟩ [.row 100000 0, .agg (c_Cell c)] (.row 100000 13) ⟨[], [], [(100000, ⟨5, 1, 13, rk, rc, rn, 0, [], (r.map e_u8)⟩)], [], []⟩ := by
 refine PeN 24 [.tmp 4] [25] Ty.ok Fn.b104 Try.func104 ?_
 intro Q g hfin
 unfold cell_Add_v1 at hF
 refine VR [] [0, 3] [3] [100000] [] [(3, .ptr 3 0)] [(3, (c_Cell c))] [] [] .nil ?_
 obtain ⟨x, h0, hF⟩ := ob_elim hF
 obtain ⟨x1, h1, hF⟩ := ob_elim hF
 refine VD [.callE [] [100000] [] [] (.row 100000 3) ⟨[], [], [(100000, ⟨5, 1, 3, rk, rc, rn, 0, [], (x.map e_u8)⟩)], [], []⟩, .callE [] [100000] [] [] (.row 100000 6) ⟨[], [], [(100000, ⟨5, 1, 6, rk, rc, rn, 0, [], (x1.map e_u8)⟩)], [], []⟩] [0, 3] [3] [100000] [] [(0, .row 100000 6)] [] [(100000, ⟨5, 1, 6, rk, rc, rn, 0, [], (x1.map e_u8)⟩)] [] (hc (Pe.ren (wire_AddText_v1_ok c.Row row rk rc rn x h0) ⟨[], [], [], []⟩) (hc (Pe.ren (wire_AddText_v1_ok c.Col x rk rc rn x1 h1) ⟨[], [], [], [(100000, 3)]⟩) .nil)) ?_
 refine NR [] [0, 3, 5] [3] [100000] [(5, .i 0)] .nil ?_
 refine NR [] [0, 3, 5, 14] [3] [100000] [(14, .bool c.Gone)] .nil ?_
 obtain ⟨v, hv, hF⟩ := ob_elim hF
 refine Nmeet (⟨[(0, .row 100000 6), (3, .ptr 3 0), (5, .i v.2)], [(3, (c_Cell v.1))], [(100000, ⟨5, 1, 6, rk, rc, rn, 0, [], (x1.map e_u8)⟩)], [], []⟩ : S) ?_ ?_
 ·have hF := hv
  refine Nif hF (fun hb hF => ?_) (fun hb hF => ?_)
  ·refine NR [] [0, 3, 5] [3] [100000] [(5, .i 1)] .nil ?_
   cases hF
   exact met [] (by kernel_rfl)
  ·cases hF
   exact met [] (by kernel_rfl)
 ·obtain ⟨x2, h2, hF⟩ := ob_elim hF
  obtain ⟨x3, h3, hF⟩ := ob_elim hF
  obtain ⟨x4, h4, hF⟩ := ob_elim hF
  refine VD [.callE [] [100000] [] [] (.row 100000 8) ⟨[], [], [(100000, ⟨5, 1, 8, rk, rc, rn, 0, [], (x2.map e_u8)⟩)], [], []⟩, .callE [] [100000] [] [] (.row 100000 10) ⟨[], [], [(100000, ⟨5, 1, 10, rk, rc, rn, 0, [], (x3.map e_u8)⟩)], [], []⟩, .callE [] [100000] [] [] (.row 100000 13) ⟨[], [], [(100000, ⟨5, 1, 13, rk, rc, rn, 0, [], (x4.map e_u8)⟩)], [], []⟩] [4] [] [100000] [] [(4, .row 100000 13)] [] [(100000, ⟨5, 1, 13, rk, rc, rn, 0, [], (x4.map e_u8)⟩)] [] (hc (Pe.ren (wire_AddNum_v2_ok v.1.Time x1 rk rc rn x2 h2) ⟨[], [], [], [(100000, 6)]⟩) (hc (Pe.ren (wire_AddNum_v2_ok v.2 x2 rk rc rn x3 h3) ⟨[], [], [], [(100000, 8)]⟩) (hc (Pe.ren (wire_AddText_v1_ok v.1.Value x3 rk rc rn x4 h4) ⟨[], [], [], [(100000, 10)]⟩) .nil))) ?_
  cases hF
  exact Wk_ret (hfin _ ⟨[100000], [], [100000], [], [], [], by kernel_rfl⟩)

/- wal.bytes -/
noncomputable def wal_bytes_J1 (v : List UInt8) : Option (List UInt8) :=
 some v
noncomputable def wal_bytes_B1 (v1 : List UInt8 × List Cell × Int × Int) : Option ((List UInt8 × List Cell × Int × Int) ⊕ (List UInt8)) :=
 if (decide (v1.2.2.2 < v1.2.2.1)) = true then
  asrt (0 ≤ v1.2.2.2 ∧ v1.2.2.2 < (v1.2.1.length : Int)) <|
  ob (cell_Add_v1 (⟨(lget v1.2.1 v1.2.2.2).Row, (lget v1.2.1 v1.2.2.2).Col, (lget v1.2.1 v1.2.2.2).Time, (lget v1.2.1 v1.2.2.2).Gone, (lget v1.2.1 v1.2.2.2).Value⟩ : Cell) v1.1) fun x1 =>
  some (Sum.inl (x1, v1.2.1, v1.2.2.1, w64 (v1.2.2.2 + 1)))
 else
  inrO (wal_bytes_J1 v1.1)
noncomputable def wal_bytes_L1 (v0 : List UInt8 × List Cell × Int × Int) : Option (List UInt8) :=
 loopO (fun y => wal_bytes_B1 y) v0
noncomputable def wal_bytes (num : Note) : Option (List UInt8) :=
 ob (wire_AddNum_v1 num.Seq) fun x =>
 wal_bytes_L1 (x, num.Cells, (num.Cells.length : Int), 0)
theorem wal_bytes_ok (num : Note) (r : List UInt8) (hF : wal_bytes num = some r) : Pe Try.prog 62 S.none [.agg (c_Note num)] (.row 8 0) ⟨[], [], [(8, .z 5 1 0 (r.map e_u8))], [], []⟩ := by
 refine PeN 21 [.tmp 2] [25] Ty.ok Fn.b62 Try.func62 ?_
 intro Q g hfin
 unfold wal_bytes at hF
 refine VR [] [1] [1] [] [] [(1, .ptr 1 0)] [(1, (c_Note num))] [] [] .nil ?_
 obtain ⟨x, h0, hF⟩ := ob_elim hF
 refine VR [.raw [0], .callE [] [] [] [] (.row 8 1) ⟨[], [], [(8, .z 5 1 1 (x.map e_u8))], [], []⟩] [1, 3] [1] [8] [] [(3, .row 8 1)] [] [(8, .z 5 1 1 (x.map e_u8))] [] (hc (Pe.ren (wire_AddNum_v1_ok num.Seq x h0) ⟨[], [(14, 8)], [], []⟩) .nil) ?_
 refine NR [.nat (num.Cells.length : Int)] [3, 10, 11, 12] [] [8] [(10, .sl 5 (num.Cells.map e_Cell)), (11, .i (num.Cells.length : Int)), (12, .i 0)] (hc (len_ok e_Cell num.Cells) .nil) ?_
 refine NmeetP (fun v : List UInt8 => (⟨[(3, .row 8 0)], [], [(8, .z 5 1 0 (v.map e_u8))], [], []⟩ : S)) (fun v => wal_bytes_J1 v = some r) ?_ ?_
 ·refine Nblk ?_
  unfold wal_bytes_L1 at hF
  refine Niter (fun v1 : List UInt8 × List Cell × Int × Int => (⟨[(3, .row 8 0), (10, .sl 5 (v1.2.1.map e_Cell)), (11, .i v1.2.2.1), (12, .i v1.2.2.2)], [], [(8, .z 5 1 0 (v1.1.map e_u8))], [], []⟩ : S)) [(8, ⟨0, true, true, false⟩)] hF (by kernel_rfl) ?_
  intro n1 v1 y1 hF ih1 dn1
  unfold wal_bytes_B1 at hF
  refine NR [] [3, 10, 11, 12, 13] [] [8] [(13, .bool (decide (v1.2.2.2 < v1.2.2.1)))] .nil ?_
  refine Nif hF (fun hb hF => ?_) (fun hb hF => ?_)
  ·refine Nblk ?_
   obtain ⟨h1, hF⟩ := asrt_elim hF
   refine VR [.av (e_Cell (lget v1.2.1 v1.2.2.2))] [3, 5, 10, 11, 12] [5] [8] [] [(5, .ptr 5 0)] [(5, (c_Cell (lget v1.2.1 v1.2.2.2)))] [] [] (hc (idx_ok e_Cell h1) .nil) ?_
   obtain ⟨x1, h2, hF⟩ := ob_elim hF
   refine VR [.callE [] [8] [] [] (.row 8 13) ⟨[], [], [(8, .z 5 1 13 (x1.map e_u8))], [], []⟩] [3, 10, 11, 12] [] [8] [] [(3, .row 8 13)] [] [(8, .z 5 1 13 (x1.map e_u8))] [] (hc (Pe.ren (cell_Add_v1_ok (⟨(lget v1.2.1 v1.2.2.2).Row, (lget v1.2.1 v1.2.2.2).Col, (lget v1.2.1 v1.2.2.2).Time, (lget v1.2.1 v1.2.2.2).Gone, (lget v1.2.1 v1.2.2.2).Value⟩ : Cell) v1.1 0 0 true x1 h2) ⟨[], [(100000, 8)], [], []⟩) .nil) ?_
   refine NR [] [3, 10, 11, 12] [] [8] [(12, .i (w64 (v1.2.2.2 + 1)))] .nil ?_
   exact Nrnd [(8, ⟨0, true, true, false⟩)] hF ih1 (by kernel_rfl)
  ·refine Nexit rfl ?_
   have hF := inrO_done hF dn1
   exact metP v1.1 [] hF (by kernel_rfl)
 ·intro v hF
  have hF : wal_bytes_J1 v = some r := hF
  unfold wal_bytes_J1 at hF
  refine NR [] [2] [] [8] [(2, .row 8 0)] .nil ?_
  cases hF
  exact Wk_ret (hfin _ ⟨[8], [], [8], [], [], [], by kernel_rfl⟩)

/- wal.Write -/
noncomputable def wal_Write_v1 (num : Note) : Option (List UInt8 × Fault) :=
 ob (wal_Check num) fun x =>
 if (!decide (x.Code = 0)) = true then
  some (([] : List UInt8), x)
 else
  ob (wal_bytes num) fun x1 =>
  some (x1, (⟨0, 0⟩ : Fault))
theorem wal_Write_v1_ok (num : Note) (r : List UInt8 × Fault) (hF : wal_Write_v1 num = some r) : Pe Try.prog 15 S.none [.agg (c_Note num)] (.tup [.sl 1 (r.1.map e_u8), .agg (c_Fault r.2)]) S.none := by
 refine PeN 14 [.tmp 2, .cell 3 31] [25, 31] Ty.ok Fn.b15 Try.func15 ?_
 intro Q g hfin
 unfold wal_Write_v1 at hF
 refine VR [] [1, 3] [1, 3] [] [] [(1, .ptr 1 0), (3, .ptr 3 0)] [(1, (c_Note num)), (3, [.i 0, .i 0])] [] [] .nil ?_
 obtain ⟨x, h0, hF⟩ := ob_elim hF
 refine VR [.callB (.agg (c_Fault x))] [1, 3, 4] [1, 3, 4] [] [] [(4, .ptr 4 0)] [(4, (c_Fault x))] [] [] (hc (wal_Check_ok num x h0) .nil) ?_
 refine NR [] [1, 3, 4, 9] [1, 3, 4] [] [(9, .bool (!decide (x.Code = 0)))] .nil ?_
 refine Nif hF (fun hb hF => ?_) (fun hb hF => ?_)
 ·refine VD [] [2, 3] [3] [] [] [(2, .nils)] [(3, (c_Fault x))] [] [] .nil ?_
  cases hF
  exact Wk_ret (hfin _ ⟨[], [], [], [], [], [], by kernel_rfl⟩)
 ·obtain ⟨x1, h1, hF⟩ := ob_elim hF
  refine VR [.callE [] [] [] [] (.row 12 0) ⟨[], [], [(12, .z 5 1 0 (x1.map e_u8))], [], []⟩] [2, 3] [3] [12] [] [(2, .row 12 0)] [] [(12, .z 5 1 0 (x1.map e_u8))] [] (hc (Pe.ren (wal_bytes_ok num x1 h1) ⟨[], [(8, 12)], [], []⟩) .nil) ?_
  cases hF
  exact Wk_ret (hfin _ ⟨[], [], [], [], [], [], by kernel_rfl⟩)

/- tabularyref.Same -/
noncomputable def R_Same (a0 : List UInt8) (b : List UInt8) : Bool :=
 decide (a0 = b)
theorem R_Same_ok (a0 : List UInt8) (b : List UInt8) (r : Bool) (hF : R_Same a0 b = r) : Pe Try.prog 18 S.none [.sl 1 (a0.map e_u8), .sl 1 (b.map e_u8)] (.bool r) S.none := by
 refine PeN 10 [.tmp 4] [4] Ty.ok Fn.b18 Try.func18 ?_
 intro Q g hfin
 unfold R_Same at hF
 refine NR [] [0, 1] [] [] [] .nil ?_
 refine NR [.str a0, .str b] [4] [] [] [(4, .bool (decide (a0 = b)))] (hc (u8s_ok a0) (hc (u8s_ok b) .nil)) ?_
 cases hF
 exact Wk_ret (hfin _ ⟨[], [], [], [], [], [], by kernel_rfl⟩)

/- tabularylaw.walBegun -/
noncomputable def law_walBegun  : Option Bool :=
 lt (law_oneNote) fun x =>
 ob (wal_Write_v1 x) fun x1 =>
 lt (R_Same x1.1 ([(1 : UInt8), (1 : UInt8), (114 : UInt8), (1 : UInt8), (99 : UInt8), (7 : UInt8), (0 : UInt8), (1 : UInt8), (97 : UInt8)] : List UInt8)) fun x2 =>
 some ((decide (x1.2.Code = 0)) && x2)
theorem law_walBegun_ok  (r : Bool) (hF : law_walBegun  = some r) : Pe Try.prog 11 S.none [] (.bool r) S.none := by
 refine PeN 16 [.tmp 0] [4] Ty.ok Fn.b11 Try.func11 ?_
 intro Q g hfin
 unfold law_walBegun at hF
 refine NR [] [] [] [] [] .nil ?_
 obtain ⟨x, h0, hF⟩ := lt_split hF
 obtain ⟨x1, h1, hF⟩ := ob_elim hF
 refine VR [.call (.agg (c_Note x)), .call (.tup [.sl 1 (x1.1.map e_u8), .agg (c_Fault x1.2)])] [1, 2] [2] [] [] [(1, .sl 1 (x1.1.map e_u8)), (2, .ptr 2 0)] [(2, (c_Fault x1.2))] [] [] (hc (law_oneNote_ok  x h0) (hc (wal_Write_v1_ok x x1 h1) .nil)) ?_
 obtain ⟨x2, h2, hF⟩ := lt_split hF
 refine NR [.sealed, .callB (.bool x2)] [0] [] [] [(0, .bool ((decide (x1.2.Code = 0)) && x2))] (hc (fun (ga0 : (decide (x1.2.Code = 0)) = true) => (R_Same_ok x1.1 ([(1 : UInt8), (1 : UInt8), (114 : UInt8), (1 : UInt8), (99 : UInt8), (7 : UInt8), (0 : UInt8), (1 : UInt8), (97 : UInt8)] : List UInt8) x2 h2)) .nil) ?_
 cases hF
 exact Wk_ret (hfin _ ⟨[], [], [], [], [], [], by kernel_rfl⟩)

/- tabularylaw.vastNotes -/
noncomputable def law_vastNotes_J1 (l : List Note) (v : Int) : Option Bool :=
 some ((decide (1100 < (l.length : Int))) || (decide (1300 < v)))
noncomputable def law_vastNotes_B1 (l : List Note) (v1 : Int × Int) : Option ((Int × Int) ⊕ Bool) :=
 if (decide (v1.2 < (l.length : Int))) = true then
  asrt (0 ≤ v1.2 ∧ v1.2 < (l.length : Int)) <|
  some (Sum.inl (w64 (v1.1 + (((lget l v1.2).Cells).length : Int)), w64 (v1.2 + 1)))
 else
  inrO (law_vastNotes_J1 l v1.1)
noncomputable def law_vastNotes_L1 (l : List Note) (v0 : Int × Int) : Option Bool :=
 loopO (fun y => law_vastNotes_B1 l y) v0
noncomputable def law_vastNotes (l : List Note) : Option Bool :=
 law_vastNotes_L1 l (0, 0)
theorem law_vastNotes_ok (l : List Note) (r : Bool) (hF : law_vastNotes l = some r) : Pe Try.prog 34 S.none [.sl 2 (l.map e_Note)] (.bool r) S.none := by
 refine PeN 26 [.tmp 2] [4] Ty.ok Fn.b34 Try.func34 ?_
 intro Q g hfin
 unfold law_vastNotes at hF
 refine NR [] [0] [] [] [] .nil ?_
 refine NR [] [0, 3] [] [] [(3, .i 0)] .nil ?_
 refine NR [] [0, 3, 4] [] [] [(4, .i 0)] .nil ?_
 refine NmeetP (fun v : Int => (⟨[(0, .sl 2 (l.map e_Note)), (3, .i v)], [], [], [], []⟩ : S)) (fun v => law_vastNotes_J1 l v = some r) ?_ ?_
 ·refine Nblk ?_
  unfold law_vastNotes_L1 at hF
  refine Niter (fun v1 : Int × Int => (⟨[(0, .sl 2 (l.map e_Note)), (3, .i v1.1), (4, .i v1.2)], [], [], [], []⟩ : S)) [] hF (by kernel_rfl) ?_
  intro n1 v1 y1 hF ih1 dn1
  unfold law_vastNotes_B1 at hF
  refine NR [.nat (l.length : Int)] [0, 3, 4, 8] [] [] [(8, .bool (decide (v1.2 < (l.length : Int))))] (hc (len_ok e_Note l) .nil) ?_
  refine Nif hF (fun hb hF => ?_) (fun hb hF => ?_)
  ·refine Nblk ?_
   obtain ⟨h0, hF⟩ := asrt_elim hF
   refine NR [.av (e_Note (lget l v1.2)), .nat (((lget l v1.2).Cells).length : Int)] [0, 3, 4] [] [] [(3, .i (w64 (v1.1 + (((lget l v1.2).Cells).length : Int))))] (hc (idx_ok e_Note h0) (hc (len_ok e_Cell ((lget l v1.2).Cells)) .nil)) ?_
   refine NR [] [0, 3, 4] [] [] [(4, .i (w64 (v1.2 + 1)))] .nil ?_
   exact Nrnd [] hF ih1 (by kernel_rfl)
  ·refine Nexit rfl ?_
   have hF := inrO_done hF dn1
   exact metP v1.1 [] hF (by kernel_rfl)
 ·intro v hF
  have hF : law_vastNotes_J1 l v = some r := hF
  unfold law_vastNotes_J1 at hF
  refine NR [.nat (l.length : Int)] [2] [] [] [(2, .bool ((decide (1100 < (l.length : Int))) || (decide (1300 < v))))] (hc (len_ok e_Note l) .nil) ?_
  cases hF
  exact Wk_ret (hfin _ ⟨[], [], [], [], [], [], by kernel_rfl⟩)

/- tabularylaw.many -/
noncomputable def law_many (num : Int) : Bool :=
 lt (((decide (150 < num)) && (decide (num < 1000))) || (decide (2000 < num))) fun (v : Bool) =>
 v
theorem law_many_ok (num : Int) (r : Bool) (hF : law_many num = r) : Pe Try.prog 12 S.none [.i num] (.bool r) S.none := by
 refine PeN 13 [.tmp 2] [4] Ty.ok Fn.b12 Try.func12 ?_
 intro Q g hfin
 unfold law_many at hF
 refine NR [] [0] [] [] [] .nil ?_
 refine NRL (((decide (150 < num)) && (decide (num < 1000))) || (decide (2000 < num))) (fun v : Bool => ([(2, .bool v)], [], [], [])) [] [2] [] [] [] .nil (fun v hv => ?_)
 have hF := lt_elim hF hv
 cases hF
 exact Wk_ret (hfin _ ⟨[], [], [], [], [], [], by kernel_rfl⟩)

/- tabularylaw.ownCells -/
noncomputable def law_ownCells_v1 (l : List Cell) : Option (List Cell) :=
 asrt ((l.length : Int) * 64 ≤ 140737488351232) <|
 some l
theorem law_ownCells_v1_ok (l : List Cell) (r : List Cell) (hF : law_ownCells_v1 l = some r) : Pe Try.prog 26 S.none [.sl 5 (l.map e_Cell)] (.sl 5 (r.map e_Cell)) S.none := by
 refine PeN 5 [.tmp 2] [22] Ty.ok Fn.b26 Try.func26 ?_
 intro Q g hfin
 unfold law_ownCells_v1 at hF
 refine NR [] [0] [] [] [] .nil ?_
 obtain ⟨h0, hF⟩ := asrt_elim hF
 refine VR [.xs (l.map e_Cell)] [2] [] [4] [] [(2, .row 4 1)] [] [(4, .z 96 5 1 (l.map e_Cell))] [] (hc (app0_ok e_Cell l) (hc (appl_ok e_Cell h0) .nil)) ?_
 cases hF
 exact Wk_ret (hfin _ ⟨[], [], [], [], [], [], by kernel_rfl⟩)

/- tabularylaw.ownNote -/
noncomputable def law_ownNote (num : Note) : Option Note :=
 ob (law_ownCells_v1 num.Cells) fun x =>
 some (⟨num.Seq, x⟩ : Note)
theorem law_ownNote_ok (num : Note) (r : Note) (hF : law_ownNote num = some r) : Pe Try.prog 13 S.none [.agg (c_Note num)] (.agg (c_Note r)) S.none := by
 refine PeN 9 [.cell 2 24] [24] Ty.ok Fn.b13 Try.func13 ?_
 intro Q g hfin
 unfold law_ownNote at hF
 refine VR [] [1, 2] [1, 2] [] [] [(1, .ptr 1 0), (2, .ptr 2 0)] [(1, (c_Note num)), (2, [.i 0, .nils])] [] [] .nil ?_
 obtain ⟨x, h0, hF⟩ := ob_elim hF
 refine VD [.call (.sl 5 (x.map e_Cell))] [2] [2] [] [] [] [(2, [.i num.Seq, .sl 5 (x.map e_Cell)])] [] [] (hc (law_ownCells_v1_ok num.Cells x h0) .nil) ?_
 cases hF
 exact Wk_ret (hfin _ ⟨[], [], [], [], [], [], by kernel_rfl⟩)

/- tabularylaw.ownNotes -/
noncomputable def law_ownNotes_v1_J1 (v : List Note) : Option (List Note) :=
 some v
noncomputable def law_ownNotes_v1_B1 (l : List Note) (v1 : List Note × Int) : Option ((List Note × Int) ⊕ (List Note)) :=
 if (decide (v1.2 < (l.length : Int))) = true then
  asrt (0 ≤ v1.2 ∧ v1.2 < (l.length : Int)) <|
  ob (law_ownNote (⟨(lget l v1.2).Seq, (lget l v1.2).Cells⟩ : Note)) fun x =>
  asrt (((v1.1 ++ [x]).length : Int) * 32 ≤ 140737488351232) <|
  some (Sum.inl ((v1.1 ++ [x]), w64 (v1.2 + 1)))
 else
  inrO (law_ownNotes_v1_J1 v1.1)
noncomputable def law_ownNotes_v1_L1 (l : List Note) (v0 : List Note × Int) : Option (List Note) :=
 loopO (fun y => law_ownNotes_v1_B1 l y) v0
noncomputable def law_ownNotes_v1 (l : List Note) : Option (List Note) :=
 law_ownNotes_v1_L1 l (([] : List Note), 0)
theorem law_ownNotes_v1_ok (l : List Note) (r : List Note) (hF : law_ownNotes_v1 l = some r) : Pe Try.prog 35 S.none [.sl 2 (l.map e_Note)] (.sl 2 (r.map e_Note)) S.none := by
 refine PeN 20 [.tmp 2] [56] Ty.ok Fn.b35 Try.func35 ?_
 intro Q g hfin
 unfold law_ownNotes_v1 at hF
 refine NR [] [0] [] [] [] .nil ?_
 refine NR [] [0, 3] [] [] [(3, .nils)] .nil ?_
 refine NR [] [0, 3, 4] [] [] [(4, .i 0)] .nil ?_
 refine NmeetP (fun v : List Note => (⟨[(3, .row 18 0)], [], [(18, .z 24 2 0 (v.map e_Note))], [], []⟩ : S)) (fun v => law_ownNotes_v1_J1 v = some r) ?_ ?_
 ·refine Nblk ?_
  unfold law_ownNotes_v1_L1 at hF
  refine Wk_nilrow 3 60000 24 2 rfl rfl rfl ?_
  refine Wk_trim (fs := [0, 3, 4]) (bs := []) (rs := [60000]) (ms := []) (aa := []) (nv := []) rfl ?_
  refine Wk_ren' ⟨[], [(60000, 18)], [], []⟩ rfl ?_
  refine Niter (fun v1 : List Note × Int => (⟨[(0, .sl 2 (l.map e_Note)), (3, .row 18 0), (4, .i v1.2)], [], [(18, .z 24 2 0 (v1.1.map e_Note))], [], []⟩ : S)) [] hF (by kernel_rfl) ?_
  intro n1 v1 y1 hF ih1 dn1
  unfold law_ownNotes_v1_B1 at hF
  refine NR [.nat (l.length : Int)] [0, 3, 4, 8] [] [18] [(8, .bool (decide (v1.2 < (l.length : Int))))] (hc (len_ok e_Note l) .nil) ?_
  refine Nif hF (fun hb hF => ?_) (fun hb hF => ?_)
  ·refine Nblk ?_
   obtain ⟨h0, hF⟩ := asrt_elim hF
   obtain ⟨x, h1, hF⟩ := ob_elim hF
   obtain ⟨h2, hF⟩ := asrt_elim hF
   refine VR [.av (e_Note (lget l v1.2)), .call (.agg (c_Note x)), .sealed, .xs ((v1.1 ++ [x]).map e_Note)] [0, 3, 4] [] [18] [] [(3, .row 18 1)] [] [(18, .z 24 2 1 ((v1.1 ++ [x]).map e_Note))] [] (hc (idx_ok e_Note h0) (hc (law_ownNote_ok (⟨(lget l v1.2).Seq, (lget l v1.2).Cells⟩ : Note) x h1) (hc (app_ok e_Note v1.1 [x]) (hc (appl_ok e_Note h2) .nil)))) ?_
   refine NR [] [0, 3, 4] [] [18] [(4, .i (w64 (v1.2 + 1)))] .nil ?_
   exact Nrnd [(18, ⟨0, true, true, false⟩)] hF ih1 (by kernel_rfl)
  ·refine Nexit rfl ?_
   have hF := inrO_done hF dn1
   exact metP v1.1 [] hF (by kernel_rfl)
 ·intro v hF
  have hF : law_ownNotes_v1_J1 v = some r := hF
  unfold law_ownNotes_v1_J1 at hF
  refine NR [] [2] [] [18] [(2, .row 18 0)] .nil ?_
  cases hF
  exact Wk_ret (hfin _ ⟨[], [], [], [], [], [], by kernel_rfl⟩)

/- slices.Grow[[]api.Cell,api.Cell] -/
noncomputable def slices_Grow_api_Cell_api_Cell_v1 (num : Int) : Option (List Cell) :=
 ob (
  if (decide (num < 0)) = true then
   none
  else
   some ()) fun (v : Unit) =>
 ob (
  if (decide (0 < (w64 (num - (w64 (0 - 0)))))) = true then
   asrt (0 ≤ (w64 (num - (w64 (0 - 0)))) ∧ (w64 (num - (w64 (0 - 0)))).toNat * 64 ≤ 140737488351232) <|
   asrt (0 ≤ (0 : Int) ∧ (0 : Int) ≤ ((List.replicate (w64 (num - (w64 (0 - 0)))).toNat ((⟨([] : List UInt8), ([] : List UInt8), 0, false, ([] : List UInt8)⟩ : Cell) : Cell)).length : Int)) <|
   lt ((List.replicate (w64 (num - (w64 (0 - 0)))).toNat ((⟨([] : List UInt8), ([] : List UInt8), 0, false, ([] : List UInt8)⟩ : Cell) : Cell))) fun (v2 : List Cell) =>
   asrt (((0 : Int).toNat) ≤ v2.length) <|
   some (v2.take ((0 : Int).toNat))
  else
   some ([] : List Cell)) fun (v1 : List Cell) =>
 some v1
theorem slices_Grow_api_Cell_api_Cell_v1_ok (num : Int) (r : List Cell) (hF : slices_Grow_api_Cell_api_Cell_v1 num = some r) : Pe Try.prog 132 S.none [.nils, .i num] (.row 22 0) ⟨[], [], [(22, .o 96 5 0 (r.map e_Cell))], [], []⟩ := by
 refine PeN 27 [.tmp 4] [22] Ty.ok Fn.b132 Try.func132 ?_
 intro Q g hfin
 unfold slices_Grow_api_Cell_api_Cell_v1 at hF
 refine NR [] [0, 1] [] [] [] .nil ?_
 refine NR [] [0, 1, 6] [] [] [(6, .bool (decide (num < 0)))] .nil ?_
 obtain ⟨v, hv, hF⟩ := ob_elim hF
 refine Nmeet (⟨[(0, .nils), (1, .i num)], [], [], [], []⟩ : S) ?_ ?_
 ·have hF := hv
  refine Nif hF (fun hb hF => ?_) (fun hb hF => ?_)
  ·cases hF
  ·cases hF
   exact met [] (by kernel_rfl)
 ·refine NR [] [0, 1] [] [] [(1, .i (w64 (num - (w64 (0 - 0)))))] .nil ?_
  refine NR [] [0, 1, 16] [] [] [(16, .bool (decide (0 < (w64 (num - (w64 (0 - 0)))))))] .nil ?_
  obtain ⟨v1, hv, hF⟩ := ob_elim hF
  refine Nmeet (⟨[(0, .row 22 0)], [], [(22, .o 96 5 0 (v1.map e_Cell))], [], []⟩ : S) ?_ ?_
  ·have hF := hv
   refine Nif hF (fun hb hF => ?_) (fun hb hF => ?_)
   ·obtain ⟨h0, hF⟩ := asrt_elim hF
    obtain ⟨h1, hF⟩ := asrt_elim hF
    refine NRL ((List.replicate (w64 (num - (w64 (0 - 0)))).toNat ((⟨([] : List UInt8), ([] : List UInt8), 0, false, ([] : List UInt8)⟩ : Cell) : Cell))) (fun v2 : List Cell => ([(0, .rowv 22 0 0 ((0 : Int).toNat))], [], [(22, .z 96 5 0 (v2.map e_Cell))], [])) [.xs ((List.replicate (w64 (num - (w64 (0 - 0)))).toNat ((⟨([] : List UInt8), ([] : List UInt8), 0, false, ([] : List UInt8)⟩ : Cell) : Cell)).map e_Cell), .vw ((0 : Int).toNat)] [0] [] [22] [] (hc (rfl : (0 : Int) = 0) (hc h0 (hc (rep_ok e_Cell (w64 (num - (w64 (0 - 0)))) ((⟨([] : List UInt8), ([] : List UInt8), 0, false, ([] : List UInt8)⟩ : Cell) : Cell)) (hc (vw01_ok (cm := 0) e_Cell h1) .nil)))) (fun v2 hv => ?_)
    have hF := lt_elim hF hv
    obtain ⟨h2, hF⟩ := asrt_elim hF
    refine Wk_truncL 0 22 0 ((0 : Int).toNat) ((v2.take ((0 : Int).toNat)).map e_Cell) rfl rfl rfl rfl (tk_ok e_Cell h2).1 (Nat.zero_le _) (List.map_take).symm ?_
    cases hF
    exact met [(22, ⟨0, false, true, false⟩)] (by kernel_rfl)
   ·refine Wk_nilrow 0 60000 96 5 rfl rfl rfl ?_
    refine Wk_trim (fs := [0]) (bs := []) (rs := [60000]) (ms := []) (aa := []) (nv := []) rfl ?_
    refine Wk_ren' ⟨[], [(60000, 22)], [], []⟩ rfl ?_
    cases hF
    exact met [(22, ⟨0, true, false, false⟩)] (by kernel_rfl)
  ·refine NR [] [4] [] [22] [(4, .row 22 0)] .nil ?_
   cases hF
   exact Wk_ret (hfin _ ⟨[22], [], [22], [], [], [], by kernel_rfl⟩)

/- slices.Concat[[]api.Cell,api.Cell] -/
noncomputable def slices_Concat_api_Cell_api_Cell_J2 (v1 : List Cell) : Option (List Cell) :=
 some v1
noncomputable def slices_Concat_api_Cell_api_Cell_B1 (slices : List (List Cell)) (v2 : List Cell × Int) : Option ((List Cell × Int) ⊕ (List Cell)) :=
 if (decide (v2.2 < (slices.length : Int))) = true then
  asrt (0 ≤ v2.2 ∧ v2.2 < (slices.length : Int)) <|
  asrt (((v2.1 ++ (lget slices v2.2)).length : Int) * 64 ≤ 140737488351232) <|
  some (Sum.inl ((v2.1 ++ (lget slices v2.2)), w64 (v2.2 + 1)))
 else
  inrO (slices_Concat_api_Cell_api_Cell_J2 v2.1)
noncomputable def slices_Concat_api_Cell_api_Cell_L1 (slices : List (List Cell)) (v0 : List Cell × Int) : Option (List Cell) :=
 loopO (fun y => slices_Concat_api_Cell_api_Cell_B1 slices y) v0
noncomputable def slices_Concat_api_Cell_api_Cell_J1 (slices : List (List Cell)) (v : Int) : Option (List Cell) :=
 ob (slices_Grow_api_Cell_api_Cell_v1 v) fun x =>
 slices_Concat_api_Cell_api_Cell_L1 slices (x, 0)
noncomputable def slices_Concat_api_Cell_api_Cell_B2 (slices : List (List Cell)) (v3 : Int × Int) : Option ((Int × Int) ⊕ (List Cell)) :=
 if (decide (v3.2 < (slices.length : Int))) = true then
  asrt (0 ≤ v3.2 ∧ v3.2 < (slices.length : Int)) <|
  ob (
   if (decide ((w64 (v3.1 + ((lget slices v3.2).length : Int))) < 0)) = true then
    none
   else
    some ()) fun (v4 : Unit) =>
  some (Sum.inl (w64 (v3.1 + ((lget slices v3.2).length : Int)), w64 (v3.2 + 1)))
 else
  inrO (slices_Concat_api_Cell_api_Cell_J1 slices v3.1)
noncomputable def slices_Concat_api_Cell_api_Cell_L2 (slices : List (List Cell)) (v0 : Int × Int) : Option (List Cell) :=
 loopO (fun y => slices_Concat_api_Cell_api_Cell_B2 slices y) v0
noncomputable def slices_Concat_api_Cell_api_Cell (slices : List (List Cell)) : Option (List Cell) :=
 slices_Concat_api_Cell_api_Cell_L2 slices (0, 0)
theorem slices_Concat_api_Cell_api_Cell_ok (slices : List (List Cell)) (r : List Cell) (hF : slices_Concat_api_Cell_api_Cell slices = some r) : Pe Try.prog 125 S.none [.sl 1 (slices.map e_L_Cell)] (.row 24 0) ⟨[], [], [(24, .o 96 5 0 (r.map e_Cell))], [], []⟩ := by
 refine PeN 36 [.tmp 2] [22] Ty.ok Fn.b125 Try.func125 ?_
 intro Q g hfin
 unfold slices_Concat_api_Cell_api_Cell at hF
 refine NR [] [0] [] [] [] .nil ?_
 refine NR [] [0, 3] [] [] [(3, .i 0)] .nil ?_
 refine NR [.nat (slices.length : Int)] [0, 3, 9, 10, 11] [] [] [(9, .sl 1 (slices.map e_L_Cell)), (10, .i (slices.length : Int)), (11, .i 0)] (hc (len_ok e_L_Cell slices) .nil) ?_
 refine NmeetP (fun v : Int => (⟨[(0, .sl 1 (slices.map e_L_Cell)), (3, .i v)], [], [], [], []⟩ : S)) (fun v => slices_Concat_api_Cell_api_Cell_J1 slices v = some r) ?_ ?_
 ·refine Nblk ?_
  unfold slices_Concat_api_Cell_api_Cell_L2 at hF
  refine Niter (fun v3 : Int × Int => (⟨[(0, .sl 1 (slices.map e_L_Cell)), (3, .i v3.1), (9, .sl 1 (slices.map e_L_Cell)), (10, .i (slices.length : Int)), (11, .i v3.2)], [], [], [], []⟩ : S)) [] hF (by kernel_rfl) ?_
  intro n1 v3 y1 hF ih1 dn1
  unfold slices_Concat_api_Cell_api_Cell_B2 at hF
  refine NR [] [0, 3, 9, 10, 11, 12] [] [] [(12, .bool (decide (v3.2 < (slices.length : Int))))] .nil ?_
  refine Nif hF (fun hb hF => ?_) (fun hb hF => ?_)
  ·refine Nblk ?_
   obtain ⟨h3, hF⟩ := asrt_elim hF
   refine NR [.av (e_L_Cell (lget slices v3.2))] [0, 3, 5, 9, 10, 11] [] [] [(5, .sl 5 ((lget slices v3.2).map e_Cell))] (hc (idx_ok e_L_Cell h3) .nil) ?_
   refine NR [.nat ((lget slices v3.2).length : Int)] [0, 3, 9, 10, 11] [] [] [(3, .i (w64 (v3.1 + ((lget slices v3.2).length : Int))))] (hc (len_ok e_Cell (lget slices v3.2)) .nil) ?_
   refine NR [] [0, 3, 9, 10, 11, 20] [] [] [(20, .bool (decide ((w64 (v3.1 + ((lget slices v3.2).length : Int))) < 0)))] .nil ?_
   obtain ⟨v4, hv, hF⟩ := ob_elim hF
   refine Nmeet (⟨[(0, .sl 1 (slices.map e_L_Cell)), (3, .i (w64 (v3.1 + ((lget slices v3.2).length : Int)))), (9, .sl 1 (slices.map e_L_Cell)), (10, .i (slices.length : Int)), (11, .i v3.2)], [], [], [], []⟩ : S) ?_ ?_
   ·have hF := hv
    refine Nif hF (fun hb hF => ?_) (fun hb hF => ?_)
    ·cases hF
    ·cases hF
     exact met [] (by kernel_rfl)
   ·refine NR [] [0, 3, 9, 10, 11] [] [] [(11, .i (w64 (v3.2 + 1)))] .nil ?_
    exact Nrnd [] hF ih1 (by kernel_rfl)
  ·refine Nexit rfl ?_
   have hF := inrO_done hF dn1
   exact metP v3.1 [] hF (by kernel_rfl)
 ·intro v hF
  have hF : slices_Concat_api_Cell_api_Cell_J1 slices v = some r := hF
  unfold slices_Concat_api_Cell_api_Cell_J1 at hF
  obtain ⟨x, h0, hF⟩ := ob_elim hF
  refine VR [.raw [0], .callE [] [] [] [] (.row 24 0) ⟨[], [], [(24, .o 96 5 0 (x.map e_Cell))], [], []⟩] [0, 6] [] [24] [] [(6, .row 24 0)] [] [(24, .o 96 5 0 (x.map e_Cell))] [] (hc (Pe.ren (slices_Grow_api_Cell_api_Cell_v1_ok v x h0) ⟨[], [(22, 24)], [], []⟩) .nil) ?_
  refine NR [.nat (slices.length : Int)] [6, 25, 26, 27] [] [24] [(25, .sl 1 (slices.map e_L_Cell)), (26, .i (slices.length : Int)), (27, .i 0)] (hc (len_ok e_L_Cell slices) .nil) ?_
  refine NmeetP (fun v1 : List Cell => (⟨[(6, .row 24 0)], [], [(24, .o 96 5 0 (v1.map e_Cell))], [], []⟩ : S)) (fun v1 => slices_Concat_api_Cell_api_Cell_J2 v1 = some r) ?_ ?_
  ·refine Nblk ?_
   unfold slices_Concat_api_Cell_api_Cell_L1 at hF
   refine Niter (fun v2 : List Cell × Int => (⟨[(6, .row 24 0), (25, .sl 1 (slices.map e_L_Cell)), (26, .i (slices.length : Int)), (27, .i v2.2)], [], [(24, .o 96 5 0 (v2.1.map e_Cell))], [], []⟩ : S)) [] hF (by kernel_rfl) ?_
   intro n1 v2 y1 hF ih1 dn1
   unfold slices_Concat_api_Cell_api_Cell_B1 at hF
   refine NR [] [6, 25, 26, 27, 28] [] [24] [(28, .bool (decide (v2.2 < (slices.length : Int))))] .nil ?_
   refine Nif hF (fun hb hF => ?_) (fun hb hF => ?_)
   ·refine Nblk ?_
    obtain ⟨h1, hF⟩ := asrt_elim hF
    refine NR [.av (e_L_Cell (lget slices v2.2))] [6, 8, 25, 26, 27] [] [24] [(8, .sl 5 ((lget slices v2.2).map e_Cell))] (hc (idx_ok e_L_Cell h1) .nil) ?_
    obtain ⟨h2, hF⟩ := asrt_elim hF
    refine VR [.xs ((v2.1 ++ (lget slices v2.2)).map e_Cell)] [6, 25, 26, 27] [] [24] [] [(6, .row 24 1)] [] [(24, .o 96 5 1 ((v2.1 ++ (lget slices v2.2)).map e_Cell))] [] (hc (app_ok e_Cell v2.1 (lget slices v2.2)) (hc (appl_ok e_Cell h2) .nil)) ?_
    refine NR [] [6, 25, 26, 27] [] [24] [(27, .i (w64 (v2.2 + 1)))] .nil ?_
    exact Nrnd [(24, ⟨0, true, true, false⟩)] hF ih1 (by kernel_rfl)
   ·refine Nexit rfl ?_
    have hF := inrO_done hF dn1
    exact metP v2.1 [] hF (by kernel_rfl)
  ·intro v1 hF
   have hF : slices_Concat_api_Cell_api_Cell_J2 v1 = some r := hF
   unfold slices_Concat_api_Cell_api_Cell_J2 at hF
   refine NR [] [2] [] [24] [(2, .row 24 0)] .nil ?_
   cases hF
   exact Wk_ret (hfin _ ⟨[24], [], [24], [], [], [], by kernel_rfl⟩)

/- slices.insertionSortCmpFunc[api.Cell] -/
noncomputable def slices_insertionSortCmpFunc_api_Cell_v1_J1 (v : List Cell) : Option (List Cell) :=
 some v
noncomputable def slices_insertionSortCmpFunc_api_Cell_v1_J2 (v1 : List Cell × Int) (v2 : List Cell) : Option ((List Cell × Int) ⊕ (List Cell)) :=
 some (Sum.inl (v2, w64 (v1.2 + 1)))
noncomputable def slices_insertionSortCmpFunc_api_Cell_v1_B2 (a0 : Int) (v1 : List Cell × Int) (v3 : List Cell × Int) : Option ((List Cell × Int) ⊕ ((List Cell × Int) ⊕ (List Cell))) :=
 asrt ((decide (a0 < v3.2)) = true → 0 ≤ v3.2 ∧ v3.2 < (v3.1.length : Int)) <|
 asrt ((decide (a0 < v3.2)) = true → 0 ≤ v3.2 ∧ v3.2 < (v3.1.length : Int)) <|
 asrt ((decide (a0 < v3.2)) = true → 0 ≤ w64 (v3.2 - 1) ∧ w64 (v3.2 - 1) < (v3.1.length : Int)) <|
 asrt ((decide (a0 < v3.2)) = true → 0 ≤ w64 (v3.2 - 1) ∧ w64 (v3.2 - 1) < (v3.1.length : Int)) <|
 ob (if (decide (a0 < v3.2)) = true then (cell_Order (⟨(lget v3.1 v3.2).Row, (lget v3.1 v3.2).Col, (lget v3.1 v3.2).Time, (lget v3.1 v3.2).Gone, (lget v3.1 v3.2).Value⟩ : Cell) (⟨(lget v3.1 (w64 (v3.2 - 1))).Row, (lget v3.1 (w64 (v3.2 - 1))).Col, (lget v3.1 (w64 (v3.2 - 1))).Time, (lget v3.1 (w64 (v3.2 - 1))).Gone, (lget v3.1 (w64 (v3.2 - 1))).Value⟩ : Cell)) else some default) fun x =>
 if ((decide (a0 < v3.2)) && (decide (x < 0))) = true then
  asrt (0 ≤ w64 (v3.2 - 1) ∧ w64 (v3.2 - 1) < (v3.1.length : Int)) <|
  asrt (0 ≤ w64 (v3.2 - 1) ∧ w64 (v3.2 - 1) < (v3.1.length : Int)) <|
  asrt (0 ≤ v3.2 ∧ v3.2 < (v3.1.length : Int)) <|
  asrt (0 ≤ v3.2 ∧ v3.2 < (v3.1.length : Int)) <|
  asrt (0 ≤ v3.2 ∧ v3.2 < (v3.1.length : Int)) <|
  asrt (0 ≤ v3.2 ∧ v3.2 < (v3.1.length : Int)) <|
  asrt (0 ≤ w64 (v3.2 - 1) ∧ w64 (v3.2 - 1) < ((lset v3.1 v3.2 (⟨(lget v3.1 (w64 (v3.2 - 1))).Row, (lget v3.1 (w64 (v3.2 - 1))).Col, (lget v3.1 (w64 (v3.2 - 1))).Time, (lget v3.1 (w64 (v3.2 - 1))).Gone, (lget v3.1 (w64 (v3.2 - 1))).Value⟩ : Cell)).length : Int)) <|
  asrt (0 ≤ w64 (v3.2 - 1) ∧ w64 (v3.2 - 1) < ((lset v3.1 v3.2 (⟨(lget v3.1 (w64 (v3.2 - 1))).Row, (lget v3.1 (w64 (v3.2 - 1))).Col, (lget v3.1 (w64 (v3.2 - 1))).Time, (lget v3.1 (w64 (v3.2 - 1))).Gone, (lget v3.1 (w64 (v3.2 - 1))).Value⟩ : Cell)).length : Int)) <|
  lt ((lset (lset v3.1 v3.2 (⟨(lget v3.1 (w64 (v3.2 - 1))).Row, (lget v3.1 (w64 (v3.2 - 1))).Col, (lget v3.1 (w64 (v3.2 - 1))).Time, (lget v3.1 (w64 (v3.2 - 1))).Gone, (lget v3.1 (w64 (v3.2 - 1))).Value⟩ : Cell)) (w64 (v3.2 - 1)) (⟨(lget v3.1 v3.2).Row, (lget v3.1 v3.2).Col, (lget v3.1 v3.2).Time, (lget v3.1 v3.2).Gone, (lget v3.1 v3.2).Value⟩ : Cell))) fun (v4 : List Cell) =>
  some (Sum.inl (v4, w64 (v3.2 - 1)))
 else
  inrO (slices_insertionSortCmpFunc_api_Cell_v1_J2 v1 v3.1)
noncomputable def slices_insertionSortCmpFunc_api_Cell_v1_L2 (a0 : Int) (v1 : List Cell × Int) (v0 : List Cell × Int) : Option ((List Cell × Int) ⊕ (List Cell)) :=
 loopO (fun y => slices_insertionSortCmpFunc_api_Cell_v1_B2 a0 v1 y) v0
noncomputable def slices_insertionSortCmpFunc_api_Cell_v1_B1 (a0 : Int) (b : Int) (v1 : List Cell × Int) : Option ((List Cell × Int) ⊕ (List Cell)) :=
 if (decide (v1.2 < b)) = true then
  slices_insertionSortCmpFunc_api_Cell_v1_L2 a0 v1 (v1.1, v1.2)
 else
  inrO (slices_insertionSortCmpFunc_api_Cell_v1_J1 v1.1)
noncomputable def slices_insertionSortCmpFunc_api_Cell_v1_L1 (a0 : Int) (b : Int) (v0 : List Cell × Int) : Option (List Cell) :=
 loopO (fun y => slices_insertionSortCmpFunc_api_Cell_v1_B1 a0 b y) v0
noncomputable def slices_insertionSortCmpFunc_api_Cell_v1 (a0 : Int) (b : Int) (row : List Cell) : Option (List Cell) :=
 slices_insertionSortCmpFunc_api_Cell_v1_L1 a0 b (row, w64 (a0 + 1))
theorem slices_insertionSortCmpFunc_api_Cell_v1_ok (a0 : Int) (b : Int) (row : List Cell) (rk : Nat) (rc : Nat) (rn : Bool) (r : List Cell) (hF : slices_insertionSortCmpFunc_api_Cell_v1 a0 b row = some r) : Pe Try.prog 134 ⟨[], [], [(100000, ⟨96, 5, 0, 0, rc, rn, 0, [], (row.map e_Cell)⟩)], [], []⟩ [.row 100000 0, .i a0, .i b, .fn 109 []] (.tup []) ⟨[], [], [(100000, ⟨96, 5, 0, 0, rc, rn, 0, [], (r.map e_Cell)⟩)], [], []⟩ := by
 refine PeN 53 [] [] Ty.ok Fn.b134 Try.func134 ?_
 intro Q g hfin
 unfold slices_insertionSortCmpFunc_api_Cell_v1 at hF
 refine NR [] [0, 1, 2, 3, 8] [] [100000] [(8, .i (w64 (a0 + 1)))] .nil ?_
 refine NmeetP (fun v : List Cell => (⟨[], [], [(100000, ⟨96, 5, 0, 0, rc, rn, 0, [], (v.map e_Cell)⟩)], [], []⟩ : S)) (fun v => slices_insertionSortCmpFunc_api_Cell_v1_J1 v = some r) ?_ ?_
 ·refine Nblk ?_
  unfold slices_insertionSortCmpFunc_api_Cell_v1_L1 at hF
  refine Niter (fun v1 : List Cell × Int => (⟨[(0, .row 100000 0), (1, .i a0), (2, .i b), (3, .fn 109 []), (8, .i v1.2)], [], [(100000, ⟨96, 5, 0, 0, rc, rn, 0, [], (v1.1.map e_Cell)⟩)], [], []⟩ : S)) [] hF (by kernel_rfl) ?_
  intro n1 v1 y1 hF ih1 dn1
  unfold slices_insertionSortCmpFunc_api_Cell_v1_B1 at hF
  refine NR [] [0, 1, 2, 3, 8, 14] [] [100000] [(14, .bool (decide (v1.2 < b)))] .nil ?_
  refine Nif hF (fun hb hF => ?_) (fun hb hF => ?_)
  ·refine Nblk ?_
   refine NR [] [0, 1, 2, 3, 8, 9] [] [100000] [(9, .i v1.2)] .nil ?_
   refine NmeetP (fun v2 : List Cell => (⟨[(0, .row 100000 0), (1, .i a0), (2, .i b), (3, .fn 109 []), (8, .i v1.2)], [], [(100000, ⟨96, 5, 0, 0, rc, rn, 0, [], (v2.map e_Cell)⟩)], [], []⟩ : S)) (fun v2 => slices_insertionSortCmpFunc_api_Cell_v1_J2 v1 v2 = some y1) ?_ ?_
   ·refine Nblk ?_
    unfold slices_insertionSortCmpFunc_api_Cell_v1_L2 at hF
    refine Niter (fun v3 : List Cell × Int => (⟨[(0, .row 100000 0), (1, .i a0), (2, .i b), (3, .fn 109 []), (8, .i v1.2), (9, .i v3.2)], [], [(100000, ⟨96, 5, 0, 0, rc, rn, 0, [], (v3.1.map e_Cell)⟩)], [], []⟩ : S)) [] hF (by kernel_rfl) ?_
    intro n2 v3 y2 hF ih2 dn2
    unfold slices_insertionSortCmpFunc_api_Cell_v1_B2 at hF
    obtain ⟨h0, h1, h2, h3, hF⟩ := asrt4 hF
    obtain ⟨x, h4, hF⟩ := ob_elim hF
    refine ND [.av (e_Cell (lget v3.1 v3.2)), .av (e_Cell (lget v3.1 (w64 (v3.2 - 1)))), .callB (.i x)] [0, 1, 2, 3, 8, 9, 34] [] [100000] [(34, .bool ((decide (a0 < v3.2)) && (decide (x < 0))))] (hc (fun (ga0 : (decide (a0 < v3.2)) = true) => (ixr_ok e_Cell (h0 ga0))) (hc (fun (ga0 : (decide (a0 < v3.2)) = true) => (ldr_ok e_Cell (h1 ga0))) (hc (fun (ga0 : (decide (a0 < v3.2)) = true) => (ixr_ok e_Cell (h2 ga0))) (hc (fun (ga0 : (decide (a0 < v3.2)) = true) => (ldr_ok e_Cell (h3 ga0))) (hc (fun (ga0 : (decide (a0 < v3.2)) = true) => (cell_Order_ok (⟨(lget v3.1 v3.2).Row, (lget v3.1 v3.2).Col, (lget v3.1 v3.2).Time, (lget v3.1 v3.2).Gone, (lget v3.1 v3.2).Value⟩ : Cell) (⟨(lget v3.1 (w64 (v3.2 - 1))).Row, (lget v3.1 (w64 (v3.2 - 1))).Col, (lget v3.1 (w64 (v3.2 - 1))).Time, (lget v3.1 (w64 (v3.2 - 1))).Gone, (lget v3.1 (w64 (v3.2 - 1))).Value⟩ : Cell) x (ite_t h4 ga0))) .nil))))) ?_
    refine Nif hF (fun hb hF => ?_) (fun hb hF => ?_)
    ·refine Nblk ?_
     obtain ⟨h5, h6, h7, h8, hF⟩ := asrt4 hF
     obtain ⟨h9, h10, h11, h12, hF⟩ := asrt4 hF
     refine NDL ((lset (lset v3.1 v3.2 (⟨(lget v3.1 (w64 (v3.2 - 1))).Row, (lget v3.1 (w64 (v3.2 - 1))).Col, (lget v3.1 (w64 (v3.2 - 1))).Time, (lget v3.1 (w64 (v3.2 - 1))).Gone, (lget v3.1 (w64 (v3.2 - 1))).Value⟩ : Cell)) (w64 (v3.2 - 1)) (⟨(lget v3.1 v3.2).Row, (lget v3.1 v3.2).Col, (lget v3.1 v3.2).Time, (lget v3.1 v3.2).Gone, (lget v3.1 v3.2).Value⟩ : Cell))) (fun v4 : List Cell => ([], [], [(100000, ⟨96, 5, 0, 0, rc, rn, 0, [], (v4.map e_Cell)⟩)], [])) [.av (e_Cell (lget v3.1 (w64 (v3.2 - 1)))), .av (e_Cell (lget v3.1 v3.2)), .av (e_Cell (lget v3.1 v3.2)), .xs ((lset v3.1 v3.2 (⟨(lget v3.1 (w64 (v3.2 - 1))).Row, (lget v3.1 (w64 (v3.2 - 1))).Col, (lget v3.1 (w64 (v3.2 - 1))).Time, (lget v3.1 (w64 (v3.2 - 1))).Gone, (lget v3.1 (w64 (v3.2 - 1))).Value⟩ : Cell)).map e_Cell), .av (e_Cell (lget (lset v3.1 v3.2 (⟨(lget v3.1 (w64 (v3.2 - 1))).Row, (lget v3.1 (w64 (v3.2 - 1))).Col, (lget v3.1 (w64 (v3.2 - 1))).Time, (lget v3.1 (w64 (v3.2 - 1))).Gone, (lget v3.1 (w64 (v3.2 - 1))).Value⟩ : Cell)) (w64 (v3.2 - 1)))), .xs ((lset (lset v3.1 v3.2 (⟨(lget v3.1 (w64 (v3.2 - 1))).Row, (lget v3.1 (w64 (v3.2 - 1))).Col, (lget v3.1 (w64 (v3.2 - 1))).Time, (lget v3.1 (w64 (v3.2 - 1))).Gone, (lget v3.1 (w64 (v3.2 - 1))).Value⟩ : Cell)) (w64 (v3.2 - 1)) (⟨(lget v3.1 v3.2).Row, (lget v3.1 v3.2).Col, (lget v3.1 v3.2).Time, (lget v3.1 v3.2).Gone, (lget v3.1 v3.2).Value⟩ : Cell)).map e_Cell)] [0, 1, 2, 3, 8, 9] [] [100000] [] (hc (ixr_ok e_Cell h5) (hc (ldr_ok e_Cell h6) (hc (ixr_ok e_Cell h7) (hc (ldr_ok e_Cell h8) (hc (ixr_ok e_Cell h9) (hc (ldr_ok e_Cell h10) (hc (set_ok e_Cell v3.1 v3.2 (⟨(lget v3.1 (w64 (v3.2 - 1))).Row, (lget v3.1 (w64 (v3.2 - 1))).Col, (lget v3.1 (w64 (v3.2 - 1))).Time, (lget v3.1 (w64 (v3.2 - 1))).Gone, (lget v3.1 (w64 (v3.2 - 1))).Value⟩ : Cell)) (hc (Nat.zero_le v3.2.toNat) (hc (ixr_ok e_Cell h11) (hc (ldr_ok e_Cell h12) (hc (set_ok e_Cell (lset v3.1 v3.2 (⟨(lget v3.1 (w64 (v3.2 - 1))).Row, (lget v3.1 (w64 (v3.2 - 1))).Col, (lget v3.1 (w64 (v3.2 - 1))).Time, (lget v3.1 (w64 (v3.2 - 1))).Gone, (lget v3.1 (w64 (v3.2 - 1))).Value⟩ : Cell)) (w64 (v3.2 - 1)) (⟨(lget v3.1 v3.2).Row, (lget v3.1 v3.2).Col, (lget v3.1 v3.2).Time, (lget v3.1 v3.2).Gone, (lget v3.1 v3.2).Value⟩ : Cell)) (hc (Nat.zero_le ((w64 (v3.2 - 1)).toNat)) .nil)))))))))))) (fun v4 hv => ?_)
     have hF := lt_elim hF hv
     refine NR [] [0, 1, 2, 3, 8, 9] [] [100000] [(9, .i (w64 (v3.2 - 1)))] .nil ?_
     exact Nrnd [] hF ih2 (by kernel_rfl)
    ·refine Nexit rfl ?_
     have hF := inrO_done hF dn2
     exact metP v3.1 [] hF (by kernel_rfl)
   ·intro v2 hF
    have hF : slices_insertionSortCmpFunc_api_Cell_v1_J2 v1 v2 = some y1 := hF
    unfold slices_insertionSortCmpFunc_api_Cell_v1_J2 at hF
    refine NR [] [0, 1, 2, 3, 8] [] [100000] [(8, .i (w64 (v1.2 + 1)))] .nil ?_
    exact Nrnd [] hF ih1 (by kernel_rfl)
  ·refine Nexit rfl ?_
   have hF := inrO_done hF dn1
   exact metP v1.1 [] hF (by kernel_rfl)
 ·intro v hF
  have hF : slices_insertionSortCmpFunc_api_Cell_v1_J1 v = some r := hF
  unfold slices_insertionSortCmpFunc_api_Cell_v1_J1 at hF
  cases hF
  exact Wk_end (hfin _ ⟨[100000], [], [100000], [], [], [], by kernel_rfl⟩)

/- slices.swapRangeCmpFunc[api.Cell] -/
noncomputable def slices_swapRangeCmpFunc_api_Cell_v1_J1 (v : List Cell) : Option (List Cell) :=
 some v
noncomputable def slices_swapRangeCmpFunc_api_Cell_v1_B1 (a0 : Int) (b : Int) (num : Int) (v1 : List Cell × Int) : Option ((List Cell × Int) ⊕ (List Cell)) :=
 if (decide (v1.2 < num)) = true then
  asrt (0 ≤ w64 (b + v1.2) ∧ w64 (b + v1.2) < (v1.1.length : Int)) <|
  asrt (0 ≤ w64 (b + v1.2) ∧ w64 (b + v1.2) < (v1.1.length : Int)) <|
  asrt (0 ≤ w64 (a0 + v1.2) ∧ w64 (a0 + v1.2) < (v1.1.length : Int)) <|
  asrt (0 ≤ w64 (a0 + v1.2) ∧ w64 (a0 + v1.2) < (v1.1.length : Int)) <|
  asrt (0 ≤ w64 (a0 + v1.2) ∧ w64 (a0 + v1.2) < (v1.1.length : Int)) <|
  asrt (0 ≤ w64 (a0 + v1.2) ∧ w64 (a0 + v1.2) < (v1.1.length : Int)) <|
  asrt (0 ≤ w64 (b + v1.2) ∧ w64 (b + v1.2) < ((lset v1.1 (w64 (a0 + v1.2)) (⟨(lget v1.1 (w64 (b + v1.2))).Row, (lget v1.1 (w64 (b + v1.2))).Col, (lget v1.1 (w64 (b + v1.2))).Time, (lget v1.1 (w64 (b + v1.2))).Gone, (lget v1.1 (w64 (b + v1.2))).Value⟩ : Cell)).length : Int)) <|
  asrt (0 ≤ w64 (b + v1.2) ∧ w64 (b + v1.2) < ((lset v1.1 (w64 (a0 + v1.2)) (⟨(lget v1.1 (w64 (b + v1.2))).Row, (lget v1.1 (w64 (b + v1.2))).Col, (lget v1.1 (w64 (b + v1.2))).Time, (lget v1.1 (w64 (b + v1.2))).Gone, (lget v1.1 (w64 (b + v1.2))).Value⟩ : Cell)).length : Int)) <|
  lt ((lset (lset v1.1 (w64 (a0 + v1.2)) (⟨(lget v1.1 (w64 (b + v1.2))).Row, (lget v1.1 (w64 (b + v1.2))).Col, (lget v1.1 (w64 (b + v1.2))).Time, (lget v1.1 (w64 (b + v1.2))).Gone, (lget v1.1 (w64 (b + v1.2))).Value⟩ : Cell)) (w64 (b + v1.2)) (⟨(lget v1.1 (w64 (a0 + v1.2))).Row, (lget v1.1 (w64 (a0 + v1.2))).Col, (lget v1.1 (w64 (a0 + v1.2))).Time, (lget v1.1 (w64 (a0 + v1.2))).Gone, (lget v1.1 (w64 (a0 + v1.2))).Value⟩ : Cell))) fun (v2 : List Cell) =>
  some (Sum.inl (v2, w64 (v1.2 + 1)))
 else
  inrO (slices_swapRangeCmpFunc_api_Cell_v1_J1 v1.1)
noncomputable def slices_swapRangeCmpFunc_api_Cell_v1_L1 (a0 : Int) (b : Int) (num : Int) (v0 : List Cell × Int) : Option (List Cell) :=
 loopO (fun y => slices_swapRangeCmpFunc_api_Cell_v1_B1 a0 b num y) v0
noncomputable def slices_swapRangeCmpFunc_api_Cell_v1 (a0 : Int) (b : Int) (num : Int) (row : List Cell) : Option (List Cell) :=
 slices_swapRangeCmpFunc_api_Cell_v1_L1 a0 b num (row, 0)
theorem slices_swapRangeCmpFunc_api_Cell_v1_ok (a0 : Int) (b : Int) (num : Int) (row : List Cell) (rk : Nat) (rc : Nat) (rn : Bool) (r : List Cell) (hF : slices_swapRangeCmpFunc_api_Cell_v1 a0 b num row = some r) : Pe Try.prog 137 ⟨[], [], [(100000, ⟨96, 5, 0, 0, rc, rn, 0, [], (row.map e_Cell)⟩)], [], []⟩ [.row 100000 0, .i a0, .i b, .i num, .fn 109 []] (.tup []) ⟨[], [], [(100000, ⟨96, 5, 0, 0, rc, rn, 0, [], (r.map e_Cell)⟩)], [], []⟩ := by
 refine PeN 38 [] [] Ty.ok Fn.b137 Try.func137 ?_
 intro Q g hfin
 unfold slices_swapRangeCmpFunc_api_Cell_v1 at hF
 refine NR [] [0, 1, 2, 3, 10] [] [100000] [(10, .i 0)] .nil ?_
 refine NmeetP (fun v : List Cell => (⟨[], [], [(100000, ⟨96, 5, 0, 0, rc, rn, 0, [], (v.map e_Cell)⟩)], [], []⟩ : S)) (fun v => slices_swapRangeCmpFunc_api_Cell_v1_J1 v = some r) ?_ ?_
 ·refine Nblk ?_
  unfold slices_swapRangeCmpFunc_api_Cell_v1_L1 at hF
  refine Niter (fun v1 : List Cell × Int => (⟨[(0, .row 100000 0), (1, .i a0), (2, .i b), (3, .i num), (10, .i v1.2)], [], [(100000, ⟨96, 5, 0, 0, rc, rn, 0, [], (v1.1.map e_Cell)⟩)], [], []⟩ : S)) [] hF (by kernel_rfl) ?_
  intro n1 v1 y1 hF ih1 dn1
  unfold slices_swapRangeCmpFunc_api_Cell_v1_B1 at hF
  refine NR [] [0, 1, 2, 3, 10, 13] [] [100000] [(13, .bool (decide (v1.2 < num)))] .nil ?_
  refine Nif hF (fun hb hF => ?_) (fun hb hF => ?_)
  ·refine Nblk ?_
   obtain ⟨h0, h1, h2, h3, hF⟩ := asrt4 hF
   obtain ⟨h4, h5, h6, h7, hF⟩ := asrt4 hF
   refine NDL ((lset (lset v1.1 (w64 (a0 + v1.2)) (⟨(lget v1.1 (w64 (b + v1.2))).Row, (lget v1.1 (w64 (b + v1.2))).Col, (lget v1.1 (w64 (b + v1.2))).Time, (lget v1.1 (w64 (b + v1.2))).Gone, (lget v1.1 (w64 (b + v1.2))).Value⟩ : Cell)) (w64 (b + v1.2)) (⟨(lget v1.1 (w64 (a0 + v1.2))).Row, (lget v1.1 (w64 (a0 + v1.2))).Col, (lget v1.1 (w64 (a0 + v1.2))).Time, (lget v1.1 (w64 (a0 + v1.2))).Gone, (lget v1.1 (w64 (a0 + v1.2))).Value⟩ : Cell))) (fun v2 : List Cell => ([], [], [(100000, ⟨96, 5, 0, 0, rc, rn, 0, [], (v2.map e_Cell)⟩)], [])) [.av (e_Cell (lget v1.1 (w64 (b + v1.2)))), .av (e_Cell (lget v1.1 (w64 (a0 + v1.2)))), .av (e_Cell (lget v1.1 (w64 (a0 + v1.2)))), .xs ((lset v1.1 (w64 (a0 + v1.2)) (⟨(lget v1.1 (w64 (b + v1.2))).Row, (lget v1.1 (w64 (b + v1.2))).Col, (lget v1.1 (w64 (b + v1.2))).Time, (lget v1.1 (w64 (b + v1.2))).Gone, (lget v1.1 (w64 (b + v1.2))).Value⟩ : Cell)).map e_Cell), .av (e_Cell (lget (lset v1.1 (w64 (a0 + v1.2)) (⟨(lget v1.1 (w64 (b + v1.2))).Row, (lget v1.1 (w64 (b + v1.2))).Col, (lget v1.1 (w64 (b + v1.2))).Time, (lget v1.1 (w64 (b + v1.2))).Gone, (lget v1.1 (w64 (b + v1.2))).Value⟩ : Cell)) (w64 (b + v1.2)))), .xs ((lset (lset v1.1 (w64 (a0 + v1.2)) (⟨(lget v1.1 (w64 (b + v1.2))).Row, (lget v1.1 (w64 (b + v1.2))).Col, (lget v1.1 (w64 (b + v1.2))).Time, (lget v1.1 (w64 (b + v1.2))).Gone, (lget v1.1 (w64 (b + v1.2))).Value⟩ : Cell)) (w64 (b + v1.2)) (⟨(lget v1.1 (w64 (a0 + v1.2))).Row, (lget v1.1 (w64 (a0 + v1.2))).Col, (lget v1.1 (w64 (a0 + v1.2))).Time, (lget v1.1 (w64 (a0 + v1.2))).Gone, (lget v1.1 (w64 (a0 + v1.2))).Value⟩ : Cell)).map e_Cell)] [0, 1, 2, 3, 10] [] [100000] [] (hc (ixr_ok e_Cell h0) (hc (ldr_ok e_Cell h1) (hc (ixr_ok e_Cell h2) (hc (ldr_ok e_Cell h3) (hc (ixr_ok e_Cell h4) (hc (ldr_ok e_Cell h5) (hc (set_ok e_Cell v1.1 (w64 (a0 + v1.2)) (⟨(lget v1.1 (w64 (b + v1.2))).Row, (lget v1.1 (w64 (b + v1.2))).Col, (lget v1.1 (w64 (b + v1.2))).Time, (lget v1.1 (w64 (b + v1.2))).Gone, (lget v1.1 (w64 (b + v1.2))).Value⟩ : Cell)) (hc (Nat.zero_le ((w64 (a0 + v1.2)).toNat)) (hc (ixr_ok e_Cell h6) (hc (ldr_ok e_Cell h7) (hc (set_ok e_Cell (lset v1.1 (w64 (a0 + v1.2)) (⟨(lget v1.1 (w64 (b + v1.2))).Row, (lget v1.1 (w64 (b + v1.2))).Col, (lget v1.1 (w64 (b + v1.2))).Time, (lget v1.1 (w64 (b + v1.2))).Gone, (lget v1.1 (w64 (b + v1.2))).Value⟩ : Cell)) (w64 (b + v1.2)) (⟨(lget v1.1 (w64 (a0 + v1.2))).Row, (lget v1.1 (w64 (a0 + v1.2))).Col, (lget v1.1 (w64 (a0 + v1.2))).Time, (lget v1.1 (w64 (a0 + v1.2))).Gone, (lget v1.1 (w64 (a0 + v1.2))).Value⟩ : Cell)) (hc (Nat.zero_le ((w64 (b + v1.2)).toNat)) .nil)))))))))))) (fun v2 hv => ?_)
   have hF := lt_elim hF hv
   refine NR [] [0, 1, 2, 3, 10] [] [100000] [(10, .i (w64 (v1.2 + 1)))] .nil ?_
   exact Nrnd [] hF ih1 (by kernel_rfl)
  ·refine Nexit rfl ?_
   have hF := inrO_done hF dn1
   exact metP v1.1 [] hF (by kernel_rfl)
 ·intro v hF
  have hF : slices_swapRangeCmpFunc_api_Cell_v1_J1 v = some r := hF
  unfold slices_swapRangeCmpFunc_api_Cell_v1_J1 at hF
  cases hF
  exact Wk_end (hfin _ ⟨[100000], [], [100000], [], [], [], by kernel_rfl⟩)

/- slices.rotateCmpFunc[api.Cell] -/
noncomputable def slices_rotateCmpFunc_api_Cell_v1_J1 (m : Int) (v : List Cell × Int) : Option (List Cell) :=
 ob (slices_swapRangeCmpFunc_api_Cell_v1 (w64 (m - v.2)) m v.2 v.1) fun x =>
 some x
noncomputable def slices_rotateCmpFunc_api_Cell_v1_B1 (m : Int) (v1 : List Cell × Int × Int) : Option ((List Cell × Int × Int) ⊕ (List Cell)) :=
 if (!decide (v1.2.1 = v1.2.2)) = true then
  if (decide (v1.2.2 < v1.2.1)) = true then
   ob (slices_swapRangeCmpFunc_api_Cell_v1 (w64 (m - v1.2.1)) m v1.2.2 v1.1) fun x1 =>
   some (Sum.inl (x1, w64 (v1.2.1 - v1.2.2), v1.2.2))
  else
   ob (slices_swapRangeCmpFunc_api_Cell_v1 (w64 (m - v1.2.1)) (w64 ((w64 (m + v1.2.2)) - v1.2.1)) v1.2.1 v1.1) fun x2 =>
   some (Sum.inl (x2, v1.2.1, w64 (v1.2.2 - v1.2.1)))
 else
  inrO (slices_rotateCmpFunc_api_Cell_v1_J1 m (v1.1, v1.2.1))
noncomputable def slices_rotateCmpFunc_api_Cell_v1_L1 (m : Int) (v0 : List Cell × Int × Int) : Option (List Cell) :=
 loopO (fun y => slices_rotateCmpFunc_api_Cell_v1_B1 m y) v0
noncomputable def slices_rotateCmpFunc_api_Cell_v1 (a0 : Int) (m : Int) (b : Int) (row : List Cell) : Option (List Cell) :=
 slices_rotateCmpFunc_api_Cell_v1_L1 m (row, w64 (m - a0), w64 (b - m))
theorem slices_rotateCmpFunc_api_Cell_v1_ok (a0 : Int) (m : Int) (b : Int) (row : List Cell) (rk : Nat) (rc : Nat) (rn : Bool) (r : List Cell) (hF : slices_rotateCmpFunc_api_Cell_v1 a0 m b row = some r) : Pe Try.prog 136 ⟨[], [], [(100000, ⟨96, 5, 0, 0, rc, rn, 0, [], (row.map e_Cell)⟩)], [], []⟩ [.row 100000 0, .i a0, .i m, .i b, .fn 109 []] (.tup []) ⟨[], [], [(100000, ⟨96, 5, 0, 0, rc, rn, 0, [], (r.map e_Cell)⟩)], [], []⟩ := by
 refine PeN 58 [] [] Ty.ok Fn.b136 Try.func136 ?_
 intro Q g hfin
 unfold slices_rotateCmpFunc_api_Cell_v1 at hF
 refine NR [] [0, 2, 3, 4, 10] [] [100000] [(10, .i (w64 (m - a0)))] .nil ?_
 refine NR [] [0, 2, 4, 10, 11] [] [100000] [(11, .i (w64 (b - m)))] .nil ?_
 refine NmeetP (fun v : List Cell × Int => (⟨[(0, .row 100000 0), (2, .i m), (4, .fn 109 []), (10, .i v.2)], [], [(100000, ⟨96, 5, 0, 0, rc, rn, 0, [], (v.1.map e_Cell)⟩)], [], []⟩ : S)) (fun v => slices_rotateCmpFunc_api_Cell_v1_J1 m v = some r) ?_ ?_
 ·refine Nblk ?_
  unfold slices_rotateCmpFunc_api_Cell_v1_L1 at hF
  refine Niter (fun v1 : List Cell × Int × Int => (⟨[(0, .row 100000 0), (2, .i m), (4, .fn 109 []), (10, .i v1.2.1), (11, .i v1.2.2)], [], [(100000, ⟨96, 5, 0, 0, rc, rn, 0, [], (v1.1.map e_Cell)⟩)], [], []⟩ : S)) [] hF (by kernel_rfl) ?_
  intro n1 v1 y1 hF ih1 dn1
  unfold slices_rotateCmpFunc_api_Cell_v1_B1 at hF
  refine NR [] [0, 2, 4, 10, 11, 20] [] [100000] [(20, .bool (!decide (v1.2.1 = v1.2.2)))] .nil ?_
  refine Nif hF (fun hb hF => ?_) (fun hb hF => ?_)
  ·refine Nblk ?_
   refine NR [] [0, 2, 4, 10, 11, 23] [] [100000] [(23, .bool (decide (v1.2.2 < v1.2.1)))] .nil ?_
   refine Nif hF (fun hb hF => ?_) (fun hb hF => ?_)
   ·obtain ⟨x1, h1, hF⟩ := ob_elim hF
    refine VR [.callE [] [100000] [] [] (.tup []) ⟨[], [], [(100000, ⟨96, 5, 0, 0, rc, rn, 0, [], (x1.map e_Cell)⟩)], [], []⟩] [0, 2, 4, 10, 11] [] [100000] [] [] [] [(100000, ⟨96, 5, 0, 0, rc, rn, 0, [], (x1.map e_Cell)⟩)] [] (hc (Pe.ren (slices_swapRangeCmpFunc_api_Cell_v1_ok (w64 (m - v1.2.1)) m v1.2.2 v1.1 0 rc rn x1 h1) ⟨[], [], [], []⟩) .nil) ?_
    refine NR [] [0, 2, 4, 10, 11] [] [100000] [(10, .i (w64 (v1.2.1 - v1.2.2)))] .nil ?_
    exact Nrnd [] hF ih1 (by kernel_rfl)
   ·obtain ⟨x2, h2, hF⟩ := ob_elim hF
    refine VR [.callE [] [100000] [] [] (.tup []) ⟨[], [], [(100000, ⟨96, 5, 0, 0, rc, rn, 0, [], (x2.map e_Cell)⟩)], [], []⟩] [0, 2, 4, 10, 11] [] [100000] [] [] [] [(100000, ⟨96, 5, 0, 0, rc, rn, 0, [], (x2.map e_Cell)⟩)] [] (hc (Pe.ren (slices_swapRangeCmpFunc_api_Cell_v1_ok (w64 (m - v1.2.1)) (w64 ((w64 (m + v1.2.2)) - v1.2.1)) v1.2.1 v1.1 0 rc rn x2 h2) ⟨[], [], [], []⟩) .nil) ?_
    refine NR [] [0, 2, 4, 10, 11] [] [100000] [(11, .i (w64 (v1.2.2 - v1.2.1)))] .nil ?_
    exact Nrnd [] hF ih1 (by kernel_rfl)
  ·refine Nexit rfl ?_
   have hF := inrO_done hF dn1
   exact metP (v1.1, v1.2.1) [] hF (by kernel_rfl)
 ·intro v hF
  have hF : slices_rotateCmpFunc_api_Cell_v1_J1 m v = some r := hF
  unfold slices_rotateCmpFunc_api_Cell_v1_J1 at hF
  obtain ⟨x, h0, hF⟩ := ob_elim hF
  refine VR [.callE [] [100000] [] [] (.tup []) ⟨[], [], [(100000, ⟨96, 5, 0, 0, rc, rn, 0, [], (x.map e_Cell)⟩)], [], []⟩] [] [] [100000] [] [] [] [(100000, ⟨96, 5, 0, 0, rc, rn, 0, [], (x.map e_Cell)⟩)] [] (hc (Pe.ren (slices_swapRangeCmpFunc_api_Cell_v1_ok (w64 (m - v.2)) m v.2 v.1 0 rc rn x h0) ⟨[], [], [], []⟩) .nil) ?_
  cases hF
  exact Wk_end (hfin _ ⟨[100000], [], [100000], [], [], [], by kernel_rfl⟩)

/- slices.symMergeCmpFunc[api.Cell] -/
noncomputable def slices_symMergeCmpFunc_api_Cell_v1_J2 (v1 : List Cell) : Option (List Cell) :=
 some v1
noncomputable def slices_symMergeCmpFunc_api_Cell_v1_B1 (v : Int) (v2 : List Cell × Int) : Option ((List Cell × Int) ⊕ (List Cell)) :=
 if (decide (v2.2 < (w64 (v - 1)))) = true then
  asrt (0 ≤ w64 (v2.2 + 1) ∧ w64 (v2.2 + 1) < (v2.1.length : Int)) <|
  asrt (0 ≤ w64 (v2.2 + 1) ∧ w64 (v2.2 + 1) < (v2.1.length : Int)) <|
  asrt (0 ≤ v2.2 ∧ v2.2 < (v2.1.length : Int)) <|
  asrt (0 ≤ v2.2 ∧ v2.2 < (v2.1.length : Int)) <|
  asrt (0 ≤ v2.2 ∧ v2.2 < (v2.1.length : Int)) <|
  asrt (0 ≤ v2.2 ∧ v2.2 < (v2.1.length : Int)) <|
  asrt (0 ≤ w64 (v2.2 + 1) ∧ w64 (v2.2 + 1) < ((lset v2.1 v2.2 (⟨(lget v2.1 (w64 (v2.2 + 1))).Row, (lget v2.1 (w64 (v2.2 + 1))).Col, (lget v2.1 (w64 (v2.2 + 1))).Time, (lget v2.1 (w64 (v2.2 + 1))).Gone, (lget v2.1 (w64 (v2.2 + 1))).Value⟩ : Cell)).length : Int)) <|
  asrt (0 ≤ w64 (v2.2 + 1) ∧ w64 (v2.2 + 1) < ((lset v2.1 v2.2 (⟨(lget v2.1 (w64 (v2.2 + 1))).Row, (lget v2.1 (w64 (v2.2 + 1))).Col, (lget v2.1 (w64 (v2.2 + 1))).Time, (lget v2.1 (w64 (v2.2 + 1))).Gone, (lget v2.1 (w64 (v2.2 + 1))).Value⟩ : Cell)).length : Int)) <|
  lt ((lset (lset v2.1 v2.2 (⟨(lget v2.1 (w64 (v2.2 + 1))).Row, (lget v2.1 (w64 (v2.2 + 1))).Col, (lget v2.1 (w64 (v2.2 + 1))).Time, (lget v2.1 (w64 (v2.2 + 1))).Gone, (lget v2.1 (w64 (v2.2 + 1))).Value⟩ : Cell)) (w64 (v2.2 + 1)) (⟨(lget v2.1 v2.2).Row, (lget v2.1 v2.2).Col, (lget v2.1 v2.2).Time, (lget v2.1 v2.2).Gone, (lget v2.1 v2.2).Value⟩ : Cell))) fun (v3 : List Cell) =>
  some (Sum.inl (v3, w64 (v2.2 + 1)))
 else
  inrO (slices_symMergeCmpFunc_api_Cell_v1_J2 v2.1)
noncomputable def slices_symMergeCmpFunc_api_Cell_v1_L1 (v : Int) (v0 : List Cell × Int) : Option (List Cell) :=
 loopO (fun y => slices_symMergeCmpFunc_api_Cell_v1_B1 v y) v0
noncomputable def slices_symMergeCmpFunc_api_Cell_v1_J1 (a0 : Int) (row : List Cell) (v : Int) : Option (List Cell) :=
 slices_symMergeCmpFunc_api_Cell_v1_L1 v (row, a0)
noncomputable def slices_symMergeCmpFunc_api_Cell_v1_B2 (a0 : Int) (row : List Cell) (v4 : Int × Int) : Option ((Int × Int) ⊕ (List Cell)) :=
 if (decide (v4.1 < v4.2)) = true then
  lt (w64 (Int.fdiv (IntKind.u64.wrap (w64 (v4.1 + v4.2))) (2 ^ (min (1 : Int).toNat 64)))) fun (v5 : Int) =>
  asrt (0 ≤ v5 ∧ v5 < (row.length : Int)) <|
  asrt (0 ≤ v5 ∧ v5 < (row.length : Int)) <|
  asrt (0 ≤ a0 ∧ a0 < (row.length : Int)) <|
  asrt (0 ≤ a0 ∧ a0 < (row.length : Int)) <|
  ob (cell_Order (⟨(lget row v5).Row, (lget row v5).Col, (lget row v5).Time, (lget row v5).Gone, (lget row v5).Value⟩ : Cell) (⟨(lget row a0).Row, (lget row a0).Col, (lget row a0).Time, (lget row a0).Gone, (lget row a0).Value⟩ : Cell)) fun x =>
  if (decide (x < 0)) = true then
   some (Sum.inl (w64 (v5 + 1), v4.2))
  else
   some (Sum.inl (v4.1, v5))
 else
  inrO (slices_symMergeCmpFunc_api_Cell_v1_J1 a0 row v4.1)
noncomputable def slices_symMergeCmpFunc_api_Cell_v1_L2 (a0 : Int) (row : List Cell) (v0 : Int × Int) : Option (List Cell) :=
 loopO (fun y => slices_symMergeCmpFunc_api_Cell_v1_B2 a0 row y) v0
noncomputable def slices_symMergeCmpFunc_api_Cell_v1_J4 (v7 : List Cell) : Option (List Cell) :=
 some v7
noncomputable def slices_symMergeCmpFunc_api_Cell_v1_B3 (v6 : Int) (v8 : List Cell × Int) : Option ((List Cell × Int) ⊕ (List Cell)) :=
 if (decide (v6 < v8.2)) = true then
  asrt (0 ≤ w64 (v8.2 - 1) ∧ w64 (v8.2 - 1) < (v8.1.length : Int)) <|
  asrt (0 ≤ w64 (v8.2 - 1) ∧ w64 (v8.2 - 1) < (v8.1.length : Int)) <|
  asrt (0 ≤ v8.2 ∧ v8.2 < (v8.1.length : Int)) <|
  asrt (0 ≤ v8.2 ∧ v8.2 < (v8.1.length : Int)) <|
  asrt (0 ≤ v8.2 ∧ v8.2 < (v8.1.length : Int)) <|
  asrt (0 ≤ v8.2 ∧ v8.2 < (v8.1.length : Int)) <|
  asrt (0 ≤ w64 (v8.2 - 1) ∧ w64 (v8.2 - 1) < ((lset v8.1 v8.2 (⟨(lget v8.1 (w64 (v8.2 - 1))).Row, (lget v8.1 (w64 (v8.2 - 1))).Col, (lget v8.1 (w64 (v8.2 - 1))).Time, (lget v8.1 (w64 (v8.2 - 1))).Gone, (lget v8.1 (w64 (v8.2 - 1))).Value⟩ : Cell)).length : Int)) <|
  asrt (0 ≤ w64 (v8.2 - 1) ∧ w64 (v8.2 - 1) < ((lset v8.1 v8.2 (⟨(lget v8.1 (w64 (v8.2 - 1))).Row, (lget v8.1 (w64 (v8.2 - 1))).Col, (lget v8.1 (w64 (v8.2 - 1))).Time, (lget v8.1 (w64 (v8.2 - 1))).Gone, (lget v8.1 (w64 (v8.2 - 1))).Value⟩ : Cell)).length : Int)) <|
  lt ((lset (lset v8.1 v8.2 (⟨(lget v8.1 (w64 (v8.2 - 1))).Row, (lget v8.1 (w64 (v8.2 - 1))).Col, (lget v8.1 (w64 (v8.2 - 1))).Time, (lget v8.1 (w64 (v8.2 - 1))).Gone, (lget v8.1 (w64 (v8.2 - 1))).Value⟩ : Cell)) (w64 (v8.2 - 1)) (⟨(lget v8.1 v8.2).Row, (lget v8.1 v8.2).Col, (lget v8.1 v8.2).Time, (lget v8.1 v8.2).Gone, (lget v8.1 v8.2).Value⟩ : Cell))) fun (v9 : List Cell) =>
  some (Sum.inl (v9, w64 (v8.2 - 1)))
 else
  inrO (slices_symMergeCmpFunc_api_Cell_v1_J4 v8.1)
noncomputable def slices_symMergeCmpFunc_api_Cell_v1_L3 (v6 : Int) (v0 : List Cell × Int) : Option (List Cell) :=
 loopO (fun y => slices_symMergeCmpFunc_api_Cell_v1_B3 v6 y) v0
noncomputable def slices_symMergeCmpFunc_api_Cell_v1_J3 (m : Int) (row : List Cell) (v6 : Int) : Option (List Cell) :=
 slices_symMergeCmpFunc_api_Cell_v1_L3 v6 (row, m)
noncomputable def slices_symMergeCmpFunc_api_Cell_v1_B4 (m : Int) (row : List Cell) (v10 : Int × Int) : Option ((Int × Int) ⊕ (List Cell)) :=
 if (decide (v10.1 < v10.2)) = true then
  lt (w64 (Int.fdiv (IntKind.u64.wrap (w64 (v10.1 + v10.2))) (2 ^ (min (1 : Int).toNat 64)))) fun (v11 : Int) =>
  asrt (0 ≤ m ∧ m < (row.length : Int)) <|
  asrt (0 ≤ m ∧ m < (row.length : Int)) <|
  asrt (0 ≤ v11 ∧ v11 < (row.length : Int)) <|
  asrt (0 ≤ v11 ∧ v11 < (row.length : Int)) <|
  ob (cell_Order (⟨(lget row m).Row, (lget row m).Col, (lget row m).Time, (lget row m).Gone, (lget row m).Value⟩ : Cell) (⟨(lget row v11).Row, (lget row v11).Col, (lget row v11).Time, (lget row v11).Gone, (lget row v11).Value⟩ : Cell)) fun x1 =>
  if (!(decide (x1 < 0))) = true then
   some (Sum.inl (w64 (v11 + 1), v10.2))
  else
   some (Sum.inl (v10.1, v11))
 else
  inrO (slices_symMergeCmpFunc_api_Cell_v1_J3 m row v10.1)
noncomputable def slices_symMergeCmpFunc_api_Cell_v1_L4 (m : Int) (row : List Cell) (v0 : Int × Int) : Option (List Cell) :=
 loopO (fun y => slices_symMergeCmpFunc_api_Cell_v1_B4 m row y) v0
noncomputable def slices_symMergeCmpFunc_api_Cell_v1_J5 (a0 : Int) (m : Int) (b : Int) (row : List Cell) (rec : (Int × Int × Int × List Cell) → Option (List Cell)) (v12 : Int) (v14 : Int) : Option (List Cell) :=
 ob (
  if ((decide (v14 < m)) && (decide (m < (w64 ((w64 (v12 + m)) - v14))))) = true then
   ob (slices_rotateCmpFunc_api_Cell_v1 v14 m (w64 ((w64 (v12 + m)) - v14)) row) fun x2 =>
   some x2
  else
   some row) fun (v15 : List Cell) =>
 ob (
  if ((decide (a0 < v14)) && (decide (v14 < v12))) = true then
   ob (rec (a0, v14, v12, v15)) fun x3 =>
   some x3
  else
   some v15) fun (v16 : List Cell) =>
 if ((decide (v12 < (w64 ((w64 (v12 + m)) - v14)))) && (decide ((w64 ((w64 (v12 + m)) - v14)) < b))) = true then
  ob (rec (v12, w64 ((w64 (v12 + m)) - v14), b, v16)) fun x4 =>
  some x4
 else
  some v16
noncomputable def slices_symMergeCmpFunc_api_Cell_v1_B5 (a0 : Int) (m : Int) (b : Int) (row : List Cell) (rec : (Int × Int × Int × List Cell) → Option (List Cell)) (v12 : Int) (v17 : Int × Int) : Option ((Int × Int) ⊕ (List Cell)) :=
 if (decide (v17.1 < v17.2)) = true then
  lt (w64 (Int.fdiv (IntKind.u64.wrap (w64 (v17.1 + v17.2))) (2 ^ (min (1 : Int).toNat 64)))) fun (v18 : Int) =>
  asrt (0 ≤ w64 ((w64 ((w64 (v12 + m)) - 1)) - v18) ∧ w64 ((w64 ((w64 (v12 + m)) - 1)) - v18) < (row.length : Int)) <|
  asrt (0 ≤ w64 ((w64 ((w64 (v12 + m)) - 1)) - v18) ∧ w64 ((w64 ((w64 (v12 + m)) - 1)) - v18) < (row.length : Int)) <|
  asrt (0 ≤ v18 ∧ v18 < (row.length : Int)) <|
  asrt (0 ≤ v18 ∧ v18 < (row.length : Int)) <|
  ob (cell_Order (⟨(lget row (w64 ((w64 ((w64 (v12 + m)) - 1)) - v18))).Row, (lget row (w64 ((w64 ((w64 (v12 + m)) - 1)) - v18))).Col, (lget row (w64 ((w64 ((w64 (v12 + m)) - 1)) - v18))).Time, (lget row (w64 ((w64 ((w64 (v12 + m)) - 1)) - v18))).Gone, (lget row (w64 ((w64 ((w64 (v12 + m)) - 1)) - v18))).Value⟩ : Cell) (⟨(lget row v18).Row, (lget row v18).Col, (lget row v18).Time, (lget row v18).Gone, (lget row v18).Value⟩ : Cell)) fun x5 =>
  if (!(decide (x5 < 0))) = true then
   some (Sum.inl (w64 (v18 + 1), v17.2))
  else
   some (Sum.inl (v17.1, v18))
 else
  inrO (slices_symMergeCmpFunc_api_Cell_v1_J5 a0 m b row rec v12 v17.1)
noncomputable def slices_symMergeCmpFunc_api_Cell_v1_L5 (a0 : Int) (m : Int) (b : Int) (row : List Cell) (rec : (Int × Int × Int × List Cell) → Option (List Cell)) (v12 : Int) (v0 : Int × Int) : Option (List Cell) :=
 loopO (fun y => slices_symMergeCmpFunc_api_Cell_v1_B5 a0 m b row rec v12 y) v0
noncomputable def slices_symMergeCmpFunc_api_Cell_v1_S (rec : (Int × Int × Int × List Cell) → Option (List Cell)) (a0 : Int) (m : Int) (b : Int) (row : List Cell) : Option (List Cell) :=
 if (decide ((w64 (m - a0)) = 1)) = true then
  slices_symMergeCmpFunc_api_Cell_v1_L2 a0 row (m, b)
 else
  if (decide ((w64 (b - m)) = 1)) = true then
   slices_symMergeCmpFunc_api_Cell_v1_L4 m row (a0, m)
  else
   lt (w64 (Int.fdiv (IntKind.u64.wrap (w64 (a0 + b))) (2 ^ (min (1 : Int).toNat 64)))) fun (v12 : Int) =>
   ob (
    if (decide (v12 < m)) = true then
     some (w64 ((w64 (v12 + m)) - b), v12)
    else
     some (a0, m)) fun (v13 : Int × Int) =>
   slices_symMergeCmpFunc_api_Cell_v1_L5 a0 m b row rec v12 (v13.1, v13.2)
noncomputable def slices_symMergeCmpFunc_api_Cell_v1 (a0 : Int) (m : Int) (b : Int) (row : List Cell) : Option (List Cell) := recO (fun rec (x : Int × Int × Int × List Cell) => slices_symMergeCmpFunc_api_Cell_v1_S rec x.1 x.2.1 x.2.2.1 x.2.2.2) (a0, m, b, row)
theorem slices_symMergeCmpFunc_api_Cell_v1_ok (a0 : Int) (m : Int) (b : Int) (row : List Cell) (rk : Nat) (rc : Nat) (rn : Bool) (r : List Cell) (hF : slices_symMergeCmpFunc_api_Cell_v1 a0 m b row = some r) : Pe Try.prog 135 ⟨[], [], [(100000, ⟨96, 5, 0, 0, rc, rn, 0, [], (row.map e_Cell)⟩)], [], []⟩ [.row 100000 0, .i a0, .i m, .i b, .fn 109 []] (.tup []) ⟨[], [], [(100000, ⟨96, 5, 0, 0, rc, rn, 0, [], (r.map e_Cell)⟩)], [], []⟩ := by
 have key : ∀ (k : Nat) (x : Int × Int × Int × List Cell) (rk : Nat) (rc : Nat) (rn : Bool) (r : List Cell), fuelO (fun rec (x : Int × Int × Int × List Cell) => slices_symMergeCmpFunc_api_Cell_v1_S rec x.1 x.2.1 x.2.2.1 x.2.2.2) k x = some r → Pe Try.prog 135 ⟨[], [], [(100000, ⟨96, 5, 0, 0, rc, rn, 0, [], (x.2.2.2.map e_Cell)⟩)], [], []⟩ [.row 100000 0, .i x.1, .i x.2.1, .i x.2.2.1, .fn 109 []] (.tup []) ⟨[], [], [(100000, ⟨96, 5, 0, 0, rc, rn, 0, [], (r.map e_Cell)⟩)], [], []⟩ := by
  intro k
  induction k with
  | zero => intro x rk rc rn r hF; cases hF
  | succ k ih =>
   intro x rk rc rn r hF
   have hF : slices_symMergeCmpFunc_api_Cell_v1_S (fuelO (fun rec (x : Int × Int × Int × List Cell) => slices_symMergeCmpFunc_api_Cell_v1_S rec x.1 x.2.1 x.2.2.1 x.2.2.2) k) x.1 x.2.1 x.2.2.1 x.2.2.2 = some r := hF
   generalize fuelO (fun rec (x : Int × Int × Int × List Cell) => slices_symMergeCmpFunc_api_Cell_v1_S rec x.1 x.2.1 x.2.2.1 x.2.2.2) k = rec at ih hF
   obtain ⟨a0, m, b, row⟩ := x
   simp only at hF ⊢
   refine PeN 220 [] [] Ty.ok Fn.b135 Try.func135 ?_
   intro Q g hfin
   unfold slices_symMergeCmpFunc_api_Cell_v1_S at hF
   refine NR [] [0, 1, 2, 3, 4, 28] [] [100000] [(28, .bool (decide ((w64 (m - a0)) = 1)))] .nil ?_
   refine Nif hF (fun hb hF => ?_) (fun hb hF => ?_)
   ·refine NR [] [0, 1, 3, 4, 10] [] [100000] [(10, .i m)] .nil ?_
    refine NR [] [0, 1, 4, 10, 11] [] [100000] [(11, .i b)] .nil ?_
    refine NmeetP (fun v : Int => (⟨[(0, .row 100000 0), (1, .i a0), (10, .i v)], [], [(100000, ⟨96, 5, 0, 0, rc, rn, 0, [], (row.map e_Cell)⟩)], [], []⟩ : S)) (fun v => slices_symMergeCmpFunc_api_Cell_v1_J1 a0 row v = some r) ?_ ?_
    ·refine Nblk ?_
     unfold slices_symMergeCmpFunc_api_Cell_v1_L2 at hF
     refine Niter (fun v4 : Int × Int => (⟨[(0, .row 100000 0), (1, .i a0), (4, .fn 109 []), (10, .i v4.1), (11, .i v4.2)], [], [(100000, ⟨96, 5, 0, 0, rc, rn, 0, [], (row.map e_Cell)⟩)], [], []⟩ : S)) [] hF (by kernel_rfl) ?_
     intro n1 v4 y1 hF ih1 dn1
     unfold slices_symMergeCmpFunc_api_Cell_v1_B2 at hF
     refine NR [] [0, 1, 4, 10, 11, 33] [] [100000] [(33, .bool (decide (v4.1 < v4.2)))] .nil ?_
     refine Nif hF (fun hb hF => ?_) (fun hb hF => ?_)
     ·refine Nblk ?_
      refine NRL (w64 (Int.fdiv (IntKind.u64.wrap (w64 (v4.1 + v4.2))) (2 ^ (min (1 : Int).toNat 64)))) (fun v5 : Int => ([(12, .i v5)], [], [], [])) [] [0, 1, 4, 10, 11, 12] [] [100000] [] (hc (by decide : (0 : Int) ≤ 1) .nil) (fun v5 hv => ?_)
      have hF := lt_elim hF hv
      obtain ⟨h8, h9, h10, h11, hF⟩ := asrt4 hF
      obtain ⟨x, h12, hF⟩ := ob_elim hF
      refine ND [.av (e_Cell (lget row v5)), .av (e_Cell (lget row a0)), .callB (.i x)] [0, 1, 4, 10, 11, 12, 50] [] [100000] [(50, .bool (decide (x < 0)))] (hc (ixr_ok e_Cell h8) (hc (ldr_ok e_Cell h9) (hc (ixr_ok e_Cell h10) (hc (ldr_ok e_Cell h11) (hc (cell_Order_ok (⟨(lget row v5).Row, (lget row v5).Col, (lget row v5).Time, (lget row v5).Gone, (lget row v5).Value⟩ : Cell) (⟨(lget row a0).Row, (lget row a0).Col, (lget row a0).Time, (lget row a0).Gone, (lget row a0).Value⟩ : Cell) x h12) .nil))))) ?_
      refine Nif hF (fun hb hF => ?_) (fun hb hF => ?_)
      ·refine NR [] [0, 1, 4, 10, 11] [] [100000] [(10, .i (w64 (v5 + 1)))] .nil ?_
       exact Nrnd [] hF ih1 (by kernel_rfl)
      ·refine NR [] [0, 1, 4, 10, 11] [] [100000] [(11, .i v5)] .nil ?_
       exact Nrnd [] hF ih1 (by kernel_rfl)
     ·refine Nexit rfl ?_
      have hF := inrO_done hF dn1
      exact metP v4.1 [] hF (by kernel_rfl)
    ·intro v hF
     have hF : slices_symMergeCmpFunc_api_Cell_v1_J1 a0 row v = some r := hF
     unfold slices_symMergeCmpFunc_api_Cell_v1_J1 at hF
     refine NR [] [0, 10, 13] [] [100000] [(13, .i a0)] .nil ?_
     refine NmeetP (fun v1 : List Cell => (⟨[], [], [(100000, ⟨96, 5, 0, 0, rc, rn, 0, [], (v1.map e_Cell)⟩)], [], []⟩ : S)) (fun v1 => slices_symMergeCmpFunc_api_Cell_v1_J2 v1 = some r) ?_ ?_
     ·refine Nblk ?_
      unfold slices_symMergeCmpFunc_api_Cell_v1_L1 at hF
      refine Niter (fun v2 : List Cell × Int => (⟨[(0, .row 100000 0), (10, .i v), (13, .i v2.2)], [], [(100000, ⟨96, 5, 0, 0, rc, rn, 0, [], (v2.1.map e_Cell)⟩)], [], []⟩ : S)) [] hF (by kernel_rfl) ?_
      intro n1 v2 y1 hF ih1 dn1
      unfold slices_symMergeCmpFunc_api_Cell_v1_B1 at hF
      refine NR [] [0, 10, 13, 58] [] [100000] [(58, .bool (decide (v2.2 < (w64 (v - 1)))))] .nil ?_
      refine Nif hF (fun hb hF => ?_) (fun hb hF => ?_)
      ·refine Nblk ?_
       obtain ⟨h0, h1, h2, h3, hF⟩ := asrt4 hF
       obtain ⟨h4, h5, h6, h7, hF⟩ := asrt4 hF
       refine NDL ((lset (lset v2.1 v2.2 (⟨(lget v2.1 (w64 (v2.2 + 1))).Row, (lget v2.1 (w64 (v2.2 + 1))).Col, (lget v2.1 (w64 (v2.2 + 1))).Time, (lget v2.1 (w64 (v2.2 + 1))).Gone, (lget v2.1 (w64 (v2.2 + 1))).Value⟩ : Cell)) (w64 (v2.2 + 1)) (⟨(lget v2.1 v2.2).Row, (lget v2.1 v2.2).Col, (lget v2.1 v2.2).Time, (lget v2.1 v2.2).Gone, (lget v2.1 v2.2).Value⟩ : Cell))) (fun v3 : List Cell => ([], [], [(100000, ⟨96, 5, 0, 0, rc, rn, 0, [], (v3.map e_Cell)⟩)], [])) [.av (e_Cell (lget v2.1 (w64 (v2.2 + 1)))), .av (e_Cell (lget v2.1 v2.2)), .av (e_Cell (lget v2.1 v2.2)), .xs ((lset v2.1 v2.2 (⟨(lget v2.1 (w64 (v2.2 + 1))).Row, (lget v2.1 (w64 (v2.2 + 1))).Col, (lget v2.1 (w64 (v2.2 + 1))).Time, (lget v2.1 (w64 (v2.2 + 1))).Gone, (lget v2.1 (w64 (v2.2 + 1))).Value⟩ : Cell)).map e_Cell), .av (e_Cell (lget (lset v2.1 v2.2 (⟨(lget v2.1 (w64 (v2.2 + 1))).Row, (lget v2.1 (w64 (v2.2 + 1))).Col, (lget v2.1 (w64 (v2.2 + 1))).Time, (lget v2.1 (w64 (v2.2 + 1))).Gone, (lget v2.1 (w64 (v2.2 + 1))).Value⟩ : Cell)) (w64 (v2.2 + 1)))), .xs ((lset (lset v2.1 v2.2 (⟨(lget v2.1 (w64 (v2.2 + 1))).Row, (lget v2.1 (w64 (v2.2 + 1))).Col, (lget v2.1 (w64 (v2.2 + 1))).Time, (lget v2.1 (w64 (v2.2 + 1))).Gone, (lget v2.1 (w64 (v2.2 + 1))).Value⟩ : Cell)) (w64 (v2.2 + 1)) (⟨(lget v2.1 v2.2).Row, (lget v2.1 v2.2).Col, (lget v2.1 v2.2).Time, (lget v2.1 v2.2).Gone, (lget v2.1 v2.2).Value⟩ : Cell)).map e_Cell)] [0, 10, 13] [] [100000] [] (hc (ixr_ok e_Cell h0) (hc (ldr_ok e_Cell h1) (hc (ixr_ok e_Cell h2) (hc (ldr_ok e_Cell h3) (hc (ixr_ok e_Cell h4) (hc (ldr_ok e_Cell h5) (hc (set_ok e_Cell v2.1 v2.2 (⟨(lget v2.1 (w64 (v2.2 + 1))).Row, (lget v2.1 (w64 (v2.2 + 1))).Col, (lget v2.1 (w64 (v2.2 + 1))).Time, (lget v2.1 (w64 (v2.2 + 1))).Gone, (lget v2.1 (w64 (v2.2 + 1))).Value⟩ : Cell)) (hc (Nat.zero_le v2.2.toNat) (hc (ixr_ok e_Cell h6) (hc (ldr_ok e_Cell h7) (hc (set_ok e_Cell (lset v2.1 v2.2 (⟨(lget v2.1 (w64 (v2.2 + 1))).Row, (lget v2.1 (w64 (v2.2 + 1))).Col, (lget v2.1 (w64 (v2.2 + 1))).Time, (lget v2.1 (w64 (v2.2 + 1))).Gone, (lget v2.1 (w64 (v2.2 + 1))).Value⟩ : Cell)) (w64 (v2.2 + 1)) (⟨(lget v2.1 v2.2).Row, (lget v2.1 v2.2).Col, (lget v2.1 v2.2).Time, (lget v2.1 v2.2).Gone, (lget v2.1 v2.2).Value⟩ : Cell)) (hc (Nat.zero_le ((w64 (v2.2 + 1)).toNat)) .nil)))))))))))) (fun v3 hv => ?_)
       have hF := lt_elim hF hv
       refine NR [] [0, 10, 13] [] [100000] [(13, .i (w64 (v2.2 + 1)))] .nil ?_
       exact Nrnd [] hF ih1 (by kernel_rfl)
      ·refine Nexit rfl ?_
       have hF := inrO_done hF dn1
       exact metP v2.1 [] hF (by kernel_rfl)
     ·intro v1 hF
      have hF : slices_symMergeCmpFunc_api_Cell_v1_J2 v1 = some r := hF
      unfold slices_symMergeCmpFunc_api_Cell_v1_J2 at hF
      cases hF
      exact Wk_ret (hfin _ ⟨[100000], [], [100000], [], [], [], by kernel_rfl⟩)
   ·refine NR [] [0, 1, 2, 3, 4, 80] [] [100000] [(80, .bool (decide ((w64 (b - m)) = 1)))] .nil ?_
    refine Nif hF (fun hb hF => ?_) (fun hb hF => ?_)
    ·refine NR [] [0, 2, 4, 14] [] [100000] [(14, .i a0)] .nil ?_
     refine NR [] [0, 2, 4, 14, 15] [] [100000] [(15, .i m)] .nil ?_
     refine NmeetP (fun v6 : Int => (⟨[(0, .row 100000 0), (2, .i m), (14, .i v6)], [], [(100000, ⟨96, 5, 0, 0, rc, rn, 0, [], (row.map e_Cell)⟩)], [], []⟩ : S)) (fun v6 => slices_symMergeCmpFunc_api_Cell_v1_J3 m row v6 = some r) ?_ ?_
     ·refine Nblk ?_
      unfold slices_symMergeCmpFunc_api_Cell_v1_L4 at hF
      refine Niter (fun v10 : Int × Int => (⟨[(0, .row 100000 0), (2, .i m), (4, .fn 109 []), (14, .i v10.1), (15, .i v10.2)], [], [(100000, ⟨96, 5, 0, 0, rc, rn, 0, [], (row.map e_Cell)⟩)], [], []⟩ : S)) [] hF (by kernel_rfl) ?_
      intro n1 v10 y1 hF ih1 dn1
      unfold slices_symMergeCmpFunc_api_Cell_v1_B4 at hF
      refine NR [] [0, 2, 4, 14, 15, 85] [] [100000] [(85, .bool (decide (v10.1 < v10.2)))] .nil ?_
      refine Nif hF (fun hb hF => ?_) (fun hb hF => ?_)
      ·refine Nblk ?_
       refine NRL (w64 (Int.fdiv (IntKind.u64.wrap (w64 (v10.1 + v10.2))) (2 ^ (min (1 : Int).toNat 64)))) (fun v11 : Int => ([(16, .i v11)], [], [], [])) [] [0, 2, 4, 14, 15, 16] [] [100000] [] (hc (by decide : (0 : Int) ≤ 1) .nil) (fun v11 hv => ?_)
       have hF := lt_elim hF hv
       obtain ⟨h21, h22, h23, h24, hF⟩ := asrt4 hF
       obtain ⟨x1, h25, hF⟩ := ob_elim hF
       refine ND [.av (e_Cell (lget row m)), .av (e_Cell (lget row v11)), .callB (.i x1)] [0, 2, 4, 14, 15, 16, 103] [] [100000] [(103, .bool (!(decide (x1 < 0))))] (hc (ixr_ok e_Cell h21) (hc (ldr_ok e_Cell h22) (hc (ixr_ok e_Cell h23) (hc (ldr_ok e_Cell h24) (hc (cell_Order_ok (⟨(lget row m).Row, (lget row m).Col, (lget row m).Time, (lget row m).Gone, (lget row m).Value⟩ : Cell) (⟨(lget row v11).Row, (lget row v11).Col, (lget row v11).Time, (lget row v11).Gone, (lget row v11).Value⟩ : Cell) x1 h25) .nil))))) ?_
       refine Nif hF (fun hb hF => ?_) (fun hb hF => ?_)
       ·refine NR [] [0, 2, 4, 14, 15] [] [100000] [(14, .i (w64 (v11 + 1)))] .nil ?_
        exact Nrnd [] hF ih1 (by kernel_rfl)
       ·refine NR [] [0, 2, 4, 14, 15] [] [100000] [(15, .i v11)] .nil ?_
        exact Nrnd [] hF ih1 (by kernel_rfl)
      ·refine Nexit rfl ?_
       have hF := inrO_done hF dn1
       exact metP v10.1 [] hF (by kernel_rfl)
     ·intro v6 hF
      have hF : slices_symMergeCmpFunc_api_Cell_v1_J3 m row v6 = some r := hF
      unfold slices_symMergeCmpFunc_api_Cell_v1_J3 at hF
      refine NR [] [0, 14, 17] [] [100000] [(17, .i m)] .nil ?_
      refine NmeetP (fun v7 : List Cell => (⟨[], [], [(100000, ⟨96, 5, 0, 0, rc, rn, 0, [], (v7.map e_Cell)⟩)], [], []⟩ : S)) (fun v7 => slices_symMergeCmpFunc_api_Cell_v1_J4 v7 = some r) ?_ ?_
      ·refine Nblk ?_
       unfold slices_symMergeCmpFunc_api_Cell_v1_L3 at hF
       refine Niter (fun v8 : List Cell × Int => (⟨[(0, .row 100000 0), (14, .i v6), (17, .i v8.2)], [], [(100000, ⟨96, 5, 0, 0, rc, rn, 0, [], (v8.1.map e_Cell)⟩)], [], []⟩ : S)) [] hF (by kernel_rfl) ?_
       intro n1 v8 y1 hF ih1 dn1
       unfold slices_symMergeCmpFunc_api_Cell_v1_B3 at hF
       refine NR [] [0, 14, 17, 110] [] [100000] [(110, .bool (decide (v6 < v8.2)))] .nil ?_
       refine Nif hF (fun hb hF => ?_) (fun hb hF => ?_)
       ·refine Nblk ?_
        obtain ⟨h13, h14, h15, h16, hF⟩ := asrt4 hF
        obtain ⟨h17, h18, h19, h20, hF⟩ := asrt4 hF
        refine NDL ((lset (lset v8.1 v8.2 (⟨(lget v8.1 (w64 (v8.2 - 1))).Row, (lget v8.1 (w64 (v8.2 - 1))).Col, (lget v8.1 (w64 (v8.2 - 1))).Time, (lget v8.1 (w64 (v8.2 - 1))).Gone, (lget v8.1 (w64 (v8.2 - 1))).Value⟩ : Cell)) (w64 (v8.2 - 1)) (⟨(lget v8.1 v8.2).Row, (lget v8.1 v8.2).Col, (lget v8.1 v8.2).Time, (lget v8.1 v8.2).Gone, (lget v8.1 v8.2).Value⟩ : Cell))) (fun v9 : List Cell => ([], [], [(100000, ⟨96, 5, 0, 0, rc, rn, 0, [], (v9.map e_Cell)⟩)], [])) [.av (e_Cell (lget v8.1 (w64 (v8.2 - 1)))), .av (e_Cell (lget v8.1 v8.2)), .av (e_Cell (lget v8.1 v8.2)), .xs ((lset v8.1 v8.2 (⟨(lget v8.1 (w64 (v8.2 - 1))).Row, (lget v8.1 (w64 (v8.2 - 1))).Col, (lget v8.1 (w64 (v8.2 - 1))).Time, (lget v8.1 (w64 (v8.2 - 1))).Gone, (lget v8.1 (w64 (v8.2 - 1))).Value⟩ : Cell)).map e_Cell), .av (e_Cell (lget (lset v8.1 v8.2 (⟨(lget v8.1 (w64 (v8.2 - 1))).Row, (lget v8.1 (w64 (v8.2 - 1))).Col, (lget v8.1 (w64 (v8.2 - 1))).Time, (lget v8.1 (w64 (v8.2 - 1))).Gone, (lget v8.1 (w64 (v8.2 - 1))).Value⟩ : Cell)) (w64 (v8.2 - 1)))), .xs ((lset (lset v8.1 v8.2 (⟨(lget v8.1 (w64 (v8.2 - 1))).Row, (lget v8.1 (w64 (v8.2 - 1))).Col, (lget v8.1 (w64 (v8.2 - 1))).Time, (lget v8.1 (w64 (v8.2 - 1))).Gone, (lget v8.1 (w64 (v8.2 - 1))).Value⟩ : Cell)) (w64 (v8.2 - 1)) (⟨(lget v8.1 v8.2).Row, (lget v8.1 v8.2).Col, (lget v8.1 v8.2).Time, (lget v8.1 v8.2).Gone, (lget v8.1 v8.2).Value⟩ : Cell)).map e_Cell)] [0, 14, 17] [] [100000] [] (hc (ixr_ok e_Cell h13) (hc (ldr_ok e_Cell h14) (hc (ixr_ok e_Cell h15) (hc (ldr_ok e_Cell h16) (hc (ixr_ok e_Cell h17) (hc (ldr_ok e_Cell h18) (hc (set_ok e_Cell v8.1 v8.2 (⟨(lget v8.1 (w64 (v8.2 - 1))).Row, (lget v8.1 (w64 (v8.2 - 1))).Col, (lget v8.1 (w64 (v8.2 - 1))).Time, (lget v8.1 (w64 (v8.2 - 1))).Gone, (lget v8.1 (w64 (v8.2 - 1))).Value⟩ : Cell)) (hc (Nat.zero_le v8.2.toNat) (hc (ixr_ok e_Cell h19) (hc (ldr_ok e_Cell h20) (hc (set_ok e_Cell (lset v8.1 v8.2 (⟨(lget v8.1 (w64 (v8.2 - 1))).Row, (lget v8.1 (w64 (v8.2 - 1))).Col, (lget v8.1 (w64 (v8.2 - 1))).Time, (lget v8.1 (w64 (v8.2 - 1))).Gone, (lget v8.1 (w64 (v8.2 - 1))).Value⟩ : Cell)) (w64 (v8.2 - 1)) (⟨(lget v8.1 v8.2).Row, (lget v8.1 v8.2).Col, (lget v8.1 v8.2).Time, (lget v8.1 v8.2).Gone, (lget v8.1 v8.2).Value⟩ : Cell)) (hc (Nat.zero_le ((w64 (v8.2 - 1)).toNat)) .nil)))))))))))) (fun v9 hv => ?_)
        have hF := lt_elim hF hv
        refine NR [] [0, 14, 17] [] [100000] [(17, .i (w64 (v8.2 - 1)))] .nil ?_
        exact Nrnd [] hF ih1 (by kernel_rfl)
       ·refine Nexit rfl ?_
        have hF := inrO_done hF dn1
        exact metP v8.1 [] hF (by kernel_rfl)
      ·intro v7 hF
       have hF : slices_symMergeCmpFunc_api_Cell_v1_J4 v7 = some r := hF
       unfold slices_symMergeCmpFunc_api_Cell_v1_J4 at hF
       cases hF
       exact Wk_ret (hfin _ ⟨[100000], [], [100000], [], [], [], by kernel_rfl⟩)
    ·refine NRL (w64 (Int.fdiv (IntKind.u64.wrap (w64 (a0 + b))) (2 ^ (min (1 : Int).toNat 64)))) (fun v12 : Int => ([(18, .i v12)], [], [], [])) [] [0, 1, 2, 3, 4, 18] [] [100000] [] (hc (by decide : (0 : Int) ≤ 1) .nil) (fun v12 hv => ?_)
     have hF := lt_elim hF hv
     refine NR [] [0, 1, 2, 3, 4, 18, 19] [] [100000] [(19, .i (w64 (v12 + m)))] .nil ?_
     refine NR [] [0, 1, 2, 3, 4, 18, 19] [] [100000] [] .nil ?_
     refine NR [] [0, 1, 2, 3, 4, 18, 19, 140] [] [100000] [(140, .bool (decide (v12 < m)))] .nil ?_
     obtain ⟨v13, hv, hF⟩ := ob_elim hF
     refine Nmeet (⟨[(0, .row 100000 0), (1, .i a0), (2, .i m), (3, .i b), (4, .fn 109 []), (18, .i v12), (19, .i (w64 (v12 + m))), (20, .i v13.1), (21, .i v13.2)], [], [(100000, ⟨96, 5, 0, 0, rc, rn, 0, [], (row.map e_Cell)⟩)], [], []⟩ : S) ?_ ?_
     ·have hF := hv
      refine Nif hF (fun hb hF => ?_) (fun hb hF => ?_)
      ·refine NR [] [0, 1, 2, 3, 4, 18, 19, 20] [] [100000] [(20, .i (w64 ((w64 (v12 + m)) - b)))] .nil ?_
       refine NR [] [0, 1, 2, 3, 4, 18, 19, 20, 21] [] [100000] [(21, .i v12)] .nil ?_
       cases hF
       exact met [] (by kernel_rfl)
      ·refine NR [] [0, 1, 2, 3, 4, 18, 19, 20] [] [100000] [(20, .i a0)] .nil ?_
       refine NR [] [0, 1, 2, 3, 4, 18, 19, 20, 21] [] [100000] [(21, .i m)] .nil ?_
       cases hF
       exact met [] (by kernel_rfl)
     ·refine NR [] [0, 1, 2, 3, 4, 18, 19, 20, 21, 22] [] [100000] [(22, .i (w64 ((w64 (v12 + m)) - 1)))] .nil ?_
      refine NmeetP (fun v14 : Int => (⟨[(0, .row 100000 0), (1, .i a0), (2, .i m), (3, .i b), (4, .fn 109 []), (18, .i v12), (19, .i (w64 (v12 + m))), (20, .i v14)], [], [(100000, ⟨96, 5, 0, 0, rc, rn, 0, [], (row.map e_Cell)⟩)], [], []⟩ : S)) (fun v14 => slices_symMergeCmpFunc_api_Cell_v1_J5 a0 m b row rec v12 v14 = some r) ?_ ?_
      ·refine Nblk ?_
       unfold slices_symMergeCmpFunc_api_Cell_v1_L5 at hF
       refine Niter (fun v17 : Int × Int => (⟨[(0, .row 100000 0), (1, .i a0), (2, .i m), (3, .i b), (4, .fn 109 []), (18, .i v12), (19, .i (w64 (v12 + m))), (20, .i v17.1), (21, .i v17.2), (22, .i (w64 ((w64 (v12 + m)) - 1)))], [], [(100000, ⟨96, 5, 0, 0, rc, rn, 0, [], (row.map e_Cell)⟩)], [], []⟩ : S)) [] hF (by kernel_rfl) ?_
       intro n1 v17 y1 hF ih1 dn1
       unfold slices_symMergeCmpFunc_api_Cell_v1_B5 at hF
       refine NR [] [0, 1, 2, 3, 4, 18, 19, 20, 21, 22, 151] [] [100000] [(151, .bool (decide (v17.1 < v17.2)))] .nil ?_
       refine Nif hF (fun hb hF => ?_) (fun hb hF => ?_)
       ·refine Nblk ?_
        refine NRL (w64 (Int.fdiv (IntKind.u64.wrap (w64 (v17.1 + v17.2))) (2 ^ (min (1 : Int).toNat 64)))) (fun v18 : Int => ([(23, .i v18)], [], [], [])) [] [0, 1, 2, 3, 4, 18, 19, 20, 21, 22, 23] [] [100000] [] (hc (by decide : (0 : Int) ≤ 1) .nil) (fun v18 hv => ?_)
        have hF := lt_elim hF hv
        obtain ⟨h29, h30, h31, h32, hF⟩ := asrt4 hF
        obtain ⟨x5, h33, hF⟩ := ob_elim hF
        refine ND [.av (e_Cell (lget row (w64 ((w64 ((w64 (v12 + m)) - 1)) - v18)))), .av (e_Cell (lget row v18)), .callB (.i x5)] [0, 1, 2, 3, 4, 18, 19, 20, 21, 22, 23, 171] [] [100000] [(171, .bool (!(decide (x5 < 0))))] (hc (ixr_ok e_Cell h29) (hc (ldr_ok e_Cell h30) (hc (ixr_ok e_Cell h31) (hc (ldr_ok e_Cell h32) (hc (cell_Order_ok (⟨(lget row (w64 ((w64 ((w64 (v12 + m)) - 1)) - v18))).Row, (lget row (w64 ((w64 ((w64 (v12 + m)) - 1)) - v18))).Col, (lget row (w64 ((w64 ((w64 (v12 + m)) - 1)) - v18))).Time, (lget row (w64 ((w64 ((w64 (v12 + m)) - 1)) - v18))).Gone, (lget row (w64 ((w64 ((w64 (v12 + m)) - 1)) - v18))).Value⟩ : Cell) (⟨(lget row v18).Row, (lget row v18).Col, (lget row v18).Time, (lget row v18).Gone, (lget row v18).Value⟩ : Cell) x5 h33) .nil))))) ?_
        refine Nif hF (fun hb hF => ?_) (fun hb hF => ?_)
        ·refine NR [] [0, 1, 2, 3, 4, 18, 19, 20, 21, 22] [] [100000] [(20, .i (w64 (v18 + 1)))] .nil ?_
         exact Nrnd [] hF ih1 (by kernel_rfl)
        ·refine NR [] [0, 1, 2, 3, 4, 18, 19, 20, 21, 22] [] [100000] [(21, .i v18)] .nil ?_
         exact Nrnd [] hF ih1 (by kernel_rfl)
       ·refine Nexit rfl ?_
        have hF := inrO_done hF dn1
        exact metP v17.1 [] hF (by kernel_rfl)
      ·intro v14 hF
       have hF : slices_symMergeCmpFunc_api_Cell_v1_J5 a0 m b row rec v12 v14 = some r := hF
       unfold slices_symMergeCmpFunc_api_Cell_v1_J5 at hF
       refine NR [] [0, 1, 2, 3, 4, 18, 20, 24] [] [100000] [(24, .i (w64 ((w64 (v12 + m)) - v14)))] .nil ?_
       refine NR [] [0, 1, 2, 3, 4, 18, 20, 24, 185] [] [100000] [(185, .bool ((decide (v14 < m)) && (decide (m < (w64 ((w64 (v12 + m)) - v14))))))] .nil ?_
       obtain ⟨v15, hv, hF⟩ := ob_elim hF
       refine Nmeet (⟨[(0, .row 100000 0), (1, .i a0), (3, .i b), (4, .fn 109 []), (18, .i v12), (20, .i v14), (24, .i (w64 ((w64 (v12 + m)) - v14)))], [], [(100000, ⟨96, 5, 0, 0, rc, rn, 0, [], (v15.map e_Cell)⟩)], [], []⟩ : S) ?_ ?_
       ·have hF := hv
        refine Nif hF (fun hb hF => ?_) (fun hb hF => ?_)
        ·obtain ⟨x2, h26, hF⟩ := ob_elim hF
         refine VR [.callE [] [100000] [] [] (.tup []) ⟨[], [], [(100000, ⟨96, 5, 0, 0, rc, rn, 0, [], (x2.map e_Cell)⟩)], [], []⟩] [0, 1, 3, 4, 18, 20, 24] [] [100000] [] [] [] [(100000, ⟨96, 5, 0, 0, rc, rn, 0, [], (x2.map e_Cell)⟩)] [] (hc (Pe.ren (slices_rotateCmpFunc_api_Cell_v1_ok v14 m (w64 ((w64 (v12 + m)) - v14)) row 0 rc rn x2 h26) ⟨[], [], [], []⟩) .nil) ?_
         cases hF
         exact met [] (by kernel_rfl)
        ·cases hF
         exact met [] (by kernel_rfl)
       ·refine NR [] [0, 1, 3, 4, 18, 20, 24, 199] [] [100000] [(199, .bool ((decide (a0 < v14)) && (decide (v14 < v12))))] .nil ?_
        obtain ⟨v16, hv, hF⟩ := ob_elim hF
        refine Nmeet (⟨[(0, .row 100000 0), (3, .i b), (4, .fn 109 []), (18, .i v12), (24, .i (w64 ((w64 (v12 + m)) - v14)))], [], [(100000, ⟨96, 5, 0, 0, rc, rn, 0, [], (v16.map e_Cell)⟩)], [], []⟩ : S) ?_ ?_
        ·have hF := hv
         refine Nif hF (fun hb hF => ?_) (fun hb hF => ?_)
         ·obtain ⟨x3, h27, hF⟩ := ob_elim hF
          refine VR [.callE [] [100000] [] [] (.tup []) ⟨[], [], [(100000, ⟨96, 5, 0, 0, rc, rn, 0, [], (x3.map e_Cell)⟩)], [], []⟩] [0, 3, 4, 18, 24] [] [100000] [] [] [] [(100000, ⟨96, 5, 0, 0, rc, rn, 0, [], (x3.map e_Cell)⟩)] [] (hc (Pe.ren (ih (a0, v14, v12, v15) 0 rc rn x3 h27) ⟨[], [], [], []⟩) .nil) ?_
          cases hF
          exact met [] (by kernel_rfl)
         ·cases hF
          exact met [] (by kernel_rfl)
        ·refine NR [] [0, 3, 4, 18, 24, 213] [] [100000] [(213, .bool ((decide (v12 < (w64 ((w64 (v12 + m)) - v14)))) && (decide ((w64 ((w64 (v12 + m)) - v14)) < b))))] .nil ?_
         refine Nif hF (fun hb hF => ?_) (fun hb hF => ?_)
         ·obtain ⟨x4, h28, hF⟩ := ob_elim hF
          refine VR [.callE [] [100000] [] [] (.tup []) ⟨[], [], [(100000, ⟨96, 5, 0, 0, rc, rn, 0, [], (x4.map e_Cell)⟩)], [], []⟩] [] [] [100000] [] [] [] [(100000, ⟨96, 5, 0, 0, rc, rn, 0, [], (x4.map e_Cell)⟩)] [] (hc (Pe.ren (ih (v12, w64 ((w64 (v12 + m)) - v14), b, v16) 0 rc rn x4 h28) ⟨[], [], [], []⟩) .nil) ?_
          cases hF
          exact Wk_end (hfin _ ⟨[100000], [], [100000], [], [], [], by kernel_rfl⟩)
         ·cases hF
          exact Wk_end (hfin _ ⟨[100000], [], [100000], [], [], [], by kernel_rfl⟩)
 obtain ⟨k, hF⟩ := recO_elim hF
 exact key k _ rk rc rn r hF

end G
end Go.Proofs.Ytollmifjbcccgaa
