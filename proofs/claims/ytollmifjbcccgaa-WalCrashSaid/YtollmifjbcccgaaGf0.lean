/- The program's functions as plain functions, and that they are these. Written by a program (dec2.py). -/
import Derived.Test.YtollmifjbcccgaaTys
namespace Go.Proofs.Ytollmifjbcccgaa
open Go Go.Dm
set_option linter.unusedVariables false
set_option linter.unusedSimpArgs false
set_option maxRecDepth 100000
namespace G
/- tabularylaw.oneNote -/
noncomputable def law_oneNote  : Note :=
 lt ([(⟨([114] : List UInt8), ([99] : List UInt8), 7, false, ([97] : List UInt8)⟩ : Cell)]) fun (v : List Cell) =>
 (⟨1, v⟩ : Note)
theorem law_oneNote_ok  (r : Note) (hF : law_oneNote  = r) : Pe Try.prog 52 S.none [] (.agg (c_Note r)) S.none := by
 refine PeN 4 [.cell 0 24] [24] Ty.ok Fn.b52 Try.func52 ?_
 intro Q g hfin
 unfold law_oneNote at hF
 refine VR [] [0] [0] [] [] [(0, .ptr 0 0)] [(0, [.i 0, .nils])] [] [] .nil ?_
 refine NRL ([(⟨([114] : List UInt8), ([99] : List UInt8), 7, false, ([97] : List UInt8)⟩ : Cell)]) (fun v : List Cell => ([], [(0, [.i 1, .sl 5 (v.map e_Cell)])], [], [])) [.sealed] [0] [0] [] [] .nil (fun v hv => ?_)
 have hF := lt_elim hF hv
 cases hF
 exact Wk_ret (hfin _ ⟨[], [], [], [], [], [], by kernel_rfl⟩)

/- wal.fault -/
noncomputable def wal_fault (code : Int) (at0 : Int) : Fault :=
 (⟨code, at0⟩ : Fault)
theorem wal_fault_ok (code : Int) (at0 : Int) (r : Fault) (hF : wal_fault code at0 = r) : Pe Try.prog 63 S.none [.i code, .i at0] (.agg (c_Fault r)) S.none := by
 refine PeN 8 [.cell 4 31] [31] Ty.ok Fn.b63 Try.func63 ?_
 intro Q g hfin
 unfold wal_fault at hF
 refine VR [] [0, 1, 4] [4] [] [] [(4, .ptr 4 0)] [(4, [.i 0, .i 0])] [] [] .nil ?_
 refine VR [] [4] [4] [] [] [] [(4, [.i code, .i at0])] [] [] .nil ?_
 cases hF
 exact Wk_ret (hfin _ ⟨[], [], [], [], [], [], by kernel_rfl⟩)

/- cell.fault -/
noncomputable def cell_fault (code : Int) (at0 : Int) : Fault :=
 (⟨code, at0⟩ : Fault)
theorem cell_fault_ok (code : Int) (at0 : Int) (r : Fault) (hF : cell_fault code at0 = r) : Pe Try.prog 103 S.none [.i code, .i at0] (.agg (c_Fault r)) S.none := by
 refine PeN 8 [.cell 4 31] [31] Ty.ok Fn.b103 Try.func103 ?_
 intro Q g hfin
 unfold cell_fault at hF
 refine VR [] [0, 1, 4] [4] [] [] [(4, .ptr 4 0)] [(4, [.i 0, .i 0])] [] [] .nil ?_
 refine VR [] [4] [4] [] [] [] [(4, [.i code, .i at0])] [] [] .nil ?_
 cases hF
 exact Wk_ret (hfin _ ⟨[], [], [], [], [], [], by kernel_rfl⟩)

/- cell.code -/
noncomputable def cell_code (c : Cell) : Int :=
 if ((((decide (c.Row = ([] : List UInt8))) || (decide (40 < (c.Row.length : Int)))) || (decide (40 < (c.Col.length : Int)))) || (decide (200 < (c.Value.length : Int)))) = true then
  8
 else
  if ((decide (c.Time < 0)) || (decide (1000000000 < c.Time))) = true then
   3
  else
   if (c.Gone && (!decide (c.Value = ([] : List UInt8)))) = true then
    5
   else
    0
theorem cell_code_ok (c : Cell) (r : Int) (hF : cell_code c = r) : Pe Try.prog 108 S.none [.agg (c_Cell c)] (.i r) S.none := by
 refine PeN 42 [.tmp 2] [3] Ty.ok Fn.b108 Try.func108 ?_
 intro Q g hfin
 unfold cell_code at hF
 refine VR [] [1] [1] [] [] [(1, .ptr 1 0)] [(1, (c_Cell c))] [] [] .nil ?_
 refine Nblk ?_
 refine NR [] [1, 3] [1] [] [(3, .bool ((((decide (c.Row = ([] : List UInt8))) || (decide (40 < (c.Row.length : Int)))) || (decide (40 < (c.Col.length : Int)))) || (decide (200 < (c.Value.length : Int)))))] .nil ?_
 refine Nif hF (fun hb hF => ?_) (fun hb hF => ?_)
 ·refine NR [] [2] [] [] [(2, .i 8)] .nil ?_
  cases hF
  exact Wk_ret (hfin _ ⟨[], [], [], [], [], [], by kernel_rfl⟩)
 ·refine NR [] [1, 25] [1] [] [(25, .bool ((decide (c.Time < 0)) || (decide (1000000000 < c.Time))))] .nil ?_
  refine Nif hF (fun hb hF => ?_) (fun hb hF => ?_)
  ·refine NR [] [2] [] [] [(2, .i 3)] .nil ?_
   cases hF
   exact Wk_ret (hfin _ ⟨[], [], [], [], [], [], by kernel_rfl⟩)
  ·refine NR [] [34] [] [] [(34, .bool (c.Gone && (!decide (c.Value = ([] : List UInt8)))))] .nil ?_
   refine Nif hF (fun hb hF => ?_) (fun hb hF => ?_)
   ·refine NR [] [2] [] [] [(2, .i 5)] .nil ?_
    cases hF
    exact Wk_ret (hfin _ ⟨[], [], [], [], [], [], by kernel_rfl⟩)
   ·refine NR [] [2] [] [] [(2, .i 0)] .nil ?_
    cases hF
    exact Wk_ret (hfin _ ⟨[], [], [], [], [], [], by kernel_rfl⟩)

/- cmp.isNaN[string] -/
noncomputable def cmp_isNaN_string (x : List UInt8) : Bool :=
 !decide (x = x)
theorem cmp_isNaN_string_ok (x : List UInt8) (r : Bool) (hF : cmp_isNaN_string x = r) : Pe Try.prog 130 S.none [.str x] (.bool r) S.none := by
 refine PeN 6 [.tmp 2] [4] Ty.ok Fn.b130 Try.func130 ?_
 intro Q g hfin
 unfold cmp_isNaN_string at hF
 refine NR [] [0] [] [] [] .nil ?_
 refine NR [] [2] [] [] [(2, .bool (!decide (x = x)))] .nil ?_
 cases hF
 exact Wk_ret (hfin _ ⟨[], [], [], [], [], [], by kernel_rfl⟩)

/- cmp.Compare[string] -/
noncomputable def cmp_Compare_string (x : List UInt8) (y0 : List UInt8) : Int :=
 lt (cmp_isNaN_string x) fun x1 =>
 lt (cmp_isNaN_string y0) fun x2 =>
 if x1 = true then
  if x2 = true then
   0
  else
   (-1)
 else
  if x2 = true then
   1
  else
   if (Op.bytesLess x y0) = true then
    (-1)
   else
    if (Op.bytesLess y0 x) = true then
     1
    else
     0
theorem cmp_Compare_string_ok (x : List UInt8) (y0 : List UInt8) (r : Int) (hF : cmp_Compare_string x y0 = r) : Pe Try.prog 122 S.none [.str x, .str y0] (.i r) S.none := by
 refine PeN 20 [.tmp 4] [3] Ty.ok Fn.b122 Try.func122 ?_
 intro Q g hfin
 unfold cmp_Compare_string at hF
 refine NR [] [0, 1] [] [] [] .nil ?_
 obtain ⟨x1, h0, hF⟩ := lt_split hF
 refine NR [.callB (.bool x1)] [0, 1, 5] [] [] [(5, .bool x1)] (hc (cmp_isNaN_string_ok x x1 h0) .nil) ?_
 obtain ⟨x2, h1, hF⟩ := lt_split hF
 refine NR [.callB (.bool x2)] [0, 1, 5, 6] [] [] [(6, .bool x2)] (hc (cmp_isNaN_string_ok y0 x2 h1) .nil) ?_
 refine NR [] [0, 1, 6, 11] [] [] [(11, .bool x1)] .nil ?_
 refine Nif hF (fun hb hF => ?_) (fun hb hF => ?_)
 ·refine NR [] [12] [] [] [(12, .bool x2)] .nil ?_
  refine Nif hF (fun hb hF => ?_) (fun hb hF => ?_)
  ·refine NR [] [4] [] [] [(4, .i 0)] .nil ?_
   cases hF
   exact Wk_ret (hfin _ ⟨[], [], [], [], [], [], by kernel_rfl⟩)
  ·refine NR [] [4] [] [] [(4, .i (-1))] .nil ?_
   cases hF
   exact Wk_ret (hfin _ ⟨[], [], [], [], [], [], by kernel_rfl⟩)
 ·refine NR [] [0, 1, 13] [] [] [(13, .bool x2)] .nil ?_
  refine Nif hF (fun hb hF => ?_) (fun hb hF => ?_)
  ·refine NR [] [4] [] [] [(4, .i 1)] .nil ?_
   cases hF
   exact Wk_ret (hfin _ ⟨[], [], [], [], [], [], by kernel_rfl⟩)
  ·refine NR [] [0, 1, 16] [] [] [(16, .bool (Op.bytesLess x y0))] .nil ?_
   refine Nif hF (fun hb hF => ?_) (fun hb hF => ?_)
   ·refine NR [] [4] [] [] [(4, .i (-1))] .nil ?_
    cases hF
    exact Wk_ret (hfin _ ⟨[], [], [], [], [], [], by kernel_rfl⟩)
   ·refine NR [] [19] [] [] [(19, .bool (Op.bytesLess y0 x))] .nil ?_
    refine Nif hF (fun hb hF => ?_) (fun hb hF => ?_)
    ·refine NR [] [4] [] [] [(4, .i 1)] .nil ?_
     cases hF
     exact Wk_ret (hfin _ ⟨[], [], [], [], [], [], by kernel_rfl⟩)
    ·refine NR [] [4] [] [] [(4, .i 0)] .nil ?_
     cases hF
     exact Wk_ret (hfin _ ⟨[], [], [], [], [], [], by kernel_rfl⟩)

/- cmp.isNaN[int] -/
noncomputable def cmp_isNaN_int (x : Int) : Bool :=
 !decide (x = x)
theorem cmp_isNaN_int_ok (x : Int) (r : Bool) (hF : cmp_isNaN_int x = r) : Pe Try.prog 131 S.none [.i x] (.bool r) S.none := by
 refine PeN 6 [.tmp 2] [4] Ty.ok Fn.b131 Try.func131 ?_
 intro Q g hfin
 unfold cmp_isNaN_int at hF
 refine NR [] [0] [] [] [] .nil ?_
 refine NR [] [2] [] [] [(2, .bool (!decide (x = x)))] .nil ?_
 cases hF
 exact Wk_ret (hfin _ ⟨[], [], [], [], [], [], by kernel_rfl⟩)

/- cmp.Compare[int] -/
noncomputable def cmp_Compare_int (x : Int) (y0 : Int) : Int :=
 lt (cmp_isNaN_int x) fun x1 =>
 lt (cmp_isNaN_int y0) fun x2 =>
 if x1 = true then
  if x2 = true then
   0
  else
   (-1)
 else
  if x2 = true then
   1
  else
   if (decide (x < y0)) = true then
    (-1)
   else
    if (decide (y0 < x)) = true then
     1
    else
     0
theorem cmp_Compare_int_ok (x : Int) (y0 : Int) (r : Int) (hF : cmp_Compare_int x y0 = r) : Pe Try.prog 123 S.none [.i x, .i y0] (.i r) S.none := by
 refine PeN 20 [.tmp 4] [3] Ty.ok Fn.b123 Try.func123 ?_
 intro Q g hfin
 unfold cmp_Compare_int at hF
 refine NR [] [0, 1] [] [] [] .nil ?_
 obtain ⟨x1, h0, hF⟩ := lt_split hF
 refine NR [.callB (.bool x1)] [0, 1, 5] [] [] [(5, .bool x1)] (hc (cmp_isNaN_int_ok x x1 h0) .nil) ?_
 obtain ⟨x2, h1, hF⟩ := lt_split hF
 refine NR [.callB (.bool x2)] [0, 1, 5, 6] [] [] [(6, .bool x2)] (hc (cmp_isNaN_int_ok y0 x2 h1) .nil) ?_
 refine NR [] [0, 1, 6, 11] [] [] [(11, .bool x1)] .nil ?_
 refine Nif hF (fun hb hF => ?_) (fun hb hF => ?_)
 ·refine NR [] [12] [] [] [(12, .bool x2)] .nil ?_
  refine Nif hF (fun hb hF => ?_) (fun hb hF => ?_)
  ·refine NR [] [4] [] [] [(4, .i 0)] .nil ?_
   cases hF
   exact Wk_ret (hfin _ ⟨[], [], [], [], [], [], by kernel_rfl⟩)
  ·refine NR [] [4] [] [] [(4, .i (-1))] .nil ?_
   cases hF
   exact Wk_ret (hfin _ ⟨[], [], [], [], [], [], by kernel_rfl⟩)
 ·refine NR [] [0, 1, 13] [] [] [(13, .bool x2)] .nil ?_
  refine Nif hF (fun hb hF => ?_) (fun hb hF => ?_)
  ·refine NR [] [4] [] [] [(4, .i 1)] .nil ?_
   cases hF
   exact Wk_ret (hfin _ ⟨[], [], [], [], [], [], by kernel_rfl⟩)
  ·refine NR [] [0, 1, 16] [] [] [(16, .bool (decide (x < y0)))] .nil ?_
   refine Nif hF (fun hb hF => ?_) (fun hb hF => ?_)
   ·refine NR [] [4] [] [] [(4, .i (-1))] .nil ?_
    cases hF
    exact Wk_ret (hfin _ ⟨[], [], [], [], [], [], by kernel_rfl⟩)
   ·refine NR [] [19] [] [] [(19, .bool (decide (y0 < x)))] .nil ?_
    refine Nif hF (fun hb hF => ?_) (fun hb hF => ?_)
    ·refine NR [] [4] [] [] [(4, .i 1)] .nil ?_
     cases hF
     exact Wk_ret (hfin _ ⟨[], [], [], [], [], [], by kernel_rfl⟩)
    ·refine NR [] [4] [] [] [(4, .i 0)] .nil ?_
     cases hF
     exact Wk_ret (hfin _ ⟨[], [], [], [], [], [], by kernel_rfl⟩)

/- cmp.Or[int] -/
noncomputable def cmp_Or_int_J1 (v : Unit) : Option Int :=
 some 0
noncomputable def cmp_Or_int_B1 (vals : List Int) (v1 : Int) : Option (Int ⊕ Int) :=
 if (decide (v1 < (vals.length : Int))) = true then
  asrt (0 ≤ v1 ∧ v1 < (vals.length : Int)) <|
  if (!decide ((lget vals v1) = 0)) = true then
   some (Sum.inr (lget vals v1))
  else
   some (Sum.inl (w64 (v1 + 1)))
 else
  inrO (cmp_Or_int_J1 ())
noncomputable def cmp_Or_int_L1 (vals : List Int) (v0 : Int) : Option Int :=
 loopO (fun y => cmp_Or_int_B1 vals y) v0
noncomputable def cmp_Or_int (vals : List Int) : Option Int :=
 cmp_Or_int_L1 vals 0
theorem cmp_Or_int_ok (vals : List Int) (r : Int) (hF : cmp_Or_int vals = some r) : Pe Try.prog 121 S.none [.sl 1 (vals.map e_i64)] (.i r) S.none := by
 refine PeN 18 [.tmp 2] [3] Ty.ok Fn.b121 Try.func121 ?_
 intro Q g hfin
 unfold cmp_Or_int at hF
 refine NR [] [0] [] [] [] .nil ?_
 refine NR [] [0, 3] [] [] [(3, .i 0)] .nil ?_
 refine NR [.nat (vals.length : Int)] [3, 6, 7, 8] [] [] [(6, .sl 1 (vals.map e_i64)), (7, .i (vals.length : Int)), (8, .i 0)] (hc (len_ok e_i64 vals) .nil) ?_
 refine NmeetP (fun v : Unit => (⟨[(3, .i 0)], [], [], [], []⟩ : S)) (fun v => cmp_Or_int_J1 v = some r) ?_ ?_
 ·refine Nblk ?_
  unfold cmp_Or_int_L1 at hF
  refine Niter (fun v1 : Int => (⟨[(3, .i 0), (6, .sl 1 (vals.map e_i64)), (7, .i (vals.length : Int)), (8, .i v1)], [], [], [], []⟩ : S)) [] hF (by kernel_rfl) ?_
  intro n1 v1 y1 hF ih1 dn1
  unfold cmp_Or_int_B1 at hF
  refine NR [] [3, 6, 7, 8, 9] [] [] [(9, .bool (decide (v1 < (vals.length : Int))))] .nil ?_
  refine Nif hF (fun hb hF => ?_) (fun hb hF => ?_)
  ·refine Nblk ?_
   obtain ⟨h0, hF⟩ := asrt_elim hF
   refine NR [.av (e_i64 (lget vals v1))] [3, 5, 6, 7, 8] [] [] [(5, .i (lget vals v1))] (hc (idx_ok e_i64 h0) .nil) ?_
   refine NR [] [3, 5, 6, 7, 8, 14] [] [] [(14, .bool (!decide ((lget vals v1) = 0)))] .nil ?_
   refine Nif hF (fun hb hF => ?_) (fun hb hF => ?_)
   ·refine NR [] [2] [] [] [(2, .i (lget vals v1))] .nil ?_
    have hF := ret_done hF dn1
    cases hF
    exact Wk_ret (hfin _ ⟨[], [], [], [], [], [], by kernel_rfl⟩)
   ·refine NR [] [3, 6, 7, 8] [] [] [(8, .i (w64 (v1 + 1)))] .nil ?_
    exact Nrnd [] hF ih1 (by kernel_rfl)
  ·refine Nexit rfl ?_
   have hF := inrO_done hF dn1
   exact metP () [] hF (by kernel_rfl)
 ·intro v hF
  have hF : cmp_Or_int_J1 v = some r := hF
  unfold cmp_Or_int_J1 at hF
  refine NR [] [2] [] [] [(2, .i 0)] .nil ?_
  cases hF
  exact Wk_ret (hfin _ ⟨[], [], [], [], [], [], by kernel_rfl⟩)

/- cell.Order -/
noncomputable def cell_Order (a0 : Cell) (b : Cell) : Option Int :=
 lt (cmp_Compare_string a0.Row b.Row) fun x =>
 lt (cmp_Compare_string a0.Col b.Col) fun x1 =>
 lt (cmp_Compare_int b.Time a0.Time) fun x2 =>
 ob (cmp_Or_int ([x, x1, x2] : List Int)) fun x3 =>
 some x3
theorem cell_Order_ok (a0 : Cell) (b : Cell) (r : Int) (hF : cell_Order a0 b = some r) : Pe Try.prog 109 S.none [.agg (c_Cell a0), .agg (c_Cell b)] (.i r) S.none := by
 refine PeN 22 [.tmp 4] [3] Ty.ok Fn.b109 Try.func109 ?_
 intro Q g hfin
 unfold cell_Order at hF
 refine VR [] [2, 3] [2, 3] [] [] [(2, .ptr 2 0), (3, .ptr 3 0)] [(2, (c_Cell a0)), (3, (c_Cell b))] [] [] .nil ?_
 obtain ⟨x, h0, hF⟩ := lt_split hF
 obtain ⟨x1, h1, hF⟩ := lt_split hF
 obtain ⟨x2, h2, hF⟩ := lt_split hF
 obtain ⟨x3, h3, hF⟩ := ob_elim hF
 refine ND [.callB (.i x), .callB (.i x1), .callB (.i x2), .sealed, .callB (.i x3)] [4] [] [] [(4, .i x3)] (hc (cmp_Compare_string_ok a0.Row b.Row x h0) (hc (cmp_Compare_string_ok a0.Col b.Col x1 h1) (hc (cmp_Compare_int_ok b.Time a0.Time x2 h2) (hc (cmp_Or_int_ok ([x, x1, x2] : List Int) x3 h3) .nil)))) ?_
 cases hF
 exact Wk_ret (hfin _ ⟨[], [], [], [], [], [], by kernel_rfl⟩)

/- cell.Check -/
noncomputable def cell_Check_J1 (v : Fault) : Option Fault :=
 some (⟨0, 0⟩ : Fault)
noncomputable def cell_Check_B1 (l : List Cell) (v1 : Fault × Int) : Option ((Fault × Int) ⊕ Fault) :=
 if (decide (v1.2 < (l.length : Int))) = true then
  asrt (0 ≤ v1.2 ∧ v1.2 < (l.length : Int)) <|
  lt (cell_code (⟨(lget l v1.2).Row, (lget l v1.2).Col, (lget l v1.2).Time, (lget l v1.2).Gone, (lget l v1.2).Value⟩ : Cell)) fun x1 =>
  if (!decide (x1 = 0)) = true then
   lt (cell_fault x1 v1.2) fun x2 =>
   some (Sum.inr x2)
  else
   asrt ((decide (0 < v1.2)) = true → 0 ≤ w64 (v1.2 - 1) ∧ w64 (v1.2 - 1) < (l.length : Int)) <|
   ob (if (decide (0 < v1.2)) = true then (cell_Order (⟨(lget l (w64 (v1.2 - 1))).Row, (lget l (w64 (v1.2 - 1))).Col, (lget l (w64 (v1.2 - 1))).Time, (lget l (w64 (v1.2 - 1))).Gone, (lget l (w64 (v1.2 - 1))).Value⟩ : Cell) (⟨(lget l v1.2).Row, (lget l v1.2).Col, (lget l v1.2).Time, (lget l v1.2).Gone, (lget l v1.2).Value⟩ : Cell)) else some default) fun x3 =>
   if ((decide (0 < v1.2)) && (decide (0 ≤ x3))) = true then
    lt (cell_fault 10 v1.2) fun x4 =>
    some (Sum.inr x4)
   else
    some (Sum.inl (v1.1, w64 (v1.2 + 1)))
 else
  inrO (cell_Check_J1 v1.1)
noncomputable def cell_Check_L1 (l : List Cell) (v0 : Fault × Int) : Option Fault :=
 loopO (fun y => cell_Check_B1 l y) v0
noncomputable def cell_Check (l : List Cell) : Option Fault :=
 if (decide (1000 < (l.length : Int))) = true then
  lt (cell_fault 2 0) fun x =>
  some x
 else
  cell_Check_L1 l ((⟨0, 0⟩ : Fault), 0)
theorem cell_Check_ok (l : List Cell) (r : Fault) (hF : cell_Check l = some r) : Pe Try.prog 75 S.none [.sl 5 (l.map e_Cell)] (.agg (c_Fault r)) S.none := by
 refine PeN 40 [.cell 2 31] [31] Ty.ok Fn.b75 Try.func75 ?_
 intro Q g hfin
 unfold cell_Check at hF
 refine VR [] [0, 2] [2] [] [] [(2, .ptr 2 0)] [(2, [.i 0, .i 0])] [] [] .nil ?_
 refine NR [.nat (l.length : Int)] [0, 2, 8] [2] [] [(8, .bool (decide (1000 < (l.length : Int))))] (hc (len_ok e_Cell l) .nil) ?_
 refine Nif hF (fun hb hF => ?_) (fun hb hF => ?_)
 ·obtain ⟨x, h0, hF⟩ := lt_split hF
  refine VR [.callB (.agg (c_Fault x))] [2] [2] [] [] [] [(2, (c_Fault x))] [] [] (hc (cell_fault_ok 2 0 x h0) .nil) ?_
  cases hF
  exact Wk_ret (hfin _ ⟨[], [], [], [], [], [], by kernel_rfl⟩)
 ·refine NR [.nat (l.length : Int)] [0, 2, 10, 11, 12] [2] [] [(10, .sl 5 (l.map e_Cell)), (11, .i (l.length : Int)), (12, .i 0)] (hc (len_ok e_Cell l) .nil) ?_
  refine NmeetP (fun v : Fault => (⟨[(2, .ptr 2 0)], [(2, (c_Fault v))], [], [], []⟩ : S)) (fun v => cell_Check_J1 v = some r) ?_ ?_
  ·refine Nblk ?_
   unfold cell_Check_L1 at hF
   refine Niter (fun v1 : Fault × Int => (⟨[(0, .sl 5 (l.map e_Cell)), (2, .ptr 2 0), (10, .sl 5 (l.map e_Cell)), (11, .i (l.length : Int)), (12, .i v1.2)], [(2, (c_Fault v1.1))], [], [], []⟩ : S)) [] hF (by kernel_rfl) ?_
   intro n1 v1 y1 hF ih1 dn1
   unfold cell_Check_B1 at hF
   refine NR [] [0, 2, 10, 11, 12, 13] [2] [] [(13, .bool (decide (v1.2 < (l.length : Int))))] .nil ?_
   refine Nif hF (fun hb hF => ?_) (fun hb hF => ?_)
   ·refine Nblk ?_
    obtain ⟨h1, hF⟩ := asrt_elim hF
    refine VR [.av (e_Cell (lget l v1.2))] [0, 2, 3, 4, 10, 11, 12] [2, 4] [] [] [(3, .i v1.2), (4, .ptr 4 0)] [(4, (c_Cell (lget l v1.2)))] [] [] (hc (idx_ok e_Cell h1) .nil) ?_
    obtain ⟨x1, h2, hF⟩ := lt_split hF
    refine NR [.callB (.i x1)] [0, 2, 3, 4, 5, 10, 11, 12] [2, 4] [] [(5, .i x1)] (hc (cell_code_ok (⟨(lget l v1.2).Row, (lget l v1.2).Col, (lget l v1.2).Time, (lget l v1.2).Gone, (lget l v1.2).Value⟩ : Cell) x1 h2) .nil) ?_
    refine NR [] [0, 2, 3, 4, 5, 10, 11, 12, 20] [2, 4] [] [(20, .bool (!decide (x1 = 0)))] .nil ?_
    refine Nif hF (fun hb hF => ?_) (fun hb hF => ?_)
    ·obtain ⟨x2, h3, hF⟩ := lt_split hF
     refine VR [.callB (.agg (c_Fault x2))] [2] [2] [] [] [] [(2, (c_Fault x2))] [] [] (hc (cell_fault_ok x1 v1.2 x2 h3) .nil) ?_
     have hF := ret_done hF dn1
     cases hF
     exact Wk_ret (hfin _ ⟨[], [], [], [], [], [], by kernel_rfl⟩)
    ·obtain ⟨h4, hF⟩ := asrt_elim hF
     obtain ⟨x3, h5, hF⟩ := ob_elim hF
     refine ND [.av (e_Cell (lget l (w64 (v1.2 - 1)))), .callB (.i x3)] [0, 2, 3, 10, 11, 12, 35] [2] [] [(35, .bool ((decide (0 < v1.2)) && (decide (0 ≤ x3))))] (hc (fun (ga0 : (decide (0 < v1.2)) = true) => (idx_ok e_Cell (h4 ga0))) (hc (fun (ga0 : (decide (0 < v1.2)) = true) => (cell_Order_ok (⟨(lget l (w64 (v1.2 - 1))).Row, (lget l (w64 (v1.2 - 1))).Col, (lget l (w64 (v1.2 - 1))).Time, (lget l (w64 (v1.2 - 1))).Gone, (lget l (w64 (v1.2 - 1))).Value⟩ : Cell) (⟨(lget l v1.2).Row, (lget l v1.2).Col, (lget l v1.2).Time, (lget l v1.2).Gone, (lget l v1.2).Value⟩ : Cell) x3 (ite_t h5 ga0))) .nil)) ?_
     refine Nif hF (fun hb hF => ?_) (fun hb hF => ?_)
     ·obtain ⟨x4, h6, hF⟩ := lt_split hF
      refine VR [.callB (.agg (c_Fault x4))] [2] [2] [] [] [] [(2, (c_Fault x4))] [] [] (hc (cell_fault_ok 10 v1.2 x4 h6) .nil) ?_
      have hF := ret_done hF dn1
      cases hF
      exact Wk_ret (hfin _ ⟨[], [], [], [], [], [], by kernel_rfl⟩)
     ·refine NR [] [0, 2, 10, 11, 12] [2] [] [(12, .i (w64 (v1.2 + 1)))] .nil ?_
      exact Nrnd [] hF ih1 (by kernel_rfl)
   ·refine Nexit rfl ?_
    have hF := inrO_done hF dn1
    exact metP v1.1 [] hF (by kernel_rfl)
  ·intro v hF
   have hF : cell_Check_J1 v = some r := hF
   unfold cell_Check_J1 at hF
   refine VR [] [2] [2] [] [] [] [(2, [.i 0, .i 0])] [] [] .nil ?_
   cases hF
   exact Wk_ret (hfin _ ⟨[], [], [], [], [], [], by kernel_rfl⟩)

/- wal.Check -/
noncomputable def wal_Check (num : Note) : Option Fault :=
 if ((decide (num.Seq < 1)) || (decide (1000000000 < num.Seq))) = true then
  lt (wal_fault 3 (-1)) fun x =>
  some x
 else
  if ((decide ((num.Cells.length : Int) = 0)) || (decide (20 < (num.Cells.length : Int)))) = true then
   lt (wal_fault 2 (-1)) fun x1 =>
   some x1
  else
   ob (cell_Check num.Cells) fun x2 =>
   some x2
theorem wal_Check_ok (num : Note) (r : Fault) (hF : wal_Check num = some r) : Pe Try.prog 61 S.none [.agg (c_Note num)] (.agg (c_Fault r)) S.none := by
 refine PeN 28 [.cell 2 31] [31] Ty.ok Fn.b61 Try.func61 ?_
 intro Q g hfin
 unfold wal_Check at hF
 refine VR [] [1, 2] [1, 2] [] [] [(1, .ptr 1 0), (2, .ptr 2 0)] [(1, (c_Note num)), (2, [.i 0, .i 0])] [] [] .nil ?_
 refine Nblk ?_
 refine NR [] [1, 2, 3] [1, 2] [] [(3, .bool ((decide (num.Seq < 1)) || (decide (1000000000 < num.Seq))))] .nil ?_
 refine Nif hF (fun hb hF => ?_) (fun hb hF => ?_)
 ·obtain ⟨x, h0, hF⟩ := lt_split hF
  refine VR [.callB (.agg (c_Fault x))] [2] [2] [] [] [] [(2, (c_Fault x))] [] [] (hc (wal_fault_ok 3 (-1) x h0) .nil) ?_
  cases hF
  exact Wk_ret (hfin _ ⟨[], [], [], [], [], [], by kernel_rfl⟩)
 ·refine NR [.nat (num.Cells.length : Int), .nat (num.Cells.length : Int)] [1, 2, 13] [1, 2] [] [(13, .bool ((decide ((num.Cells.length : Int) = 0)) || (decide (20 < (num.Cells.length : Int)))))] (hc (len_ok e_Cell num.Cells) (hc (fun (_ : (!(decide ((num.Cells.length : Int) = 0))) = true) => (len_ok e_Cell num.Cells)) .nil)) ?_
  refine Nif hF (fun hb hF => ?_) (fun hb hF => ?_)
  ·obtain ⟨x1, h1, hF⟩ := lt_split hF
   refine VR [.callB (.agg (c_Fault x1))] [2] [2] [] [] [] [(2, (c_Fault x1))] [] [] (hc (wal_fault_ok 2 (-1) x1 h1) .nil) ?_
   cases hF
   exact Wk_ret (hfin _ ⟨[], [], [], [], [], [], by kernel_rfl⟩)
  ·obtain ⟨x2, h2, hF⟩ := ob_elim hF
   refine VR [.callB (.agg (c_Fault x2))] [2] [2] [] [] [] [(2, (c_Fault x2))] [] [] (hc (cell_Check_ok num.Cells x2 h2) .nil) ?_
   cases hF
   exact Wk_ret (hfin _ ⟨[], [], [], [], [], [], by kernel_rfl⟩)

/- wire.AddNum -/
noncomputable def wire_AddNum_v1_J1 (v : List UInt8 × Int) : Option (List UInt8) :=
 asrt (((v.1 ++ ([toU8 v.2] : List UInt8)).length : Int) * 1 ≤ 140737488351232) <|
 some (v.1 ++ ([toU8 v.2] : List UInt8))
noncomputable def wire_AddNum_v1_B1 (v1 : List UInt8 × Int) : Option ((List UInt8 × Int) ⊕ (List UInt8)) :=
 if (decide (127 < v1.2)) = true then
  asrt (((v1.1 ++ ([toU8 (((BitVec.ofInt 8 ((toU8 v1.2).toNat : Int) ||| BitVec.ofInt 8 ((128 : UInt8).toNat : Int)).toNat : Int))] : List UInt8)).length : Int) * 1 ≤ 140737488351232) <|
  lt ((v1.1 ++ ([toU8 (((BitVec.ofInt 8 ((toU8 v1.2).toNat : Int) ||| BitVec.ofInt 8 ((128 : UInt8).toNat : Int)).toNat : Int))] : List UInt8))) fun (v2 : List UInt8) =>
  some (Sum.inl (v2, Int.fdiv v1.2 (2 ^ (min (7 : Int).toNat 64))))
 else
  inrO (wire_AddNum_v1_J1 (v1.1, v1.2))
noncomputable def wire_AddNum_v1_L1 (v0 : List UInt8 × Int) : Option (List UInt8) :=
 loopO (fun y => wire_AddNum_v1_B1 y) v0
noncomputable def wire_AddNum_v1 (num : Int) : Option (List UInt8) :=
 wire_AddNum_v1_L1 (([] : List UInt8), num)
theorem wire_AddNum_v1_ok (num : Int) (r : List UInt8) (hF : wire_AddNum_v1 num = some r) : Pe Try.prog 78 S.none [.nils, .i num] (.row 14 1) ⟨[], [], [(14, .z 5 1 1 (r.map e_u8))], [], []⟩ := by
 refine PeN 20 [.tmp 4] [25] Ty.ok Fn.b78 Try.func78 ?_
 intro Q g hfin
 unfold wire_AddNum_v1 at hF
 refine NR [] [0, 1] [] [] [] .nil ?_
 refine NmeetP (fun v : List UInt8 × Int => (⟨[(0, .row 14 0), (1, .i v.2)], [], [(14, .z 5 1 0 (v.1.map e_u8))], [], []⟩ : S)) (fun v => wire_AddNum_v1_J1 v = some r) ?_ ?_
 ·refine Nblk ?_
  unfold wire_AddNum_v1_L1 at hF
  refine Wk_nilrow 0 60000 5 1 rfl rfl rfl ?_
  refine Wk_trim (fs := [0, 1]) (bs := []) (rs := [60000]) (ms := []) (aa := []) (nv := []) rfl ?_
  refine Wk_ren' ⟨[], [(60000, 14)], [], []⟩ rfl ?_
  refine Niter (fun v1 : List UInt8 × Int => (⟨[(0, .row 14 0), (1, .i v1.2)], [], [(14, .z 5 1 0 (v1.1.map e_u8))], [], []⟩ : S)) [] hF (by kernel_rfl) ?_
  intro n1 v1 y1 hF ih1 dn1
  unfold wire_AddNum_v1_B1 at hF
  refine NR [] [0, 1, 6] [] [14] [(6, .bool (decide (127 < v1.2)))] .nil ?_
  refine Nif hF (fun hb hF => ?_) (fun hb hF => ?_)
  ·refine Nblk ?_
   obtain ⟨h1, hF⟩ := asrt_elim hF
   refine NRL ((v1.1 ++ ([toU8 (((BitVec.ofInt 8 ((toU8 v1.2).toNat : Int) ||| BitVec.ofInt 8 ((128 : UInt8).toNat : Int)).toNat : Int))] : List UInt8))) (fun v2 : List UInt8 => ([(0, .row 14 1)], [], [(14, .z 5 1 1 (v2.map e_u8))], [])) [.sealed, .xs ((v1.1 ++ ([toU8 (((BitVec.ofInt 8 ((toU8 v1.2).toNat : Int) ||| BitVec.ofInt 8 ((128 : UInt8).toNat : Int)).toNat : Int))] : List UInt8)).map e_u8)] [0, 1] [] [14] [] (hc (app_ok e_u8 v1.1 ([toU8 (((BitVec.ofInt 8 ((toU8 v1.2).toNat : Int) ||| BitVec.ofInt 8 ((128 : UInt8).toNat : Int)).toNat : Int))] : List UInt8)) (hc (appl_ok e_u8 h1) .nil)) (fun v2 hv => ?_)
   have hF := lt_elim hF hv
   refine NR [] [0, 1] [] [14] [(1, .i (Int.fdiv v1.2 (2 ^ (min (7 : Int).toNat 64))))] (hc (by decide : (0 : Int) ≤ 7) .nil) ?_
   exact Nrnd [(14, ⟨0, true, true, false⟩)] hF ih1 (by kernel_rfl)
  ·refine Nexit rfl ?_
   have hF := inrO_done hF dn1
   exact metP (v1.1, v1.2) [] hF (by kernel_rfl)
 ·intro v hF
  have hF : wire_AddNum_v1_J1 v = some r := hF
  unfold wire_AddNum_v1_J1 at hF
  obtain ⟨h0, hF⟩ := asrt_elim hF
  refine VR [.sealed, .xs ((v.1 ++ ([toU8 v.2] : List UInt8)).map e_u8)] [4] [] [14] [] [(4, .row 14 1)] [] [(14, .z 5 1 1 ((v.1 ++ ([toU8 v.2] : List UInt8)).map e_u8))] [] (hc (app_ok e_u8 v.1 ([toU8 v.2] : List UInt8)) (hc (appl_ok e_u8 h0) .nil)) ?_
  cases hF
  exact Wk_ret (hfin _ ⟨[14], [], [14], [], [], [], by kernel_rfl⟩)

/- wire.AddNum -/
noncomputable def wire_AddNum_v2_J1 (v : List UInt8 × Int) : Option (List UInt8) :=
 asrt (((v.1 ++ ([toU8 v.2] : List UInt8)).length : Int) * 1 ≤ 140737488351232) <|
 some (v.1 ++ ([toU8 v.2] : List UInt8))
noncomputable def wire_AddNum_v2_B1 (v1 : List UInt8 × Int) : Option ((List UInt8 × Int) ⊕ (List UInt8)) :=
 if (decide (127 < v1.2)) = true then
  asrt (((v1.1 ++ ([toU8 (((BitVec.ofInt 8 ((toU8 v1.2).toNat : Int) ||| BitVec.ofInt 8 ((128 : UInt8).toNat : Int)).toNat : Int))] : List UInt8)).length : Int) * 1 ≤ 140737488351232) <|
  lt ((v1.1 ++ ([toU8 (((BitVec.ofInt 8 ((toU8 v1.2).toNat : Int) ||| BitVec.ofInt 8 ((128 : UInt8).toNat : Int)).toNat : Int))] : List UInt8))) fun (v2 : List UInt8) =>
  some (Sum.inl (v2, Int.fdiv v1.2 (2 ^ (min (7 : Int).toNat 64))))
 else
  inrO (wire_AddNum_v2_J1 (v1.1, v1.2))
noncomputable def wire_AddNum_v2_L1 (v0 : List UInt8 × Int) : Option (List UInt8) :=
 loopO (fun y => wire_AddNum_v2_B1 y) v0
noncomputable def wire_AddNum_v2 (num : Int) (row : List UInt8) : Option (List UInt8) :=
 wire_AddNum_v2_L1 (row, num)
theorem wire_AddNum_v2_ok (num : Int) (row : List UInt8) (rk : Nat) (rc : Nat) (rn : Bool) (r : List UInt8) (hF : wire_AddNum_v2 num row = some r) : Pe Try.prog 78 ⟨[], [], [(100000, ⟨5, 1, 0, rk, rc, rn, 0, [], (row.map e_u8)⟩)], [], []⟩ [.row 100000 0, .i num] (.row 100000 2) ⟨[], [], [(100000, ⟨5, 1, 2, rk, rc, rn, 0, [], (r.map e_u8)⟩)], [], []⟩ := by
 refine PeN 20 [.tmp 4] [25] Ty.ok Fn.b78 Try.func78 ?_
 intro Q g hfin
 unfold wire_AddNum_v2 at hF
 refine NR [] [0, 1] [] [100000] [] .nil ?_
 refine NmeetP (fun v : List UInt8 × Int => (⟨[(0, .row 100000 1), (1, .i v.2)], [], [(100000, ⟨5, 1, 1, rk, rc, rn, 0, [], (v.1.map e_u8)⟩)], [], []⟩ : S)) (fun v => wire_AddNum_v2_J1 v = some r) ?_ ?_
 ·refine Nblk ?_
  unfold wire_AddNum_v2_L1 at hF
  refine Niter (fun v1 : List UInt8 × Int => (⟨[(0, .row 100000 1), (1, .i v1.2)], [], [(100000, ⟨5, 1, 1, rk, rc, rn, 0, [], (v1.1.map e_u8)⟩)], [], []⟩ : S)) [(100000, ⟨1, true, true, false⟩)] hF (by kernel_rfl) ?_
  intro n1 v1 y1 hF ih1 dn1
  unfold wire_AddNum_v2_B1 at hF
  refine NR [] [0, 1, 6] [] [100000] [(6, .bool (decide (127 < v1.2)))] .nil ?_
  refine Nif hF (fun hb hF => ?_) (fun hb hF => ?_)
  ·refine Nblk ?_
   obtain ⟨h1, hF⟩ := asrt_elim hF
   refine NRL ((v1.1 ++ ([toU8 (((BitVec.ofInt 8 ((toU8 v1.2).toNat : Int) ||| BitVec.ofInt 8 ((128 : UInt8).toNat : Int)).toNat : Int))] : List UInt8))) (fun v2 : List UInt8 => ([(0, .row 100000 2)], [], [(100000, ⟨5, 1, 2, rk, rc, rn, 0, [], (v2.map e_u8)⟩)], [])) [.sealed, .xs ((v1.1 ++ ([toU8 (((BitVec.ofInt 8 ((toU8 v1.2).toNat : Int) ||| BitVec.ofInt 8 ((128 : UInt8).toNat : Int)).toNat : Int))] : List UInt8)).map e_u8)] [0, 1] [] [100000] [] (hc (app_ok e_u8 v1.1 ([toU8 (((BitVec.ofInt 8 ((toU8 v1.2).toNat : Int) ||| BitVec.ofInt 8 ((128 : UInt8).toNat : Int)).toNat : Int))] : List UInt8)) (hc (appl_ok e_u8 h1) .nil)) (fun v2 hv => ?_)
   have hF := lt_elim hF hv
   refine NR [] [0, 1] [] [100000] [(1, .i (Int.fdiv v1.2 (2 ^ (min (7 : Int).toNat 64))))] (hc (by decide : (0 : Int) ≤ 7) .nil) ?_
   exact Nrnd [(100000, ⟨1, true, true, false⟩)] hF ih1 (by kernel_rfl)
  ·refine Nexit rfl ?_
   have hF := inrO_done hF dn1
   exact metP (v1.1, v1.2) [] hF (by kernel_rfl)
 ·intro v hF
  have hF : wire_AddNum_v2_J1 v = some r := hF
  unfold wire_AddNum_v2_J1 at hF
  obtain ⟨h0, hF⟩ := asrt_elim hF
  refine VR [.sealed, .xs ((v.1 ++ ([toU8 v.2] : List UInt8)).map e_u8)] [4] [] [100000] [] [(4, .row 100000 2)] [] [(100000, ⟨5, 1, 2, rk, rc, rn, 0, [], ((v.1 ++ ([toU8 v.2] : List UInt8)).map e_u8)⟩)] [] (hc (app_ok e_u8 v.1 ([toU8 v.2] : List UInt8)) (hc (appl_ok e_u8 h0) .nil)) ?_
  cases hF
  exact Wk_ret (hfin _ ⟨[100000], [], [100000], [], [], [], by kernel_rfl⟩)

/- wire.AddText -/
noncomputable def wire_AddText_v1 (s0 : List UInt8) (row : List UInt8) : Option (List UInt8) :=
 ob (wire_AddNum_v2 (s0.length : Int) row) fun x =>
 asrt (((x ++ s0).length : Int) * 1 ≤ 140737488351232) <|
 some (x ++ s0)
theorem wire_AddText_v1_ok (s0 : List UInt8) (row : List UInt8) (rk : Nat) (rc : Nat) (rn : Bool) (r : List UInt8) (hF : wire_AddText_v1 s0 row = some r) : Pe Try.prog 79 ⟨[], [], [(100000, ⟨5, 1, 0, rk, rc, rn, 0, [], (row.map e_u8)⟩)], [], []⟩ [.row 100000 0, .str s0] (.row 100000 3) ⟨[], [], [(100000, ⟨5, 1, 3, rk, rc, rn, 0, [], (r.map e_u8)⟩)], [], []⟩ := by
 refine PeN 11 [.tmp 4] [25] Ty.ok Fn.b79 Try.func79 ?_
 intro Q g hfin
 unfold wire_AddText_v1 at hF
 refine NR [] [0, 1] [] [100000] [] .nil ?_
 obtain ⟨x, h0, hF⟩ := ob_elim hF
 obtain ⟨h1, hF⟩ := asrt_elim hF
 refine VR [.callE [] [100000] [] [] (.row 100000 2) ⟨[], [], [(100000, ⟨5, 1, 2, rk, rc, rn, 0, [], (x.map e_u8)⟩)], [], []⟩, .xs ((x ++ s0).map e_u8)] [4] [] [100000] [] [(4, .row 100000 3)] [] [(100000, ⟨5, 1, 3, rk, rc, rn, 0, [], ((x ++ s0).map e_u8)⟩)] [] (hc (Pe.ren (wire_AddNum_v2_ok (s0.length : Int) row rk rc rn x h0) ⟨[], [], [], []⟩) (hc (app_ok e_u8 x s0) (hc (appl_ok e_u8 h1) .nil))) ?_
 cases hF
 exact Wk_ret (hfin _ ⟨[100000], [], [100000], [], [], [], by kernel_rfl⟩)

/- cell.Add -/
noncomputable def cell_Add_v1 (c : Cell) (row : List UInt8) : Option (List UInt8) :=
 ob (wire_AddText_v1 c.Row row) fun x =>
 ob (wire_AddText_v1 c.Col x) fun x1 =>
 ob (
  if c.Gone = true then
   some (c, 1)
  else
   some (c, 0)) fun (v : Cell × Int) =>
 ob (wire_AddNum_v2 v.1.Time x1) fun x2 =>
 ob (wire_AddNum_v2 v.2 x2) fun x3 =>
 ob (wire_AddText_v1 v.1.Value x3) fun x4 =>
 some x4
theorem cell_Add_v1_ok (c : Cell) (row : List UInt8) (rk : Nat) (rc : Nat) (rn : Bool) (r : List UInt8) (hF : cell_Add_v1 c row = some r) : Pe Try.prog 104 ⟨[], [], [(100000, ⟨5, 1, 0, rk, rc, rn, 0, [], (row.map e_u8)⟩)], [], []⟩ [.row 100000 0, .agg (c_Cell c)] (.row 100000 13) ⟨[], [], [(100000, ⟨5, 1, 13, rk, rc, rn, 0, [], (r.map e_u8)⟩)], [], []⟩ := by
 refine PeN 24 [.tmp 4] [25] Ty.ok Fn.b104 Try.func104 ?_
 intro Q g hfin
 unfold cell_Add_v1 at hF
 refine VR [] [0, 3] [3] [100000] [] [(3, .ptr 3 0)] [(3, (c_Cell c))] [] [] .nil ?_
 obtain ⟨x, h0, hF⟩ := ob_elim hF
 obtain ⟨x1, h1, hF⟩ := ob_elim hF
 refine VD [.callE [] [100000] [] [] (.row 100000 3) ⟨[], [], [(100000, ⟨5, 1, 3, rk, rc, rn, 0, [], (x.map e_u8)⟩)], [], []⟩, .callE [] [100000] [] [] (.row 100000 6) ⟨[], [], [(100000, ⟨5, 1, 6, rk, rc, rn, 0, [], (x1.map e_u8)⟩)], [], []⟩] [0, 3] [3] [100000] [] [(0, .row 100000 6)] [] [(100000, ⟨5, 1, 6, rk, rc, rn, 0, [], (x1.map e_u8)⟩)] [] (hc (Pe.ren (wire_AddText_v1_ok c.Row row rk rc rn x h0) ⟨[], [], [], []⟩) (hc (Pe.ren (wire_AddText_v1_ok c.Col x rk rc rn x1 h1) ⟨[], [], [], [(100000, 3)]⟩) .nil)) ?_
 refine NR [] [0, 3, 5] [3] [100000] [(5, .i 0)] .nil ?_
 refine NR [] [0, 3, 5, 14] [3] [100000] [(14, .bool c.Gone)] .nil ?_
 obtain ⟨v, hv, hF⟩ := ob_elim hF
 refine Nmeet (⟨[(0, .row 100000 6), (3, .ptr 3 0), (5, .i v.2)], [(3, (c_Cell v.1))], [(100000, ⟨5, 1, 6, rk, rc, rn, 0, [], (x1.map e_u8)⟩)], [], []⟩ : S) ?_ ?_
 ·have hF := hv
  refine Nif hF (fun hb hF => ?_) (fun hb hF => ?_)
  ·refine NR [] [0, 3, 5] [3] [100000] [(5, .i 1)] .nil ?_
   cases hF
   exact met [] (by kernel_rfl)
  ·cases hF
   exact met [] (by kernel_rfl)
 ·obtain ⟨x2, h2, hF⟩ := ob_elim hF
  obtain ⟨x3, h3, hF⟩ := ob_elim hF
  obtain ⟨x4, h4, hF⟩ := ob_elim hF
  refine VD [.callE [] [100000] [] [] (.row 100000 8) ⟨[], [], [(100000, ⟨5, 1, 8, rk, rc, rn, 0, [], (x2.map e_u8)⟩)], [], []⟩, .callE [] [100000] [] [] (.row 100000 10) ⟨[], [], [(100000, ⟨5, 1, 10, rk, rc, rn, 0, [], (x3.map e_u8)⟩)], [], []⟩, .callE [] [100000] [] [] (.row 100000 13) ⟨[], [], [(100000, ⟨5, 1, 13, rk, rc, rn, 0, [], (x4.map e_u8)⟩)], [], []⟩] [4] [] [100000] [] [(4, .row 100000 13)] [] [(100000, ⟨5, 1, 13, rk, rc, rn, 0, [], (x4.map e_u8)⟩)] [] (hc (Pe.ren (wire_AddNum_v2_ok v.1.Time x1 rk rc rn x2 h2) ⟨[], [], [], [(100000, 6)]⟩) (hc (Pe.ren (wire_AddNum_v2_ok v.2 x2 rk rc rn x3 h3) ⟨[], [], [], [(100000, 8)]⟩) (hc (Pe.ren (wire_AddText_v1_ok v.1.Value x3 rk rc rn x4 h4) ⟨[], [], [], [(100000, 10)]⟩) .nil))) ?_
  cases hF
  exact Wk_ret (hfin _ ⟨[100000], [], [100000], [], [], [], by kernel_rfl⟩)

/- wal.bytes -/
noncomputable def wal_bytes_J1 (v : List UInt8) : Option (List UInt8) :=
 some v
noncomputable def wal_bytes_B1 (v1 : List UInt8 × List Cell × Int × Int) : Option ((List UInt8 × List Cell × Int × Int) ⊕ (List UInt8)) :=
 if (decide (v1.2.2.2 < v1.2.2.1)) = true then
  asrt (0 ≤ v1.2.2.2 ∧ v1.2.2.2 < (v1.2.1.length : Int)) <|
  ob (cell_Add_v1 (⟨(lget v1.2.1 v1.2.2.2).Row, (lget v1.2.1 v1.2.2.2).Col, (lget v1.2.1 v1.2.2.2).Time, (lget v1.2.1 v1.2.2.2).Gone, (lget v1.2.1 v1.2.2.2).Value⟩ : Cell) v1.1) fun x1 =>
  some (Sum.inl (x1, v1.2.1, v1.2.2.1, w64 (v1.2.2.2 + 1)))
 else
  inrO (wal_bytes_J1 v1.1)
noncomputable def wal_bytes_L1 (v0 : List UInt8 × List Cell × Int × Int) : Option (List UInt8) :=
 loopO (fun y => wal_bytes_B1 y) v0
noncomputable def wal_bytes (num : Note) : Option (List UInt8) :=
 ob (wire_AddNum_v1 num.Seq) fun x =>
 wal_bytes_L1 (x, num.Cells, (num.Cells.length : Int), 0)
theorem wal_bytes_ok (num : Note) (r : List UInt8) (hF : wal_bytes num = some r) : Pe Try.prog 62 S.none [.agg (c_Note num)] (.row 8 0) ⟨[], [], [(8, .z 5 1 0 (r.map e_u8))], [], []⟩ := by
 refine PeN 21 [.tmp 2] [25] Ty.ok Fn.b62 Try.func62 ?_
 intro Q g hfin
 unfold wal_bytes at hF
 refine VR [] [1] [1] [] [] [(1, .ptr 1 0)] [(1, (c_Note num))] [] [] .nil ?_
 obtain ⟨x, h0, hF⟩ := ob_elim hF
 refine VR [.raw [0], .callE [] [] [] [] (.row 8 1) ⟨[], [], [(8, .z 5 1 1 (x.map e_u8))], [], []⟩] [1, 3] [1] [8] [] [(3, .row 8 1)] [] [(8, .z 5 1 1 (x.map e_u8))] [] (hc (Pe.ren (wire_AddNum_v1_ok num.Seq x h0) ⟨[], [(14, 8)], [], []⟩) .nil) ?_
 refine NR [.nat (num.Cells.length : Int)] [3, 10, 11, 12] [] [8] [(10, .sl 5 (num.Cells.map e_Cell)), (11, .i (num.Cells.length : Int)), (12, .i 0)] (hc (len_ok e_Cell num.Cells) .nil) ?_
 refine NmeetP (fun v : List UInt8 => (⟨[(3, .row 8 0)], [], [(8, .z 5 1 0 (v.map e_u8))], [], []⟩ : S)) (fun v => wal_bytes_J1 v = some r) ?_ ?_
 ·refine Nblk ?_
  unfold wal_bytes_L1 at hF
  refine Niter (fun v1 : List UInt8 × List Cell × Int × Int => (⟨[(3, .row 8 0), (10, .sl 5 (v1.2.1.map e_Cell)), (11, .i v1.2.2.1), (12, .i v1.2.2.2)], [], [(8, .z 5 1 0 (v1.1.map e_u8))], [], []⟩ : S)) [(8, ⟨0, true, true, false⟩)] hF (by kernel_rfl) ?_
  intro n1 v1 y1 hF ih1 dn1
  unfold wal_bytes_B1 at hF
  refine NR [] [3, 10, 11, 12, 13] [] [8] [(13, .bool (decide (v1.2.2.2 < v1.2.2.1)))] .nil ?_
  refine Nif hF (fun hb hF => ?_) (fun hb hF => ?_)
  ·refine Nblk ?_
   obtain ⟨h1, hF⟩ := asrt_elim hF
   refine VR [.av (e_Cell (lget v1.2.1 v1.2.2.2))] [3, 5, 10, 11, 12] [5] [8] [] [(5, .ptr 5 0)] [(5, (c_Cell (lget v1.2.1 v1.2.2.2)))] [] [] (hc (idx_ok e_Cell h1) .nil) ?_
   obtain ⟨x1, h2, hF⟩ := ob_elim hF
   refine VR [.callE [] [8] [] [] (.row 8 13) ⟨[], [], [(8, .z 5 1 13 (x1.map e_u8))], [], []⟩] [3, 10, 11, 12] [] [8] [] [(3, .row 8 13)] [] [(8, .z 5 1 13 (x1.map e_u8))] [] (hc (Pe.ren (cell_Add_v1_ok (⟨(lget v1.2.1 v1.2.2.2).Row, (lget v1.2.1 v1.2.2.2).Col, (lget v1.2.1 v1.2.2.2).Time, (lget v1.2.1 v1.2.2.2).Gone, (lget v1.2.1 v1.2.2.2).Value⟩ : Cell) v1.1 0 0 true x1 h2) ⟨[], [(100000, 8)], [], []⟩) .nil) ?_
   refine NR [] [3, 10, 11, 12] [] [8] [(12, .i (w64 (v1.2.2.2 + 1)))] .nil ?_
   exact Nrnd [(8, ⟨0, true, true, false⟩)] hF ih1 (by kernel_rfl)
  ·refine Nexit rfl ?_
   have hF := inrO_done hF dn1
   exact metP v1.1 [] hF (by kernel_rfl)
 ·intro v hF
  have hF : wal_bytes_J1 v = some r := hF
  unfold wal_bytes_J1 at hF
  refine NR [] [2] [] [8] [(2, .row 8 0)] .nil ?_
  cases hF
  exact Wk_ret (hfin _ ⟨[8], [], [8], [], [], [], by kernel_rfl⟩)

/- wal.Write -/
noncomputable def wal_Write_v1 (num : Note) : Option (List UInt8 × Fault) :=
 ob (wal_Check num) fun x =>
 if (!decide (x.Code = 0)) = true then
  some (([] : List UInt8), x)
 else
  ob (wal_bytes num) fun x1 =>
  some (x1, (⟨0, 0⟩ : Fault))
theorem wal_Write_v1_ok (num : Note) (r : List UInt8 × Fault) (hF : wal_Write_v1 num = some r) : Pe Try.prog 15 S.none [.agg (c_Note num)] (.tup [.sl 1 (r.1.map e_u8), .agg (c_Fault r.2)]) S.none := by
 refine PeN 14 [.tmp 2, .cell 3 31] [25, 31] Ty.ok Fn.b15 Try.func15 ?_
 intro Q g hfin
 unfold wal_Write_v1 at hF
 refine VR [] [1, 3] [1, 3] [] [] [(1, .ptr 1 0), (3, .ptr 3 0)] [(1, (c_Note num)), (3, [.i 0, .i 0])] [] [] .nil ?_
 obtain ⟨x, h0, hF⟩ := ob_elim hF
 refine VR [.callB (.agg (c_Fault x))] [1, 3, 4] [1, 3, 4] [] [] [(4, .ptr 4 0)] [(4, (c_Fault x))] [] [] (hc (wal_Check_ok num x h0) .nil) ?_
 refine NR [] [1, 3, 4, 9] [1, 3, 4] [] [(9, .bool (!decide (x.Code = 0)))] .nil ?_
 refine Nif hF (fun hb hF => ?_) (fun hb hF => ?_)
 ·refine VD [] [2, 3] [3] [] [] [(2, .nils)] [(3, (c_Fault x))] [] [] .nil ?_
  cases hF
  exact Wk_ret (hfin _ ⟨[], [], [], [], [], [], by kernel_rfl⟩)
 ·obtain ⟨x1, h1, hF⟩ := ob_elim hF
  refine VR [.callE [] [] [] [] (.row 12 0) ⟨[], [], [(12, .z 5 1 0 (x1.map e_u8))], [], []⟩] [2, 3] [3] [12] [] [(2, .row 12 0)] [] [(12, .z 5 1 0 (x1.map e_u8))] [] (hc (Pe.ren (wal_bytes_ok num x1 h1) ⟨[], [(8, 12)], [], []⟩) .nil) ?_
  cases hF
  exact Wk_ret (hfin _ ⟨[], [], [], [], [], [], by kernel_rfl⟩)

/- tabularyref.Same -/
noncomputable def R_Same (a0 : List UInt8) (b : List UInt8) : Bool :=
 decide (a0 = b)
theorem R_Same_ok (a0 : List UInt8) (b : List UInt8) (r : Bool) (hF : R_Same a0 b = r) : Pe Try.prog 18 S.none [.sl 1 (a0.map e_u8), .sl 1 (b.map e_u8)] (.bool r) S.none := by
 refine PeN 10 [.tmp 4] [4] Ty.ok Fn.b18 Try.func18 ?_
 intro Q g hfin
 unfold R_Same at hF
 refine NR [] [0, 1] [] [] [] .nil ?_
 refine NR [.str a0, .str b] [4] [] [] [(4, .bool (decide (a0 = b)))] (hc (u8s_ok a0) (hc (u8s_ok b) .nil)) ?_
 cases hF
 exact Wk_ret (hfin _ ⟨[], [], [], [], [], [], by kernel_rfl⟩)

/- tabularylaw.walBegun -/
noncomputable def law_walBegun  : Option Bool :=
 lt (law_oneNote) fun x =>
 ob (wal_Write_v1 x) fun x1 =>
 lt (R_Same x1.1 ([(1 : UInt8), (1 : UInt8), (114 : UInt8), (1 : UInt8), (99 : UInt8), (7 : UInt8), (0 : UInt8), (1 : UInt8), (97 : UInt8)] : List UInt8)) fun x2 =>
 some ((decide (x1.2.Code = 0)) && x2)
theorem law_walBegun_ok  (r : Bool) (hF : law_walBegun  = some r) : Pe Try.prog 11 S.none [] (.bool r) S.none := by
 refine PeN 16 [.tmp 0] [4] Ty.ok Fn.b11 Try.func11 ?_
 intro Q g hfin
 unfold law_walBegun at hF
 refine NR [] [] [] [] [] .nil ?_
 obtain ⟨x, h0, hF⟩ := lt_split hF
 obtain ⟨x1, h1, hF⟩ := ob_elim hF
 refine VR [.call (.agg (c_Note x)), .call (.tup [.sl 1 (x1.1.map e_u8), .agg (c_Fault x1.2)])] [1, 2] [2] [] [] [(1, .sl 1 (x1.1.map e_u8)), (2, .ptr 2 0)] [(2, (c_Fault x1.2))] [] [] (hc (law_oneNote_ok  x h0) (hc (wal_Write_v1_ok x x1 h1) .nil)) ?_
 obtain ⟨x2, h2, hF⟩ := lt_split hF
 refine NR [.sealed, .callB (.bool x2)] [0] [] [] [(0, .bool ((decide (x1.2.Code = 0)) && x2))] (hc (fun (ga0 : (decide (x1.2.Code = 0)) = true) => (R_Same_ok x1.1 ([(1 : UInt8), (1 : UInt8), (114 : UInt8), (1 : UInt8), (99 : UInt8), (7 : UInt8), (0 : UInt8), (1 : UInt8), (97 : UInt8)] : List UInt8) x2 h2)) .nil) ?_
 cases hF
 exact Wk_ret (hfin _ ⟨[], [], [], [], [], [], by kernel_rfl⟩)

/- tabularylaw.many -/
noncomputable def law_many (num : Int) : Bool :=
 lt (((decide (150 < num)) && (decide (num < 1000))) || (decide (2000 < num))) fun (v : Bool) =>
 v

/- tabularylaw.ownBytes -/
noncomputable def law_ownBytes (b : List UInt8) : Option (List UInt8) :=
 asrt ((b.length : Int) * 1 ≤ 140737488351232) <|
 some b

/- tabularylaw.ownBytes -/
noncomputable def law_ownBytes_v1 (b : List UInt8) : Option (List UInt8) :=
 asrt ((b.length : Int) * 1 ≤ 140737488351232) <|
 some b

/- tabularylaw.ownDisk -/
noncomputable def law_ownDisk (d : Disk) : Option Disk :=
 ob (law_ownBytes_v1 d.Bytes) fun x =>
 some (⟨x, d.Kept⟩ : Disk)

/- tabularylaw.ownCells -/
noncomputable def law_ownCells_v1 (l : List Cell) : Option (List Cell) :=
 asrt ((l.length : Int) * 64 ≤ 140737488351232) <|
 some l
theorem law_ownCells_v1_ok (l : List Cell) (r : List Cell) (hF : law_ownCells_v1 l = some r) : Pe Try.prog 26 S.none [.sl 5 (l.map e_Cell)] (.sl 5 (r.map e_Cell)) S.none := by
 refine PeN 5 [.tmp 2] [22] Ty.ok Fn.b26 Try.func26 ?_
 intro Q g hfin
 unfold law_ownCells_v1 at hF
 refine NR [] [0] [] [] [] .nil ?_
 obtain ⟨h0, hF⟩ := asrt_elim hF
 refine VR [.xs (l.map e_Cell)] [2] [] [4] [] [(2, .row 4 1)] [] [(4, .z 96 5 1 (l.map e_Cell))] [] (hc (app0_ok e_Cell l) (hc (appl_ok e_Cell h0) .nil)) ?_
 cases hF
 exact Wk_ret (hfin _ ⟨[], [], [], [], [], [], by kernel_rfl⟩)

/- tabularylaw.ownNote -/
noncomputable def law_ownNote (num : Note) : Option Note :=
 ob (law_ownCells_v1 num.Cells) fun x =>
 some (⟨num.Seq, x⟩ : Note)
theorem law_ownNote_ok (num : Note) (r : Note) (hF : law_ownNote num = some r) : Pe Try.prog 13 S.none [.agg (c_Note num)] (.agg (c_Note r)) S.none := by
 refine PeN 9 [.cell 2 24] [24] Ty.ok Fn.b13 Try.func13 ?_
 intro Q g hfin
 unfold law_ownNote at hF
 refine VR [] [1, 2] [1, 2] [] [] [(1, .ptr 1 0), (2, .ptr 2 0)] [(1, (c_Note num)), (2, [.i 0, .nils])] [] [] .nil ?_
 obtain ⟨x, h0, hF⟩ := ob_elim hF
 refine VD [.call (.sl 5 (x.map e_Cell))] [2] [2] [] [] [] [(2, [.i num.Seq, .sl 5 (x.map e_Cell)])] [] [] (hc (law_ownCells_v1_ok num.Cells x h0) .nil) ?_
 cases hF
 exact Wk_ret (hfin _ ⟨[], [], [], [], [], [], by kernel_rfl⟩)

/- disk.fault -/
noncomputable def disk_fault (code : Int) (at0 : Int) : Fault :=
 (⟨code, at0⟩ : Fault)
theorem disk_fault_ok (code : Int) (at0 : Int) (r : Fault) (hF : disk_fault code at0 = r) : Pe Try.prog 98 S.none [.i code, .i at0] (.agg (c_Fault r)) S.none := by
 refine PeN 8 [.cell 4 31] [31] Ty.ok Fn.b98 Try.func98 ?_
 intro Q g hfin
 unfold disk_fault at hF
 refine VR [] [0, 1, 4] [4] [] [] [(4, .ptr 4 0)] [(4, [.i 0, .i 0])] [] [] .nil ?_
 refine VR [] [4] [4] [] [] [] [(4, [.i code, .i at0])] [] [] .nil ?_
 cases hF
 exact Wk_ret (hfin _ ⟨[], [], [], [], [], [], by kernel_rfl⟩)

/- disk.Check -/
noncomputable def disk_Check (d : Disk) : Fault :=
 if (decide (60000 < (d.Bytes.length : Int))) = true then
  lt (disk_fault 8 0) fun x =>
  x
 else
  if ((decide (d.Kept < 0)) || (decide ((d.Bytes.length : Int) < d.Kept))) = true then
   lt (disk_fault 3 0) fun x1 =>
   x1
  else
   (⟨0, 0⟩ : Fault)
theorem disk_Check_ok (d : Disk) (r : Fault) (hF : disk_Check d = r) : Pe Try.prog 91 S.none [.agg (c_Disk d)] (.agg (c_Fault r)) S.none := by
 refine PeN 21 [.cell 2 31] [31] Ty.ok Fn.b91 Try.func91 ?_
 intro Q g hfin
 unfold disk_Check at hF
 refine VR [] [1, 2] [1, 2] [] [] [(1, .ptr 1 0), (2, .ptr 2 0)] [(1, (c_Disk d)), (2, [.i 0, .i 0])] [] [] .nil ?_
 refine NR [.nat (d.Bytes.length : Int)] [1, 2, 6] [1, 2] [] [(6, .bool (decide (60000 < (d.Bytes.length : Int))))] (hc (len_ok e_u8 d.Bytes) .nil) ?_
 refine Nif hF (fun hb hF => ?_) (fun hb hF => ?_)
 ·obtain ⟨x, h0, hF⟩ := lt_split hF
  refine VR [.callB (.agg (c_Fault x))] [2] [2] [] [] [] [(2, (c_Fault x))] [] [] (hc (disk_fault_ok 8 0 x h0) .nil) ?_
  cases hF
  exact Wk_ret (hfin _ ⟨[], [], [], [], [], [], by kernel_rfl⟩)
 ·refine NR [.nat (d.Bytes.length : Int)] [2, 18] [2] [] [(18, .bool ((decide (d.Kept < 0)) || (decide ((d.Bytes.length : Int) < d.Kept))))] (hc (fun (_ : (!(decide (d.Kept < 0))) = true) => (len_ok e_u8 d.Bytes)) .nil) ?_
  refine Nif hF (fun hb hF => ?_) (fun hb hF => ?_)
  ·obtain ⟨x1, h1, hF⟩ := lt_split hF
   refine VR [.callB (.agg (c_Fault x1))] [2] [2] [] [] [] [(2, (c_Fault x1))] [] [] (hc (disk_fault_ok 3 0 x1 h1) .nil) ?_
   cases hF
   exact Wk_ret (hfin _ ⟨[], [], [], [], [], [], by kernel_rfl⟩)
  ·refine NR [] [2] [2] [] [] .nil ?_
   cases hF
   exact Wk_ret (hfin _ ⟨[], [], [], [], [], [], by kernel_rfl⟩)

/- wire.Crc -/
noncomputable def wire_Crc_J1 (v : Int) : Option Int :=
 lt (bitsOp .xor .u32 (if IntKind.signed .u32 = true then -1 else IntKind.max .u32) v) fun (v1 : Int) =>
 some v1
noncomputable def wire_Crc_J2 (v2 : Int × Int) (v3 : Int) : Option ((Int × Int) ⊕ Int) :=
 some (Sum.inl (v3, w64 (v2.2 + 1)))
noncomputable def wire_Crc_B2 (v2 : Int × Int) (v4 : Int × Int) : Option ((Int × Int) ⊕ ((Int × Int) ⊕ Int)) :=
 if (decide (v4.2 < 8)) = true then
  ob (
   if (decide ((bitsOp .and .u32 v4.1 1) = 1)) = true then
    lt (bitsOp .xor .u32 (Int.fdiv v4.1 (2 ^ (min (1 : Int).toNat 32))) 3988292384) fun (v6 : Int) =>
    some v6
   else
    some (Int.fdiv v4.1 (2 ^ (min (1 : Int).toNat 32)))) fun (v5 : Int) =>
  some (Sum.inl (v5, w64 (v4.2 + 1)))
 else
  inrO (wire_Crc_J2 v2 v4.1)
noncomputable def wire_Crc_L2 (v2 : Int × Int) (v0 : Int × Int) : Option ((Int × Int) ⊕ Int) :=
 loopO (fun y => wire_Crc_B2 v2 y) v0
noncomputable def wire_Crc_B1 (b : List UInt8) (v2 : Int × Int) : Option ((Int × Int) ⊕ Int) :=
 if (decide (v2.2 < (b.length : Int))) = true then
  asrt (0 ≤ v2.2 ∧ v2.2 < (b.length : Int)) <|
  wire_Crc_L2 v2 (bitsOp .xor .u32 v2.1 (IntKind.u32.wrap ((lget b v2.2).toNat : Int)), 0)
 else
  inrO (wire_Crc_J1 v2.1)
noncomputable def wire_Crc_L1 (b : List UInt8) (v0 : Int × Int) : Option Int :=
 loopO (fun y => wire_Crc_B1 b y) v0
noncomputable def wire_Crc (b : List UInt8) : Option Int :=
 wire_Crc_L1 b (4294967295, 0)
theorem wire_Crc_ok (b : List UInt8) (r : Int) (hF : wire_Crc b = some r) : Pe Try.prog 111 S.none [.sl 1 (b.map e_u8)] (.int .u32 r) S.none := by
 refine PeN 31 [.tmp 2] [133] Ty.ok Fn.b111 Try.func111 ?_
 intro Q g hfin
 unfold wire_Crc at hF
 refine NR [] [0] [] [] [] .nil ?_
 refine NR [] [0, 3] [] [] [(3, .int .u32 4294967295)] .nil ?_
 refine NR [.nat (b.length : Int)] [3, 7, 8, 9] [] [] [(7, .sl 1 (b.map e_u8)), (8, .i (b.length : Int)), (9, .i 0)] (hc (len_ok e_u8 b) .nil) ?_
 refine NmeetP (fun v : Int => (⟨[(3, .int .u32 v)], [], [], [], []⟩ : S)) (fun v => wire_Crc_J1 v = some r) ?_ ?_
 ·refine Nblk ?_
  unfold wire_Crc_L1 at hF
  refine Niter (fun v2 : Int × Int => (⟨[(3, .int .u32 v2.1), (7, .sl 1 (b.map e_u8)), (8, .i (b.length : Int)), (9, .i v2.2)], [], [], [], []⟩ : S)) [] hF (by kernel_rfl) ?_
  intro n1 v2 y1 hF ih1 dn1
  unfold wire_Crc_B1 at hF
  refine NR [] [3, 7, 8, 9, 10] [] [] [(10, .bool (decide (v2.2 < (b.length : Int))))] .nil ?_
  refine Nif hF (fun hb hF => ?_) (fun hb hF => ?_)
  ·refine Nblk ?_
   obtain ⟨h0, hF⟩ := asrt_elim hF
   refine NR [.av (e_u8 (lget b v2.2))] [3, 5, 7, 8, 9] [] [] [(5, .int .u8 (((lget b v2.2)).toNat : Int))] (hc (idx_ok e_u8 h0) .nil) ?_
   refine NR [] [3, 7, 8, 9] [] [] [(3, .int .u32 (bitsOp .xor .u32 v2.1 (IntKind.u32.wrap ((lget b v2.2).toNat : Int))))] .nil ?_
   refine NR [] [3, 7, 8, 9, 17] [] [] [(17, .i 0)] .nil ?_
   refine NmeetP (fun v3 : Int => (⟨[(3, .int .u32 v3), (7, .sl 1 (b.map e_u8)), (8, .i (b.length : Int)), (9, .i v2.2)], [], [], [], []⟩ : S)) (fun v3 => wire_Crc_J2 v2 v3 = some y1) ?_ ?_
   ·refine Nblk ?_
    unfold wire_Crc_L2 at hF
    refine Niter (fun v4 : Int × Int => (⟨[(3, .int .u32 v4.1), (7, .sl 1 (b.map e_u8)), (8, .i (b.length : Int)), (9, .i v2.2), (17, .i v4.2)], [], [], [], []⟩ : S)) [] hF (by kernel_rfl) ?_
    intro n2 v4 y2 hF ih2 dn2
    unfold wire_Crc_B2 at hF
    refine NR [] [3, 7, 8, 9, 17, 18] [] [] [(18, .bool (decide (v4.2 < 8)))] .nil ?_
    refine Nif hF (fun hb hF => ?_) (fun hb hF => ?_)
    ·refine Nblk ?_
     refine NR [] [3, 6, 7, 8, 9, 17] [] [] [(6, .int .u32 (bitsOp .and .u32 v4.1 1))] .nil ?_
     refine NR [] [3, 6, 7, 8, 9, 17] [] [] [(3, .int .u32 (Int.fdiv v4.1 (2 ^ (min (1 : Int).toNat 32))))] (hc (by decide : (0 : Int) ≤ 1) .nil) ?_
     refine NR [] [3, 7, 8, 9, 17, 24] [] [] [(24, .bool (decide ((bitsOp .and .u32 v4.1 1) = 1)))] .nil ?_
     obtain ⟨v5, hv, hF⟩ := ob_elim hF
     refine Nmeet (⟨[(3, .int .u32 v5), (7, .sl 1 (b.map e_u8)), (8, .i (b.length : Int)), (9, .i v2.2), (17, .i v4.2)], [], [], [], []⟩ : S) ?_ ?_
     ·have hF := hv
      refine Nif hF (fun hb hF => ?_) (fun hb hF => ?_)
      ·refine NRL (bitsOp .xor .u32 (Int.fdiv v4.1 (2 ^ (min (1 : Int).toNat 32))) 3988292384) (fun v6 : Int => ([(3, .int .u32 v6)], [], [], [])) [] [3, 7, 8, 9, 17] [] [] [] .nil (fun v6 hv => ?_)
       have hF := lt_elim hF hv
       cases hF
       exact met [] (by kernel_rfl)
      ·cases hF
       exact met [] (by kernel_rfl)
     ·refine NR [] [3, 7, 8, 9, 17] [] [] [(17, .i (w64 (v4.2 + 1)))] .nil ?_
      exact Nrnd [] hF ih2 (by kernel_rfl)
    ·refine Nexit rfl ?_
     have hF := inrO_done hF dn2
     exact metP v4.1 [] hF (by kernel_rfl)
   ·intro v3 hF
    have hF : wire_Crc_J2 v2 v3 = some y1 := hF
    unfold wire_Crc_J2 at hF
    refine NR [] [3, 7, 8, 9] [] [] [(9, .i (w64 (v2.2 + 1)))] .nil ?_
    exact Nrnd [] hF ih1 (by kernel_rfl)
  ·refine Nexit rfl ?_
   have hF := inrO_done hF dn1
   exact metP v2.1 [] hF (by kernel_rfl)
 ·intro v hF
  have hF : wire_Crc_J1 v = some r := hF
  unfold wire_Crc_J1 at hF
  refine NRL (bitsOp .xor .u32 (if IntKind.signed .u32 = true then -1 else IntKind.max .u32) v) (fun v1 : Int => ([(2, .int .u32 v1)], [], [], [])) [] [2] [] [] [] .nil (fun v1 hv => ?_)
  have hF := lt_elim hF hv
  cases hF
  exact Wk_ret (hfin _ ⟨[], [], [], [], [], [], by kernel_rfl⟩)

/- slices.Equal[[]byte,byte] -/
noncomputable def slices_Equal_byte_byte_J1 (v : Unit) : Option Bool :=
 some true
noncomputable def slices_Equal_byte_byte_B1 (s1 : List UInt8) (s2 : List UInt8) (v1 : Int) : Option (Int ⊕ Bool) :=
 if (decide (v1 < (s1.length : Int))) = true then
  asrt (0 ≤ v1 ∧ v1 < (s1.length : Int)) <|
  asrt (0 ≤ v1 ∧ v1 < (s2.length : Int)) <|
  if (!decide (((lget s1 v1).toNat : Int) = ((lget s2 v1).toNat : Int))) = true then
   some (Sum.inr false)
  else
   some (Sum.inl (w64 (v1 + 1)))
 else
  inrO (slices_Equal_byte_byte_J1 ())
noncomputable def slices_Equal_byte_byte_L1 (s1 : List UInt8) (s2 : List UInt8) (v0 : Int) : Option Bool :=
 loopO (fun y => slices_Equal_byte_byte_B1 s1 s2 y) v0
noncomputable def slices_Equal_byte_byte (s1 : List UInt8) (s2 : List UInt8) : Option Bool :=
 if (!decide ((s1.length : Int) = (s2.length : Int))) = true then
  some false
 else
  slices_Equal_byte_byte_L1 s1 s2 0
theorem slices_Equal_byte_byte_ok (s1 : List UInt8) (s2 : List UInt8) (r : Bool) (hF : slices_Equal_byte_byte s1 s2 = some r) : Pe Try.prog 88 S.none [.sl 1 (s1.map e_u8), .sl 1 (s2.map e_u8)] (.bool r) S.none := by
 refine PeN 26 [.tmp 4] [4] Ty.ok Fn.b88 Try.func88 ?_
 intro Q g hfin
 unfold slices_Equal_byte_byte at hF
 refine NR [] [0, 1] [] [] [] .nil ?_
 refine NR [.nat (s1.length : Int), .nat (s2.length : Int)] [0, 1, 10] [] [] [(10, .bool (!decide ((s1.length : Int) = (s2.length : Int))))] (hc (len_ok e_u8 s1) (hc (len_ok e_u8 s2) .nil)) ?_
 refine Nif hF (fun hb hF => ?_) (fun hb hF => ?_)
 ·refine NR [] [4] [] [] [(4, .bool false)] .nil ?_
  cases hF
  exact Wk_ret (hfin _ ⟨[], [], [], [], [], [], by kernel_rfl⟩)
 ·refine NR [.nat (s1.length : Int)] [0, 1, 12, 13] [] [] [(12, .i (s1.length : Int)), (13, .i 0)] (hc (len_ok e_u8 s1) .nil) ?_
  refine NmeetP (fun v : Unit => (S.none : S)) (fun v => slices_Equal_byte_byte_J1 v = some r) ?_ ?_
  ·refine Nblk ?_
   unfold slices_Equal_byte_byte_L1 at hF
   refine Niter (fun v1 : Int => (⟨[(0, .sl 1 (s1.map e_u8)), (1, .sl 1 (s2.map e_u8)), (12, .i (s1.length : Int)), (13, .i v1)], [], [], [], []⟩ : S)) [] hF (by kernel_rfl) ?_
   intro n1 v1 y1 hF ih1 dn1
   unfold slices_Equal_byte_byte_B1 at hF
   refine NR [] [0, 1, 12, 13, 14] [] [] [(14, .bool (decide (v1 < (s1.length : Int))))] .nil ?_
   refine Nif hF (fun hb hF => ?_) (fun hb hF => ?_)
   ·refine Nblk ?_
    refine NR [] [0, 1, 5, 12, 13] [] [] [(5, .i v1)] .nil ?_
    obtain ⟨h0, h1, hF⟩ := asrt2 hF
    refine ND [.av (e_u8 (lget s1 v1)), .av (e_u8 (lget s2 v1))] [0, 1, 12, 13, 24] [] [] [(24, .bool (!decide (((lget s1 v1).toNat : Int) = ((lget s2 v1).toNat : Int))))] (hc (idx_ok e_u8 h0) (hc (idx_ok e_u8 h1) .nil)) ?_
    refine Nif hF (fun hb hF => ?_) (fun hb hF => ?_)
    ·refine NR [] [4] [] [] [(4, .bool false)] .nil ?_
     have hF := ret_done hF dn1
     cases hF
     exact Wk_ret (hfin _ ⟨[], [], [], [], [], [], by kernel_rfl⟩)
    ·refine NR [] [0, 1, 12, 13] [] [] [(13, .i (w64 (v1 + 1)))] .nil ?_
     exact Nrnd [] hF ih1 (by kernel_rfl)
   ·refine Nexit rfl ?_
    have hF := inrO_done hF dn1
    exact metP () [] hF (by kernel_rfl)
  ·intro v hF
   have hF : slices_Equal_byte_byte_J1 v = some r := hF
   unfold slices_Equal_byte_byte_J1 at hF
   refine NR [] [4] [] [] [(4, .bool true)] .nil ?_
   cases hF
   exact Wk_ret (hfin _ ⟨[], [], [], [], [], [], by kernel_rfl⟩)

/- slices.Clone[[]byte,byte] -/
noncomputable def slices_Clone_byte_byte (s0 : List UInt8) : Option (List UInt8) :=
 ubO (decide (s0.length = 0)) (
  some ([] : List UInt8)) (
  asrt (((([] : List UInt8) ++ s0).length : Int) * 1 ≤ 140737488351232) <|
  some (([] : List UInt8) ++ s0))
theorem slices_Clone_byte_byte_ok (s0 : List UInt8) (r : List UInt8) (hF : slices_Clone_byte_byte s0 = some r) : Pe Try.prog 95 S.none [.sl 1 (s0.map e_u8)] (.row 5 0) ⟨[], [], [(5, .o 5 1 0 (r.map e_u8))], [], []⟩ := by
 refine PeN 8 [.tmp 2] [25] Ty.ok Fn.b95 Try.func95 ?_
 intro Q g hfin
 unfold slices_Clone_byte_byte at hF
 refine NR [] [0] [] [] [] .nil ?_
 refine NR [.bo (decide (s0.length = 0))] [0, 4] [] [] [(4, .ub (decide (s0.length = 0)) true)] (hc (ubn_ok e_u8 s0) .nil) ?_
 refine Wk_ub 4 rfl fun b hb1 hb2 => ?_
 refine Nsplit rfl (fun hb => ?_) (fun hb => ?_)
 ·have hb := hb1 hb
  have hF := (ubO_elim hF).1 hb
  refine NR [] [2] [] [] [(2, .nils)] .nil ?_
  cases hF
  refine Wk_nilrow 2 60000 5 1 rfl rfl rfl ?_
  refine Wk_ren' ⟨[], [(60000, 5)], [], []⟩ rfl ?_
  exact Wk_ret (hfin _ ⟨[5], [], [5], [], [], [(5, ⟨0, true, false, false⟩)], by kernel_rfl⟩)
 ·have hF := (ubO_elim hF).2
  obtain ⟨h0, hF⟩ := asrt_elim hF
  refine VR [.xs ((([] : List UInt8) ++ s0).map e_u8)] [2] [] [5] [] [(2, .row 5 1)] [] [(5, .o 5 1 1 ((([] : List UInt8) ++ s0).map e_u8))] [] (hc (app_ok e_u8 ([] : List UInt8) s0) (hc (appl_ok e_u8 h0) .nil)) ?_
  cases hF
  exact Wk_ret (hfin _ ⟨[5], [], [5], [], [], [(5, ⟨0, true, true, false⟩)], by kernel_rfl⟩)

/- wire.Opened -/
noncomputable def wire_Opened_J1 (v : List (List UInt8) × Int) : Option (List (List UInt8) × Int) :=
 some (v.1, v.2)
noncomputable def wire_Opened_B1 (b : List UInt8) (v1 : List (List UInt8) × Int) : Option ((List (List UInt8) × Int) ⊕ (List (List UInt8) × Int)) :=
 if (decide (6 ≤ (w64 ((b.length : Int) - v1.2)))) = true then
  asrt (0 ≤ v1.2 ∧ v1.2 < (b.length : Int)) <|
  asrt (0 ≤ w64 (v1.2 + 1) ∧ w64 (v1.2 + 1) < (b.length : Int)) <|
  lt (bitsOp .or .i64 (w64 ((w64 ((lget b v1.2).toNat : Int)) * 2 ^ (min (8 : Int).toNat 64))) (w64 ((lget b (w64 (v1.2 + 1))).toNat : Int))) fun (v2 : Int) =>
  if (decide ((b.length : Int) < (w64 ((w64 ((w64 (v1.2 + 2)) + v2)) + 4)))) = true then
   inrO (wire_Opened_J1 (v1.1, v1.2))
  else
   asrt (0 ≤ v1.2 ∧ v1.2 ≤ w64 ((w64 (v1.2 + 2)) + v2) ∧ w64 ((w64 (v1.2 + 2)) + v2) ≤ (b.length : Int)) <|
   ob (wire_Crc (ldrop (ltake b (w64 ((w64 (v1.2 + 2)) + v2))) v1.2)) fun x =>
   asrt (0 ≤ w64 ((w64 (v1.2 + 2)) + v2) ∧ w64 ((w64 (v1.2 + 2)) + v2) ≤ w64 ((w64 ((w64 (v1.2 + 2)) + v2)) + 4) ∧ w64 ((w64 ((w64 (v1.2 + 2)) + v2)) + 4) ≤ (b.length : Int)) <|
   ob (slices_Equal_byte_byte (ldrop (ltake b (w64 ((w64 ((w64 (v1.2 + 2)) + v2)) + 4))) (w64 ((w64 (v1.2 + 2)) + v2))) ([toU8 (Int.fdiv x (2 ^ (min (24 : Int).toNat 32))), toU8 (Int.fdiv x (2 ^ (min (16 : Int).toNat 32))), toU8 (Int.fdiv x (2 ^ (min (8 : Int).toNat 32))), toU8 x] : List UInt8)) fun x1 =>
   if (!x1) = true then
    inrO (wire_Opened_J1 (v1.1, v1.2))
   else
    asrt (0 ≤ w64 (v1.2 + 2) ∧ w64 (v1.2 + 2) ≤ w64 ((w64 (v1.2 + 2)) + v2) ∧ w64 ((w64 (v1.2 + 2)) + v2) ≤ (b.length : Int)) <|
    ob (slices_Clone_byte_byte (ldrop (ltake b (w64 ((w64 (v1.2 + 2)) + v2))) (w64 (v1.2 + 2)))) fun x2 =>
    asrt (((v1.1 ++ ([x2] : List (List UInt8))).length : Int) * 24 ≤ 140737488351232) <|
    some (Sum.inl ((v1.1 ++ ([x2] : List (List UInt8))), w64 ((w64 ((w64 (v1.2 + 2)) + v2)) + 4)))
 else
  inrO (wire_Opened_J1 (v1.1, v1.2))
noncomputable def wire_Opened_L1 (b : List UInt8) (v0 : List (List UInt8) × Int) : Option (List (List UInt8) × Int) :=
 loopO (fun y => wire_Opened_B1 b y) v0
noncomputable def wire_Opened (b : List UInt8) : Option (List (List UInt8) × Int) :=
 wire_Opened_L1 b (([] : List (List UInt8)), 0)
theorem wire_Opened_ok (b : List UInt8) (r : List (List UInt8) × Int) (hF : wire_Opened b = some r) : Pe Try.prog 113 S.none [.sl 1 (b.map e_u8)] (.tup [.row 66 0, .i r.2]) ⟨[], [], [(66, .z 25 1 0 (r.1.map e_L_u8))], [], []⟩ := by
 refine PeN 71 [.tmp 2, .tmp 3] [52, 3] Ty.ok Fn.b113 Try.func113 ?_
 intro Q g hfin
 unfold wire_Opened at hF
 refine NR [] [0, 2, 3] [] [] [(2, .nils), (3, .i 0)] .nil ?_
 refine NmeetP (fun v : List (List UInt8) × Int => (⟨[(2, .row 66 0), (3, .i v.2)], [], [(66, .z 25 1 0 (v.1.map e_L_u8))], [], []⟩ : S)) (fun v => wire_Opened_J1 v = some r) ?_ ?_
 ·refine Nblk ?_
  unfold wire_Opened_L1 at hF
  refine Wk_nilrow 2 60000 25 1 rfl rfl rfl ?_
  refine Wk_trim (fs := [0, 2, 3]) (bs := []) (rs := [60000]) (ms := []) (aa := []) (nv := []) rfl ?_
  refine Wk_ren' ⟨[], [(60000, 66)], [], []⟩ rfl ?_
  refine Niter (fun v1 : List (List UInt8) × Int => (⟨[(0, .sl 1 (b.map e_u8)), (2, .row 66 0), (3, .i v1.2)], [], [(66, .z 25 1 0 (v1.1.map e_L_u8))], [], []⟩ : S)) [] hF (by kernel_rfl) ?_
  intro n1 v1 y1 hF ih1 dn1
  unfold wire_Opened_B1 at hF
  refine NR [.nat (b.length : Int)] [0, 2, 3, 11] [] [66] [(11, .bool (decide (6 ≤ (w64 ((b.length : Int) - v1.2)))))] (hc (len_ok e_u8 b) .nil) ?_
  refine Nif hF (fun hb hF => ?_) (fun hb hF => ?_)
  ·refine Nblk ?_
   obtain ⟨h0, h1, hF⟩ := asrt2 hF
   refine NDL (bitsOp .or .i64 (w64 ((w64 ((lget b v1.2).toNat : Int)) * 2 ^ (min (8 : Int).toNat 64))) (w64 ((lget b (w64 (v1.2 + 1))).toNat : Int))) (fun v2 : Int => ([(4, .i v2)], [], [], [])) [.av (e_u8 (lget b v1.2)), .av (e_u8 (lget b (w64 (v1.2 + 1))))] [0, 2, 3, 4] [] [66] [] (hc (idx_ok e_u8 h0) (hc (by decide : (0 : Int) ≤ 8) (hc (idx_ok e_u8 h1) .nil))) (fun v2 hv => ?_)
   have hF := lt_elim hF hv
   refine NR [] [0, 2, 3, 5] [] [66] [(5, .i (w64 ((w64 (v1.2 + 2)) + v2)))] .nil ?_
   refine NR [.nat (b.length : Int)] [0, 2, 3, 5, 33] [] [66] [(33, .bool (decide ((b.length : Int) < (w64 ((w64 ((w64 (v1.2 + 2)) + v2)) + 4)))))] (hc (len_ok e_u8 b) .nil) ?_
   refine Nif hF (fun hb hF => ?_) (fun hb hF => ?_)
   ·refine Nexit rfl ?_
    have hF := inrO_done hF dn1
    exact metP (v1.1, v1.2) [] hF (by kernel_rfl)
   ·obtain ⟨h2, hF⟩ := asrt_elim hF
    obtain ⟨x, h3, hF⟩ := ob_elim hF
    refine NR [.xs ((ldrop (ltake b (w64 ((w64 (v1.2 + 2)) + v2))) v1.2).map e_u8), .callB (.int .u32 x)] [0, 2, 3, 5, 6] [] [66] [(6, .int .u32 x)] (hc (sl11_ok e_u8 h2) (hc (wire_Crc_ok (ldrop (ltake b (w64 ((w64 (v1.2 + 2)) + v2))) v1.2) x h3) .nil)) ?_
    obtain ⟨h4, hF⟩ := asrt_elim hF
    obtain ⟨x1, h5, hF⟩ := ob_elim hF
    refine NR [.xs ((ldrop (ltake b (w64 ((w64 ((w64 (v1.2 + 2)) + v2)) + 4))) (w64 ((w64 (v1.2 + 2)) + v2))).map e_u8), .sealed, .callB (.bool x1)] [0, 2, 3, 5, 57] [] [66] [(57, .bool (!x1))] (hc (sl11_ok e_u8 h4) (hc (by decide : (0 : Int) ≤ 24) (hc (by decide : (0 : Int) ≤ 16) (hc (by decide : (0 : Int) ≤ 8) (hc (slices_Equal_byte_byte_ok (ldrop (ltake b (w64 ((w64 ((w64 (v1.2 + 2)) + v2)) + 4))) (w64 ((w64 (v1.2 + 2)) + v2))) ([toU8 (Int.fdiv x (2 ^ (min (24 : Int).toNat 32))), toU8 (Int.fdiv x (2 ^ (min (16 : Int).toNat 32))), toU8 (Int.fdiv x (2 ^ (min (8 : Int).toNat 32))), toU8 x] : List UInt8) x1 h5) .nil))))) ?_
    refine Nif hF (fun hb hF => ?_) (fun hb hF => ?_)
    ·refine Nexit rfl ?_
     have hF := inrO_done hF dn1
     exact metP (v1.1, v1.2) [] hF (by kernel_rfl)
    ·obtain ⟨h6, hF⟩ := asrt_elim hF
     obtain ⟨x2, h7, hF⟩ := ob_elim hF
     obtain ⟨h8, hF⟩ := asrt_elim hF
     refine VR [.xs ((ldrop (ltake b (w64 ((w64 (v1.2 + 2)) + v2))) (w64 (v1.2 + 2))).map e_u8), .callE [] [] [] [] (.row 64 0) ⟨[], [], [(64, .o 5 1 0 (x2.map e_u8))], [], []⟩, .sealed, .xs ((v1.1 ++ ([x2] : List (List UInt8))).map e_L_u8)] [0, 2, 5] [] [66] [] [(2, .row 66 1)] [] [(66, .z 25 1 1 ((v1.1 ++ ([x2] : List (List UInt8))).map e_L_u8))] [] (hc (sl11_ok e_u8 h6) (hc (Pe.ren (slices_Clone_byte_byte_ok (ldrop (ltake b (w64 ((w64 (v1.2 + 2)) + v2))) (w64 (v1.2 + 2))) x2 h7) ⟨[], [(5, 64)], [], []⟩) (hc (app_ok e_L_u8 v1.1 ([x2] : List (List UInt8))) (hc (appl_ok e_L_u8 h8) .nil)))) ?_
     refine NR [] [0, 2, 3] [] [66] [(3, .i (w64 ((w64 ((w64 (v1.2 + 2)) + v2)) + 4)))] .nil ?_
     exact Nrnd [(66, ⟨0, true, true, false⟩)] hF ih1 (by kernel_rfl)
  ·refine Nexit rfl ?_
   have hF := inrO_done hF dn1
   exact metP (v1.1, v1.2) [] hF (by kernel_rfl)
 ·intro v hF
  have hF : wire_Opened_J1 v = some r := hF
  unfold wire_Opened_J1 at hF
  refine NR [] [2, 3] [] [66] [] .nil ?_
  cases hF
  exact Wk_ret (hfin _ ⟨[66], [], [66], [], [], [], by kernel_rfl⟩)

/- wal.Read$1 -/
noncomputable def wal_Read_1 (x : UInt8) : Bool :=
 decide ((x.toNat : Int) < ((128 : UInt8).toNat : Int))
theorem wal_Read_1_ok (x : UInt8) (r : Bool) (hF : wal_Read_1 x = r) : Pe Try.prog 65 S.none [.int .u8 ((x).toNat : Int)] (.bool r) S.none := by
 refine PeN 5 [.tmp 2] [4] Ty.ok Fn.b65 Try.func65 ?_
 intro Q g hfin
 unfold wal_Read_1 at hF
 refine NR [] [0] [] [] [] .nil ?_
 refine NR [] [2] [] [] [(2, .bool (decide ((x.toNat : Int) < ((128 : UInt8).toNat : Int))))] .nil ?_
 cases hF
 exact Wk_ret (hfin _ ⟨[], [], [], [], [], [], by kernel_rfl⟩)

/- slices.IndexFunc[[]byte,byte] -/
noncomputable def slices_IndexFunc_byte_byte_J1 (v : Unit) : Option Int :=
 some (-1)
noncomputable def slices_IndexFunc_byte_byte_B1 (s0 : List UInt8) (v1 : Int) : Option (Int ⊕ Int) :=
 if (decide (v1 < (s0.length : Int))) = true then
  asrt (0 ≤ v1 ∧ v1 < (s0.length : Int)) <|
  lt (wal_Read_1 (lget s0 v1)) fun x =>
  if x = true then
   some (Sum.inr v1)
  else
   some (Sum.inl (w64 (v1 + 1)))
 else
  inrO (slices_IndexFunc_byte_byte_J1 ())
noncomputable def slices_IndexFunc_byte_byte_L1 (s0 : List UInt8) (v0 : Int) : Option Int :=
 loopO (fun y => slices_IndexFunc_byte_byte_B1 s0 y) v0
noncomputable def slices_IndexFunc_byte_byte (s0 : List UInt8) : Option Int :=
 slices_IndexFunc_byte_byte_L1 s0 0
theorem slices_IndexFunc_byte_byte_ok (s0 : List UInt8) (r : Int) (hF : slices_IndexFunc_byte_byte s0 = some r) : Pe Try.prog 64 S.none [.sl 1 (s0.map e_u8), .fn 65 []] (.i r) S.none := by
 refine PeN 19 [.tmp 4] [3] Ty.ok Fn.b64 Try.func64 ?_
 intro Q g hfin
 unfold slices_IndexFunc_byte_byte at hF
 refine NR [] [0, 1] [] [] [] .nil ?_
 refine NR [.nat (s0.length : Int)] [0, 1, 7, 8] [] [] [(7, .i (s0.length : Int)), (8, .i 0)] (hc (len_ok e_u8 s0) .nil) ?_
 refine NmeetP (fun v : Unit => (S.none : S)) (fun v => slices_IndexFunc_byte_byte_J1 v = some r) ?_ ?_
 ·refine Nblk ?_
  unfold slices_IndexFunc_byte_byte_L1 at hF
  refine Niter (fun v1 : Int => (⟨[(0, .sl 1 (s0.map e_u8)), (1, .fn 65 []), (7, .i (s0.length : Int)), (8, .i v1)], [], [], [], []⟩ : S)) [] hF (by kernel_rfl) ?_
  intro n1 v1 y1 hF ih1 dn1
  unfold slices_IndexFunc_byte_byte_B1 at hF
  refine NR [] [0, 1, 7, 8, 9] [] [] [(9, .bool (decide (v1 < (s0.length : Int))))] .nil ?_
  refine Nif hF (fun hb hF => ?_) (fun hb hF => ?_)
  ·refine Nblk ?_
   refine NR [] [0, 1, 5, 7, 8] [] [] [(5, .i v1)] .nil ?_
   obtain ⟨h0, hF⟩ := asrt_elim hF
   obtain ⟨x, h1, hF⟩ := lt_split hF
   refine NR [.av (e_u8 (lget s0 v1)), .callB (.bool x)] [0, 1, 5, 7, 8, 16] [] [] [(16, .bool x)] (hc (idx_ok e_u8 h0) (hc (wal_Read_1_ok (lget s0 v1) x h1) .nil)) ?_
   refine Nif hF (fun hb hF => ?_) (fun hb hF => ?_)
   ·refine NR [] [4] [] [] [(4, .i v1)] .nil ?_
    have hF := ret_done hF dn1
    cases hF
    exact Wk_ret (hfin _ ⟨[], [], [], [], [], [], by kernel_rfl⟩)
   ·refine NR [] [0, 1, 7, 8] [] [] [(8, .i (w64 (v1 + 1)))] .nil ?_
    exact Nrnd [] hF ih1 (by kernel_rfl)
  ·refine Nexit rfl ?_
   have hF := inrO_done hF dn1
   exact metP () [] hF (by kernel_rfl)
 ·intro v hF
  have hF : slices_IndexFunc_byte_byte_J1 v = some r := hF
  unfold slices_IndexFunc_byte_byte_J1 at hF
  refine NR [] [4] [] [] [(4, .i (-1))] .nil ?_
  cases hF
  exact Wk_ret (hfin _ ⟨[], [], [], [], [], [], by kernel_rfl⟩)

/- wire.Read -/
noncomputable def wire_Read (b : List UInt8) : Reader :=
 (⟨b, false⟩ : Reader)
theorem wire_Read_ok (b : List UInt8) (r : Reader) (hF : wire_Read b = r) : Pe Try.prog 66 S.none [.sl 1 (b.map e_u8)] (.ptr 5 0) ⟨[], [(5, [.sl 1 (r.b.map e_u8), .bool r.bad])], [], [], []⟩ := by
 refine PeN 6 [.tmp 2] [105] Ty.ok Fn.b66 Try.func66 ?_
 intro Q g hfin
 unfold wire_Read at hF
 refine NR [] [0] [] [] [] .nil ?_
 refine VR [] [2] [5] [] [] [(2, .ptr 5 0)] [(5, [.sl 1 (b.map e_u8), .bool false])] [] [] .nil ?_
 cases hF
 exact Wk_ret (hfin _ ⟨[], [5], [], [], [], [], by kernel_rfl⟩)

/- (*wire.Reader).Num -/
noncomputable def wire_Reader_Num_J1 (v : Reader) : Option (Int × Reader) :=
 some (0, (⟨([] : List UInt8), true⟩ : Reader))
noncomputable def wire_Reader_Num_B1 (v1 : Reader × Int × List UInt8 × Int × Int) : Option ((Reader × Int × List UInt8 × Int × Int) ⊕ (Int × Reader)) :=
 if (decide (v1.2.2.2.2 < v1.2.2.2.1)) = true then
  asrt (0 ≤ v1.2.2.2.2 ∧ v1.2.2.2.2 < (v1.2.2.1.length : Int)) <|
  asrt (0 ≤ (w64 (7 * v1.2.2.2.2))) <|
  lt (bitsOp .or .i64 v1.2.1 (w64 ((w64 ((toU8 (((BitVec.ofInt 8 ((lget v1.2.2.1 v1.2.2.2.2).toNat : Int) &&& BitVec.ofInt 8 ((127 : UInt8).toNat : Int)).toNat : Int))).toNat : Int)) * 2 ^ (min (w64 (7 * v1.2.2.2.2)).toNat 64)))) fun (v2 : Int) =>
  if ((decide (4 < v1.2.2.2.2)) || (decide (1000000000 < v2))) = true then
   inrO (wire_Reader_Num_J1 v1.1)
  else
   if (decide (((lget v1.2.2.1 v1.2.2.2.2).toNat : Int) < ((128 : UInt8).toNat : Int))) = true then
    if ((decide (0 < v1.2.2.2.2)) && (decide (((lget v1.2.2.1 v1.2.2.2.2).toNat : Int) = ((0 : UInt8).toNat : Int)))) = true then
     inrO (wire_Reader_Num_J1 v1.1)
    else
     asrt (0 ≤ w64 (v1.2.2.2.2 + 1) ∧ w64 (v1.2.2.2.2 + 1) ≤ (v1.1.b.length : Int)) <|
     some (Sum.inr (v2, (⟨(ldrop v1.1.b (w64 (v1.2.2.2.2 + 1))), v1.1.bad⟩ : Reader)))
   else
    some (Sum.inl (v1.1, v2, v1.2.2.1, v1.2.2.2.1, w64 (v1.2.2.2.2 + 1)))
 else
  inrO (wire_Reader_Num_J1 v1.1)
noncomputable def wire_Reader_Num_L1 (v0 : Reader × Int × List UInt8 × Int × Int) : Option (Int × Reader) :=
 loopO (fun y => wire_Reader_Num_B1 y) v0
noncomputable def wire_Reader_Num (box : Reader) : Option (Int × Reader) :=
 wire_Reader_Num_L1 (box, 0, box.b, (box.b.length : Int), 0)
theorem wire_Reader_Num_ok (box : Reader) (r : Int × Reader) (hF : wire_Reader_Num box = some r) : Pe Try.prog 67 ⟨[], [(100000, [.sl 1 (box.b.map e_u8), .bool box.bad])], [], [], []⟩ [.ptr 100000 0] (.i r.1) ⟨[], [(100000, [.sl 1 (r.2.b.map e_u8), .bool r.2.bad])], [], [], []⟩ := by
 refine PeN 56 [.tmp 2] [3] Ty.ok Fn.b67 Try.func67 ?_
 intro Q g hfin
 unfold wire_Reader_Num at hF
 refine NR [] [0] [100000] [] [] .nil ?_
 refine NR [] [0, 3] [100000] [] [(3, .i 0)] .nil ?_
 refine NR [.nat (box.b.length : Int)] [0, 3, 9, 10, 11] [100000] [] [(9, .sl 1 (box.b.map e_u8)), (10, .i (box.b.length : Int)), (11, .i 0)] (hc (len_ok e_u8 box.b) .nil) ?_
 refine NmeetP (fun v : Reader => (⟨[(0, .ptr 100000 0)], [(100000, [.sl 1 (v.b.map e_u8), .bool v.bad])], [], [], []⟩ : S)) (fun v => wire_Reader_Num_J1 v = some r) ?_ ?_
 ·refine Nblk ?_
  unfold wire_Reader_Num_L1 at hF
  refine Niter (fun v1 : Reader × Int × List UInt8 × Int × Int => (⟨[(0, .ptr 100000 0), (3, .i v1.2.1), (9, .sl 1 (v1.2.2.1.map e_u8)), (10, .i v1.2.2.2.1), (11, .i v1.2.2.2.2)], [(100000, [.sl 1 (v1.1.b.map e_u8), .bool v1.1.bad])], [], [], []⟩ : S)) [] hF (by kernel_rfl) ?_
  intro n1 v1 y1 hF ih1 dn1
  unfold wire_Reader_Num_B1 at hF
  refine NR [] [0, 3, 9, 10, 11, 12] [100000] [] [(12, .bool (decide (v1.2.2.2.2 < v1.2.2.2.1)))] .nil ?_
  refine Nif hF (fun hb hF => ?_) (fun hb hF => ?_)
  ·refine Nblk ?_
   obtain ⟨h0, hF⟩ := asrt_elim hF
   refine NR [.av (e_u8 (lget v1.2.2.1 v1.2.2.2.2))] [0, 3, 4, 5, 9, 10, 11] [100000] [] [(4, .i v1.2.2.2.2), (5, .int .u8 (((lget v1.2.2.1 v1.2.2.2.2)).toNat : Int))] (hc (idx_ok e_u8 h0) .nil) ?_
   obtain ⟨h1, hF⟩ := asrt_elim hF
   refine NRL (bitsOp .or .i64 v1.2.1 (w64 ((w64 ((toU8 (((BitVec.ofInt 8 ((lget v1.2.2.1 v1.2.2.2.2).toNat : Int) &&& BitVec.ofInt 8 ((127 : UInt8).toNat : Int)).toNat : Int))).toNat : Int)) * 2 ^ (min (w64 (7 * v1.2.2.2.2)).toNat 64)))) (fun v2 : Int => ([(3, .i v2)], [], [], [])) [] [0, 3, 4, 5, 9, 10, 11] [100000] [] [] (hc h1 .nil) (fun v2 hv => ?_)
   have hF := lt_elim hF hv
   refine NR [] [0, 3, 4, 5, 9, 10, 11, 29] [100000] [] [(29, .bool ((decide (4 < v1.2.2.2.2)) || (decide (1000000000 < v2))))] .nil ?_
   refine Nif hF (fun hb hF => ?_) (fun hb hF => ?_)
   ·refine Nexit rfl ?_
    have hF := inrO_done hF dn1
    exact metP v1.1 [] hF (by kernel_rfl)
   ·refine NR [] [0, 3, 4, 5, 9, 10, 11, 31] [100000] [] [(31, .bool (decide (((lget v1.2.2.1 v1.2.2.2.2).toNat : Int) < ((128 : UInt8).toNat : Int))))] .nil ?_
    refine Nif hF (fun hb hF => ?_) (fun hb hF => ?_)
    ·refine NR [] [0, 3, 4, 37] [100000] [] [(37, .bool ((decide (0 < v1.2.2.2.2)) && (decide (((lget v1.2.2.1 v1.2.2.2.2).toNat : Int) = ((0 : UInt8).toNat : Int)))))] .nil ?_
     refine Nif hF (fun hb hF => ?_) (fun hb hF => ?_)
     ·refine Nexit rfl ?_
      have hF := inrO_done hF dn1
      exact metP v1.1 [] hF (by kernel_rfl)
     ·obtain ⟨h2, hF⟩ := asrt_elim hF
      refine VR [.xs ((ldrop v1.1.b (w64 (v1.2.2.2.2 + 1))).map e_u8)] [3] [100000] [] [] [] [(100000, [.sl 1 ((ldrop v1.1.b (w64 (v1.2.2.2.2 + 1))).map e_u8), .bool v1.1.bad])] [] [] (hc (sl10_ok e_u8 h2) .nil) ?_
      refine NR [] [2] [100000] [] [(2, .i v2)] .nil ?_
      have hF := ret_done hF dn1
      cases hF
      exact Wk_ret (hfin _ ⟨[], [100000], [], [], [], [], by kernel_rfl⟩)
    ·refine NR [] [0, 3, 9, 10, 11] [100000] [] [(11, .i (w64 (v1.2.2.2.2 + 1)))] .nil ?_
     exact Nrnd [] hF ih1 (by kernel_rfl)
  ·refine Nexit rfl ?_
   have hF := inrO_done hF dn1
   exact metP v1.1 [] hF (by kernel_rfl)
 ·intro v hF
  have hF : wire_Reader_Num_J1 v = some r := hF
  unfold wire_Reader_Num_J1 at hF
  refine VR [] [] [100000] [] [] [] [(100000, [.nils, .bool true])] [] [] .nil ?_
  refine NR [] [2] [100000] [] [(2, .i 0)] .nil ?_
  cases hF
  refine Wk_coeB 100000 [.sl 1 (([] : List UInt8).map e_u8), .bool true] rfl (.cons (CoeS.nils 1) (.cons (CoeS.refl _) .nil)) ?_
  exact Wk_ret (hfin _ ⟨[], [100000], [], [], [], [], by kernel_rfl⟩)

/- (*wire.Reader).Ok -/
noncomputable def wire_Reader_Ok (box : Reader) : Bool :=
 (!box.bad) && (decide ((box.b.length : Int) = 0))
theorem wire_Reader_Ok_ok (box : Reader) (r : Bool) (hF : wire_Reader_Ok box = r) : Pe Try.prog 68 ⟨[], [(100000, [.sl 1 (box.b.map e_u8), .bool box.bad])], [], [], []⟩ [.ptr 100000 0] (.bool r) ⟨[], [(100000, [.sl 1 (box.b.map e_u8), .bool box.bad])], [], [], []⟩ := by
 refine PeN 16 [.tmp 2] [4] Ty.ok Fn.b68 Try.func68 ?_
 intro Q g hfin
 unfold wire_Reader_Ok at hF
 refine NR [] [0] [100000] [] [] .nil ?_
 refine NR [.nat (box.b.length : Int)] [2] [100000] [] [(2, .bool ((!box.bad) && (decide ((box.b.length : Int) = 0))))] (hc (fun (_ : (!box.bad) = true) => (len_ok e_u8 box.b)) .nil) ?_
 cases hF
 exact Wk_ret (hfin _ ⟨[], [100000], [], [], [], [], by kernel_rfl⟩)

/- (*wire.Reader).More -/
noncomputable def wire_Reader_More (box : Reader) : Bool :=
 decide (0 < (box.b.length : Int))
theorem wire_Reader_More_ok (box : Reader) (r : Bool) (hF : wire_Reader_More box = r) : Pe Try.prog 105 ⟨[], [(100000, [.sl 1 (box.b.map e_u8), .bool box.bad])], [], [], []⟩ [.ptr 100000 0] (.bool r) ⟨[], [(100000, [.sl 1 (box.b.map e_u8), .bool box.bad])], [], [], []⟩ := by
 refine PeN 9 [.tmp 2] [4] Ty.ok Fn.b105 Try.func105 ?_
 intro Q g hfin
 unfold wire_Reader_More at hF
 refine NR [] [0] [100000] [] [] .nil ?_
 refine NR [.nat (box.b.length : Int)] [2] [100000] [] [(2, .bool (decide (0 < (box.b.length : Int))))] (hc (len_ok e_u8 box.b) .nil) ?_
 cases hF
 exact Wk_ret (hfin _ ⟨[], [100000], [], [], [], [], by kernel_rfl⟩)

/- (*wire.Reader).Text -/
noncomputable def wire_Reader_Text (box : Reader) : Option (List UInt8 × Reader) :=
 ob (wire_Reader_Num box) fun x =>
 if (x.2.bad || (decide ((x.2.b.length : Int) < x.1))) = true then
  some (([] : List UInt8), (⟨([] : List UInt8), true⟩ : Reader))
 else
  asrt (0 ≤ x.1 ∧ x.1 ≤ (x.2.b.length : Int)) <|
  asrt (0 ≤ x.1 ∧ x.1 ≤ (x.2.b.length : Int)) <|
  some ((ltake x.2.b x.1), (⟨(ldrop x.2.b x.1), x.2.bad⟩ : Reader))
theorem wire_Reader_Text_ok (box : Reader) (r : List UInt8 × Reader) (hF : wire_Reader_Text box = some r) : Pe Try.prog 114 ⟨[], [(100000, [.sl 1 (box.b.map e_u8), .bool box.bad])], [], [], []⟩ [.ptr 100000 0] (.str r.1) ⟨[], [(100000, [.sl 1 (r.2.b.map e_u8), .bool r.2.bad])], [], [], []⟩ := by
 refine PeN 43 [.tmp 2] [9] Ty.ok Fn.b114 Try.func114 ?_
 intro Q g hfin
 unfold wire_Reader_Text at hF
 refine NR [] [0] [100000] [] [] .nil ?_
 obtain ⟨x, h0, hF⟩ := ob_elim hF
 refine VR [.callE [100000] [] [] [] (.i x.1) ⟨[], [(100000, [.sl 1 (x.2.b.map e_u8), .bool x.2.bad])], [], [], []⟩] [0, 3] [100000] [] [] [(3, .i x.1)] [(100000, [.sl 1 (x.2.b.map e_u8), .bool x.2.bad])] [] [] (hc (Pe.ren (wire_Reader_Num_ok box x h0) ⟨[], [], [], []⟩) .nil) ?_
 refine NR [.nat (x.2.b.length : Int)] [0, 3, 19] [100000] [] [(19, .bool (x.2.bad || (decide ((x.2.b.length : Int) < x.1))))] (hc (fun (_ : (!x.2.bad) = true) => (len_ok e_u8 x.2.b)) .nil) ?_
 refine Nif hF (fun hb hF => ?_) (fun hb hF => ?_)
 ·refine VR [] [] [100000] [] [] [] [(100000, [.nils, .bool true])] [] [] .nil ?_
  refine NR [] [2] [100000] [] [(2, .str ([] : List UInt8))] .nil ?_
  cases hF
  refine Wk_coeB 100000 [.sl 1 (([] : List UInt8).map e_u8), .bool true] rfl (.cons (CoeS.nils 1) (.cons (CoeS.refl _) .nil)) ?_
  exact Wk_ret (hfin _ ⟨[], [100000], [], [], [], [], by kernel_rfl⟩)
 ·obtain ⟨h1, hF⟩ := asrt_elim hF
  refine NR [.xs ((ltake x.2.b x.1).map e_u8), .str (ltake x.2.b x.1)] [0, 3, 4] [100000] [] [(4, .str (ltake x.2.b x.1))] (hc (sl01_ok e_u8 h1) (hc (u8s_ok (ltake x.2.b x.1)) .nil)) ?_
  obtain ⟨h2, hF⟩ := asrt_elim hF
  refine VR [.xs ((ldrop x.2.b x.1).map e_u8)] [4] [100000] [] [] [] [(100000, [.sl 1 ((ldrop x.2.b x.1).map e_u8), .bool x.2.bad])] [] [] (hc (sl10_ok e_u8 h2) .nil) ?_
  refine NR [] [2] [100000] [] [(2, .str (ltake x.2.b x.1))] .nil ?_
  cases hF
  exact Wk_ret (hfin _ ⟨[], [100000], [], [], [], [], by kernel_rfl⟩)

/- (*wire.Reader).Fine -/
noncomputable def wire_Reader_Fine (box : Reader) : Bool :=
 !box.bad
theorem wire_Reader_Fine_ok (box : Reader) (r : Bool) (hF : wire_Reader_Fine box = r) : Pe Try.prog 120 ⟨[], [(100000, [.sl 1 (box.b.map e_u8), .bool box.bad])], [], [], []⟩ [.ptr 100000 0] (.bool r) ⟨[], [(100000, [.sl 1 (box.b.map e_u8), .bool box.bad])], [], [], []⟩ := by
 refine PeN 8 [.tmp 2] [4] Ty.ok Fn.b120 Try.func120 ?_
 intro Q g hfin
 unfold wire_Reader_Fine at hF
 refine NR [] [0] [100000] [] [] .nil ?_
 refine NR [] [2] [100000] [] [(2, .bool (!box.bad))] .nil ?_
 cases hF
 exact Wk_ret (hfin _ ⟨[], [100000], [], [], [], [], by kernel_rfl⟩)

/- cell.From -/
noncomputable def cell_From (box : Reader) : Option (Cell × Bool × Reader) :=
 ob (wire_Reader_Text box) fun x =>
 ob (wire_Reader_Text x.2) fun x1 =>
 ob (wire_Reader_Num x1.2) fun x2 =>
 ob (wire_Reader_Num x2.2) fun x3 =>
 ob (wire_Reader_Text x3.2) fun x4 =>
 lt (wire_Reader_Fine x4.2) fun x5 =>
 lt (cell_code (⟨x.1, x1.1, x2.1, decide (x3.1 = 1), x4.1⟩ : Cell)) fun x6 =>
 some ((⟨x.1, x1.1, x2.1, decide (x3.1 = 1), x4.1⟩ : Cell), ((decide (x3.1 < 2)) && x5) && (decide (x6 = 0)), x4.2)
theorem cell_From_ok (box : Reader) (r : Cell × Bool × Reader) (hF : cell_From box = some r) : Pe Try.prog 106 ⟨[], [(100000, [.sl 1 (box.b.map e_u8), .bool box.bad])], [], [], []⟩ [.ptr 100000 0] (.tup [.agg (c_Cell r.1), .bool r.2.1]) ⟨[], [(100000, [.sl 1 (r.2.2.b.map e_u8), .bool r.2.2.bad])], [], [], []⟩ := by
 refine PeN 33 [.cell 2 96, .tmp 3] [96, 4] Ty.ok Fn.b106 Try.func106 ?_
 intro Q g hfin
 unfold cell_From at hF
 refine VR [] [0, 2] [2, 100000] [] [] [(2, .ptr 2 0)] [(2, [.str [], .str [], .i 0, .bool false, .str []])] [] [] .nil ?_
 obtain ⟨x, h0, hF⟩ := ob_elim hF
 obtain ⟨x1, h1, hF⟩ := ob_elim hF
 obtain ⟨x2, h2, hF⟩ := ob_elim hF
 refine VR [.callE [100000] [] [] [] (.str x.1) ⟨[], [(100000, [.sl 1 (x.2.b.map e_u8), .bool x.2.bad])], [], [], []⟩, .callE [100000] [] [] [] (.str x1.1) ⟨[], [(100000, [.sl 1 (x1.2.b.map e_u8), .bool x1.2.bad])], [], [], []⟩, .callE [100000] [] [] [] (.i x2.1) ⟨[], [(100000, [.sl 1 (x2.2.b.map e_u8), .bool x2.2.bad])], [], [], []⟩] [0, 2, 4] [2, 4, 100000] [] [] [(4, .ptr 4 0)] [(4, [.str x.1, .str x1.1, .i x2.1, .bool false, .str []]), (100000, [.sl 1 (x2.2.b.map e_u8), .bool x2.2.bad])] [] [] (hc (Pe.ren (wire_Reader_Text_ok box x h0) ⟨[], [], [], []⟩) (hc (Pe.ren (wire_Reader_Text_ok x.2 x1 h1) ⟨[], [], [], []⟩) (hc (Pe.ren (wire_Reader_Num_ok x1.2 x2 h2) ⟨[], [], [], []⟩) .nil))) ?_
 obtain ⟨x3, h3, hF⟩ := ob_elim hF
 refine VR [.callE [100000] [] [] [] (.i x3.1) ⟨[], [(100000, [.sl 1 (x3.2.b.map e_u8), .bool x3.2.bad])], [], [], []⟩] [0, 2, 4, 5] [2, 4, 100000] [] [] [(5, .i x3.1)] [(100000, [.sl 1 (x3.2.b.map e_u8), .bool x3.2.bad])] [] [] (hc (Pe.ren (wire_Reader_Num_ok x2.2 x3 h3) ⟨[], [], [], []⟩) .nil) ?_
 obtain ⟨x4, h4, hF⟩ := ob_elim hF
 refine VR [.callE [100000] [] [] [] (.str x4.1) ⟨[], [(100000, [.sl 1 (x4.2.b.map e_u8), .bool x4.2.bad])], [], [], []⟩] [0, 2, 4, 5] [2, 4, 100000] [] [] [] [(4, [.str x.1, .str x1.1, .i x2.1, .bool (decide (x3.1 = 1)), .str x4.1]), (100000, [.sl 1 (x4.2.b.map e_u8), .bool x4.2.bad])] [] [] (hc (Pe.ren (wire_Reader_Text_ok x3.2 x4 h4) ⟨[], [], [], []⟩) .nil) ?_
 obtain ⟨x5, h5, hF⟩ := lt_split hF
 obtain ⟨x6, h6, hF⟩ := lt_split hF
 refine VD [.callR [100000] [] [] [] (.bool x5), .callB (.i x6)] [2, 3] [2, 100000] [] [] [(3, .bool (((decide (x3.1 < 2)) && x5) && (decide (x6 = 0))))] [(2, [.str x.1, .str x1.1, .i x2.1, .bool (decide (x3.1 = 1)), .str x4.1])] [] [] (hc (fun (ga0 : (decide (x3.1 < 2)) = true) => (Pe.ren (wire_Reader_Fine_ok x4.2 x5 h5) ⟨[], [], [], []⟩)) (hc (fun (ga0 : ((decide (x3.1 < 2)) && x5) = true) => (cell_code_ok (⟨x.1, x1.1, x2.1, decide (x3.1 = 1), x4.1⟩ : Cell) x6 h6)) .nil)) ?_
 cases hF
 exact Wk_ret (hfin _ ⟨[], [100000], [], [], [], [], by kernel_rfl⟩)

/- cell.Read -/
noncomputable def cell_Read_J1 (v : Fault × List Cell) : Option (List Cell × Fault) :=
 ob (cell_Check v.2) fun x2 =>
 if (!decide (x2.Code = 0)) = true then
  some (([] : List Cell), x2)
 else
  some (v.2, (⟨0, 0⟩ : Fault))
noncomputable def cell_Read_B1 (v1 : Fault × List Cell × Reader) : Option ((Fault × List Cell × Reader) ⊕ (List Cell × Fault)) :=
 lt (wire_Reader_More v1.2.2) fun x3 =>
 if x3 = true then
  ob (cell_From v1.2.2) fun x4 =>
  if (!x4.2.1) = true then
   lt (cell_fault 5 (v1.2.1.length : Int)) fun x5 =>
   some (Sum.inr (([] : List Cell), x5))
  else
   asrt (((v1.2.1 ++ [x4.1]).length : Int) * 64 ≤ 140737488351232) <|
   some (Sum.inl (v1.1, (v1.2.1 ++ [x4.1]), x4.2.2))
 else
  inrO (cell_Read_J1 (v1.1, v1.2.1))
noncomputable def cell_Read_L1 (v0 : Fault × List Cell × Reader) : Option (List Cell × Fault) :=
 loopO (fun y => cell_Read_B1 y) v0
noncomputable def cell_Read (b : List UInt8) : Option (List Cell × Fault) :=
 if (decide (60000 < (b.length : Int))) = true then
  lt (cell_fault 8 0) fun x =>
  some (([] : List Cell), x)
 else
  lt (wire_Read b) fun x1 =>
  cell_Read_L1 ((⟨0, 0⟩ : Fault), ([] : List Cell), x1)
theorem cell_Read_ok (b : List UInt8) (r : List Cell × Fault) (hF : cell_Read b = some r) : Pe Try.prog 69 S.none [.sl 1 (b.map e_u8)] (.tup [.row 30 0, .agg (c_Fault r.2)]) ⟨[], [], [(30, .z 96 5 0 (r.1.map e_Cell))], [], []⟩ := by
 refine PeN 39 [.tmp 2, .cell 3 31] [22, 31] Ty.ok Fn.b69 Try.func69 ?_
 intro Q g hfin
 unfold cell_Read at hF
 refine VR [] [0, 3] [3] [] [] [(3, .ptr 3 0)] [(3, [.i 0, .i 0])] [] [] .nil ?_
 refine NR [.nat (b.length : Int)] [0, 3, 11] [3] [] [(11, .bool (decide (60000 < (b.length : Int))))] (hc (len_ok e_u8 b) .nil) ?_
 refine Nif hF (fun hb hF => ?_) (fun hb hF => ?_)
 ·obtain ⟨x, h0, hF⟩ := lt_split hF
  refine VR [.callB (.agg (c_Fault x))] [2, 3] [3] [] [] [(2, .nils)] [(3, (c_Fault x))] [] [] (hc (cell_fault_ok 8 0 x h0) .nil) ?_
  cases hF
  refine Wk_nilrow 2 60000 96 5 rfl rfl rfl ?_
  refine Wk_ren' ⟨[], [(60000, 30)], [], []⟩ rfl ?_
  exact Wk_ret (hfin _ ⟨[30], [], [30], [], [], [], by kernel_rfl⟩)
 ·refine NR [] [0, 3, 4] [3] [] [(4, .nils)] .nil ?_
  obtain ⟨x1, h1, hF⟩ := lt_split hF
  refine VR [.callE [] [] [] [] (.ptr 14 0) ⟨[], [(14, [.sl 1 (x1.b.map e_u8), .bool x1.bad])], [], [], []⟩] [3, 4, 5] [3, 14] [] [] [(5, .ptr 14 0)] [(14, [.sl 1 (x1.b.map e_u8), .bool x1.bad])] [] [] (hc (Pe.ren (wire_Read_ok b x1 h1) ⟨[(5, 14)], [], [], []⟩) .nil) ?_
  refine NmeetP (fun v : Fault × List Cell => (⟨[(3, .ptr 3 0), (4, .row 30 0)], [(3, (c_Fault v.1))], [(30, .z 96 5 0 (v.2.map e_Cell))], [], []⟩ : S)) (fun v => cell_Read_J1 v = some r) ?_ ?_
  ·refine Nblk ?_
   unfold cell_Read_L1 at hF
   refine Wk_nilrow 4 60002 96 5 rfl rfl rfl ?_
   refine Wk_trim (fs := [3, 4, 5]) (bs := [3, 14]) (rs := [60002]) (ms := []) (aa := []) (nv := []) rfl ?_
   refine Wk_ren' ⟨[], [(60002, 30)], [], []⟩ rfl ?_
   refine Niter (fun v1 : Fault × List Cell × Reader => (⟨[(3, .ptr 3 0), (4, .row 30 0), (5, .ptr 14 0)], [(3, (c_Fault v1.1)), (14, [.sl 1 (v1.2.2.b.map e_u8), .bool v1.2.2.bad])], [(30, .z 96 5 0 (v1.2.1.map e_Cell))], [], []⟩ : S)) [] hF (by kernel_rfl) ?_
   intro n1 v1 y1 hF ih1 dn1
   unfold cell_Read_B1 at hF
   obtain ⟨x3, h3, hF⟩ := lt_split hF
   refine NR [.callR [14] [] [] [] (.bool x3)] [3, 4, 5, 16] [3, 14] [30] [(16, .bool x3)] (hc (Pe.ren (wire_Reader_More_ok v1.2.2 x3 h3) ⟨[(100000, 14)], [], [], []⟩) .nil) ?_
   refine Nif hF (fun hb hF => ?_) (fun hb hF => ?_)
   ·refine Nblk ?_
    obtain ⟨x4, h4, hF⟩ := ob_elim hF
    refine VR [.callE [14] [] [] [] (.tup [.agg (c_Cell x4.1), .bool x4.2.1]) ⟨[], [(14, [.sl 1 (x4.2.2.b.map e_u8), .bool x4.2.2.bad])], [], [], []⟩] [3, 4, 5, 6, 7] [3, 6, 14] [30] [] [(6, .ptr 6 0), (7, .bool x4.2.1)] [(6, (c_Cell x4.1)), (14, [.sl 1 (x4.2.2.b.map e_u8), .bool x4.2.2.bad])] [] [] (hc (Pe.ren (cell_From_ok v1.2.2 x4 h4) ⟨[(100000, 14)], [], [], []⟩) .nil) ?_
    refine NR [] [3, 4, 5, 6, 23] [3, 6, 14] [30] [(23, .bool (!x4.2.1))] .nil ?_
    refine Nif hF (fun hb hF => ?_) (fun hb hF => ?_)
    ·obtain ⟨x5, h5, hF⟩ := lt_split hF
     refine VR [.nat (v1.2.1.length : Int), .callB (.agg (c_Fault x5))] [2, 3] [3] [] [] [(2, .nils)] [(3, (c_Fault x5))] [] [] (hc (len_ok e_Cell v1.2.1) (hc (cell_fault_ok 5 (v1.2.1.length : Int) x5 h5) .nil)) ?_
     have hF := ret_done hF dn1
     cases hF
     refine Wk_nilrow 2 60003 96 5 rfl rfl rfl ?_
     refine Wk_ren' ⟨[], [(60003, 30)], [], []⟩ rfl ?_
     exact Wk_ret (hfin _ ⟨[30], [], [30], [], [], [], by kernel_rfl⟩)
    ·obtain ⟨h6, hF⟩ := asrt_elim hF
     refine VR [.sealed, .xs ((v1.2.1 ++ [x4.1]).map e_Cell)] [3, 4, 5] [3, 14] [30] [] [(4, .row 30 1)] [] [(30, .z 96 5 1 ((v1.2.1 ++ [x4.1]).map e_Cell))] [] (hc (app_ok e_Cell v1.2.1 [x4.1]) (hc (appl_ok e_Cell h6) .nil)) ?_
     exact Nrnd [(30, ⟨0, true, true, false⟩)] hF ih1 (by kernel_rfl)
   ·refine Nexit rfl ?_
    have hF := inrO_done hF dn1
    exact metP (v1.1, v1.2.1) [] hF (by kernel_rfl)
  ·intro v hF
   have hF : cell_Read_J1 v = some r := hF
   unfold cell_Read_J1 at hF
   obtain ⟨x2, h2, hF⟩ := ob_elim hF
   refine VR [.callB (.agg (c_Fault x2))] [3, 4, 8] [3, 8] [30] [] [(8, .ptr 8 0)] [(8, (c_Fault x2))] [] [] (hc (cell_Check_ok v.2 x2 h2) .nil) ?_
   refine NR [] [3, 4, 8, 35] [3, 8] [30] [(35, .bool (!decide (x2.Code = 0)))] .nil ?_
   refine Nif hF (fun hb hF => ?_) (fun hb hF => ?_)
   ·refine VD [] [2, 3] [3] [] [] [(2, .nils)] [(3, (c_Fault x2))] [] [] .nil ?_
    cases hF
    refine Wk_nilrow 2 60001 96 5 rfl rfl rfl ?_
    refine Wk_ren' ⟨[], [(60001, 30)], [], []⟩ rfl ?_
    exact Wk_ret (hfin _ ⟨[30], [], [30], [], [], [], by kernel_rfl⟩)
   ·refine VR [] [2, 3] [3] [30] [] [(2, .row 30 0)] [(3, [.i 0, .i 0])] [] [] .nil ?_
    cases hF
    exact Wk_ret (hfin _ ⟨[30], [], [30], [], [], [], by kernel_rfl⟩)

/- wal.Read -/
noncomputable def wal_Read (b : List UInt8) : Option (Int × List Cell × Fault) :=
 if (decide (60000 < (b.length : Int))) = true then
  lt (wal_fault 8 0) fun x =>
  some (0, ([] : List Cell), x)
 else
  ob (slices_IndexFunc_byte_byte b) fun x1 =>
  asrt (0 ≤ w64 (1 + x1) ∧ w64 (1 + x1) ≤ (b.length : Int)) <|
  lt (wire_Read (ltake b (w64 (1 + x1)))) fun x2 =>
  ob (wire_Reader_Num x2) fun x3 =>
  lt (wire_Reader_Ok x3.2) fun x4 =>
  if (!x4) = true then
   lt (wal_fault 5 (-1)) fun x5 =>
   some (0, ([] : List Cell), x5)
  else
   asrt (0 ≤ w64 (1 + x1) ∧ w64 (1 + x1) ≤ (b.length : Int)) <|
   ob (cell_Read (ldrop b (w64 (1 + x1)))) fun x6 =>
   if (!decide (x6.2.Code = 0)) = true then
    some (0, ([] : List Cell), x6.2)
   else
    ob (wal_Check (⟨x3.1, x6.1⟩ : Note)) fun x7 =>
    if (!decide (x7.Code = 0)) = true then
     some (0, ([] : List Cell), x7)
    else
     some (x3.1, x6.1, x7)
theorem wal_Read_ok (b : List UInt8) (r : Int × List Cell × Fault) (hF : wal_Read b = some r) : Pe Try.prog 16 S.none [.sl 1 (b.map e_u8)] (.tup [.agg [.i r.1, .row 33 0], .agg (c_Fault r.2.2)]) ⟨[], [], [(33, .z 96 5 0 (r.2.1.map e_Cell))], [], []⟩ := by
 refine PeN 52 [.cell 2 24, .cell 3 31] [24, 31] Ty.ok Fn.b16 Try.func16 ?_
 intro Q g hfin
 unfold wal_Read at hF
 refine VR [] [0, 2, 3] [2, 3] [] [] [(2, .ptr 2 0), (3, .ptr 3 0)] [(2, [.i 0, .nils]), (3, [.i 0, .i 0])] [] [] .nil ?_
 refine NR [.nat (b.length : Int)] [0, 2, 3, 11] [2, 3] [] [(11, .bool (decide (60000 < (b.length : Int))))] (hc (len_ok e_u8 b) .nil) ?_
 refine Nif hF (fun hb hF => ?_) (fun hb hF => ?_)
 ·obtain ⟨x, h0, hF⟩ := lt_split hF
  refine VR [.callB (.agg (c_Fault x))] [2, 3] [2, 3] [] [] [] [(3, (c_Fault x))] [] [] (hc (wal_fault_ok 8 0 x h0) .nil) ?_
  cases hF
  refine Wk_nilrowB 2 1 60000 96 5 rfl rfl rfl rfl rfl ?_
  refine Wk_ren' ⟨[], [(60000, 33)], [], []⟩ rfl ?_
  exact Wk_ret (hfin _ ⟨[33], [], [33], [], [], [], by kernel_rfl⟩)
 ·obtain ⟨x1, h1, hF⟩ := ob_elim hF
  refine NR [.callB (.i x1)] [0, 2, 3, 4] [2, 3] [] [(4, .i (w64 (1 + x1)))] (hc (slices_IndexFunc_byte_byte_ok b x1 h1) .nil) ?_
  obtain ⟨h2, hF⟩ := asrt_elim hF
  obtain ⟨x2, h3, hF⟩ := lt_split hF
  refine VR [.xs ((ltake b (w64 (1 + x1))).map e_u8), .callE [] [] [] [] (.ptr 20 0) ⟨[], [(20, [.sl 1 (x2.b.map e_u8), .bool x2.bad])], [], [], []⟩] [0, 2, 3, 4, 5] [2, 3, 20] [] [] [(5, .ptr 20 0)] [(20, [.sl 1 (x2.b.map e_u8), .bool x2.bad])] [] [] (hc (sl01_ok e_u8 h2) (hc (Pe.ren (wire_Read_ok (ltake b (w64 (1 + x1))) x2 h3) ⟨[(5, 20)], [], [], []⟩) .nil)) ?_
  obtain ⟨x3, h4, hF⟩ := ob_elim hF
  refine VR [.callE [20] [] [] [] (.i x3.1) ⟨[], [(20, [.sl 1 (x3.2.b.map e_u8), .bool x3.2.bad])], [], [], []⟩] [0, 2, 3, 4, 5, 6] [2, 3, 6, 20] [] [] [(6, .ptr 6 0)] [(6, [.i x3.1, .nils]), (20, [.sl 1 (x3.2.b.map e_u8), .bool x3.2.bad])] [] [] (hc (Pe.ren (wire_Reader_Num_ok x2 x3 h4) ⟨[(100000, 20)], [], [], []⟩) .nil) ?_
  obtain ⟨x4, h5, hF⟩ := lt_split hF
  refine NR [.callR [20] [] [] [] (.bool x4)] [0, 2, 3, 4, 6, 26] [2, 3, 6] [] [(26, .bool (!x4))] (hc (Pe.ren (wire_Reader_Ok_ok x3.2 x4 h5) ⟨[(100000, 20)], [], [], []⟩) .nil) ?_
  refine Nif hF (fun hb hF => ?_) (fun hb hF => ?_)
  ·obtain ⟨x5, h6, hF⟩ := lt_split hF
   refine VR [.callB (.agg (c_Fault x5))] [2, 3] [2, 3] [] [] [] [(3, (c_Fault x5))] [] [] (hc (wal_fault_ok 5 (-1) x5 h6) .nil) ?_
   cases hF
   refine Wk_nilrowB 2 1 60001 96 5 rfl rfl rfl rfl rfl ?_
   refine Wk_ren' ⟨[], [(60001, 33)], [], []⟩ rfl ?_
   exact Wk_ret (hfin _ ⟨[33], [], [33], [], [], [], by kernel_rfl⟩)
  ·obtain ⟨h7, hF⟩ := asrt_elim hF
   obtain ⟨x6, h8, hF⟩ := ob_elim hF
   refine VR [.xs ((ldrop b (w64 (1 + x1))).map e_u8), .callE [] [] [] [] (.tup [.row 33 0, .agg (c_Fault x6.2)]) ⟨[], [], [(33, .z 96 5 0 (x6.1.map e_Cell))], [], []⟩] [2, 3, 6, 7, 8] [2, 3, 6, 8] [33] [] [(7, .row 33 0), (8, .ptr 8 0)] [(8, (c_Fault x6.2))] [(33, .z 96 5 0 (x6.1.map e_Cell))] [] (hc (sl10_ok e_u8 h7) (hc (Pe.ren (cell_Read_ok (ldrop b (w64 (1 + x1))) x6 h8) ⟨[], [(30, 33)], [], []⟩) .nil)) ?_
   refine NR [] [2, 3, 6, 7, 8, 38] [2, 3, 6, 8] [33] [(38, .bool (!decide (x6.2.Code = 0)))] .nil ?_
   refine Nif hF (fun hb hF => ?_) (fun hb hF => ?_)
   ·refine VD [] [2, 3] [2, 3] [] [] [] [(3, (c_Fault x6.2))] [] [] .nil ?_
    cases hF
    refine Wk_nilrowB 2 1 60002 96 5 rfl rfl rfl rfl rfl ?_
    refine Wk_ren' ⟨[], [(60002, 33)], [], []⟩ rfl ?_
    exact Wk_ret (hfin _ ⟨[33], [], [33], [], [], [], by kernel_rfl⟩)
   ·refine VR [] [2, 3, 6, 8] [2, 3, 6, 8] [33] [] [] [(6, [.i x3.1, .row 33 0])] [] [] .nil ?_
    obtain ⟨x7, h9, hF⟩ := ob_elim hF
    refine VR [.callB (.agg (c_Fault x7))] [2, 3, 6, 8] [2, 3, 6, 8] [33] [] [] [(8, (c_Fault x7))] [] [] (hc (wal_Check_ok (⟨x3.1, x6.1⟩ : Note) x7 h9) .nil) ?_
    refine NR [] [2, 3, 6, 8, 47] [2, 3, 6, 8] [33] [(47, .bool (!decide (x7.Code = 0)))] .nil ?_
    refine Nif hF (fun hb hF => ?_) (fun hb hF => ?_)
    ·refine VD [] [2, 3] [2, 3] [] [] [] [(3, (c_Fault x7))] [] [] .nil ?_
     cases hF
     refine Wk_nilrowB 2 1 60003 96 5 rfl rfl rfl rfl rfl ?_
     refine Wk_ren' ⟨[], [(60003, 33)], [], []⟩ rfl ?_
     exact Wk_ret (hfin _ ⟨[33], [], [33], [], [], [], by kernel_rfl⟩)
    ·refine VD [] [2, 3] [2, 3] [33] [] [] [(2, [.i x3.1, .row 33 0]), (3, (c_Fault x7))] [] [] .nil ?_
     cases hF
     exact Wk_ret (hfin _ ⟨[33], [], [33], [], [], [], by kernel_rfl⟩)

/- wal.Notes -/
noncomputable def wal_Notes_J1 (v : List Note × Int) : Option (List Note × Int) :=
 some (v.1, v.2)
noncomputable def wal_Notes_B1 (x : List (List UInt8) × Int) (v1 : List Note × Int × Int) : Option ((List Note × Int × Int) ⊕ (List Note × Int)) :=
 if (decide (v1.2.2 < (x.1.length : Int))) = true then
  asrt (0 ≤ v1.2.2 ∧ v1.2.2 < (x.1.length : Int)) <|
  asrt (0 ≤ v1.2.2 ∧ v1.2.2 < (x.1.length : Int)) <|
  ob (wal_Read (lget x.1 v1.2.2)) fun x1 =>
  asrt ((decide (0 < (v1.1.length : Int))) = true → (!(!decide (x1.2.2.Code = 0))) = true → 0 ≤ w64 ((v1.1.length : Int) - 1) ∧ w64 ((v1.1.length : Int) - 1) < (v1.1.length : Int)) <|
  asrt ((decide (0 < (v1.1.length : Int))) = true → (!(!decide (x1.2.2.Code = 0))) = true → 0 ≤ w64 ((v1.1.length : Int) - 1) ∧ w64 ((v1.1.length : Int) - 1) < (v1.1.length : Int)) <|
  if ((!decide (x1.2.2.Code = 0)) || ((decide (0 < (v1.1.length : Int))) && (!decide (x1.1 = (w64 (((lget v1.1 (w64 ((v1.1.length : Int) - 1))).Seq) + 1)))))) = true then
   inrO (wal_Notes_J1 (v1.1, v1.2.1))
  else
   asrt (((v1.1 ++ [(⟨x1.1, x1.2.1⟩ : Note)]).length : Int) * 32 ≤ 140737488351232) <|
   some (Sum.inl ((v1.1 ++ [(⟨x1.1, x1.2.1⟩ : Note)]), w64 (v1.2.1 + (w64 (6 + ((lget x.1 v1.2.2).length : Int)))), w64 (v1.2.2 + 1)))
 else
  inrO (wal_Notes_J1 (v1.1, v1.2.1))
noncomputable def wal_Notes_L1 (x : List (List UInt8) × Int) (v0 : List Note × Int × Int) : Option (List Note × Int) :=
 loopO (fun y => wal_Notes_B1 x y) v0
noncomputable def wal_Notes (d : Disk) : Option (List Note × Int) :=
 ob (wire_Opened d.Bytes) fun x =>
 wal_Notes_L1 x (([] : List Note), 0, 0)
theorem wal_Notes_ok (d : Disk) (r : List Note × Int) (hF : wal_Notes d = some r) : Pe Try.prog 92 S.none [.agg (c_Disk d)] (.tup [.row 53 0, .i r.2]) ⟨[], [], [(53, .z 24 2 0 (r.1.map e_Note))], [], []⟩ := by
 refine PeN 62 [.tmp 2, .tmp 3] [56, 3] Ty.ok Fn.b92 Try.func92 ?_
 intro Q g hfin
 unfold wal_Notes at hF
 refine VR [] [1] [1] [] [] [(1, .ptr 1 0)] [(1, (c_Disk d))] [] [] .nil ?_
 obtain ⟨x, h0, hF⟩ := ob_elim hF
 refine VR [.callE [] [] [] [] (.tup [.row 15 0, .i x.2]) ⟨[], [], [(15, .z 25 1 0 (x.1.map e_L_u8))], [], []⟩] [4] [] [15] [] [(4, .row 15 0)] [] [(15, .z 25 1 0 (x.1.map e_L_u8))] [] (hc (Pe.ren (wire_Opened_ok d.Bytes x h0) ⟨[], [(66, 15)], [], []⟩) .nil) ?_
 refine NR [] [4, 6] [] [15] [(6, .nils)] .nil ?_
 refine NR [] [4, 6, 7] [] [15] [(7, .i 0)] .nil ?_
 refine NR [.nat (x.1.length : Int)] [6, 7, 18, 19, 20] [] [15] [(18, .row 15 0), (19, .i (x.1.length : Int)), (20, .i 0)] (hc (len_ok e_L_u8 x.1) .nil) ?_
 refine NmeetP (fun v : List Note × Int => (⟨[(6, .row 53 0), (7, .i v.2)], [], [(53, .z 24 2 0 (v.1.map e_Note))], [], []⟩ : S)) (fun v => wal_Notes_J1 v = some r) ?_ ?_
 ·refine Nblk ?_
  unfold wal_Notes_L1 at hF
  refine Wk_nilrow 6 60000 24 2 rfl rfl rfl ?_
  refine Wk_trim (fs := [6, 7, 18, 19, 20]) (bs := []) (rs := [15, 60000]) (ms := []) (aa := []) (nv := []) rfl ?_
  refine Wk_ren' ⟨[], [(60000, 53)], [], []⟩ rfl ?_
  refine Niter (fun v1 : List Note × Int × Int => (⟨[(6, .row 53 0), (7, .i v1.2.1), (18, .row 15 0), (19, .i (x.1.length : Int)), (20, .i v1.2.2)], [], [(15, .z 25 1 0 (x.1.map e_L_u8)), (53, .z 24 2 0 (v1.1.map e_Note))], [], []⟩ : S)) [] hF (by kernel_rfl) ?_
  intro n1 v1 y1 hF ih1 dn1
  unfold wal_Notes_B1 at hF
  refine NR [] [6, 7, 18, 19, 20, 21] [] [15, 53] [(21, .bool (decide (v1.2.2 < (x.1.length : Int))))] .nil ?_
  refine Nif hF (fun hb hF => ?_) (fun hb hF => ?_)
  ·refine Nblk ?_
   obtain ⟨h1, h2, hF⟩ := asrt2 hF
   refine NR [.av (e_L_u8 (lget x.1 v1.2.2))] [6, 7, 9, 18, 19, 20] [] [15, 53] [(9, .sl 1 ((lget x.1 v1.2.2).map e_u8))] (hc (ixr_ok e_L_u8 h1) (hc (ldr_ok e_L_u8 h2) .nil)) ?_
   obtain ⟨x1, h3, hF⟩ := ob_elim hF
   refine VR [.callE [] [] [] [] (.tup [.agg [.i x1.1, .row 26 0], .agg (c_Fault x1.2.2)]) ⟨[], [], [(26, .z 96 5 0 (x1.2.1.map e_Cell))], [], []⟩] [6, 7, 9, 10, 11, 18, 19, 20] [10, 11] [15, 26, 53] [] [(10, .ptr 10 0), (11, .ptr 11 0)] [(10, [.i x1.1, .row 26 0]), (11, (c_Fault x1.2.2))] [(26, .z 96 5 0 (x1.2.1.map e_Cell))] [] (hc (Pe.ren (wal_Read_ok (lget x.1 v1.2.2) x1 h3) ⟨[], [(33, 26)], [], []⟩) .nil) ?_
   obtain ⟨h4, h5, hF⟩ := asrt2 hF
   refine ND [.nat (v1.1.length : Int), .nat (v1.1.length : Int), .av (e_Note (lget v1.1 (w64 ((v1.1.length : Int) - 1))))] [6, 7, 9, 10, 18, 19, 20, 49] [10] [15, 26, 53] [(49, .bool ((!decide (x1.2.2.Code = 0)) || ((decide (0 < (v1.1.length : Int))) && (!decide (x1.1 = (w64 (((lget v1.1 (w64 ((v1.1.length : Int) - 1))).Seq) + 1)))))))] (hc (fun (_ : (!(!decide (x1.2.2.Code = 0))) = true) => (len_ok e_Note v1.1)) (hc (fun (_ : (decide (0 < (v1.1.length : Int))) = true) (_ : (!(!decide (x1.2.2.Code = 0))) = true) => (len_ok e_Note v1.1)) (hc (fun (ga0 : (decide (0 < (v1.1.length : Int))) = true) (ga1 : (!(!decide (x1.2.2.Code = 0))) = true) => (ixr_ok e_Note (h4 ga0 ga1))) (hc (fun (ga0 : (decide (0 < (v1.1.length : Int))) = true) (ga1 : (!(!decide (x1.2.2.Code = 0))) = true) => (ldr_ok e_Note (h5 ga0 ga1))) .nil)))) ?_
   refine Nif hF (fun hb hF => ?_) (fun hb hF => ?_)
   ·refine Nexit rfl ?_
    have hF := inrO_done hF dn1
    exact metP (v1.1, v1.2.1) [] hF (by kernel_rfl)
   ·obtain ⟨h6, hF⟩ := asrt_elim hF
    refine VR [.sealed, .xs ((v1.1 ++ [(⟨x1.1, x1.2.1⟩ : Note)]).map e_Note)] [6, 7, 9, 18, 19, 20] [] [15, 53] [] [(6, .row 53 1)] [] [(53, ⟨24, 2, 1, 0, 0, true, 0, [], ((v1.1 ++ [(⟨x1.1, x1.2.1⟩ : Note)]).map e_Note)⟩)] [] (hc (app_ok e_Note v1.1 [(⟨x1.1, x1.2.1⟩ : Note)]) (hc (appl_ok e_Note h6) .nil)) ?_
    refine NR [.nat ((lget x.1 v1.2.2).length : Int)] [6, 7, 18, 19, 20] [] [15, 53] [(7, .i (w64 (v1.2.1 + (w64 (6 + ((lget x.1 v1.2.2).length : Int))))))] (hc (len_ok e_u8 (lget x.1 v1.2.2)) .nil) ?_
    refine NR [] [6, 7, 18, 19, 20] [] [15, 53] [(20, .i (w64 (v1.2.2 + 1)))] .nil ?_
    exact Nrnd [(53, ⟨0, true, true, false⟩)] hF ih1 (by kernel_rfl)
  ·refine Nexit rfl ?_
   have hF := inrO_done hF dn1
   exact metP (v1.1, v1.2.1) [] hF (by kernel_rfl)
 ·intro v hF
  have hF : wal_Notes_J1 v = some r := hF
  unfold wal_Notes_J1 at hF
  refine NR [] [2, 3] [] [53] [(2, .row 53 0), (3, .i v.2)] .nil ?_
  cases hF
  exact Wk_ret (hfin _ ⟨[53], [], [53], [], [], [], by kernel_rfl⟩)

/- wire.AddFrame -/
noncomputable def wire_AddFrame_v1 (body : List UInt8) : Option (List UInt8) :=
 asrt ((([toU8 (Int.fdiv (body.length : Int) (2 ^ (min (8 : Int).toNat 64))), toU8 (body.length : Int)] : List UInt8).length : Int) * 1 ≤ 140737488351232) <|
 lt (([toU8 (Int.fdiv (body.length : Int) (2 ^ (min (8 : Int).toNat 64))), toU8 (body.length : Int)] : List UInt8)) fun (v : List UInt8) =>
 asrt (((v ++ body).length : Int) * 1 ≤ 140737488351232) <|
 asrt (0 ≤ (0 : Int) ∧ (0 : Int) ≤ ((v ++ body).length : Int)) <|
 ob (wire_Crc (ldrop (v ++ body) 0)) fun x =>
 asrt ((((v ++ body) ++ ([toU8 (Int.fdiv x (2 ^ (min (24 : Int).toNat 32))), toU8 (Int.fdiv x (2 ^ (min (16 : Int).toNat 32))), toU8 (Int.fdiv x (2 ^ (min (8 : Int).toNat 32))), toU8 x] : List UInt8)).length : Int) * 1 ≤ 140737488351232) <|
 lt (((v ++ body) ++ ([toU8 (Int.fdiv x (2 ^ (min (24 : Int).toNat 32))), toU8 (Int.fdiv x (2 ^ (min (16 : Int).toNat 32))), toU8 (Int.fdiv x (2 ^ (min (8 : Int).toNat 32))), toU8 x] : List UInt8))) fun (v1 : List UInt8) =>
 some v1
theorem wire_AddFrame_v1_ok (body : List UInt8) (r : List UInt8) (hF : wire_AddFrame_v1 body = some r) : Pe Try.prog 81 S.none [.nils, .sl 1 (body.map e_u8)] (.row 18 3) ⟨[], [], [(18, ⟨5, 1, 3, (r.map e_u8).length, 0, true, 0, [], (r.map e_u8)⟩)], [], []⟩ := by
 refine PeN 40 [.tmp 4] [25] Ty.ok Fn.b81 Try.func81 ?_
 intro Q g hfin
 unfold wire_AddFrame_v1 at hF
 refine NR [] [0, 1] [] [] [] .nil ?_
 refine NR [] [0, 1, 5] [] [] [(5, .i 0)] .nil ?_
 obtain ⟨h0, hF⟩ := asrt_elim hF
 refine NRL (([toU8 (Int.fdiv (body.length : Int) (2 ^ (min (8 : Int).toNat 64))), toU8 (body.length : Int)] : List UInt8)) (fun v : List UInt8 => ([(0, .row 18 1)], [], [(18, .z 5 1 1 (v.map e_u8))], [])) [.nat (body.length : Int), .nat (body.length : Int), .sealed, .xs (([toU8 (Int.fdiv (body.length : Int) (2 ^ (min (8 : Int).toNat 64))), toU8 (body.length : Int)] : List UInt8).map e_u8)] [0, 1, 5] [] [18] [] (hc (len_ok e_u8 body) (hc (by decide : (0 : Int) ≤ 8) (hc (len_ok e_u8 body) (hc (app0_ok e_u8 ([toU8 (Int.fdiv (body.length : Int) (2 ^ (min (8 : Int).toNat 64))), toU8 (body.length : Int)] : List UInt8)) (hc (appl_ok e_u8 h0) .nil))))) (fun v hv => ?_)
 have hF := lt_elim hF hv
 obtain ⟨h1, hF⟩ := asrt_elim hF
 refine VR [.xs ((v ++ body).map e_u8)] [0, 5] [] [18] [] [(0, .row 18 2)] [] [(18, .z 5 1 2 ((v ++ body).map e_u8))] [] (hc (app_ok e_u8 v body) (hc (appl_ok e_u8 h1) .nil)) ?_
 obtain ⟨h2, hF⟩ := asrt_elim hF
 obtain ⟨x, h3, hF⟩ := ob_elim hF
 refine VR [.xs ((ldrop (v ++ body) 0).map e_u8), .callB (.int .u32 x)] [0, 6] [] [18] [] [(6, .int .u32 x)] [] [(18, ⟨5, 1, 2, ((v ++ body).map e_u8).length, 0, true, 0, [], ((v ++ body).map e_u8)⟩)] [] (hc (sl10_ok e_u8 h2) (hc (wire_Crc_ok (ldrop (v ++ body) 0) x h3) .nil)) ?_
 obtain ⟨h4, hF⟩ := asrt_elim hF
 refine NRL (((v ++ body) ++ ([toU8 (Int.fdiv x (2 ^ (min (24 : Int).toNat 32))), toU8 (Int.fdiv x (2 ^ (min (16 : Int).toNat 32))), toU8 (Int.fdiv x (2 ^ (min (8 : Int).toNat 32))), toU8 x] : List UInt8))) (fun v1 : List UInt8 => ([(4, .row 18 3)], [], [(18, ⟨5, 1, 3, ((v ++ body).map e_u8).length, 0, true, 0, [], (v1.map e_u8)⟩)], [])) [.sealed, .xs (((v ++ body) ++ ([toU8 (Int.fdiv x (2 ^ (min (24 : Int).toNat 32))), toU8 (Int.fdiv x (2 ^ (min (16 : Int).toNat 32))), toU8 (Int.fdiv x (2 ^ (min (8 : Int).toNat 32))), toU8 x] : List UInt8)).map e_u8)] [4] [] [18] [] (hc (by decide : (0 : Int) ≤ 24) (hc (by decide : (0 : Int) ≤ 16) (hc (by decide : (0 : Int) ≤ 8) (hc (app_ok e_u8 (v ++ body) ([toU8 (Int.fdiv x (2 ^ (min (24 : Int).toNat 32))), toU8 (Int.fdiv x (2 ^ (min (16 : Int).toNat 32))), toU8 (Int.fdiv x (2 ^ (min (8 : Int).toNat 32))), toU8 x] : List UInt8)) (hc (appl_ok e_u8 h4) .nil))))) (fun v1 hv => ?_)
 have hF := lt_elim hF hv
 cases hF
 exact Wk_ret (hfin _ ⟨[18], [], [18], [], [], [(18, ⟨3, true, true, true⟩)], by kernel_rfl⟩)

/- wal.Frame -/
noncomputable def wal_Frame_v1 (num : Note) : Option (List UInt8) :=
 ob (wal_bytes num) fun x =>
 ob (wire_AddFrame_v1 x) fun x1 =>
 some x1
theorem wal_Frame_v1_ok (num : Note) (r : List UInt8) (hF : wal_Frame_v1 num = some r) : Pe Try.prog 94 S.none [.nils, .agg (c_Note num)] (.row 8 3) ⟨[], [], [(8, ⟨5, 1, 3, (r.map e_u8).length, 0, true, 0, [], (r.map e_u8)⟩)], [], []⟩ := by
 refine PeN 9 [.tmp 4] [25] Ty.ok Fn.b94 Try.func94 ?_
 intro Q g hfin
 unfold wal_Frame_v1 at hF
 refine VR [] [0, 3] [3] [] [] [(3, .ptr 3 0)] [(3, (c_Note num))] [] [] .nil ?_
 obtain ⟨x, h0, hF⟩ := ob_elim hF
 obtain ⟨x1, h1, hF⟩ := ob_elim hF
 refine VR [.callE [] [] [] [] (.row 7 0) ⟨[], [], [(7, .z 5 1 0 (x.map e_u8))], [], []⟩, .raw [0], .callE [] [] [] [] (.row 8 3) ⟨[], [], [(8, ⟨5, 1, 3, (x1.map e_u8).length, 0, true, 0, [], (x1.map e_u8)⟩)], [], []⟩] [4] [] [8] [] [(4, .row 8 3)] [] [(8, ⟨5, 1, 3, (x1.map e_u8).length, 0, true, 0, [], (x1.map e_u8)⟩)] [] (hc (Pe.ren (wal_bytes_ok num x h0) ⟨[], [(8, 7)], [], []⟩) (hc (Pe.ren (wire_AddFrame_v1_ok x x1 h1) ⟨[], [(18, 8)], [], []⟩) .nil)) ?_
 cases hF
 exact Wk_ret (hfin _ ⟨[8], [], [8], [], [], [], by kernel_rfl⟩)

/- slices.Grow[[]byte,byte] -/
noncomputable def slices_Grow_byte_byte_v1 (num : Int) : Option (List UInt8) :=
 ob (
  if (decide (num < 0)) = true then
   none
  else
   some ()) fun (v : Unit) =>
 ob (
  if (decide (0 < (w64 (num - (w64 (0 - 0)))))) = true then
   asrt (0 ≤ (w64 (num - (w64 (0 - 0)))) ∧ (w64 (num - (w64 (0 - 0)))).toNat * 1 ≤ 140737488351232) <|
   asrt (0 ≤ (0 : Int) ∧ (0 : Int) ≤ ((List.replicate (w64 (num - (w64 (0 - 0)))).toNat ((0 : UInt8) : UInt8)).length : Int)) <|
   lt ((List.replicate (w64 (num - (w64 (0 - 0)))).toNat ((0 : UInt8) : UInt8))) fun (v2 : List UInt8) =>
   asrt (((0 : Int).toNat) ≤ v2.length) <|
   some (v2.take ((0 : Int).toNat))
  else
   some ([] : List UInt8)) fun (v1 : List UInt8) =>
 some v1
theorem slices_Grow_byte_byte_v1_ok (num : Int) (r : List UInt8) (hF : slices_Grow_byte_byte_v1 num = some r) : Pe Try.prog 129 S.none [.nils, .i num] (.row 22 0) ⟨[], [], [(22, .o 5 1 0 (r.map e_u8))], [], []⟩ := by
 refine PeN 27 [.tmp 4] [25] Ty.ok Fn.b129 Try.func129 ?_
 intro Q g hfin
 unfold slices_Grow_byte_byte_v1 at hF
 refine NR [] [0, 1] [] [] [] .nil ?_
 refine NR [] [0, 1, 6] [] [] [(6, .bool (decide (num < 0)))] .nil ?_
 obtain ⟨v, hv, hF⟩ := ob_elim hF
 refine Nmeet (⟨[(0, .nils), (1, .i num)], [], [], [], []⟩ : S) ?_ ?_
 ·have hF := hv
  refine Nif hF (fun hb hF => ?_) (fun hb hF => ?_)
  ·cases hF
  ·cases hF
   exact met [] (by kernel_rfl)
 ·refine NR [] [0, 1] [] [] [(1, .i (w64 (num - (w64 (0 - 0)))))] .nil ?_
  refine NR [] [0, 1, 16] [] [] [(16, .bool (decide (0 < (w64 (num - (w64 (0 - 0)))))))] .nil ?_
  obtain ⟨v1, hv, hF⟩ := ob_elim hF
  refine Nmeet (⟨[(0, .row 22 0)], [], [(22, .o 5 1 0 (v1.map e_u8))], [], []⟩ : S) ?_ ?_
  ·have hF := hv
   refine Nif hF (fun hb hF => ?_) (fun hb hF => ?_)
   ·obtain ⟨h0, hF⟩ := asrt_elim hF
    obtain ⟨h1, hF⟩ := asrt_elim hF
    refine NRL ((List.replicate (w64 (num - (w64 (0 - 0)))).toNat ((0 : UInt8) : UInt8))) (fun v2 : List UInt8 => ([(0, .rowv 22 0 0 ((0 : Int).toNat))], [], [(22, .z 5 1 0 (v2.map e_u8))], [])) [.xs ((List.replicate (w64 (num - (w64 (0 - 0)))).toNat ((0 : UInt8) : UInt8)).map e_u8), .vw ((0 : Int).toNat)] [0] [] [22] [] (hc (rfl : (0 : Int) = 0) (hc h0 (hc (rep_ok e_u8 (w64 (num - (w64 (0 - 0)))) ((0 : UInt8) : UInt8)) (hc (vw01_ok (cm := 0) e_u8 h1) .nil)))) (fun v2 hv => ?_)
    have hF := lt_elim hF hv
    obtain ⟨h2, hF⟩ := asrt_elim hF
    refine Wk_truncL 0 22 0 ((0 : Int).toNat) ((v2.take ((0 : Int).toNat)).map e_u8) rfl rfl rfl rfl (tk_ok e_u8 h2).1 (Nat.zero_le _) (List.map_take).symm ?_
    cases hF
    exact met [(22, ⟨0, false, true, false⟩)] (by kernel_rfl)
   ·refine Wk_nilrow 0 60000 5 1 rfl rfl rfl ?_
    refine Wk_trim (fs := [0]) (bs := []) (rs := [60000]) (ms := []) (aa := []) (nv := []) rfl ?_
    refine Wk_ren' ⟨[], [(60000, 22)], [], []⟩ rfl ?_
    cases hF
    exact met [(22, ⟨0, true, false, false⟩)] (by kernel_rfl)
  ·refine NR [] [4] [] [22] [(4, .row 22 0)] .nil ?_
   cases hF
   exact Wk_ret (hfin _ ⟨[22], [], [22], [], [], [], by kernel_rfl⟩)

/- slices.Concat[[]byte,byte] -/
noncomputable def slices_Concat_byte_byte_J2 (v1 : List UInt8) : Option (List UInt8) :=
 some v1
noncomputable def slices_Concat_byte_byte_B1 (slices : List (List UInt8)) (v2 : List UInt8 × Int) : Option ((List UInt8 × Int) ⊕ (List UInt8)) :=
 if (decide (v2.2 < (slices.length : Int))) = true then
  asrt (0 ≤ v2.2 ∧ v2.2 < (slices.length : Int)) <|
  asrt (((v2.1 ++ (lget slices v2.2)).length : Int) * 1 ≤ 140737488351232) <|
  some (Sum.inl ((v2.1 ++ (lget slices v2.2)), w64 (v2.2 + 1)))
 else
  inrO (slices_Concat_byte_byte_J2 v2.1)
noncomputable def slices_Concat_byte_byte_L1 (slices : List (List UInt8)) (v0 : List UInt8 × Int) : Option (List UInt8) :=
 loopO (fun y => slices_Concat_byte_byte_B1 slices y) v0
noncomputable def slices_Concat_byte_byte_J1 (slices : List (List UInt8)) (v : Int) : Option (List UInt8) :=
 ob (slices_Grow_byte_byte_v1 v) fun x =>
 slices_Concat_byte_byte_L1 slices (x, 0)
noncomputable def slices_Concat_byte_byte_B2 (slices : List (List UInt8)) (v3 : Int × Int) : Option ((Int × Int) ⊕ (List UInt8)) :=
 if (decide (v3.2 < (slices.length : Int))) = true then
  asrt (0 ≤ v3.2 ∧ v3.2 < (slices.length : Int)) <|
  ob (
   if (decide ((w64 (v3.1 + ((lget slices v3.2).length : Int))) < 0)) = true then
    none
   else
    some ()) fun (v4 : Unit) =>
  some (Sum.inl (w64 (v3.1 + ((lget slices v3.2).length : Int)), w64 (v3.2 + 1)))
 else
  inrO (slices_Concat_byte_byte_J1 slices v3.1)
noncomputable def slices_Concat_byte_byte_L2 (slices : List (List UInt8)) (v0 : Int × Int) : Option (List UInt8) :=
 loopO (fun y => slices_Concat_byte_byte_B2 slices y) v0
noncomputable def slices_Concat_byte_byte (slices : List (List UInt8)) : Option (List UInt8) :=
 slices_Concat_byte_byte_L2 slices (0, 0)
theorem slices_Concat_byte_byte_ok (slices : List (List UInt8)) (r : List UInt8) (hF : slices_Concat_byte_byte slices = some r) : Pe Try.prog 118 S.none [.sl 1 (slices.map e_L_u8)] (.row 24 0) ⟨[], [], [(24, .o 5 1 0 (r.map e_u8))], [], []⟩ := by
 refine PeN 36 [.tmp 2] [25] Ty.ok Fn.b118 Try.func118 ?_
 intro Q g hfin
 unfold slices_Concat_byte_byte at hF
 refine NR [] [0] [] [] [] .nil ?_
 refine NR [] [0, 3] [] [] [(3, .i 0)] .nil ?_
 refine NR [.nat (slices.length : Int)] [0, 3, 9, 10, 11] [] [] [(9, .sl 1 (slices.map e_L_u8)), (10, .i (slices.length : Int)), (11, .i 0)] (hc (len_ok e_L_u8 slices) .nil) ?_
 refine NmeetP (fun v : Int => (⟨[(0, .sl 1 (slices.map e_L_u8)), (3, .i v)], [], [], [], []⟩ : S)) (fun v => slices_Concat_byte_byte_J1 slices v = some r) ?_ ?_
 ·refine Nblk ?_
  unfold slices_Concat_byte_byte_L2 at hF
  refine Niter (fun v3 : Int × Int => (⟨[(0, .sl 1 (slices.map e_L_u8)), (3, .i v3.1), (9, .sl 1 (slices.map e_L_u8)), (10, .i (slices.length : Int)), (11, .i v3.2)], [], [], [], []⟩ : S)) [] hF (by kernel_rfl) ?_
  intro n1 v3 y1 hF ih1 dn1
  unfold slices_Concat_byte_byte_B2 at hF
  refine NR [] [0, 3, 9, 10, 11, 12] [] [] [(12, .bool (decide (v3.2 < (slices.length : Int))))] .nil ?_
  refine Nif hF (fun hb hF => ?_) (fun hb hF => ?_)
  ·refine Nblk ?_
   obtain ⟨h3, hF⟩ := asrt_elim hF
   refine NR [.av (e_L_u8 (lget slices v3.2))] [0, 3, 5, 9, 10, 11] [] [] [(5, .sl 1 ((lget slices v3.2).map e_u8))] (hc (idx_ok e_L_u8 h3) .nil) ?_
   refine NR [.nat ((lget slices v3.2).length : Int)] [0, 3, 9, 10, 11] [] [] [(3, .i (w64 (v3.1 + ((lget slices v3.2).length : Int))))] (hc (len_ok e_u8 (lget slices v3.2)) .nil) ?_
   refine NR [] [0, 3, 9, 10, 11, 20] [] [] [(20, .bool (decide ((w64 (v3.1 + ((lget slices v3.2).length : Int))) < 0)))] .nil ?_
   obtain ⟨v4, hv, hF⟩ := ob_elim hF
   refine Nmeet (⟨[(0, .sl 1 (slices.map e_L_u8)), (3, .i (w64 (v3.1 + ((lget slices v3.2).length : Int)))), (9, .sl 1 (slices.map e_L_u8)), (10, .i (slices.length : Int)), (11, .i v3.2)], [], [], [], []⟩ : S) ?_ ?_
   ·have hF := hv
    refine Nif hF (fun hb hF => ?_) (fun hb hF => ?_)
    ·cases hF
    ·cases hF
     exact met [] (by kernel_rfl)
   ·refine NR [] [0, 3, 9, 10, 11] [] [] [(11, .i (w64 (v3.2 + 1)))] .nil ?_
    exact Nrnd [] hF ih1 (by kernel_rfl)
  ·refine Nexit rfl ?_
   have hF := inrO_done hF dn1
   exact metP v3.1 [] hF (by kernel_rfl)
 ·intro v hF
  have hF : slices_Concat_byte_byte_J1 slices v = some r := hF
  unfold slices_Concat_byte_byte_J1 at hF
  obtain ⟨x, h0, hF⟩ := ob_elim hF
  refine VR [.raw [0], .callE [] [] [] [] (.row 24 0) ⟨[], [], [(24, .o 5 1 0 (x.map e_u8))], [], []⟩] [0, 6] [] [24] [] [(6, .row 24 0)] [] [(24, .o 5 1 0 (x.map e_u8))] [] (hc (Pe.ren (slices_Grow_byte_byte_v1_ok v x h0) ⟨[], [(22, 24)], [], []⟩) .nil) ?_
  refine NR [.nat (slices.length : Int)] [6, 25, 26, 27] [] [24] [(25, .sl 1 (slices.map e_L_u8)), (26, .i (slices.length : Int)), (27, .i 0)] (hc (len_ok e_L_u8 slices) .nil) ?_
  refine NmeetP (fun v1 : List UInt8 => (⟨[(6, .row 24 0)], [], [(24, .o 5 1 0 (v1.map e_u8))], [], []⟩ : S)) (fun v1 => slices_Concat_byte_byte_J2 v1 = some r) ?_ ?_
  ·refine Nblk ?_
   unfold slices_Concat_byte_byte_L1 at hF
   refine Niter (fun v2 : List UInt8 × Int => (⟨[(6, .row 24 0), (25, .sl 1 (slices.map e_L_u8)), (26, .i (slices.length : Int)), (27, .i v2.2)], [], [(24, .o 5 1 0 (v2.1.map e_u8))], [], []⟩ : S)) [] hF (by kernel_rfl) ?_
   intro n1 v2 y1 hF ih1 dn1
   unfold slices_Concat_byte_byte_B1 at hF
   refine NR [] [6, 25, 26, 27, 28] [] [24] [(28, .bool (decide (v2.2 < (slices.length : Int))))] .nil ?_
   refine Nif hF (fun hb hF => ?_) (fun hb hF => ?_)
   ·refine Nblk ?_
    obtain ⟨h1, hF⟩ := asrt_elim hF
    refine NR [.av (e_L_u8 (lget slices v2.2))] [6, 8, 25, 26, 27] [] [24] [(8, .sl 1 ((lget slices v2.2).map e_u8))] (hc (idx_ok e_L_u8 h1) .nil) ?_
    obtain ⟨h2, hF⟩ := asrt_elim hF
    refine VR [.xs ((v2.1 ++ (lget slices v2.2)).map e_u8)] [6, 25, 26, 27] [] [24] [] [(6, .row 24 1)] [] [(24, .o 5 1 1 ((v2.1 ++ (lget slices v2.2)).map e_u8))] [] (hc (app_ok e_u8 v2.1 (lget slices v2.2)) (hc (appl_ok e_u8 h2) .nil)) ?_
    refine NR [] [6, 25, 26, 27] [] [24] [(27, .i (w64 (v2.2 + 1)))] .nil ?_
    exact Nrnd [(24, ⟨0, true, true, false⟩)] hF ih1 (by kernel_rfl)
   ·refine Nexit rfl ?_
    have hF := inrO_done hF dn1
    exact metP v2.1 [] hF (by kernel_rfl)
  ·intro v1 hF
   have hF : slices_Concat_byte_byte_J2 v1 = some r := hF
   unfold slices_Concat_byte_byte_J2 at hF
   refine NR [] [2] [] [24] [(2, .row 24 0)] .nil ?_
   cases hF
   exact Wk_ret (hfin _ ⟨[24], [], [24], [], [], [], by kernel_rfl⟩)

/- disk.Append -/
noncomputable def disk_Append (d : Disk) (b : List UInt8) : Option (List UInt8 × Int × Fault) :=
 lt (disk_Check d) fun x =>
 if (!decide (x.Code = 0)) = true then
  some (([] : List UInt8), 0, x)
 else
  if (decide (60000 < (w64 ((d.Bytes.length : Int) + (b.length : Int))))) = true then
   lt (disk_fault 9 0) fun x1 =>
   some (([] : List UInt8), 0, x1)
  else
   ob (slices_Concat_byte_byte ([d.Bytes, b] : List (List UInt8))) fun x2 =>
   some (x2, d.Kept, (⟨0, 0⟩ : Fault))
theorem disk_Append_ok (d : Disk) (b : List UInt8) (r : List UInt8 × Int × Fault) (hF : disk_Append d b = some r) : Pe Try.prog 93 S.none [.agg (c_Disk d), .sl 1 (b.map e_u8)] (.tup [.agg [.row 27 0, .i r.2.1], .agg (c_Fault r.2.2)]) ⟨[], [], [(27, .o 5 1 0 (r.1.map e_u8))], [], []⟩ := by
 refine PeN 32 [.cell 4 66, .cell 5 31] [66, 31] Ty.ok Fn.b93 Try.func93 ?_
 intro Q g hfin
 unfold disk_Append at hF
 refine VR [] [1, 2, 4, 5] [2, 4, 5] [] [] [(2, .ptr 2 0), (4, .ptr 4 0), (5, .ptr 5 0)] [(2, (c_Disk d)), (4, [.nils, .i 0]), (5, [.i 0, .i 0])] [] [] .nil ?_
 obtain ⟨x, h0, hF⟩ := lt_split hF
 refine VR [.callB (.agg (c_Fault x))] [1, 2, 4, 5, 6] [2, 4, 5, 6] [] [] [(6, .ptr 6 0)] [(6, (c_Fault x))] [] [] (hc (disk_Check_ok d x h0) .nil) ?_
 refine NR [] [1, 2, 4, 5, 6, 11] [2, 4, 5, 6] [] [(11, .bool (!decide (x.Code = 0)))] .nil ?_
 refine Nif hF (fun hb hF => ?_) (fun hb hF => ?_)
 ·refine VD [] [4, 5] [4, 5] [] [] [] [(5, (c_Fault x))] [] [] .nil ?_
  cases hF
  refine Wk_nilrowB 4 0 60000 5 1 rfl rfl rfl rfl rfl ?_
  refine Wk_ren' ⟨[], [(60000, 27)], [], []⟩ rfl ?_
  exact Wk_ret (hfin _ ⟨[27], [], [27], [], [], [(27, ⟨0, true, false, false⟩)], by kernel_rfl⟩)
 ·refine NR [.nat (d.Bytes.length : Int), .nat (b.length : Int)] [1, 2, 4, 5, 20] [2, 4, 5] [] [(20, .bool (decide (60000 < (w64 ((d.Bytes.length : Int) + (b.length : Int))))))] (hc (len_ok e_u8 d.Bytes) (hc (len_ok e_u8 b) .nil)) ?_
  refine Nif hF (fun hb hF => ?_) (fun hb hF => ?_)
  ·obtain ⟨x1, h1, hF⟩ := lt_split hF
   refine VR [.callB (.agg (c_Fault x1))] [4, 5] [4, 5] [] [] [] [(5, (c_Fault x1))] [] [] (hc (disk_fault_ok 9 0 x1 h1) .nil) ?_
   cases hF
   refine Wk_nilrowB 4 0 60001 5 1 rfl rfl rfl rfl rfl ?_
   refine Wk_ren' ⟨[], [(60001, 27)], [], []⟩ rfl ?_
   exact Wk_ret (hfin _ ⟨[27], [], [27], [], [], [(27, ⟨0, true, false, false⟩)], by kernel_rfl⟩)
  ·obtain ⟨x2, h2, hF⟩ := ob_elim hF
   refine VD [.sealed, .callE [] [] [] [] (.row 27 0) ⟨[], [], [(27, .o 5 1 0 (x2.map e_u8))], [], []⟩] [4, 5] [4, 5] [27] [] [] [(4, [.row 27 0, .i d.Kept])] [(27, .o 5 1 0 (x2.map e_u8))] [] (hc (Pe.ren (slices_Concat_byte_byte_ok ([d.Bytes, b] : List (List UInt8)) x2 h2) ⟨[], [(24, 27)], [], []⟩) .nil) ?_
   cases hF
   exact Wk_ret (hfin _ ⟨[27], [], [27], [], [], [], by kernel_rfl⟩)

/- wal.Log -/
noncomputable def wal_Log (d : Disk) (num : Note) : Option (List UInt8 × Int × Fault) :=
 lt (disk_Check d) fun x =>
 if (!decide (x.Code = 0)) = true then
  some (([] : List UInt8), 0, x)
 else
  ob (wal_Check num) fun x1 =>
  if (!decide (x1.Code = 0)) = true then
   some (([] : List UInt8), 0, x1)
  else
   ob (wal_Notes d) fun x2 =>
   asrt ((decide (0 < (x2.1.length : Int))) = true → (!(!decide (x2.2 = (d.Bytes.length : Int)))) = true → 0 ≤ w64 ((x2.1.length : Int) - 1) ∧ w64 ((x2.1.length : Int) - 1) < (x2.1.length : Int)) <|
   asrt ((decide (0 < (x2.1.length : Int))) = true → (!(!decide (x2.2 = (d.Bytes.length : Int)))) = true → 0 ≤ w64 ((x2.1.length : Int) - 1) ∧ w64 ((x2.1.length : Int) - 1) < (x2.1.length : Int)) <|
   if ((!decide (x2.2 = (d.Bytes.length : Int))) || ((decide (0 < (x2.1.length : Int))) && (!decide (num.Seq = (w64 (((lget x2.1 (w64 ((x2.1.length : Int) - 1))).Seq) + 1)))))) = true then
    lt (wal_fault 11 0) fun x3 =>
    some (([] : List UInt8), 0, x3)
   else
    ob (wal_Frame_v1 num) fun x4 =>
    ob (disk_Append d x4) fun x5 =>
    some (x5.1, x5.2.1, x5.2.2)
theorem wal_Log_ok (d : Disk) (num : Note) (r : List UInt8 × Int × Fault) (hF : wal_Log d num = some r) : Pe Try.prog 42 S.none [.agg (c_Disk d), .agg (c_Note num)] (.tup [.agg [.row 57 0, .i r.2.1], .agg (c_Fault r.2.2)]) ⟨[], [], [(57, .o 5 1 0 (r.1.map e_u8))], [], []⟩ := by
 refine PeN 60 [.cell 4 66, .cell 5 31] [66, 31] Ty.ok Fn.b42 Try.func42 ?_
 intro Q g hfin
 unfold wal_Log at hF
 refine VR [] [2, 3, 4, 5] [2, 3, 4, 5] [] [] [(2, .ptr 2 0), (3, .ptr 3 0), (4, .ptr 4 0), (5, .ptr 5 0)] [(2, (c_Disk d)), (3, (c_Note num)), (4, [.nils, .i 0]), (5, [.i 0, .i 0])] [] [] .nil ?_
 obtain ⟨x, h0, hF⟩ := lt_split hF
 refine VR [.callB (.agg (c_Fault x))] [2, 3, 4, 5, 6] [2, 3, 4, 5, 6] [] [] [(6, .ptr 6 0)] [(6, (c_Fault x))] [] [] (hc (disk_Check_ok d x h0) .nil) ?_
 refine NR [] [2, 3, 4, 5, 6, 14] [2, 3, 4, 5, 6] [] [(14, .bool (!decide (x.Code = 0)))] .nil ?_
 refine Nif hF (fun hb hF => ?_) (fun hb hF => ?_)
 ·refine VD [] [4, 5] [4, 5] [] [] [] [(5, (c_Fault x))] [] [] .nil ?_
  cases hF
  refine Wk_nilrowB 4 0 60000 5 1 rfl rfl rfl rfl rfl ?_
  refine Wk_ren' ⟨[], [(60000, 57)], [], []⟩ rfl ?_
  exact Wk_ret (hfin _ ⟨[57], [], [57], [], [], [(57, ⟨0, true, false, false⟩)], by kernel_rfl⟩)
 ·obtain ⟨x1, h1, hF⟩ := ob_elim hF
  refine VR [.callB (.agg (c_Fault x1))] [2, 3, 4, 5, 7] [2, 3, 4, 5, 7] [] [] [(7, .ptr 7 0)] [(7, (c_Fault x1))] [] [] (hc (wal_Check_ok num x1 h1) .nil) ?_
  refine NR [] [2, 3, 4, 5, 7, 21] [2, 3, 4, 5, 7] [] [(21, .bool (!decide (x1.Code = 0)))] .nil ?_
  refine Nif hF (fun hb hF => ?_) (fun hb hF => ?_)
  ·refine VD [] [4, 5] [4, 5] [] [] [] [(5, (c_Fault x1))] [] [] .nil ?_
   cases hF
   refine Wk_nilrowB 4 0 60001 5 1 rfl rfl rfl rfl rfl ?_
   refine Wk_ren' ⟨[], [(60001, 57)], [], []⟩ rfl ?_
   exact Wk_ret (hfin _ ⟨[57], [], [57], [], [], [(57, ⟨0, true, false, false⟩)], by kernel_rfl⟩)
  ·obtain ⟨x2, h2, hF⟩ := ob_elim hF
   refine VR [.callE [] [] [] [] (.tup [.row 26 0, .i x2.2]) ⟨[], [], [(26, .z 24 2 0 (x2.1.map e_Note))], [], []⟩] [2, 3, 4, 5, 8, 9] [2, 3, 4, 5] [26] [] [(8, .row 26 0), (9, .i x2.2)] [] [(26, .z 24 2 0 (x2.1.map e_Note))] [] (hc (Pe.ren (wal_Notes_ok d x2 h2) ⟨[], [(53, 26)], [], []⟩) .nil) ?_
   obtain ⟨h3, h4, hF⟩ := asrt2 hF
   refine ND [.nat (d.Bytes.length : Int), .nat (x2.1.length : Int), .nat (x2.1.length : Int), .av (e_Note (lget x2.1 (w64 ((x2.1.length : Int) - 1))))] [2, 3, 4, 5, 51] [2, 3, 4, 5] [] [(51, .bool ((!decide (x2.2 = (d.Bytes.length : Int))) || ((decide (0 < (x2.1.length : Int))) && (!decide (num.Seq = (w64 (((lget x2.1 (w64 ((x2.1.length : Int) - 1))).Seq) + 1)))))))] (hc (len_ok e_u8 d.Bytes) (hc (fun (_ : (!(!decide (x2.2 = (d.Bytes.length : Int)))) = true) => (len_ok e_Note x2.1)) (hc (fun (_ : (decide (0 < (x2.1.length : Int))) = true) (_ : (!(!decide (x2.2 = (d.Bytes.length : Int)))) = true) => (len_ok e_Note x2.1)) (hc (fun (ga0 : (decide (0 < (x2.1.length : Int))) = true) (ga1 : (!(!decide (x2.2 = (d.Bytes.length : Int)))) = true) => (ixr_ok e_Note (h3 ga0 ga1))) (hc (fun (ga0 : (decide (0 < (x2.1.length : Int))) = true) (ga1 : (!(!decide (x2.2 = (d.Bytes.length : Int)))) = true) => (ldr_ok e_Note (h4 ga0 ga1))) .nil))))) ?_
   refine Nif hF (fun hb hF => ?_) (fun hb hF => ?_)
   ·obtain ⟨x3, h5, hF⟩ := lt_split hF
    refine VR [.callB (.agg (c_Fault x3))] [4, 5] [4, 5] [] [] [] [(5, (c_Fault x3))] [] [] (hc (wal_fault_ok 11 0 x3 h5) .nil) ?_
    cases hF
    refine Wk_nilrowB 4 0 60002 5 1 rfl rfl rfl rfl rfl ?_
    refine Wk_ren' ⟨[], [(60002, 57)], [], []⟩ rfl ?_
    exact Wk_ret (hfin _ ⟨[57], [], [57], [], [], [(57, ⟨0, true, false, false⟩)], by kernel_rfl⟩)
   ·obtain ⟨x4, h6, hF⟩ := ob_elim hF
    obtain ⟨x5, h7, hF⟩ := ob_elim hF
    refine VD [.raw [0], .callE [] [] [] [] (.row 56 3) ⟨[], [], [(56, ⟨5, 1, 3, (x4.map e_u8).length, 0, true, 0, [], (x4.map e_u8)⟩)], [], []⟩, .callE [] [] [] [] (.tup [.agg [.row 57 0, .i x5.2.1], .agg (c_Fault x5.2.2)]) ⟨[], [], [(57, .o 5 1 0 (x5.1.map e_u8))], [], []⟩] [4, 5] [4, 5] [57] [] [] [(4, [.row 57 0, .i x5.2.1]), (5, (c_Fault x5.2.2))] [(57, .o 5 1 0 (x5.1.map e_u8))] [] (hc (Pe.ren (wal_Frame_v1_ok num x4 h6) ⟨[], [(8, 56)], [], []⟩) (hc (Pe.ren (disk_Append_ok d x4 x5 h7) ⟨[], [(27, 57)], [], []⟩) .nil)) ?_
    cases hF
    exact Wk_ret (hfin _ ⟨[57], [], [57], [], [], [], by kernel_rfl⟩)

end G
end Go.Proofs.Ytollmifjbcccgaa
