/- The program's functions as plain functions, and that they are these. Written by a program (dec2.py). -/
import Derived.Test.YtkbgkkbinnclmaaTys
namespace Go.Proofs.Ytkbgkkbinnclmaa
open Go Go.Dm
set_option linter.unusedVariables false
set_option linter.unusedSimpArgs false
set_option maxRecDepth 100000
namespace G
/- tabularylaw.versions -/
noncomputable def law_versions  : List Cell :=
 lt ([(⟨([114] : List UInt8), ([99] : List UInt8), 2, false, ([98] : List UInt8)⟩ : Cell), (⟨([114] : List UInt8), ([99] : List UInt8), 1, false, ([97] : List UInt8)⟩ : Cell)]) fun (v : List Cell) =>
 v
theorem law_versions_ok  (r : List Cell) (hF : law_versions  = r) : Pe Try.prog 47 S.none [] (.sl 5 (r.map e_Cell)) S.none := by
 refine PeN 4 [.tmp 0] [22] Ty.ok Fn.b47 Try.func47 ?_
 intro Q g hfin
 unfold law_versions at hF
 refine NR [] [] [] [] [] .nil ?_
 refine NRL ([(⟨([114] : List UInt8), ([99] : List UInt8), 2, false, ([98] : List UInt8)⟩ : Cell), (⟨([114] : List UInt8), ([99] : List UInt8), 1, false, ([97] : List UInt8)⟩ : Cell)]) (fun v : List Cell => ([(0, .sl 5 (v.map e_Cell))], [], [], [])) [.sealed] [0] [] [] [] .nil (fun v hv => ?_)
 have hF := lt_elim hF hv
 cases hF
 exact Wk_ret (hfin _ ⟨[], [], [], [], [], [], by kernel_rfl⟩)

/- merge.fault -/
noncomputable def merge_fault (code : Int) (at0 : Int) : Fault :=
 (⟨code, at0⟩ : Fault)
theorem merge_fault_ok (code : Int) (at0 : Int) (r : Fault) (hF : merge_fault code at0 = r) : Pe Try.prog 53 S.none [.i code, .i at0] (.agg (c_Fault r)) S.none := by
 refine PeN 8 [.cell 4 28] [28] Ty.ok Fn.b53 Try.func53 ?_
 intro Q g hfin
 unfold merge_fault at hF
 refine VR [] [0, 1, 4] [4] [] [] [(4, .ptr 4 0)] [(4, [.i 0, .i 0])] [] [] .nil ?_
 refine VR [] [4] [4] [] [] [] [(4, [.i code, .i at0])] [] [] .nil ?_
 cases hF
 exact Wk_ret (hfin _ ⟨[], [], [], [], [], [], by kernel_rfl⟩)

/- cell.fault -/
noncomputable def cell_fault (code : Int) (at0 : Int) : Fault :=
 (⟨code, at0⟩ : Fault)
theorem cell_fault_ok (code : Int) (at0 : Int) (r : Fault) (hF : cell_fault code at0 = r) : Pe Try.prog 48 S.none [.i code, .i at0] (.agg (c_Fault r)) S.none := by
 refine PeN 8 [.cell 4 28] [28] Ty.ok Fn.b48 Try.func48 ?_
 intro Q g hfin
 unfold cell_fault at hF
 refine VR [] [0, 1, 4] [4] [] [] [(4, .ptr 4 0)] [(4, [.i 0, .i 0])] [] [] .nil ?_
 refine VR [] [4] [4] [] [] [] [(4, [.i code, .i at0])] [] [] .nil ?_
 cases hF
 exact Wk_ret (hfin _ ⟨[], [], [], [], [], [], by kernel_rfl⟩)

/- cell.code -/
noncomputable def cell_code (c : Cell) : Int :=
 if ((((decide (c.Row = ([] : List UInt8))) || (decide (40 < (c.Row.length : Int)))) || (decide (40 < (c.Col.length : Int)))) || (decide (200 < (c.Value.length : Int)))) = true then
  8
 else
  if ((decide (c.Time < 0)) || (decide (1000000000 < c.Time))) = true then
   3
  else
   if (c.Gone && (!decide (c.Value = ([] : List UInt8)))) = true then
    5
   else
    0
theorem cell_code_ok (c : Cell) (r : Int) (hF : cell_code c = r) : Pe Try.prog 56 S.none [.agg (c_Cell c)] (.i r) S.none := by
 refine PeN 42 [.tmp 2] [3] Ty.ok Fn.b56 Try.func56 ?_
 intro Q g hfin
 unfold cell_code at hF
 refine VR [] [1] [1] [] [] [(1, .ptr 1 0)] [(1, (c_Cell c))] [] [] .nil ?_
 refine Nblk ?_
 refine NR [] [1, 3] [1] [] [(3, .bool ((((decide (c.Row = ([] : List UInt8))) || (decide (40 < (c.Row.length : Int)))) || (decide (40 < (c.Col.length : Int)))) || (decide (200 < (c.Value.length : Int)))))] .nil ?_
 refine Nif hF (fun hb hF => ?_) (fun hb hF => ?_)
 ·refine NR [] [2] [] [] [(2, .i 8)] .nil ?_
  cases hF
  exact Wk_ret (hfin _ ⟨[], [], [], [], [], [], by kernel_rfl⟩)
 ·refine NR [] [1, 25] [1] [] [(25, .bool ((decide (c.Time < 0)) || (decide (1000000000 < c.Time))))] .nil ?_
  refine Nif hF (fun hb hF => ?_) (fun hb hF => ?_)
  ·refine NR [] [2] [] [] [(2, .i 3)] .nil ?_
   cases hF
   exact Wk_ret (hfin _ ⟨[], [], [], [], [], [], by kernel_rfl⟩)
  ·refine NR [] [34] [] [] [(34, .bool (c.Gone && (!decide (c.Value = ([] : List UInt8)))))] .nil ?_
   refine Nif hF (fun hb hF => ?_) (fun hb hF => ?_)
   ·refine NR [] [2] [] [] [(2, .i 5)] .nil ?_
    cases hF
    exact Wk_ret (hfin _ ⟨[], [], [], [], [], [], by kernel_rfl⟩)
   ·refine NR [] [2] [] [] [(2, .i 0)] .nil ?_
    cases hF
    exact Wk_ret (hfin _ ⟨[], [], [], [], [], [], by kernel_rfl⟩)

/- cmp.isNaN[string] -/
noncomputable def cmp_isNaN_string (x : List UInt8) : Bool :=
 !decide (x = x)
theorem cmp_isNaN_string_ok (x : List UInt8) (r : Bool) (hF : cmp_isNaN_string x = r) : Pe Try.prog 87 S.none [.str x] (.bool r) S.none := by
 refine PeN 6 [.tmp 2] [4] Ty.ok Fn.b87 Try.func87 ?_
 intro Q g hfin
 unfold cmp_isNaN_string at hF
 refine NR [] [0] [] [] [] .nil ?_
 refine NR [] [2] [] [] [(2, .bool (!decide (x = x)))] .nil ?_
 cases hF
 exact Wk_ret (hfin _ ⟨[], [], [], [], [], [], by kernel_rfl⟩)

/- cmp.Compare[string] -/
noncomputable def cmp_Compare_string (x : List UInt8) (y0 : List UInt8) : Int :=
 lt (cmp_isNaN_string x) fun x1 =>
 lt (cmp_isNaN_string y0) fun x2 =>
 if x1 = true then
  if x2 = true then
   0
  else
   (-1)
 else
  if x2 = true then
   1
  else
   if (Op.bytesLess x y0) = true then
    (-1)
   else
    if (Op.bytesLess y0 x) = true then
     1
    else
     0
theorem cmp_Compare_string_ok (x : List UInt8) (y0 : List UInt8) (r : Int) (hF : cmp_Compare_string x y0 = r) : Pe Try.prog 74 S.none [.str x, .str y0] (.i r) S.none := by
 refine PeN 20 [.tmp 4] [3] Ty.ok Fn.b74 Try.func74 ?_
 intro Q g hfin
 unfold cmp_Compare_string at hF
 refine NR [] [0, 1] [] [] [] .nil ?_
 obtain ⟨x1, h0, hF⟩ := lt_split hF
 refine NR [.callB (.bool x1)] [0, 1, 5] [] [] [(5, .bool x1)] (hc (cmp_isNaN_string_ok x x1 h0) .nil) ?_
 obtain ⟨x2, h1, hF⟩ := lt_split hF
 refine NR [.callB (.bool x2)] [0, 1, 5, 6] [] [] [(6, .bool x2)] (hc (cmp_isNaN_string_ok y0 x2 h1) .nil) ?_
 refine NR [] [0, 1, 6, 11] [] [] [(11, .bool x1)] .nil ?_
 refine Nif hF (fun hb hF => ?_) (fun hb hF => ?_)
 ·refine NR [] [12] [] [] [(12, .bool x2)] .nil ?_
  refine Nif hF (fun hb hF => ?_) (fun hb hF => ?_)
  ·refine NR [] [4] [] [] [(4, .i 0)] .nil ?_
   cases hF
   exact Wk_ret (hfin _ ⟨[], [], [], [], [], [], by kernel_rfl⟩)
  ·refine NR [] [4] [] [] [(4, .i (-1))] .nil ?_
   cases hF
   exact Wk_ret (hfin _ ⟨[], [], [], [], [], [], by kernel_rfl⟩)
 ·refine NR [] [0, 1, 13] [] [] [(13, .bool x2)] .nil ?_
  refine Nif hF (fun hb hF => ?_) (fun hb hF => ?_)
  ·refine NR [] [4] [] [] [(4, .i 1)] .nil ?_
   cases hF
   exact Wk_ret (hfin _ ⟨[], [], [], [], [], [], by kernel_rfl⟩)
  ·refine NR [] [0, 1, 16] [] [] [(16, .bool (Op.bytesLess x y0))] .nil ?_
   refine Nif hF (fun hb hF => ?_) (fun hb hF => ?_)
   ·refine NR [] [4] [] [] [(4, .i (-1))] .nil ?_
    cases hF
    exact Wk_ret (hfin _ ⟨[], [], [], [], [], [], by kernel_rfl⟩)
   ·refine NR [] [19] [] [] [(19, .bool (Op.bytesLess y0 x))] .nil ?_
    refine Nif hF (fun hb hF => ?_) (fun hb hF => ?_)
    ·refine NR [] [4] [] [] [(4, .i 1)] .nil ?_
     cases hF
     exact Wk_ret (hfin _ ⟨[], [], [], [], [], [], by kernel_rfl⟩)
    ·refine NR [] [4] [] [] [(4, .i 0)] .nil ?_
     cases hF
     exact Wk_ret (hfin _ ⟨[], [], [], [], [], [], by kernel_rfl⟩)

/- cmp.isNaN[int] -/
noncomputable def cmp_isNaN_int (x : Int) : Bool :=
 !decide (x = x)
theorem cmp_isNaN_int_ok (x : Int) (r : Bool) (hF : cmp_isNaN_int x = r) : Pe Try.prog 88 S.none [.i x] (.bool r) S.none := by
 refine PeN 6 [.tmp 2] [4] Ty.ok Fn.b88 Try.func88 ?_
 intro Q g hfin
 unfold cmp_isNaN_int at hF
 refine NR [] [0] [] [] [] .nil ?_
 refine NR [] [2] [] [] [(2, .bool (!decide (x = x)))] .nil ?_
 cases hF
 exact Wk_ret (hfin _ ⟨[], [], [], [], [], [], by kernel_rfl⟩)

/- cmp.Compare[int] -/
noncomputable def cmp_Compare_int (x : Int) (y0 : Int) : Int :=
 lt (cmp_isNaN_int x) fun x1 =>
 lt (cmp_isNaN_int y0) fun x2 =>
 if x1 = true then
  if x2 = true then
   0
  else
   (-1)
 else
  if x2 = true then
   1
  else
   if (decide (x < y0)) = true then
    (-1)
   else
    if (decide (y0 < x)) = true then
     1
    else
     0
theorem cmp_Compare_int_ok (x : Int) (y0 : Int) (r : Int) (hF : cmp_Compare_int x y0 = r) : Pe Try.prog 75 S.none [.i x, .i y0] (.i r) S.none := by
 refine PeN 20 [.tmp 4] [3] Ty.ok Fn.b75 Try.func75 ?_
 intro Q g hfin
 unfold cmp_Compare_int at hF
 refine NR [] [0, 1] [] [] [] .nil ?_
 obtain ⟨x1, h0, hF⟩ := lt_split hF
 refine NR [.callB (.bool x1)] [0, 1, 5] [] [] [(5, .bool x1)] (hc (cmp_isNaN_int_ok x x1 h0) .nil) ?_
 obtain ⟨x2, h1, hF⟩ := lt_split hF
 refine NR [.callB (.bool x2)] [0, 1, 5, 6] [] [] [(6, .bool x2)] (hc (cmp_isNaN_int_ok y0 x2 h1) .nil) ?_
 refine NR [] [0, 1, 6, 11] [] [] [(11, .bool x1)] .nil ?_
 refine Nif hF (fun hb hF => ?_) (fun hb hF => ?_)
 ·refine NR [] [12] [] [] [(12, .bool x2)] .nil ?_
  refine Nif hF (fun hb hF => ?_) (fun hb hF => ?_)
  ·refine NR [] [4] [] [] [(4, .i 0)] .nil ?_
   cases hF
   exact Wk_ret (hfin _ ⟨[], [], [], [], [], [], by kernel_rfl⟩)
  ·refine NR [] [4] [] [] [(4, .i (-1))] .nil ?_
   cases hF
   exact Wk_ret (hfin _ ⟨[], [], [], [], [], [], by kernel_rfl⟩)
 ·refine NR [] [0, 1, 13] [] [] [(13, .bool x2)] .nil ?_
  refine Nif hF (fun hb hF => ?_) (fun hb hF => ?_)
  ·refine NR [] [4] [] [] [(4, .i 1)] .nil ?_
   cases hF
   exact Wk_ret (hfin _ ⟨[], [], [], [], [], [], by kernel_rfl⟩)
  ·refine NR [] [0, 1, 16] [] [] [(16, .bool (decide (x < y0)))] .nil ?_
   refine Nif hF (fun hb hF => ?_) (fun hb hF => ?_)
   ·refine NR [] [4] [] [] [(4, .i (-1))] .nil ?_
    cases hF
    exact Wk_ret (hfin _ ⟨[], [], [], [], [], [], by kernel_rfl⟩)
   ·refine NR [] [19] [] [] [(19, .bool (decide (y0 < x)))] .nil ?_
    refine Nif hF (fun hb hF => ?_) (fun hb hF => ?_)
    ·refine NR [] [4] [] [] [(4, .i 1)] .nil ?_
     cases hF
     exact Wk_ret (hfin _ ⟨[], [], [], [], [], [], by kernel_rfl⟩)
    ·refine NR [] [4] [] [] [(4, .i 0)] .nil ?_
     cases hF
     exact Wk_ret (hfin _ ⟨[], [], [], [], [], [], by kernel_rfl⟩)

/- cmp.Or[int] -/
noncomputable def cmp_Or_int_J1 (v : Unit) : Option Int :=
 some 0
noncomputable def cmp_Or_int_B1 (vals : List Int) (v1 : Int) : Option (Int ⊕ Int) :=
 if (decide (v1 < (vals.length : Int))) = true then
  asrt (0 ≤ v1 ∧ v1 < (vals.length : Int)) <|
  if (!decide ((lget vals v1) = 0)) = true then
   some (Sum.inr (lget vals v1))
  else
   some (Sum.inl (w64 (v1 + 1)))
 else
  inrO (cmp_Or_int_J1 ())
noncomputable def cmp_Or_int_L1 (vals : List Int) (v0 : Int) : Option Int :=
 loopO (fun y => cmp_Or_int_B1 vals y) v0
noncomputable def cmp_Or_int (vals : List Int) : Option Int :=
 cmp_Or_int_L1 vals 0
theorem cmp_Or_int_ok (vals : List Int) (r : Int) (hF : cmp_Or_int vals = some r) : Pe Try.prog 73 S.none [.sl 1 (vals.map e_i64)] (.i r) S.none := by
 refine PeN 18 [.tmp 2] [3] Ty.ok Fn.b73 Try.func73 ?_
 intro Q g hfin
 unfold cmp_Or_int at hF
 refine NR [] [0] [] [] [] .nil ?_
 refine NR [] [0, 3] [] [] [(3, .i 0)] .nil ?_
 refine NR [.nat (vals.length : Int)] [3, 6, 7, 8] [] [] [(6, .sl 1 (vals.map e_i64)), (7, .i (vals.length : Int)), (8, .i 0)] (hc (len_ok e_i64 vals) .nil) ?_
 refine NmeetP (fun v : Unit => (⟨[(3, .i 0)], [], [], [], []⟩ : S)) (fun v => cmp_Or_int_J1 v = some r) ?_ ?_
 ·refine Nblk ?_
  unfold cmp_Or_int_L1 at hF
  refine Niter (fun v1 : Int => (⟨[(3, .i 0), (6, .sl 1 (vals.map e_i64)), (7, .i (vals.length : Int)), (8, .i v1)], [], [], [], []⟩ : S)) [] hF (by kernel_rfl) ?_
  intro n1 v1 y1 hF ih1 dn1
  unfold cmp_Or_int_B1 at hF
  refine NR [] [3, 6, 7, 8, 9] [] [] [(9, .bool (decide (v1 < (vals.length : Int))))] .nil ?_
  refine Nif hF (fun hb hF => ?_) (fun hb hF => ?_)
  ·refine Nblk ?_
   obtain ⟨h0, hF⟩ := asrt_elim hF
   refine NR [.av (e_i64 (lget vals v1))] [3, 5, 6, 7, 8] [] [] [(5, .i (lget vals v1))] (hc (idx_ok e_i64 h0) .nil) ?_
   refine NR [] [3, 5, 6, 7, 8, 14] [] [] [(14, .bool (!decide ((lget vals v1) = 0)))] .nil ?_
   refine Nif hF (fun hb hF => ?_) (fun hb hF => ?_)
   ·refine NR [] [2] [] [] [(2, .i (lget vals v1))] .nil ?_
    have hF := ret_done hF dn1
    cases hF
    exact Wk_ret (hfin _ ⟨[], [], [], [], [], [], by kernel_rfl⟩)
   ·refine NR [] [3, 6, 7, 8] [] [] [(8, .i (w64 (v1 + 1)))] .nil ?_
    exact Nrnd [] hF ih1 (by kernel_rfl)
  ·refine Nexit rfl ?_
   have hF := inrO_done hF dn1
   exact metP () [] hF (by kernel_rfl)
 ·intro v hF
  have hF : cmp_Or_int_J1 v = some r := hF
  unfold cmp_Or_int_J1 at hF
  refine NR [] [2] [] [] [(2, .i 0)] .nil ?_
  cases hF
  exact Wk_ret (hfin _ ⟨[], [], [], [], [], [], by kernel_rfl⟩)

/- cell.Order -/
noncomputable def cell_Order (a0 : Cell) (b : Cell) : Option Int :=
 lt (cmp_Compare_string a0.Row b.Row) fun x =>
 lt (cmp_Compare_string a0.Col b.Col) fun x1 =>
 lt (cmp_Compare_int b.Time a0.Time) fun x2 =>
 ob (cmp_Or_int ([x, x1, x2] : List Int)) fun x3 =>
 some x3
theorem cell_Order_ok (a0 : Cell) (b : Cell) (r : Int) (hF : cell_Order a0 b = some r) : Pe Try.prog 57 S.none [.agg (c_Cell a0), .agg (c_Cell b)] (.i r) S.none := by
 refine PeN 22 [.tmp 4] [3] Ty.ok Fn.b57 Try.func57 ?_
 intro Q g hfin
 unfold cell_Order at hF
 refine VR [] [2, 3] [2, 3] [] [] [(2, .ptr 2 0), (3, .ptr 3 0)] [(2, (c_Cell a0)), (3, (c_Cell b))] [] [] .nil ?_
 obtain ⟨x, h0, hF⟩ := lt_split hF
 obtain ⟨x1, h1, hF⟩ := lt_split hF
 obtain ⟨x2, h2, hF⟩ := lt_split hF
 obtain ⟨x3, h3, hF⟩ := ob_elim hF
 refine ND [.callB (.i x), .callB (.i x1), .callB (.i x2), .sealed, .callB (.i x3)] [4] [] [] [(4, .i x3)] (hc (cmp_Compare_string_ok a0.Row b.Row x h0) (hc (cmp_Compare_string_ok a0.Col b.Col x1 h1) (hc (cmp_Compare_int_ok b.Time a0.Time x2 h2) (hc (cmp_Or_int_ok ([x, x1, x2] : List Int) x3 h3) .nil)))) ?_
 cases hF
 exact Wk_ret (hfin _ ⟨[], [], [], [], [], [], by kernel_rfl⟩)

/- cell.Check -/
noncomputable def cell_Check_J1 (v : Fault) : Option Fault :=
 some (⟨0, 0⟩ : Fault)
noncomputable def cell_Check_B1 (l : List Cell) (v1 : Fault × Int) : Option ((Fault × Int) ⊕ Fault) :=
 if (decide (v1.2 < (l.length : Int))) = true then
  asrt (0 ≤ v1.2 ∧ v1.2 < (l.length : Int)) <|
  lt (cell_code (⟨(lget l v1.2).Row, (lget l v1.2).Col, (lget l v1.2).Time, (lget l v1.2).Gone, (lget l v1.2).Value⟩ : Cell)) fun x1 =>
  if (!decide (x1 = 0)) = true then
   lt (cell_fault x1 v1.2) fun x2 =>
   some (Sum.inr x2)
  else
   asrt ((decide (0 < v1.2)) = true → 0 ≤ w64 (v1.2 - 1) ∧ w64 (v1.2 - 1) < (l.length : Int)) <|
   ob (if (decide (0 < v1.2)) = true then (cell_Order (⟨(lget l (w64 (v1.2 - 1))).Row, (lget l (w64 (v1.2 - 1))).Col, (lget l (w64 (v1.2 - 1))).Time, (lget l (w64 (v1.2 - 1))).Gone, (lget l (w64 (v1.2 - 1))).Value⟩ : Cell) (⟨(lget l v1.2).Row, (lget l v1.2).Col, (lget l v1.2).Time, (lget l v1.2).Gone, (lget l v1.2).Value⟩ : Cell)) else some default) fun x3 =>
   if ((decide (0 < v1.2)) && (decide (0 ≤ x3))) = true then
    lt (cell_fault 10 v1.2) fun x4 =>
    some (Sum.inr x4)
   else
    some (Sum.inl (v1.1, w64 (v1.2 + 1)))
 else
  inrO (cell_Check_J1 v1.1)
noncomputable def cell_Check_L1 (l : List Cell) (v0 : Fault × Int) : Option Fault :=
 loopO (fun y => cell_Check_B1 l y) v0
noncomputable def cell_Check (l : List Cell) : Option Fault :=
 if (decide (1000 < (l.length : Int))) = true then
  lt (cell_fault 2 0) fun x =>
  some x
 else
  cell_Check_L1 l ((⟨0, 0⟩ : Fault), 0)
theorem cell_Check_ok (l : List Cell) (r : Fault) (hF : cell_Check l = some r) : Pe Try.prog 32 S.none [.sl 5 (l.map e_Cell)] (.agg (c_Fault r)) S.none := by
 refine PeN 40 [.cell 2 28] [28] Ty.ok Fn.b32 Try.func32 ?_
 intro Q g hfin
 unfold cell_Check at hF
 refine VR [] [0, 2] [2] [] [] [(2, .ptr 2 0)] [(2, [.i 0, .i 0])] [] [] .nil ?_
 refine NR [.nat (l.length : Int)] [0, 2, 8] [2] [] [(8, .bool (decide (1000 < (l.length : Int))))] (hc (len_ok e_Cell l) .nil) ?_
 refine Nif hF (fun hb hF => ?_) (fun hb hF => ?_)
 ·obtain ⟨x, h0, hF⟩ := lt_split hF
  refine VR [.callB (.agg (c_Fault x))] [2] [2] [] [] [] [(2, (c_Fault x))] [] [] (hc (cell_fault_ok 2 0 x h0) .nil) ?_
  cases hF
  exact Wk_ret (hfin _ ⟨[], [], [], [], [], [], by kernel_rfl⟩)
 ·refine NR [.nat (l.length : Int)] [0, 2, 10, 11, 12] [2] [] [(10, .sl 5 (l.map e_Cell)), (11, .i (l.length : Int)), (12, .i 0)] (hc (len_ok e_Cell l) .nil) ?_
  refine NmeetP (fun v : Fault => (⟨[(2, .ptr 2 0)], [(2, (c_Fault v))], [], [], []⟩ : S)) (fun v => cell_Check_J1 v = some r) ?_ ?_
  ·refine Nblk ?_
   unfold cell_Check_L1 at hF
   refine Niter (fun v1 : Fault × Int => (⟨[(0, .sl 5 (l.map e_Cell)), (2, .ptr 2 0), (10, .sl 5 (l.map e_Cell)), (11, .i (l.length : Int)), (12, .i v1.2)], [(2, (c_Fault v1.1))], [], [], []⟩ : S)) [] hF (by kernel_rfl) ?_
   intro n1 v1 y1 hF ih1 dn1
   unfold cell_Check_B1 at hF
   refine NR [] [0, 2, 10, 11, 12, 13] [2] [] [(13, .bool (decide (v1.2 < (l.length : Int))))] .nil ?_
   refine Nif hF (fun hb hF => ?_) (fun hb hF => ?_)
   ·refine Nblk ?_
    obtain ⟨h1, hF⟩ := asrt_elim hF
    refine VR [.av (e_Cell (lget l v1.2))] [0, 2, 3, 4, 10, 11, 12] [2, 4] [] [] [(3, .i v1.2), (4, .ptr 4 0)] [(4, (c_Cell (lget l v1.2)))] [] [] (hc (idx_ok e_Cell h1) .nil) ?_
    obtain ⟨x1, h2, hF⟩ := lt_split hF
    refine NR [.callB (.i x1)] [0, 2, 3, 4, 5, 10, 11, 12] [2, 4] [] [(5, .i x1)] (hc (cell_code_ok (⟨(lget l v1.2).Row, (lget l v1.2).Col, (lget l v1.2).Time, (lget l v1.2).Gone, (lget l v1.2).Value⟩ : Cell) x1 h2) .nil) ?_
    refine NR [] [0, 2, 3, 4, 5, 10, 11, 12, 20] [2, 4] [] [(20, .bool (!decide (x1 = 0)))] .nil ?_
    refine Nif hF (fun hb hF => ?_) (fun hb hF => ?_)
    ·obtain ⟨x2, h3, hF⟩ := lt_split hF
     refine VR [.callB (.agg (c_Fault x2))] [2] [2] [] [] [] [(2, (c_Fault x2))] [] [] (hc (cell_fault_ok x1 v1.2 x2 h3) .nil) ?_
     have hF := ret_done hF dn1
     cases hF
     exact Wk_ret (hfin _ ⟨[], [], [], [], [], [], by kernel_rfl⟩)
    ·obtain ⟨h4, hF⟩ := asrt_elim hF
     obtain ⟨x3, h5, hF⟩ := ob_elim hF
     refine ND [.av (e_Cell (lget l (w64 (v1.2 - 1)))), .callB (.i x3)] [0, 2, 3, 10, 11, 12, 35] [2] [] [(35, .bool ((decide (0 < v1.2)) && (decide (0 ≤ x3))))] (hc (fun (ga0 : (decide (0 < v1.2)) = true) => (idx_ok e_Cell (h4 ga0))) (hc (fun (ga0 : (decide (0 < v1.2)) = true) => (cell_Order_ok (⟨(lget l (w64 (v1.2 - 1))).Row, (lget l (w64 (v1.2 - 1))).Col, (lget l (w64 (v1.2 - 1))).Time, (lget l (w64 (v1.2 - 1))).Gone, (lget l (w64 (v1.2 - 1))).Value⟩ : Cell) (⟨(lget l v1.2).Row, (lget l v1.2).Col, (lget l v1.2).Time, (lget l v1.2).Gone, (lget l v1.2).Value⟩ : Cell) x3 (ite_t h5 ga0))) .nil)) ?_
     refine Nif hF (fun hb hF => ?_) (fun hb hF => ?_)
     ·obtain ⟨x4, h6, hF⟩ := lt_split hF
      refine VR [.callB (.agg (c_Fault x4))] [2] [2] [] [] [] [(2, (c_Fault x4))] [] [] (hc (cell_fault_ok 10 v1.2 x4 h6) .nil) ?_
      have hF := ret_done hF dn1
      cases hF
      exact Wk_ret (hfin _ ⟨[], [], [], [], [], [], by kernel_rfl⟩)
     ·refine NR [] [0, 2, 10, 11, 12] [2] [] [(12, .i (w64 (v1.2 + 1)))] .nil ?_
      exact Nrnd [] hF ih1 (by kernel_rfl)
   ·refine Nexit rfl ?_
    have hF := inrO_done hF dn1
    exact metP v1.1 [] hF (by kernel_rfl)
  ·intro v hF
   have hF : cell_Check_J1 v = some r := hF
   unfold cell_Check_J1 at hF
   refine VR [] [2] [2] [] [] [] [(2, [.i 0, .i 0])] [] [] .nil ?_
   cases hF
   exact Wk_ret (hfin _ ⟨[], [], [], [], [], [], by kernel_rfl⟩)

/- merge.lists -/
noncomputable def merge_lists_J1 (v : Fault) : Option Fault :=
 some (⟨0, 0⟩ : Fault)
noncomputable def merge_lists_B1 (l : List (List Cell)) (v1 : Fault × Int) : Option ((Fault × Int) ⊕ Fault) :=
 if (decide (v1.2 < (l.length : Int))) = true then
  asrt (0 ≤ v1.2 ∧ v1.2 < (l.length : Int)) <|
  ob (cell_Check (lget l v1.2)) fun x1 =>
  if (!decide (x1.Code = 0)) = true then
   lt (merge_fault x1.Code v1.2) fun x2 =>
   some (Sum.inr x2)
  else
   some (Sum.inl (v1.1, w64 (v1.2 + 1)))
 else
  inrO (merge_lists_J1 v1.1)
noncomputable def merge_lists_L1 (l : List (List Cell)) (v0 : Fault × Int) : Option Fault :=
 loopO (fun y => merge_lists_B1 l y) v0
noncomputable def merge_lists (l : List (List Cell)) : Option Fault :=
 if (decide (20 < (l.length : Int))) = true then
  lt (merge_fault 2 (-1)) fun x =>
  some x
 else
  merge_lists_L1 l ((⟨0, 0⟩ : Fault), 0)
theorem merge_lists_ok (l : List (List Cell)) (r : Fault) (hF : merge_lists l = some r) : Pe Try.prog 54 S.none [.sl 1 (l.map e_L_Cell)] (.agg (c_Fault r)) S.none := by
 refine PeN 28 [.cell 2 28] [28] Ty.ok Fn.b54 Try.func54 ?_
 intro Q g hfin
 unfold merge_lists at hF
 refine VR [] [0, 2] [2] [] [] [(2, .ptr 2 0)] [(2, [.i 0, .i 0])] [] [] .nil ?_
 refine NR [.nat (l.length : Int)] [0, 2, 8] [2] [] [(8, .bool (decide (20 < (l.length : Int))))] (hc (len_ok e_L_Cell l) .nil) ?_
 refine Nif hF (fun hb hF => ?_) (fun hb hF => ?_)
 ·obtain ⟨x, h0, hF⟩ := lt_split hF
  refine VR [.callB (.agg (c_Fault x))] [2] [2] [] [] [] [(2, (c_Fault x))] [] [] (hc (merge_fault_ok 2 (-1) x h0) .nil) ?_
  cases hF
  exact Wk_ret (hfin _ ⟨[], [], [], [], [], [], by kernel_rfl⟩)
 ·refine NR [.nat (l.length : Int)] [2, 10, 11, 12] [2] [] [(10, .sl 1 (l.map e_L_Cell)), (11, .i (l.length : Int)), (12, .i 0)] (hc (len_ok e_L_Cell l) .nil) ?_
  refine NmeetP (fun v : Fault => (⟨[(2, .ptr 2 0)], [(2, (c_Fault v))], [], [], []⟩ : S)) (fun v => merge_lists_J1 v = some r) ?_ ?_
  ·refine Nblk ?_
   unfold merge_lists_L1 at hF
   refine Niter (fun v1 : Fault × Int => (⟨[(2, .ptr 2 0), (10, .sl 1 (l.map e_L_Cell)), (11, .i (l.length : Int)), (12, .i v1.2)], [(2, (c_Fault v1.1))], [], [], []⟩ : S)) [] hF (by kernel_rfl) ?_
   intro n1 v1 y1 hF ih1 dn1
   unfold merge_lists_B1 at hF
   refine NR [] [2, 10, 11, 12, 13] [2] [] [(13, .bool (decide (v1.2 < (l.length : Int))))] .nil ?_
   refine Nif hF (fun hb hF => ?_) (fun hb hF => ?_)
   ·refine Nblk ?_
    obtain ⟨h1, hF⟩ := asrt_elim hF
    refine NR [.av (e_L_Cell (lget l v1.2))] [2, 3, 4, 10, 11, 12] [2] [] [(3, .i v1.2), (4, .sl 5 ((lget l v1.2).map e_Cell))] (hc (idx_ok e_L_Cell h1) .nil) ?_
    obtain ⟨x1, h2, hF⟩ := ob_elim hF
    refine VR [.callB (.agg (c_Fault x1))] [2, 3, 5, 10, 11, 12] [2, 5] [] [] [(5, .ptr 5 0)] [(5, (c_Fault x1))] [] [] (hc (cell_Check_ok (lget l v1.2) x1 h2) .nil) ?_
    refine NR [] [2, 3, 5, 10, 11, 12, 21] [2, 5] [] [(21, .bool (!decide (x1.Code = 0)))] .nil ?_
    refine Nif hF (fun hb hF => ?_) (fun hb hF => ?_)
    ·obtain ⟨x2, h3, hF⟩ := lt_split hF
     refine VR [.callB (.agg (c_Fault x2))] [2] [2] [] [] [] [(2, (c_Fault x2))] [] [] (hc (merge_fault_ok x1.Code v1.2 x2 h3) .nil) ?_
     have hF := ret_done hF dn1
     cases hF
     exact Wk_ret (hfin _ ⟨[], [], [], [], [], [], by kernel_rfl⟩)
    ·refine NR [] [2, 10, 11, 12] [2] [] [(12, .i (w64 (v1.2 + 1)))] .nil ?_
     exact Nrnd [] hF ih1 (by kernel_rfl)
   ·refine Nexit rfl ?_
    have hF := inrO_done hF dn1
    exact metP v1.1 [] hF (by kernel_rfl)
  ·intro v hF
   have hF : merge_lists_J1 v = some r := hF
   unfold merge_lists_J1 at hF
   refine VR [] [2] [2] [] [] [] [(2, [.i 0, .i 0])] [] [] .nil ?_
   cases hF
   exact Wk_ret (hfin _ ⟨[], [], [], [], [], [], by kernel_rfl⟩)

/- (merge.heap).less -/
noncomputable def merge_heap_less (i : Int) (k0 : Int) (row : List Nat) (ar : List source) : Option Bool :=
 asrt (0 ≤ i ∧ i < (row.length : Int)) <|
 asrt (0 ≤ i ∧ i < (row.length : Int)) <|
 asrt (0 ≤ (((lget row i) : Nat) : Int) ∧ (((lget row i) : Nat) : Int) < (ar.length : Int)) <|
 asrt (0 ≤ (0 : Int) ∧ 0 < (((lget ar (((lget row i) : Nat) : Int)).cells).length : Int)) <|
 asrt (0 ≤ k0 ∧ k0 < (row.length : Int)) <|
 asrt (0 ≤ k0 ∧ k0 < (row.length : Int)) <|
 asrt (0 ≤ (((lget row k0) : Nat) : Int) ∧ (((lget row k0) : Nat) : Int) < (ar.length : Int)) <|
 asrt (0 ≤ (0 : Int) ∧ 0 < (((lget ar (((lget row k0) : Nat) : Int)).cells).length : Int)) <|
 ob (cell_Order (⟨(lget ((lget ar (((lget row i) : Nat) : Int)).cells) 0).Row, (lget ((lget ar (((lget row i) : Nat) : Int)).cells) 0).Col, (lget ((lget ar (((lget row i) : Nat) : Int)).cells) 0).Time, (lget ((lget ar (((lget row i) : Nat) : Int)).cells) 0).Gone, (lget ((lget ar (((lget row i) : Nat) : Int)).cells) 0).Value⟩ : Cell) (⟨(lget ((lget ar (((lget row k0) : Nat) : Int)).cells) 0).Row, (lget ((lget ar (((lget row k0) : Nat) : Int)).cells) 0).Col, (lget ((lget ar (((lget row k0) : Nat) : Int)).cells) 0).Time, (lget ((lget ar (((lget row k0) : Nat) : Int)).cells) 0).Gone, (lget ((lget ar (((lget row k0) : Nat) : Int)).cells) 0).Value⟩ : Cell)) fun x =>
 asrt ((decide (x = 0)) = true → (!(decide (x < 0))) = true → 0 ≤ i ∧ i < (row.length : Int)) <|
 asrt ((decide (x = 0)) = true → (!(decide (x < 0))) = true → 0 ≤ i ∧ i < (row.length : Int)) <|
 asrt ((decide (x = 0)) = true → (!(decide (x < 0))) = true → 0 ≤ (((lget row i) : Nat) : Int) ∧ (((lget row i) : Nat) : Int) < (ar.length : Int)) <|
 asrt ((decide (x = 0)) = true → (!(decide (x < 0))) = true → 0 ≤ k0 ∧ k0 < (row.length : Int)) <|
 asrt ((decide (x = 0)) = true → (!(decide (x < 0))) = true → 0 ≤ k0 ∧ k0 < (row.length : Int)) <|
 asrt ((decide (x = 0)) = true → (!(decide (x < 0))) = true → 0 ≤ (((lget row k0) : Nat) : Int) ∧ (((lget row k0) : Nat) : Int) < (ar.length : Int)) <|
 lt ((decide (x < 0)) || ((decide (x = 0)) && (decide (((lget ar (((lget row i) : Nat) : Int)).rank) < ((lget ar (((lget row k0) : Nat) : Int)).rank))))) fun (v : Bool) =>
 some v
theorem merge_heap_less_ok (i : Int) (k0 : Int) (row : List Nat) (ar : List source) (rk : Nat) (rc : Nat) (rn : Bool) (r : Bool) (hF : merge_heap_less i k0 row ar = some r) : Pe Try.prog 91 ⟨[], [], [(100000, ⟨108, 1, 0, 0, rc, rn, 1, [100000], (row.map ea)⟩)], [], [(100000, ⟨110, 2, [], ar.map e_source⟩)]⟩ [.row 100000 0, .i i, .i k0] (.bool r) ⟨[], [], [(100000, ⟨108, 1, 0, 0, rc, rn, 1, [100000], (row.map ea)⟩)], [], [(100000, ⟨110, 2, [], ar.map e_source⟩)]⟩ := by
 refine PeN 50 [.tmp 6] [4] Ty.ok Fn.b91 Try.func91 ?_
 intro Q g hfin
 unfold merge_heap_less at hF
 refine NAR [] [0, 1, 2] [] [100000] [] [100000] ⟨[(0, .row 100000 0), (1, .i i), (2, .i k0)], [], [(100000, ⟨108, 1, 0, 0, rc, rn, 1, [100000], (row.map ea)⟩)], [], [(100000, ⟨110, 2, [], ar.map e_source⟩)]⟩ .nil ?_
 obtain ⟨h0, h1, h2, h3, hF⟩ := asrt4 hF
 obtain ⟨h4, h5, h6, h7, hF⟩ := asrt4 hF
 obtain ⟨x, h8, hF⟩ := ob_elim hF
 refine NAD [.av (ea (lget row i)), .av (e_source (lget ar (((lget row i) : Nat) : Int))), .av (e_Cell (lget ((lget ar (((lget row i) : Nat) : Int)).cells) 0)), .av (ea (lget row k0)), .av (e_source (lget ar (((lget row k0) : Nat) : Int))), .av (e_Cell (lget ((lget ar (((lget row k0) : Nat) : Int)).cells) 0)), .callB (.i x)] [0, 1, 2, 7] [] [100000] [] [100000] ⟨[(0, .row 100000 0), (1, .i i), (2, .i k0), (7, .i x)], [], [(100000, ⟨108, 1, 0, 0, rc, rn, 1, [100000], (row.map ea)⟩)], [], [(100000, ⟨110, 2, [], ar.map e_source⟩)]⟩ (hc (ixr_ok ea h0) (hc (ldr_ok ea h1) (hc (ldr_ok e_source h2) (hc (idx_ok e_Cell h3) (hc (ixr_ok ea h4) (hc (ldr_ok ea h5) (hc (ldr_ok e_source h6) (hc (idx_ok e_Cell h7) (hc (cell_Order_ok (⟨(lget ((lget ar (((lget row i) : Nat) : Int)).cells) 0).Row, (lget ((lget ar (((lget row i) : Nat) : Int)).cells) 0).Col, (lget ((lget ar (((lget row i) : Nat) : Int)).cells) 0).Time, (lget ((lget ar (((lget row i) : Nat) : Int)).cells) 0).Gone, (lget ((lget ar (((lget row i) : Nat) : Int)).cells) 0).Value⟩ : Cell) (⟨(lget ((lget ar (((lget row k0) : Nat) : Int)).cells) 0).Row, (lget ((lget ar (((lget row k0) : Nat) : Int)).cells) 0).Col, (lget ((lget ar (((lget row k0) : Nat) : Int)).cells) 0).Time, (lget ((lget ar (((lget row k0) : Nat) : Int)).cells) 0).Gone, (lget ((lget ar (((lget row k0) : Nat) : Int)).cells) 0).Value⟩ : Cell) x h8) .nil))))))))) ?_
 obtain ⟨h9, h10, h11, h12, hF⟩ := asrt4 hF
 obtain ⟨h13, h14, hF⟩ := asrt2 hF
 refine NADL ((decide (x < 0)) || ((decide (x = 0)) && (decide (((lget ar (((lget row i) : Nat) : Int)).rank) < ((lget ar (((lget row k0) : Nat) : Int)).rank))))) (fun v : Bool => (⟨[(6, .bool v)], [], [(100000, ⟨108, 1, 0, 0, rc, rn, 1, [100000], (row.map ea)⟩)], [], [(100000, ⟨110, 2, [], ar.map e_source⟩)]⟩ : S)) [.av (ea (lget row i)), .av (e_source (lget ar (((lget row i) : Nat) : Int))), .av (ea (lget row k0)), .av (e_source (lget ar (((lget row k0) : Nat) : Int)))] [6] [] [100000] [] [100000] (hc (fun (ga0 : (decide (x = 0)) = true) (ga1 : (!(decide (x < 0))) = true) => (ixr_ok ea (h9 ga0 ga1))) (hc (fun (ga0 : (decide (x = 0)) = true) (ga1 : (!(decide (x < 0))) = true) => (ldr_ok ea (h10 ga0 ga1))) (hc (fun (ga0 : (decide (x = 0)) = true) (ga1 : (!(decide (x < 0))) = true) => (ldr_ok e_source (h11 ga0 ga1))) (hc (fun (ga0 : (decide (x = 0)) = true) (ga1 : (!(decide (x < 0))) = true) => (ixr_ok ea (h12 ga0 ga1))) (hc (fun (ga0 : (decide (x = 0)) = true) (ga1 : (!(decide (x < 0))) = true) => (ldr_ok ea (h13 ga0 ga1))) (hc (fun (ga0 : (decide (x = 0)) = true) (ga1 : (!(decide (x < 0))) = true) => (ldr_ok e_source (h14 ga0 ga1))) .nil)))))) (fun v hv => ?_)
 have hF := lt_elim hF hv
 cases hF
 exact Wk_ret (hfin _ ⟨[100000], [], [100000], [], [100000], [], by kernel_rfl⟩)

/- (merge.heap).down -/
noncomputable def merge_heap_down_J1 (v : List Nat × Int) (v1 : Int) : Option ((List Nat × Int) ⊕ (List Nat)) :=
 if (decide (v1 = v.2)) = true then
  some (Sum.inr v.1)
 else
  asrt (0 ≤ v1 ∧ v1 < (v.1.length : Int)) <|
  asrt (0 ≤ v1 ∧ v1 < (v.1.length : Int)) <|
  asrt (0 ≤ v.2 ∧ v.2 < (v.1.length : Int)) <|
  asrt (0 ≤ v.2 ∧ v.2 < (v.1.length : Int)) <|
  asrt (0 ≤ v.2 ∧ v.2 < (v.1.length : Int)) <|
  asrt (0 ≤ v.2 ∧ v.2 < (v.1.length : Int)) <|
  asrt (0 ≤ v1 ∧ v1 < ((lset v.1 v.2 (lget v.1 v1)).length : Int)) <|
  asrt (0 ≤ v1 ∧ v1 < ((lset v.1 v.2 (lget v.1 v1)).length : Int)) <|
  some (Sum.inl ((lset (lset v.1 v.2 (lget v.1 v1)) v1 (lget v.1 v.2)), v1))
noncomputable def merge_heap_down_B1 (ar : List source) (v : List Nat × Int) : Option ((List Nat × Int) ⊕ (List Nat)) :=
 ob (if (decide ((w64 ((w64 (2 * v.2)) + 1)) < (v.1.length : Int))) = true then (merge_heap_less (w64 ((w64 (2 * v.2)) + 1)) v.2 v.1 ar) else some default) fun x =>
 ob (
  if ((decide ((w64 ((w64 (2 * v.2)) + 1)) < (v.1.length : Int))) && x) = true then
   some (w64 ((w64 (2 * v.2)) + 1), (⟨w64 ((w64 (2 * v.2)) + 1), w64 ((w64 (2 * v.2)) + 2)⟩ : Arr2_3))
  else
   some (v.2, (⟨w64 ((w64 (2 * v.2)) + 1), w64 ((w64 (2 * v.2)) + 2)⟩ : Arr2_3))) fun (v2 : Int × Arr2_3) =>
 ob (if (decide (v2.2.p1 < (v.1.length : Int))) = true then (merge_heap_less v2.2.p1 v2.1 v.1 ar) else some default) fun x1 =>
 ob (
  if ((decide (v2.2.p1 < (v.1.length : Int))) && x1) = true then
   some (v2.2.p1, v2.2)
  else
   some (v2.1, v2.2)) fun (v3 : Int × Arr2_3) =>
 merge_heap_down_J1 v v3.1
noncomputable def merge_heap_down_L1 (ar : List source) (v0 : List Nat × Int) : Option (List Nat) :=
 loopO (fun y => merge_heap_down_B1 ar y) v0
noncomputable def merge_heap_down (i : Int) (row : List Nat) (ar : List source) : Option (List Nat) :=
 merge_heap_down_L1 ar (row, i)
theorem merge_heap_down_ok (i : Int) (row : List Nat) (ar : List source) (rk : Nat) (rc : Nat) (rn : Bool) (r : List Nat) (hF : merge_heap_down i row ar = some r) : Pe Try.prog 86 ⟨[], [], [(100000, ⟨108, 1, 0, 0, rc, rn, 1, [100000], (row.map ea)⟩)], [], [(100000, ⟨110, 2, [], ar.map e_source⟩)]⟩ [.row 100000 0, .i i] (.tup []) ⟨[], [], [(100000, ⟨108, 1, 0, 0, rc, rn, 1, [100000], (r.map ea)⟩)], [], [(100000, ⟨110, 2, [], ar.map e_source⟩)]⟩ := by
 refine PeN 48 [] [] Ty.ok Fn.b86 Try.func86 ?_
 intro Q g hfin
 unfold merge_heap_down at hF
 refine Nblk ?_
 unfold merge_heap_down_L1 at hF
 refine Niter (fun v : List Nat × Int => (⟨[(0, .row 100000 0), (1, .i v.2)], [], [(100000, ⟨108, 1, 0, 0, rc, rn, 1, [100000], (v.1.map ea)⟩)], [], [(100000, ⟨110, 2, [], ar.map e_source⟩)]⟩ : S)) [] hF (by kernel_rfl) ?_
 intro n1 v y1 hF ih1 dn1
 unfold merge_heap_down_B1 at hF
 refine Nblk ?_
 refine NAR [] [0, 1, 4] [] [100000] [] [100000] ⟨[(0, .row 100000 0), (1, .i v.2), (4, .i v.2)], [], [(100000, ⟨108, 1, 0, 0, rc, rn, 1, [100000], (v.1.map ea)⟩)], [], [(100000, ⟨110, 2, [], ar.map e_source⟩)]⟩ .nil ?_
 refine NAR [] [0, 1, 4, 14, 15] [] [100000] [] [100000] ⟨[(0, .row 100000 0), (1, .i v.2), (4, .i v.2), (14, .agg [.i (w64 ((w64 (2 * v.2)) + 1)), .i (w64 ((w64 (2 * v.2)) + 2))]), (15, .i 0)], [], [(100000, ⟨108, 1, 0, 0, rc, rn, 1, [100000], (v.1.map ea)⟩)], [], [(100000, ⟨110, 2, [], ar.map e_source⟩)]⟩ .nil ?_
 refine NmeetP (fun v1 : Int => (⟨[(0, .row 100000 0), (1, .i v.2), (4, .i v1)], [], [(100000, ⟨108, 1, 0, 0, rc, rn, 1, [100000], (v.1.map ea)⟩)], [], [(100000, ⟨110, 2, [], ar.map e_source⟩)]⟩ : S)) (fun v1 => merge_heap_down_J1 v v1 = some y1) ?_ ?_
 ·refine Nblk ?_
  refine Wk_unroll 9 ?_
  refine Nagain ?_
  refine NAR [] [0, 1, 4, 14, 15, 16] [] [100000] [] [100000] ⟨[(0, .row 100000 0), (1, .i v.2), (4, .i v.2), (14, .agg [.i (w64 ((w64 (2 * v.2)) + 1)), .i (w64 ((w64 (2 * v.2)) + 2))]), (15, .i 0), (16, .bool true)], [], [(100000, ⟨108, 1, 0, 0, rc, rn, 1, [100000], (v.1.map ea)⟩)], [], [(100000, ⟨110, 2, [], ar.map e_source⟩)]⟩ .nil ?_
  refine Ntrue rfl ?_
  refine Nblk ?_
  refine NAR [] [0, 1, 4, 6, 14, 15] [] [100000] [] [100000] ⟨[(0, .row 100000 0), (1, .i v.2), (4, .i v.2), (6, .i (w64 ((w64 (2 * v.2)) + 1))), (14, .agg [.i (w64 ((w64 (2 * v.2)) + 1)), .i (w64 ((w64 (2 * v.2)) + 2))]), (15, .i 0)], [], [(100000, ⟨108, 1, 0, 0, rc, rn, 1, [100000], (v.1.map ea)⟩)], [], [(100000, ⟨110, 2, [], ar.map e_source⟩)]⟩ (hc (⟨by decide, by decide⟩ : (0 : Int) ≤ 0 ∧ (0 : Int) < ((2 : Nat) : Int)) .nil) ?_
  obtain ⟨x, h8, hF⟩ := ob_elim hF
  refine NAR [.nat (v.1.length : Int), .callR [] [100000] [] [100000] (.bool x)] [0, 1, 4, 6, 14, 15, 27] [] [100000] [] [100000] ⟨[(0, .row 100000 0), (1, .i v.2), (4, .i v.2), (6, .i (w64 ((w64 (2 * v.2)) + 1))), (14, .agg [.i (w64 ((w64 (2 * v.2)) + 1)), .i (w64 ((w64 (2 * v.2)) + 2))]), (15, .i 0), (27, .bool ((decide ((w64 ((w64 (2 * v.2)) + 1)) < (v.1.length : Int))) && x))], [], [(100000, ⟨108, 1, 0, 0, rc, rn, 1, [100000], (v.1.map ea)⟩)], [], [(100000, ⟨110, 2, [], ar.map e_source⟩)]⟩ (hc (len_ok ea v.1) (hc (fun (ga0 : (decide ((w64 ((w64 (2 * v.2)) + 1)) < (v.1.length : Int))) = true) => (Pe.ren (merge_heap_less_ok (w64 ((w64 (2 * v.2)) + 1)) v.2 v.1 ar 0 rc rn x (ite_t h8 ga0)) ⟨[], [], [], []⟩)) .nil)) ?_
  obtain ⟨v2, hv, hF⟩ := ob_elim hF
  refine Nmeet (⟨[(0, .row 100000 0), (1, .i v.2), (4, .i v2.1), (14, .agg [.i v2.2.p0, .i v2.2.p1]), (15, .i 0)], [], [(100000, ⟨108, 1, 0, 0, rc, rn, 1, [100000], (v.1.map ea)⟩)], [], [(100000, ⟨110, 2, [], ar.map e_source⟩)]⟩ : S) ?_ ?_
  ·have hF := hv
   refine Nif hF (fun hb hF => ?_) (fun hb hF => ?_)
   ·refine NAR [] [0, 1, 4, 14, 15] [] [100000] [] [100000] ⟨[(0, .row 100000 0), (1, .i v.2), (4, .i (w64 ((w64 (2 * v.2)) + 1))), (14, .agg [.i (w64 ((w64 (2 * v.2)) + 1)), .i (w64 ((w64 (2 * v.2)) + 2))]), (15, .i 0)], [], [(100000, ⟨108, 1, 0, 0, rc, rn, 1, [100000], (v.1.map ea)⟩)], [], [(100000, ⟨110, 2, [], ar.map e_source⟩)]⟩ .nil ?_
    cases hF
    exact met [] (by kernel_rfl)
   ·cases hF
    exact met [] (by kernel_rfl)
  ·refine NAR [] [0, 1, 4, 14, 15] [] [100000] [] [100000] ⟨[(0, .row 100000 0), (1, .i v.2), (4, .i v2.1), (14, .agg [.i v2.2.p0, .i v2.2.p1]), (15, .i 1)], [], [(100000, ⟨108, 1, 0, 0, rc, rn, 1, [100000], (v.1.map ea)⟩)], [], [(100000, ⟨110, 2, [], ar.map e_source⟩)]⟩ .nil ?_
   refine Nagain ?_
   refine NAR [] [0, 1, 4, 14, 15, 16] [] [100000] [] [100000] ⟨[(0, .row 100000 0), (1, .i v.2), (4, .i v2.1), (14, .agg [.i v2.2.p0, .i v2.2.p1]), (15, .i 1), (16, .bool true)], [], [(100000, ⟨108, 1, 0, 0, rc, rn, 1, [100000], (v.1.map ea)⟩)], [], [(100000, ⟨110, 2, [], ar.map e_source⟩)]⟩ .nil ?_
   refine Ntrue rfl ?_
   refine Nblk ?_
   refine NAR [] [0, 1, 4, 6, 14, 15] [] [100000] [] [100000] ⟨[(0, .row 100000 0), (1, .i v.2), (4, .i v2.1), (6, .i v2.2.p1), (14, .agg [.i v2.2.p0, .i v2.2.p1]), (15, .i 1)], [], [(100000, ⟨108, 1, 0, 0, rc, rn, 1, [100000], (v.1.map ea)⟩)], [], [(100000, ⟨110, 2, [], ar.map e_source⟩)]⟩ (hc (⟨by decide, by decide⟩ : (0 : Int) ≤ 1 ∧ (1 : Int) < ((2 : Nat) : Int)) .nil) ?_
   obtain ⟨x1, h9, hF⟩ := ob_elim hF
   refine NAR [.nat (v.1.length : Int), .callR [] [100000] [] [100000] (.bool x1)] [0, 1, 4, 6, 14, 15, 27] [] [100000] [] [100000] ⟨[(0, .row 100000 0), (1, .i v.2), (4, .i v2.1), (6, .i v2.2.p1), (14, .agg [.i v2.2.p0, .i v2.2.p1]), (15, .i 1), (27, .bool ((decide (v2.2.p1 < (v.1.length : Int))) && x1))], [], [(100000, ⟨108, 1, 0, 0, rc, rn, 1, [100000], (v.1.map ea)⟩)], [], [(100000, ⟨110, 2, [], ar.map e_source⟩)]⟩ (hc (len_ok ea v.1) (hc (fun (ga0 : (decide (v2.2.p1 < (v.1.length : Int))) = true) => (Pe.ren (merge_heap_less_ok v2.2.p1 v2.1 v.1 ar 0 rc rn x1 (ite_t h9 ga0)) ⟨[], [], [], []⟩)) .nil)) ?_
   obtain ⟨v3, hv, hF⟩ := ob_elim hF
   refine Nmeet (⟨[(0, .row 100000 0), (1, .i v.2), (4, .i v3.1), (14, .agg [.i v3.2.p0, .i v3.2.p1]), (15, .i 1)], [], [(100000, ⟨108, 1, 0, 0, rc, rn, 1, [100000], (v.1.map ea)⟩)], [], [(100000, ⟨110, 2, [], ar.map e_source⟩)]⟩ : S) ?_ ?_
   ·have hF := hv
    refine Nif hF (fun hb hF => ?_) (fun hb hF => ?_)
    ·refine NAR [] [0, 1, 4, 14, 15] [] [100000] [] [100000] ⟨[(0, .row 100000 0), (1, .i v.2), (4, .i v2.2.p1), (14, .agg [.i v2.2.p0, .i v2.2.p1]), (15, .i 1)], [], [(100000, ⟨108, 1, 0, 0, rc, rn, 1, [100000], (v.1.map ea)⟩)], [], [(100000, ⟨110, 2, [], ar.map e_source⟩)]⟩ .nil ?_
     cases hF
     exact met [] (by kernel_rfl)
    ·cases hF
     exact met [] (by kernel_rfl)
   ·refine NAR [] [0, 1, 4, 14, 15] [] [100000] [] [100000] ⟨[(0, .row 100000 0), (1, .i v.2), (4, .i v3.1), (14, .agg [.i v3.2.p0, .i v3.2.p1]), (15, .i 2)], [], [(100000, ⟨108, 1, 0, 0, rc, rn, 1, [100000], (v.1.map ea)⟩)], [], [(100000, ⟨110, 2, [], ar.map e_source⟩)]⟩ .nil ?_
    refine Nagain ?_
    refine NAR [] [0, 1, 4, 14, 15, 16] [] [100000] [] [100000] ⟨[(0, .row 100000 0), (1, .i v.2), (4, .i v3.1), (14, .agg [.i v3.2.p0, .i v3.2.p1]), (15, .i 2), (16, .bool false)], [], [(100000, ⟨108, 1, 0, 0, rc, rn, 1, [100000], (v.1.map ea)⟩)], [], [(100000, ⟨110, 2, [], ar.map e_source⟩)]⟩ .nil ?_
    refine Nfalse rfl ?_
    refine Nexit rfl ?_
    exact metP v3.1 [] hF (by kernel_rfl)
 ·intro v1 hF
  have hF : merge_heap_down_J1 v v1 = some y1 := hF
  unfold merge_heap_down_J1 at hF
  refine NAR [] [0, 1, 4, 32] [] [100000] [] [100000] ⟨[(0, .row 100000 0), (1, .i v.2), (4, .i v1), (32, .bool (decide (v1 = v.2)))], [], [(100000, ⟨108, 1, 0, 0, rc, rn, 1, [100000], (v.1.map ea)⟩)], [], [(100000, ⟨110, 2, [], ar.map e_source⟩)]⟩ .nil ?_
  refine Nif hF (fun hb hF => ?_) (fun hb hF => ?_)
  ·have hF := ret_done hF dn1
   cases hF
   exact Wk_ret (hfin _ ⟨[100000], [], [100000], [], [100000], [], by kernel_rfl⟩)
  ·obtain ⟨h0, hF⟩ := asrt_elim hF
   obtain ⟨h1, h2, h3, h4, hF⟩ := asrt4 hF
   obtain ⟨h5, h6, hF⟩ := asrt2 hF
   obtain ⟨h7, hF⟩ := asrt_elim hF
   refine NAD [.av (ea (lget v.1 v1)), .av (ea (lget v.1 v.2)), .av (ea (lget v.1 v.2)), .xs ((lset v.1 v.2 (lget v.1 v1)).map ea), .av (ea (lget (lset v.1 v.2 (lget v.1 v1)) v1)), .xs ((lset (lset v.1 v.2 (lget v.1 v1)) v1 (lget v.1 v.2)).map ea)] [0, 4] [] [100000] [] [100000] ⟨[(0, .row 100000 0), (4, .i v1)], [], [(100000, ⟨108, 1, 0, 0, rc, rn, 1, [100000], ((lset (lset v.1 v.2 (lget v.1 v1)) v1 (lget v.1 v.2)).map ea)⟩)], [], [(100000, ⟨110, 2, [], ar.map e_source⟩)]⟩ (hc (ixr_ok ea h0) (hc (ldr_ok ea h1) (hc (ixr_ok ea h2) (hc (ldr_ok ea h3) (hc (ixr_ok ea h4) (hc (ldr_ok ea h5) (hc (set_ok ea v.1 v.2 (lget v.1 v1)) (hc (Nat.zero_le v.2.toNat) (hc (ixr_ok ea h6) (hc (ldr_ok ea h7) (hc (set_ok ea (lset v.1 v.2 (lget v.1 v1)) v1 (lget v.1 v.2)) (hc (Nat.zero_le v1.toNat) .nil)))))))))))) ?_
   refine NAR [] [0, 1] [] [100000] [] [100000] ⟨[(0, .row 100000 0), (1, .i v1)], [], [(100000, ⟨108, 1, 0, 0, rc, rn, 1, [100000], ((lset (lset v.1 v.2 (lget v.1 v1)) v1 (lget v.1 v.2)).map ea)⟩)], [], [(100000, ⟨110, 2, [], ar.map e_source⟩)]⟩ .nil ?_
   exact Nrnd [] hF ih1 (by kernel_rfl)

/- merge.joined$1 -/
noncomputable def merge_joined_1_v1 (c : Cell) (row : List Cell) : Option (Bool × List Cell) :=
 asrt ((!(decide ((row.length : Int) = 0))) = true → 0 ≤ w64 ((row.length : Int) - 1) ∧ w64 ((row.length : Int) - 1) < (row.length : Int)) <|
 asrt ((!(decide ((row.length : Int) = 0))) = true → 0 ≤ w64 ((row.length : Int) - 1) ∧ w64 ((row.length : Int) - 1) < (row.length : Int)) <|
 ob (if (!(decide ((row.length : Int) = 0))) = true then (cell_Order (⟨(lget row (w64 ((row.length : Int) - 1))).Row, (lget row (w64 ((row.length : Int) - 1))).Col, (lget row (w64 ((row.length : Int) - 1))).Time, (lget row (w64 ((row.length : Int) - 1))).Gone, (lget row (w64 ((row.length : Int) - 1))).Value⟩ : Cell) c) else some default) fun x =>
 ob (
  if ((decide ((row.length : Int) = 0)) || (!decide (x = 0))) = true then
   asrt (((row ++ [c]).length : Int) * 64 ≤ 140737488351232) <|
   some (row ++ [c])
  else
   some row) fun (v : List Cell) =>
 some (true, v)
theorem merge_joined_1_v1_ok (c : Cell) (row : List Cell) (rk : Nat) (rc : Nat) (rn : Bool) (r : Bool × List Cell) (hF : merge_joined_1_v1 c row = some r) : Pe Try.prog 72 ⟨[], [(100000, [.row 100000 0])], [(100000, ⟨37, 5, 0, rk, rc, rn, 0, [], (row.map e_Cell)⟩)], [], []⟩ [.agg (c_Cell c), .ptr 100000 0] (.bool r.1) ⟨[], [(100000, [.row 100000 1])], [(100000, ⟨37, 5, 1, rk, rc, rn, 0, [], (r.2.map e_Cell)⟩)], [], []⟩ := by
 refine PeN 23 [.tmp 3] [4] Ty.ok Fn.b72 Try.func72 ?_
 intro Q g hfin
 unfold merge_joined_1_v1 at hF
 refine VR [] [1, 2] [2, 100000] [100000] [] [(2, .ptr 2 0)] [(2, (c_Cell c))] [] [] .nil ?_
 refine NR [.nat (row.length : Int)] [1, 2, 4] [2, 100000] [100000] [(4, .i (row.length : Int))] (hc (len_ok e_Cell row) .nil) ?_
 obtain ⟨h0, h1, hF⟩ := asrt2 hF
 obtain ⟨x, h2, hF⟩ := ob_elim hF
 refine ND [.av (e_Cell (lget row (w64 ((row.length : Int) - 1)))), .callB (.i x)] [1, 2, 18] [2, 100000] [100000] [(18, .bool ((decide ((row.length : Int) = 0)) || (!decide (x = 0))))] (hc (fun (ga0 : (!(decide ((row.length : Int) = 0))) = true) => (ixr_ok e_Cell (h0 ga0))) (hc (fun (ga0 : (!(decide ((row.length : Int) = 0))) = true) => (ldr_ok e_Cell (h1 ga0))) (hc (fun (ga0 : (!(decide ((row.length : Int) = 0))) = true) => (cell_Order_ok (⟨(lget row (w64 ((row.length : Int) - 1))).Row, (lget row (w64 ((row.length : Int) - 1))).Col, (lget row (w64 ((row.length : Int) - 1))).Time, (lget row (w64 ((row.length : Int) - 1))).Gone, (lget row (w64 ((row.length : Int) - 1))).Value⟩ : Cell) c x (ite_t h2 ga0))) .nil))) ?_
 obtain ⟨v, hv, hF⟩ := ob_elim hF
 refine Nmeet (⟨[], [(100000, [.row 100000 1])], [(100000, ⟨37, 5, 1, rk, rc, rn, 0, [], (v.map e_Cell)⟩)], [], []⟩ : S) ?_ ?_
 ·have hF := hv
  refine Nif hF (fun hb hF => ?_) (fun hb hF => ?_)
  ·obtain ⟨h3, hF⟩ := asrt_elim hF
   refine VR [.sealed, .xs ((row ++ [c]).map e_Cell)] [] [100000] [100000] [] [] [(100000, [.row 100000 1])] [(100000, ⟨37, 5, 1, rk, rc, rn, 0, [], ((row ++ [c]).map e_Cell)⟩)] [] (hc (app_ok e_Cell row [c]) (hc (appl_ok e_Cell h3) .nil)) ?_
   cases hF
   exact met [] (by kernel_rfl)
  ·cases hF
   exact met [(100000, ⟨1, true, true, false⟩)] (by kernel_rfl)
 ·refine NR [] [3] [100000] [100000] [(3, .bool true)] .nil ?_
  cases hF
  exact Wk_ret (hfin _ ⟨[100000], [100000], [100000], [], [], [], by kernel_rfl⟩)

/- merge.each -/
noncomputable def merge_each_J3 (v2 : List Cell × List source) : Option (List Cell) :=
 some v2.1
noncomputable def merge_each_B1 (v3 : List Cell × List Nat × List source) : Option ((List Cell × List Nat × List source) ⊕ (List Cell)) :=
 if (decide (0 < (v3.2.1.length : Int))) = true then
  asrt (0 ≤ (0 : Int) ∧ 0 < (v3.2.1.length : Int)) <|
  asrt (0 ≤ (0 : Int) ∧ 0 < (v3.2.1.length : Int)) <|
  asrt (0 ≤ (((lget v3.2.1 0) : Nat) : Int) ∧ (((lget v3.2.1 0) : Nat) : Int) < (v3.2.2.length : Int)) <|
  asrt (0 ≤ (0 : Int) ∧ 0 < (((lget v3.2.2 (((lget v3.2.1 0) : Nat) : Int)).cells).length : Int)) <|
  ob (merge_joined_1_v1 (⟨(lget ((lget v3.2.2 (((lget v3.2.1 0) : Nat) : Int)).cells) 0).Row, (lget ((lget v3.2.2 (((lget v3.2.1 0) : Nat) : Int)).cells) 0).Col, (lget ((lget v3.2.2 (((lget v3.2.1 0) : Nat) : Int)).cells) 0).Time, (lget ((lget v3.2.2 (((lget v3.2.1 0) : Nat) : Int)).cells) 0).Gone, (lget ((lget v3.2.2 (((lget v3.2.1 0) : Nat) : Int)).cells) 0).Value⟩ : Cell) v3.1) fun x =>
  if (!x.1) = true then
   some (Sum.inr x.2)
  else
   asrt (0 ≤ (((lget v3.2.1 0) : Nat) : Int) ∧ (((lget v3.2.1 0) : Nat) : Int) < (v3.2.2.length : Int)) <|
   asrt (0 ≤ (1 : Int) ∧ (1 : Int) ≤ (((lget v3.2.2 (((lget v3.2.1 0) : Nat) : Int)).cells).length : Int)) <|
   asrt (0 ≤ (((lget v3.2.1 0) : Nat) : Int) ∧ (((lget v3.2.1 0) : Nat) : Int) < (v3.2.2.length : Int)) <|
   lt ((lset v3.2.2 (((lget v3.2.1 0) : Nat) : Int) (⟨(ldrop ((lget v3.2.2 (((lget v3.2.1 0) : Nat) : Int)).cells) 1), (lget v3.2.2 (((lget v3.2.1 0) : Nat) : Int)).rank⟩ : source))) fun (v4 : List source) =>
   asrt (0 ≤ (((lget v3.2.1 0) : Nat) : Int) ∧ (((lget v3.2.1 0) : Nat) : Int) < (v4.length : Int)) <|
   ob (
    if (decide ((((lget v4 (((lget v3.2.1 0) : Nat) : Int)).cells).length : Int) = 0)) = true then
     asrt (0 ≤ w64 ((v3.2.1.length : Int) - 1) ∧ w64 ((v3.2.1.length : Int) - 1) < (v3.2.1.length : Int)) <|
     asrt (0 ≤ w64 ((v3.2.1.length : Int) - 1) ∧ w64 ((v3.2.1.length : Int) - 1) < (v3.2.1.length : Int)) <|
     asrt (0 ≤ (0 : Int) ∧ 0 < (v3.2.1.length : Int)) <|
     asrt (0 ≤ (0 : Int) ∧ 0 < (v3.2.1.length : Int)) <|
     asrt (0 ≤ w64 (((lset v3.2.1 0 (lget v3.2.1 (w64 ((v3.2.1.length : Int) - 1)))).length : Int) - 1) ∧ w64 (((lset v3.2.1 0 (lget v3.2.1 (w64 ((v3.2.1.length : Int) - 1)))).length : Int) - 1) ≤ ((lset v3.2.1 0 (lget v3.2.1 (w64 ((v3.2.1.length : Int) - 1)))).length : Int)) <|
     asrt (((w64 (((lset v3.2.1 0 (lget v3.2.1 (w64 ((v3.2.1.length : Int) - 1)))).length : Int) - 1)).toNat) ≤ (lset v3.2.1 0 (lget v3.2.1 (w64 ((v3.2.1.length : Int) - 1)))).length) <|
     some ((lset v3.2.1 0 (lget v3.2.1 (w64 ((v3.2.1.length : Int) - 1)))).take ((w64 (((lset v3.2.1 0 (lget v3.2.1 (w64 ((v3.2.1.length : Int) - 1)))).length : Int) - 1)).toNat))
    else
     some v3.2.1) fun (v5 : List Nat) =>
   if (decide (0 < (v5.length : Int))) = true then
    ob (merge_heap_down 0 v5 v4) fun x1 =>
    some (Sum.inl (x.2, x1, v4))
   else
    some (Sum.inl (x.2, v5, v4))
 else
  inrO (merge_each_J3 (v3.1, v3.2.2))
noncomputable def merge_each_L1 (v0 : List Cell × List Nat × List source) : Option (List Cell) :=
 loopO (fun y => merge_each_B1 y) v0
noncomputable def merge_each_J2 (v : List Nat × List source) (v1 : List Nat) : Option (List Cell) :=
 merge_each_L1 (([] : List Cell), v1, v.2)
noncomputable def merge_each_B2 (v : List Nat × List source) (v6 : List Nat × Int) : Option ((List Nat × Int) ⊕ (List Cell)) :=
 if (decide (0 ≤ v6.2)) = true then
  ob (merge_heap_down v6.2 v6.1 v.2) fun x2 =>
  some (Sum.inl (x2, w64 (v6.2 - 1)))
 else
  inrO (merge_each_J2 v v6.1)
noncomputable def merge_each_L2 (v : List Nat × List source) (v0 : List Nat × Int) : Option (List Cell) :=
 loopO (fun y => merge_each_B2 v y) v0
noncomputable def merge_each_J1 (v : List Nat × List source) : Option (List Cell) :=
 merge_each_L2 v (v.1, w64 ((v.1.length : Int) - 1))
noncomputable def merge_each_B3 (l : List (List Cell)) (v7 : List Nat × Int × List source) : Option ((List Nat × Int × List source) ⊕ (List Cell)) :=
 if (decide (v7.2.1 < (l.length : Int))) = true then
  asrt (0 ≤ v7.2.1 ∧ v7.2.1 < (l.length : Int)) <|
  ob (
   if (decide (0 < ((lget l v7.2.1).length : Int))) = true then
    asrt (((v7.1 ++ ([v7.2.2.length] : List Nat)).length : Int) * 8 ≤ 140737488351232) <|
    some ((v7.1 ++ ([v7.2.2.length] : List Nat)), (v7.2.2 ++ [(⟨(lget l v7.2.1), v7.2.1⟩ : source)]))
   else
    some (v7.1, v7.2.2)) fun (v8 : List Nat × List source) =>
  some (Sum.inl (v8.1, w64 (v7.2.1 + 1), v8.2))
 else
  inrO (merge_each_J1 (v7.1, v7.2.2))
noncomputable def merge_each_L3 (l : List (List Cell)) (v0 : List Nat × Int × List source) : Option (List Cell) :=
 loopO (fun y => merge_each_B3 l y) v0
noncomputable def merge_each (l : List (List Cell)) : Option (List Cell) :=
 merge_each_L3 l (([] : List Nat), 0, ([] : List source))
theorem merge_each_ok (l : List (List Cell)) (r : List Cell) (hF : merge_each l = some r) : Pe Try.prog 71 ⟨[], [(100000, [.nils])], [], [], []⟩ [.sl 1 (l.map e_L_Cell), .fn 72 [.ptr 100000 0]] (.tup []) ⟨[], [(100000, [.row 50 0])], [(50, .z 37 5 0 (r.map e_Cell))], [], []⟩ := by
 refine Pe_ghost 100000 110 2 rfl ?_
 refine PeN 84 [] [] Ty.ok Fn.b71 Try.func71 ?_
 intro Q g hfin
 unfold merge_each at hF
 refine NAR [] [0, 1, 4] [100000] [] [] [100000] ⟨[(0, .sl 1 (l.map e_L_Cell)), (1, .fn 72 [.ptr 100000 0]), (4, .nils)], [(100000, [.nils])], [], [], [(100000, ⟨110, 2, [], ([] : List source).map e_source⟩)]⟩ .nil ?_
 refine NAR [.nat (l.length : Int)] [1, 4, 9, 10, 11] [100000] [] [] [100000] ⟨[(1, .fn 72 [.ptr 100000 0]), (4, .nils), (9, .sl 1 (l.map e_L_Cell)), (10, .i (l.length : Int)), (11, .i 0)], [(100000, [.nils])], [], [], [(100000, ⟨110, 2, [], ([] : List source).map e_source⟩)]⟩ (hc (len_ok e_L_Cell l) .nil) ?_
 refine NmeetP (fun v : List Nat × List source => (⟨[(1, .fn 72 [.ptr 100000 0]), (4, .row 25 0)], [(100000, [.nils])], [(25, ⟨108, 1, 0, 0, 0, true, 1, [100000], (v.1.map ea)⟩)], [], [(100000, ⟨110, 2, [], v.2.map e_source⟩)]⟩ : S)) (fun v => merge_each_J1 v = some r) ?_ ?_
 ·refine Nblk ?_
  unfold merge_each_L3 at hF
  refine Wk_nilrow1 4 60001 108 1 [100000] rfl rfl rfl ?_
  refine Wk_trim (fs := [1, 4, 9, 10, 11]) (bs := [100000]) (rs := [60001]) (ms := []) (aa := [100000]) (nv := []) rfl ?_
  refine Wk_ren' ⟨[], [(60001, 25)], [], []⟩ rfl ?_
  refine Niter (fun v7 : List Nat × Int × List source => (⟨[(1, .fn 72 [.ptr 100000 0]), (4, .row 25 0), (9, .sl 1 (l.map e_L_Cell)), (10, .i (l.length : Int)), (11, .i v7.2.1)], [(100000, [.nils])], [(25, ⟨108, 1, 0, 0, 0, true, 1, [100000], (v7.1.map ea)⟩)], [], [(100000, ⟨110, 2, [], v7.2.2.map e_source⟩)]⟩ : S)) [] hF (by kernel_rfl) ?_
  intro n1 v7 y1 hF ih1 dn1
  unfold merge_each_B3 at hF
  refine NAR [] [1, 4, 9, 10, 11, 12] [100000] [25] [] [100000] ⟨[(1, .fn 72 [.ptr 100000 0]), (4, .row 25 0), (9, .sl 1 (l.map e_L_Cell)), (10, .i (l.length : Int)), (11, .i v7.2.1), (12, .bool (decide (v7.2.1 < (l.length : Int))))], [(100000, [.nils])], [(25, ⟨108, 1, 0, 0, 0, true, 1, [100000], (v7.1.map ea)⟩)], [], [(100000, ⟨110, 2, [], v7.2.2.map e_source⟩)]⟩ .nil ?_
  refine Nif hF (fun hb hF => ?_) (fun hb hF => ?_)
  ·refine Nblk ?_
   obtain ⟨h17, hF⟩ := asrt_elim hF
   refine NAR [.av (e_L_Cell (lget l v7.2.1))] [1, 4, 5, 6, 9, 10, 11] [100000] [25] [] [100000] ⟨[(1, .fn 72 [.ptr 100000 0]), (4, .row 25 0), (5, .i v7.2.1), (6, .sl 5 ((lget l v7.2.1).map e_Cell)), (9, .sl 1 (l.map e_L_Cell)), (10, .i (l.length : Int)), (11, .i v7.2.1)], [(100000, [.nils])], [(25, ⟨108, 1, 0, 0, 0, true, 1, [100000], (v7.1.map ea)⟩)], [], [(100000, ⟨110, 2, [], v7.2.2.map e_source⟩)]⟩ (hc (idx_ok e_L_Cell h17) .nil) ?_
   refine NAR [.nat ((lget l v7.2.1).length : Int)] [1, 4, 5, 6, 9, 10, 11, 18] [100000] [25] [] [100000] ⟨[(1, .fn 72 [.ptr 100000 0]), (4, .row 25 0), (5, .i v7.2.1), (6, .sl 5 ((lget l v7.2.1).map e_Cell)), (9, .sl 1 (l.map e_L_Cell)), (10, .i (l.length : Int)), (11, .i v7.2.1), (18, .bool (decide (0 < ((lget l v7.2.1).length : Int))))], [(100000, [.nils])], [(25, ⟨108, 1, 0, 0, 0, true, 1, [100000], (v7.1.map ea)⟩)], [], [(100000, ⟨110, 2, [], v7.2.2.map e_source⟩)]⟩ (hc (len_ok e_Cell (lget l v7.2.1)) .nil) ?_
   obtain ⟨v8, hv, hF⟩ := ob_elim hF
   refine Nmeet (⟨[(1, .fn 72 [.ptr 100000 0]), (4, .row 25 0), (9, .sl 1 (l.map e_L_Cell)), (10, .i (l.length : Int)), (11, .i v7.2.1)], [(100000, [.nils])], [(25, ⟨108, 1, 0, 0, 0, true, 1, [100000], (v8.1.map ea)⟩)], [], [(100000, ⟨110, 2, [], v8.2.map e_source⟩)]⟩ : S) ?_ ?_
   ·have hF := hv
    refine Nif hF (fun hb hF => ?_) (fun hb hF => ?_)
    ·obtain ⟨h18, hF⟩ := asrt_elim hF
     refine NAR [.raw [100000], .vw v7.2.2.length, .xs ((v7.2.2 ++ [(⟨(lget l v7.2.1), v7.2.1⟩ : source)]).map e_source), .xs ((v7.1 ++ ([v7.2.2.length] : List Nat)).map ea)] [1, 4, 9, 10, 11] [100000] [25] [] [100000] ⟨[(1, .fn 72 [.ptr 100000 0]), (4, .row 25 1), (9, .sl 1 (l.map e_L_Cell)), (10, .i (l.length : Int)), (11, .i v7.2.1)], [(100000, [.nils])], [(25, ⟨108, 1, 1, 0, 0, true, 1, [100000], ((v7.1 ++ ([v7.2.2.length] : List Nat)).map ea)⟩)], [], [(100000, ⟨110, 2, [], (v7.2.2 ++ [(⟨(lget l v7.2.1), v7.2.1⟩ : source)]).map e_source⟩)]⟩ (hc (arl_ok e_source v7.2.2) (hc (app_ok e_source v7.2.2 [(⟨(lget l v7.2.1), v7.2.1⟩ : source)]) (hc (app_ok ea v7.1 ([v7.2.2.length] : List Nat)) (hc (appl_ok ea h18) .nil)))) ?_
     cases hF
     exact met [(25, ⟨0, true, true, false⟩)] (by kernel_rfl)
    ·cases hF
     exact met [] (by kernel_rfl)
   ·refine NAR [] [1, 4, 9, 10, 11] [100000] [25] [] [100000] ⟨[(1, .fn 72 [.ptr 100000 0]), (4, .row 25 0), (9, .sl 1 (l.map e_L_Cell)), (10, .i (l.length : Int)), (11, .i (w64 (v7.2.1 + 1)))], [(100000, [.nils])], [(25, ⟨108, 1, 0, 0, 0, true, 1, [100000], (v8.1.map ea)⟩)], [], [(100000, ⟨110, 2, [], v8.2.map e_source⟩)]⟩ .nil ?_
    exact Nrnd [] hF ih1 (by kernel_rfl)
  ·refine Nexit rfl ?_
   have hF := inrO_done hF dn1
   exact metP (v7.1, v7.2.2) [] hF (by kernel_rfl)
 ·intro v hF
  have hF : merge_each_J1 v = some r := hF
  unfold merge_each_J1 at hF
  refine NAR [.nat (v.1.length : Int)] [1, 4, 7] [100000] [25] [] [100000] ⟨[(1, .fn 72 [.ptr 100000 0]), (4, .row 25 0), (7, .i (w64 ((v.1.length : Int) - 1)))], [(100000, [.nils])], [(25, ⟨108, 1, 0, 0, 0, true, 1, [100000], (v.1.map ea)⟩)], [], [(100000, ⟨110, 2, [], v.2.map e_source⟩)]⟩ (hc (len_ok ea v.1) .nil) ?_
  refine NmeetP (fun v1 : List Nat => (⟨[(1, .fn 72 [.ptr 100000 0]), (4, .row 25 0)], [(100000, [.nils])], [(25, ⟨108, 1, 0, 0, 0, true, 1, [100000], (v1.map ea)⟩)], [], [(100000, ⟨110, 2, [], v.2.map e_source⟩)]⟩ : S)) (fun v1 => merge_each_J2 v v1 = some r) ?_ ?_
  ·refine Nblk ?_
   unfold merge_each_L2 at hF
   refine Niter (fun v6 : List Nat × Int => (⟨[(1, .fn 72 [.ptr 100000 0]), (4, .row 25 0), (7, .i v6.2)], [(100000, [.nils])], [(25, ⟨108, 1, 0, 0, 0, true, 1, [100000], (v6.1.map ea)⟩)], [], [(100000, ⟨110, 2, [], v.2.map e_source⟩)]⟩ : S)) [] hF (by kernel_rfl) ?_
   intro n1 v6 y1 hF ih1 dn1
   unfold merge_each_B2 at hF
   refine NAR [] [1, 4, 7, 31] [100000] [25] [] [100000] ⟨[(1, .fn 72 [.ptr 100000 0]), (4, .row 25 0), (7, .i v6.2), (31, .bool (decide (0 ≤ v6.2)))], [(100000, [.nils])], [(25, ⟨108, 1, 0, 0, 0, true, 1, [100000], (v6.1.map ea)⟩)], [], [(100000, ⟨110, 2, [], v.2.map e_source⟩)]⟩ .nil ?_
   refine Nif hF (fun hb hF => ?_) (fun hb hF => ?_)
   ·refine Nblk ?_
    obtain ⟨x2, h16, hF⟩ := ob_elim hF
    refine NAR [.callE [] [25] [] [100000] (.tup []) ⟨[], [], [(25, ⟨108, 1, 0, 0, 0, true, 1, [100000], (x2.map ea)⟩)], [], [(100000, ⟨110, 2, [], v.2.map e_source⟩)]⟩] [1, 4, 7] [100000] [25] [] [100000] ⟨[(1, .fn 72 [.ptr 100000 0]), (4, .row 25 0), (7, .i v6.2)], [(100000, [.nils])], [(25, ⟨108, 1, 0, 0, 0, true, 1, [100000], (x2.map ea)⟩)], [], [(100000, ⟨110, 2, [], v.2.map e_source⟩)]⟩ (hc (Pe.ren (merge_heap_down_ok v6.2 v6.1 v.2 0 0 true x2 h16) ⟨[], [(100000, 25)], [], []⟩) .nil) ?_
    refine NAR [] [1, 4, 7] [100000] [25] [] [100000] ⟨[(1, .fn 72 [.ptr 100000 0]), (4, .row 25 0), (7, .i (w64 (v6.2 - 1)))], [(100000, [.nils])], [(25, ⟨108, 1, 0, 0, 0, true, 1, [100000], (x2.map ea)⟩)], [], [(100000, ⟨110, 2, [], v.2.map e_source⟩)]⟩ .nil ?_
    exact Nrnd [] hF ih1 (by kernel_rfl)
   ·refine Nexit rfl ?_
    have hF := inrO_done hF dn1
    exact metP v6.1 [] hF (by kernel_rfl)
  ·intro v1 hF
   have hF : merge_each_J2 v v1 = some r := hF
   unfold merge_each_J2 at hF
   refine NmeetP (fun v2 : List Cell × List source => (⟨[], [(100000, [.row 50 0])], [(50, .z 37 5 0 (v2.1.map e_Cell))], [], [(100000, ⟨110, 2, [], v2.2.map e_source⟩)]⟩ : S)) (fun v2 => merge_each_J3 v2 = some r) ?_ ?_
   ·refine Nblk ?_
    unfold merge_each_L1 at hF
    refine Wk_nilrowB 100000 0 60000 37 5 rfl rfl rfl rfl rfl ?_
    refine Wk_trim (fs := [1, 4]) (bs := [100000]) (rs := [25, 60000]) (ms := []) (aa := [100000]) (nv := []) rfl ?_
    refine Wk_ren' ⟨[], [(60000, 50)], [], []⟩ rfl ?_
    refine Niter (fun v3 : List Cell × List Nat × List source => (⟨[(1, .fn 72 [.ptr 100000 0]), (4, .row 25 0)], [(100000, [.row 50 0])], [(25, ⟨108, 1, 0, 0, 0, false, 1, [100000], (v3.2.1.map ea)⟩), (50, .z 37 5 0 (v3.1.map e_Cell))], [], [(100000, ⟨110, 2, [], v3.2.2.map e_source⟩)]⟩ : S)) [(25, ⟨0, true, false, false⟩)] hF (by kernel_rfl) ?_
    intro n1 v3 y1 hF ih1 dn1
    unfold merge_each_B1 at hF
    refine NAR [.nat (v3.2.1.length : Int)] [1, 4, 39] [100000] [25, 50] [] [100000] ⟨[(1, .fn 72 [.ptr 100000 0]), (4, .row 25 0), (39, .bool (decide (0 < (v3.2.1.length : Int))))], [(100000, [.row 50 0])], [(25, ⟨108, 1, 0, 0, 0, false, 1, [100000], (v3.2.1.map ea)⟩), (50, .z 37 5 0 (v3.1.map e_Cell))], [], [(100000, ⟨110, 2, [], v3.2.2.map e_source⟩)]⟩ (hc (len_ok ea v3.2.1) .nil) ?_
    refine Nif hF (fun hb hF => ?_) (fun hb hF => ?_)
    ·refine Nblk ?_
     obtain ⟨h0, h1, hF⟩ := asrt2 hF
     refine NAR [.av (ea (lget v3.2.1 0))] [1, 4, 8] [100000] [25, 50] [] [100000] ⟨[(1, .fn 72 [.ptr 100000 0]), (4, .row 25 0), (8, .aptr 100000 (lget v3.2.1 0) 0)], [(100000, [.row 50 0])], [(25, ⟨108, 1, 0, 0, 0, false, 1, [100000], (v3.2.1.map ea)⟩), (50, .z 37 5 0 (v3.1.map e_Cell))], [], [(100000, ⟨110, 2, [], v3.2.2.map e_source⟩)]⟩ (hc (ixr_ok ea h0) (hc (ldr_ok ea h1) .nil)) ?_
     obtain ⟨h2, h3, hF⟩ := asrt2 hF
     obtain ⟨x, h4, hF⟩ := ob_elim hF
     refine NAR [.av (e_source (lget v3.2.2 (((lget v3.2.1 0) : Nat) : Int))), .av (e_Cell (lget ((lget v3.2.2 (((lget v3.2.1 0) : Nat) : Int)).cells) 0)), .callE [100000] [50] [] [] (.bool x.1) ⟨[], [(100000, [.row 50 1])], [(50, .z 37 5 1 (x.2.map e_Cell))], [], []⟩] [1, 4, 8, 51] [100000] [25, 50] [] [100000] ⟨[(1, .fn 72 [.ptr 100000 0]), (4, .row 25 0), (8, .aptr 100000 (lget v3.2.1 0) 0), (51, .bool (!x.1))], [(100000, [.row 50 1])], [(25, ⟨108, 1, 0, 0, 0, false, 1, [100000], (v3.2.1.map ea)⟩), (50, .z 37 5 1 (x.2.map e_Cell))], [], [(100000, ⟨110, 2, [], v3.2.2.map e_source⟩)]⟩ (hc (ldr_ok e_source h2) (hc (idx_ok e_Cell h3) (hc (Pe.ren (merge_joined_1_v1_ok (⟨(lget ((lget v3.2.2 (((lget v3.2.1 0) : Nat) : Int)).cells) 0).Row, (lget ((lget v3.2.2 (((lget v3.2.1 0) : Nat) : Int)).cells) 0).Col, (lget ((lget v3.2.2 (((lget v3.2.1 0) : Nat) : Int)).cells) 0).Time, (lget ((lget v3.2.2 (((lget v3.2.1 0) : Nat) : Int)).cells) 0).Gone, (lget ((lget v3.2.2 (((lget v3.2.1 0) : Nat) : Int)).cells) 0).Value⟩ : Cell) v3.1 0 0 true x h4) ⟨[], [(100000, 50)], [], []⟩) .nil))) ?_
     refine Nif hF (fun hb hF => ?_) (fun hb hF => ?_)
     ·have hF := ret_done hF dn1
      cases hF
      exact Wk_ret (hfin _ ⟨[50], [100000], [50], [], [], [(50, ⟨0, true, true, false⟩)], by kernel_rfl⟩)
     ·obtain ⟨h5, hF⟩ := asrt_elim hF
      obtain ⟨h6, h7, hF⟩ := asrt2 hF
      refine NARL ((lset v3.2.2 (((lget v3.2.1 0) : Nat) : Int) (⟨(ldrop ((lget v3.2.2 (((lget v3.2.1 0) : Nat) : Int)).cells) 1), (lget v3.2.2 (((lget v3.2.1 0) : Nat) : Int)).rank⟩ : source))) (fun v4 : List source => (⟨[(1, .fn 72 [.ptr 100000 0]), (4, .row 25 0), (8, .aptr 100000 (lget v3.2.1 0) 0)], [(100000, [.row 50 1])], [(25, ⟨108, 1, 0, 0, 0, false, 1, [100000], (v3.2.1.map ea)⟩), (50, .z 37 5 1 (x.2.map e_Cell))], [], [(100000, ⟨110, 2, [], v4.map e_source⟩)]⟩ : S)) [.av (e_source (lget v3.2.2 (((lget v3.2.1 0) : Nat) : Int))), .xs ((ldrop ((lget v3.2.2 (((lget v3.2.1 0) : Nat) : Int)).cells) 1).map e_Cell), .av (e_source (lget v3.2.2 (((lget v3.2.1 0) : Nat) : Int))), .xs ((lset v3.2.2 (((lget v3.2.1 0) : Nat) : Int) (⟨(ldrop ((lget v3.2.2 (((lget v3.2.1 0) : Nat) : Int)).cells) 1), (lget v3.2.2 (((lget v3.2.1 0) : Nat) : Int)).rank⟩ : source)).map e_source)] [1, 4, 8] [100000] [25, 50] [] [100000] (hc (ldr_ok e_source h5) (hc (sl10_ok e_Cell h6) (hc (ldr_ok e_source h7) (hc (set_ok e_source v3.2.2 (((lget v3.2.1 0) : Nat) : Int) (⟨(ldrop ((lget v3.2.2 (((lget v3.2.1 0) : Nat) : Int)).cells) 1), (lget v3.2.2 (((lget v3.2.1 0) : Nat) : Int)).rank⟩ : source)) .nil)))) (fun v4 hv => ?_)
      have hF := lt_elim hF hv
      obtain ⟨h8, hF⟩ := asrt_elim hF
      refine NAR [.av (e_source (lget v4 (((lget v3.2.1 0) : Nat) : Int))), .nat (((lget v4 (((lget v3.2.1 0) : Nat) : Int)).cells).length : Int)] [1, 4, 65] [100000] [25, 50] [] [100000] ⟨[(1, .fn 72 [.ptr 100000 0]), (4, .row 25 0), (65, .bool (decide ((((lget v4 (((lget v3.2.1 0) : Nat) : Int)).cells).length : Int) = 0)))], [(100000, [.row 50 1])], [(25, ⟨108, 1, 0, 0, 0, false, 1, [100000], (v3.2.1.map ea)⟩), (50, .z 37 5 1 (x.2.map e_Cell))], [], [(100000, ⟨110, 2, [], v4.map e_source⟩)]⟩ (hc (ldr_ok e_source h8) (hc (len_ok e_Cell ((lget v4 (((lget v3.2.1 0) : Nat) : Int)).cells)) .nil)) ?_
      obtain ⟨v5, hv, hF⟩ := ob_elim hF
      refine Nmeet (⟨[(1, .fn 72 [.ptr 100000 0]), (4, .row 25 0)], [(100000, [.row 50 1])], [(25, ⟨108, 1, 0, 0, 0, false, 1, [100000], (v5.map ea)⟩), (50, .z 37 5 1 (x.2.map e_Cell))], [], [(100000, ⟨110, 2, [], v4.map e_source⟩)]⟩ : S) ?_ ?_
      ·have hF := hv
       refine Nif hF (fun hb hF => ?_) (fun hb hF => ?_)
       ·obtain ⟨h9, hF⟩ := asrt_elim hF
        obtain ⟨h10, h11, hF⟩ := asrt2 hF
        obtain ⟨h12, hF⟩ := asrt_elim hF
        refine NAR [.nat (v3.2.1.length : Int), .av (ea (lget v3.2.1 (w64 ((v3.2.1.length : Int) - 1)))), .av (ea (lget v3.2.1 0)), .xs ((lset v3.2.1 0 (lget v3.2.1 (w64 ((v3.2.1.length : Int) - 1)))).map ea)] [1, 4] [100000] [25, 50] [] [100000] ⟨[(1, .fn 72 [.ptr 100000 0]), (4, .row 25 0)], [(100000, [.row 50 1])], [(25, ⟨108, 1, 0, 0, 0, false, 1, [100000], ((lset v3.2.1 0 (lget v3.2.1 (w64 ((v3.2.1.length : Int) - 1)))).map ea)⟩), (50, .z 37 5 1 (x.2.map e_Cell))], [], [(100000, ⟨110, 2, [], v4.map e_source⟩)]⟩ (hc (len_ok ea v3.2.1) (hc (ixr_ok ea h9) (hc (ldr_ok ea h10) (hc (ixr_ok ea h11) (hc (ldr_ok ea h12) (hc (set_ok ea v3.2.1 0 (lget v3.2.1 (w64 ((v3.2.1.length : Int) - 1)))) (hc (Nat.zero_le ((0 : Int).toNat)) .nil))))))) ?_
        obtain ⟨h13, hF⟩ := asrt_elim hF
        refine NAR [.nat ((lset v3.2.1 0 (lget v3.2.1 (w64 ((v3.2.1.length : Int) - 1)))).length : Int), .vw ((w64 (((lset v3.2.1 0 (lget v3.2.1 (w64 ((v3.2.1.length : Int) - 1)))).length : Int) - 1)).toNat)] [1, 4] [100000] [25, 50] [] [100000] ⟨[(1, .fn 72 [.ptr 100000 0]), (4, .rowv 25 0 0 ((w64 (((lset v3.2.1 0 (lget v3.2.1 (w64 ((v3.2.1.length : Int) - 1)))).length : Int) - 1)).toNat))], [(100000, [.row 50 1])], [(25, ⟨108, 1, 0, 0, 0, false, 1, [100000], ((lset v3.2.1 0 (lget v3.2.1 (w64 ((v3.2.1.length : Int) - 1)))).map ea)⟩), (50, .z 37 5 1 (x.2.map e_Cell))], [], [(100000, ⟨110, 2, [], v4.map e_source⟩)]⟩ (hc (len_ok ea (lset v3.2.1 0 (lget v3.2.1 (w64 ((v3.2.1.length : Int) - 1))))) (hc (vw01_ok (cm := 0) ea h13) .nil)) ?_
        obtain ⟨h14, hF⟩ := asrt_elim hF
        refine Wk_truncL 4 25 0 ((w64 (((lset v3.2.1 0 (lget v3.2.1 (w64 ((v3.2.1.length : Int) - 1)))).length : Int) - 1)).toNat) (((lset v3.2.1 0 (lget v3.2.1 (w64 ((v3.2.1.length : Int) - 1)))).take ((w64 (((lset v3.2.1 0 (lget v3.2.1 (w64 ((v3.2.1.length : Int) - 1)))).length : Int) - 1)).toNat)).map ea) rfl rfl rfl rfl (tk_ok ea h14).1 (Nat.zero_le _) (List.map_take).symm ?_
        cases hF
        exact met [(25, ⟨0, false, true, false⟩)] (by kernel_rfl)
       ·cases hF
        exact met [] (by kernel_rfl)
      ·refine NAR [.nat (v5.length : Int)] [1, 4, 81] [100000] [25, 50] [] [100000] ⟨[(1, .fn 72 [.ptr 100000 0]), (4, .row 25 0), (81, .bool (decide (0 < (v5.length : Int))))], [(100000, [.row 50 1])], [(25, ⟨108, 1, 0, 0, 0, false, 1, [100000], (v5.map ea)⟩), (50, .z 37 5 1 (x.2.map e_Cell))], [], [(100000, ⟨110, 2, [], v4.map e_source⟩)]⟩ (hc (len_ok ea v5) .nil) ?_
       refine Nif hF (fun hb hF => ?_) (fun hb hF => ?_)
       ·obtain ⟨x1, h15, hF⟩ := ob_elim hF
        refine NAR [.callE [] [25] [] [100000] (.tup []) ⟨[], [], [(25, ⟨108, 1, 0, 0, 0, false, 1, [100000], (x1.map ea)⟩)], [], [(100000, ⟨110, 2, [], v4.map e_source⟩)]⟩] [1, 4] [100000] [25, 50] [] [100000] ⟨[(1, .fn 72 [.ptr 100000 0]), (4, .row 25 0)], [(100000, [.row 50 1])], [(25, ⟨108, 1, 0, 0, 0, false, 1, [100000], (x1.map ea)⟩), (50, .z 37 5 1 (x.2.map e_Cell))], [], [(100000, ⟨110, 2, [], v4.map e_source⟩)]⟩ (hc (Pe.ren (merge_heap_down_ok 0 v5 v4 0 0 false x1 h15) ⟨[], [(100000, 25)], [], []⟩) .nil) ?_
        exact Nrnd [(50, ⟨0, true, true, false⟩)] hF ih1 (by kernel_rfl)
       ·exact Nrnd [(50, ⟨0, true, true, false⟩)] hF ih1 (by kernel_rfl)
    ·refine Nexit rfl ?_
     have hF := inrO_done hF dn1
     exact metP (v3.1, v3.2.2) [] hF (by kernel_rfl)
   ·intro v2 hF
    have hF : merge_each_J3 v2 = some r := hF
    unfold merge_each_J3 at hF
    cases hF
    exact Wk_end (hfin _ ⟨[50], [100000], [50], [], [], [], by kernel_rfl⟩)

/- merge.joined -/
noncomputable def merge_joined (l : List (List Cell)) : Option (List Cell) :=
 ob (merge_each l) fun x =>
 some x
theorem merge_joined_ok (l : List (List Cell)) (r : List Cell) (hF : merge_joined l = some r) : Pe Try.prog 55 S.none [.sl 1 (l.map e_L_Cell)] (.row 6 0) ⟨[], [], [(6, .z 37 5 0 (r.map e_Cell))], [], []⟩ := by
 refine PeN 8 [.tmp 2] [22] Ty.ok Fn.b55 Try.func55 ?_
 intro Q g hfin
 unfold merge_joined at hF
 refine NR [] [0] [] [] [] .nil ?_
 refine VR [] [0, 3] [3] [] [] [(3, .ptr 3 0)] [(3, [.nils])] [] [] .nil ?_
 obtain ⟨x, h0, hF⟩ := ob_elim hF
 refine VR [.callE [3] [] [] [] (.tup []) ⟨[], [(3, [.row 6 0])], [(6, .z 37 5 0 (x.map e_Cell))], [], []⟩] [3] [3] [6] [] [] [(3, [.row 6 0])] [(6, .z 37 5 0 (x.map e_Cell))] [] (hc (Pe.ren (merge_each_ok l x h0) ⟨[(100000, 3)], [(50, 6)], [], []⟩) .nil) ?_
 refine NR [] [2] [] [6] [(2, .row 6 0)] .nil ?_
 cases hF
 exact Wk_ret (hfin _ ⟨[6], [], [6], [], [], [], by kernel_rfl⟩)

/- merge.Join -/
noncomputable def merge_Join (l : List (List Cell)) : Option (List Cell × Fault) :=
 ob (merge_lists l) fun x =>
 if (!decide (x.Code = 0)) = true then
  some (([] : List Cell), x)
 else
  ob (merge_joined l) fun x1 =>
  if (decide (1000 < (x1.length : Int))) = true then
   lt (merge_fault 9 (-1)) fun x2 =>
   some (([] : List Cell), x2)
  else
   some (x1, (⟨0, 0⟩ : Fault))
theorem merge_Join_ok (l : List (List Cell)) (r : List Cell × Fault) (hF : merge_Join l = some r) : Pe Try.prog 30 S.none [.sl 1 (l.map e_L_Cell)] (.tup [.row 13 0, .agg (c_Fault r.2)]) ⟨[], [], [(13, .z 37 5 0 (r.1.map e_Cell))], [], []⟩ := by
 refine PeN 20 [.tmp 2, .cell 3 28] [22, 28] Ty.ok Fn.b30 Try.func30 ?_
 intro Q g hfin
 unfold merge_Join at hF
 refine VR [] [0, 3] [3] [] [] [(3, .ptr 3 0)] [(3, [.i 0, .i 0])] [] [] .nil ?_
 obtain ⟨x, h0, hF⟩ := ob_elim hF
 refine VR [.callB (.agg (c_Fault x))] [0, 3, 4] [3, 4] [] [] [(4, .ptr 4 0)] [(4, (c_Fault x))] [] [] (hc (merge_lists_ok l x h0) .nil) ?_
 refine NR [] [0, 3, 4, 10] [3, 4] [] [(10, .bool (!decide (x.Code = 0)))] .nil ?_
 refine Nif hF (fun hb hF => ?_) (fun hb hF => ?_)
 ·refine VD [] [2, 3] [3] [] [] [(2, .nils)] [(3, (c_Fault x))] [] [] .nil ?_
  cases hF
  refine Wk_nilrow 2 60000 37 5 rfl rfl rfl ?_
  refine Wk_ren' ⟨[], [(60000, 13)], [], []⟩ rfl ?_
  exact Wk_ret (hfin _ ⟨[13], [], [13], [], [], [], by kernel_rfl⟩)
 ·obtain ⟨x1, h1, hF⟩ := ob_elim hF
  refine VR [.callE [] [] [] [] (.row 13 0) ⟨[], [], [(13, .z 37 5 0 (x1.map e_Cell))], [], []⟩] [3, 5] [3] [13] [] [(5, .row 13 0)] [] [(13, .z 37 5 0 (x1.map e_Cell))] [] (hc (Pe.ren (merge_joined_ok l x1 h1) ⟨[], [(6, 13)], [], []⟩) .nil) ?_
  refine NR [.nat (x1.length : Int)] [3, 5, 16] [3] [13] [(16, .bool (decide (1000 < (x1.length : Int))))] (hc (len_ok e_Cell x1) .nil) ?_
  refine Nif hF (fun hb hF => ?_) (fun hb hF => ?_)
  ·obtain ⟨x2, h2, hF⟩ := lt_split hF
   refine VR [.callB (.agg (c_Fault x2))] [2, 3] [3] [] [] [(2, .nils)] [(3, (c_Fault x2))] [] [] (hc (merge_fault_ok 9 (-1) x2 h2) .nil) ?_
   cases hF
   refine Wk_nilrow 2 60001 37 5 rfl rfl rfl ?_
   refine Wk_ren' ⟨[], [(60001, 13)], [], []⟩ rfl ?_
   exact Wk_ret (hfin _ ⟨[13], [], [13], [], [], [], by kernel_rfl⟩)
  ·refine NR [] [2, 3] [3] [13] [(2, .row 13 0)] .nil ?_
   cases hF
   exact Wk_ret (hfin _ ⟨[13], [], [13], [], [], [], by kernel_rfl⟩)

/- merge.Compact -/
noncomputable def merge_Compact_J1 (v : Fault × Fault × List Cell) : Option (List Cell × Fault) :=
 some (v.2.2, v.2.1)
noncomputable def merge_Compact_J2 (v1 : Fault × Fault × List Cell × Int) (v4 : Fault × Fault × Cell) : Option (Fault × Fault × List Cell) :=
 asrt (((v1.2.2.1 ++ [v4.2.2]).length : Int) * 64 ≤ 140737488351232) <|
 some (v4.1, v4.2.1, (v1.2.2.1 ++ [v4.2.2]))
noncomputable def merge_Compact_B1 (since : Int) (whole : Bool) (x : List Cell × Fault) (v1 : Fault × Fault × List Cell × Int) : Option ((Fault × Fault × List Cell × Int) ⊕ (List Cell × Fault)) :=
 if (decide (v1.2.2.2 < (x.1.length : Int))) = true then
  ob (
   asrt (0 ≤ v1.2.2.2 ∧ v1.2.2.2 < (x.1.length : Int)) <|
   asrt (0 ≤ v1.2.2.2 ∧ v1.2.2.2 < (x.1.length : Int)) <|
   asrt ((decide (0 < v1.2.2.2)) = true → 0 ≤ w64 (v1.2.2.2 - 1) ∧ w64 (v1.2.2.2 - 1) < (x.1.length : Int)) <|
   asrt ((decide (0 < v1.2.2.2)) = true → 0 ≤ w64 (v1.2.2.2 - 1) ∧ w64 (v1.2.2.2 - 1) < (x.1.length : Int)) <|
   asrt (((decide (0 < v1.2.2.2)) && (decide (((lget x.1 (w64 (v1.2.2.2 - 1))).Row) = ((lget x.1 v1.2.2.2).Row)))) = true → 0 ≤ w64 (v1.2.2.2 - 1) ∧ w64 (v1.2.2.2 - 1) < (x.1.length : Int)) <|
   asrt (((decide (0 < v1.2.2.2)) && (decide (((lget x.1 (w64 (v1.2.2.2 - 1))).Row) = ((lget x.1 v1.2.2.2).Row)))) = true → 0 ≤ w64 (v1.2.2.2 - 1) ∧ w64 (v1.2.2.2 - 1) < (x.1.length : Int)) <|
   lt (((decide (0 < v1.2.2.2)) && (decide (((lget x.1 (w64 (v1.2.2.2 - 1))).Row) = ((lget x.1 v1.2.2.2).Row)))) && (decide (((lget x.1 (w64 (v1.2.2.2 - 1))).Col) = ((lget x.1 v1.2.2.2).Col)))) fun (v3 : Bool) =>
   if (decide (since < ((lget x.1 v1.2.2.2).Time))) = true then
    merge_Compact_J2 v1 (v1.1, v1.2.1, (⟨(lget x.1 v1.2.2.2).Row, (lget x.1 v1.2.2.2).Col, (lget x.1 v1.2.2.2).Time, (lget x.1 v1.2.2.2).Gone, (lget x.1 v1.2.2.2).Value⟩ : Cell))
   else
    asrt (v3 = true → 0 ≤ w64 (v1.2.2.2 - 1) ∧ w64 (v1.2.2.2 - 1) < (x.1.length : Int)) <|
    asrt (v3 = true → 0 ≤ w64 (v1.2.2.2 - 1) ∧ w64 (v1.2.2.2 - 1) < (x.1.length : Int)) <|
    if (v3 && (decide (((lget x.1 (w64 (v1.2.2.2 - 1))).Time) ≤ since))) = true then
     some (v1.1, v1.2.1, v1.2.2.1)
    else
     if (((lget x.1 v1.2.2.2).Gone) && whole) = true then
      some (v1.1, v1.2.1, v1.2.2.1)
     else
      merge_Compact_J2 v1 (v1.1, v1.2.1, (⟨(lget x.1 v1.2.2.2).Row, (lget x.1 v1.2.2.2).Col, (lget x.1 v1.2.2.2).Time, (lget x.1 v1.2.2.2).Gone, (lget x.1 v1.2.2.2).Value⟩ : Cell))) fun (v2 : Fault × Fault × List Cell) =>
  some (Sum.inl (v2.1, v2.2.1, v2.2.2, w64 (v1.2.2.2 + 1)))
 else
  inrO (merge_Compact_J1 (v1.1, v1.2.1, v1.2.2.1))
noncomputable def merge_Compact_L1 (since : Int) (whole : Bool) (x : List Cell × Fault) (v0 : Fault × Fault × List Cell × Int) : Option (List Cell × Fault) :=
 loopO (fun y => merge_Compact_B1 since whole x y) v0
noncomputable def merge_Compact (l : List (List Cell)) (since : Int) (whole : Bool) : Option (List Cell × Fault) :=
 ob (merge_Join l) fun x =>
 if (!decide (x.2.Code = 0)) = true then
  some (([] : List Cell), x.2)
 else
  if ((decide (since < 0)) || (decide (1000000000 < since))) = true then
   lt (merge_fault 3 (-1)) fun x1 =>
   some (([] : List Cell), x1)
  else
   merge_Compact_L1 since whole x ((⟨0, 0⟩ : Fault), x.2, ([] : List Cell), 0)
theorem merge_Compact_ok (l : List (List Cell)) (since : Int) (whole : Bool) (r : List Cell × Fault) (hF : merge_Compact l since whole = some r) : Pe Try.prog 25 S.none [.sl 1 (l.map e_L_Cell), .i since, .bool whole] (.tup [.row 87 0, .agg (c_Fault r.2)]) ⟨[], [], [(87, .z 37 5 0 (r.1.map e_Cell))], [], []⟩ := by
 refine PeN 91 [.tmp 6, .cell 7 28] [22, 28] Ty.ok Fn.b25 Try.func25 ?_
 intro Q g hfin
 unfold merge_Compact at hF
 refine VR [] [0, 1, 2, 7] [7] [] [] [(7, .ptr 7 0)] [(7, [.i 0, .i 0])] [] [] .nil ?_
 obtain ⟨x, h0, hF⟩ := ob_elim hF
 refine VR [.callE [] [] [] [] (.tup [.row 16 0, .agg (c_Fault x.2)]) ⟨[], [], [(16, .z 37 5 0 (x.1.map e_Cell))], [], []⟩] [1, 2, 7, 8, 9] [7, 9] [16] [] [(8, .row 16 0), (9, .ptr 9 0)] [(9, (c_Fault x.2))] [(16, .z 37 5 0 (x.1.map e_Cell))] [] (hc (Pe.ren (merge_Join_ok l x h0) ⟨[], [(13, 16)], [], []⟩) .nil) ?_
 refine NR [] [1, 2, 7, 8, 9, 21] [7, 9] [16] [(21, .bool (!decide (x.2.Code = 0)))] .nil ?_
 refine Nif hF (fun hb hF => ?_) (fun hb hF => ?_)
 ·refine VD [] [6, 7] [7] [] [] [(6, .nils)] [(7, (c_Fault x.2))] [] [] .nil ?_
  cases hF
  refine Wk_nilrow 6 60000 37 5 rfl rfl rfl ?_
  refine Wk_ren' ⟨[], [(60000, 87)], [], []⟩ rfl ?_
  exact Wk_ret (hfin _ ⟨[87], [], [87], [], [], [], by kernel_rfl⟩)
 ·refine NR [] [1, 2, 7, 8, 9, 28] [7, 9] [16] [(28, .bool ((decide (since < 0)) || (decide (1000000000 < since))))] .nil ?_
  refine Nif hF (fun hb hF => ?_) (fun hb hF => ?_)
  ·obtain ⟨x1, h1, hF⟩ := lt_split hF
   refine VR [.callB (.agg (c_Fault x1))] [6, 7] [7] [] [] [(6, .nils)] [(7, (c_Fault x1))] [] [] (hc (merge_fault_ok 3 (-1) x1 h1) .nil) ?_
   cases hF
   refine Wk_nilrow 6 60001 37 5 rfl rfl rfl ?_
   refine Wk_ren' ⟨[], [(60001, 87)], [], []⟩ rfl ?_
   exact Wk_ret (hfin _ ⟨[87], [], [87], [], [], [], by kernel_rfl⟩)
  ·refine NR [] [1, 2, 7, 8, 9, 10] [7, 9] [16] [(10, .nils)] .nil ?_
   refine NR [.nat (x.1.length : Int)] [1, 2, 7, 8, 9, 10, 30, 31, 32] [7, 9] [16] [(30, .row 16 0), (31, .i (x.1.length : Int)), (32, .i 0)] (hc (len_ok e_Cell x.1) .nil) ?_
   refine NmeetP (fun v : Fault × Fault × List Cell => (⟨[(7, .ptr 7 0), (9, .ptr 9 0), (10, .row 87 0)], [(7, (c_Fault v.1)), (9, (c_Fault v.2.1))], [(87, .z 37 5 0 (v.2.2.map e_Cell))], [], []⟩ : S)) (fun v => merge_Compact_J1 v = some r) ?_ ?_
   ·refine Nblk ?_
    unfold merge_Compact_L1 at hF
    refine Wk_nilrow 10 60002 37 5 rfl rfl rfl ?_
    refine Wk_trim (fs := [1, 2, 7, 8, 9, 10, 30, 31, 32]) (bs := [7, 9]) (rs := [16, 60002]) (ms := []) (aa := []) (nv := []) rfl ?_
    refine Wk_ren' ⟨[], [(60002, 87)], [], []⟩ rfl ?_
    refine Niter (fun v1 : Fault × Fault × List Cell × Int => (⟨[(1, .i since), (2, .bool whole), (7, .ptr 7 0), (8, .row 16 0), (9, .ptr 9 0), (10, .row 87 0), (30, .row 16 0), (31, .i (x.1.length : Int)), (32, .i v1.2.2.2)], [(7, (c_Fault v1.1)), (9, (c_Fault v1.2.1))], [(16, .z 37 5 0 (x.1.map e_Cell)), (87, .z 37 5 0 (v1.2.2.1.map e_Cell))], [], []⟩ : S)) [] hF (by kernel_rfl) ?_
    intro n1 v1 y1 hF ih1 dn1
    unfold merge_Compact_B1 at hF
    refine NR [] [1, 2, 7, 8, 9, 10, 30, 31, 32, 33] [7, 9] [16, 87] [(33, .bool (decide (v1.2.2.2 < (x.1.length : Int))))] .nil ?_
    refine Nif hF (fun hb hF => ?_) (fun hb hF => ?_)
    ·obtain ⟨v2, hv, hF⟩ := ob_elim hF
     refine Nmeet (⟨[(1, .i since), (2, .bool whole), (7, .ptr 7 0), (8, .row 16 0), (9, .ptr 9 0), (10, .row 87 0), (30, .row 16 0), (31, .i (x.1.length : Int)), (32, .i v1.2.2.2)], [(7, (c_Fault v2.1)), (9, (c_Fault v2.2.1))], [(16, .z 37 5 0 (x.1.map e_Cell)), (87, .z 37 5 0 (v2.2.2.map e_Cell))], [], []⟩ : S) ?_ ?_
     ·have hF := hv
      refine Nblk ?_
      obtain ⟨h2, h3, hF⟩ := asrt2 hF
      refine VR [.av (e_Cell (lget x.1 v1.2.2.2))] [1, 2, 7, 8, 9, 10, 11, 12, 30, 31, 32] [7, 9, 12] [16, 87] [] [(11, .i v1.2.2.2), (12, .ptr 12 0)] [(12, (c_Cell (lget x.1 v1.2.2.2)))] [] [] (hc (ixr_ok e_Cell h2) (hc (ldr_ok e_Cell h3) .nil)) ?_
      obtain ⟨h4, h5, h6, h7, hF⟩ := asrt4 hF
      refine NDL (((decide (0 < v1.2.2.2)) && (decide (((lget x.1 (w64 (v1.2.2.2 - 1))).Row) = ((lget x.1 v1.2.2.2).Row)))) && (decide (((lget x.1 (w64 (v1.2.2.2 - 1))).Col) = ((lget x.1 v1.2.2.2).Col)))) (fun v3 : Bool => ([(13, .bool v3)], [], [], [])) [.av (e_Cell (lget x.1 (w64 (v1.2.2.2 - 1)))), .av (e_Cell (lget x.1 (w64 (v1.2.2.2 - 1))))] [1, 2, 7, 8, 9, 10, 11, 12, 13, 30, 31, 32] [7, 9, 12] [16, 87] [] (hc (fun (ga0 : (decide (0 < v1.2.2.2)) = true) => (ixr_ok e_Cell (h4 ga0))) (hc (fun (ga0 : (decide (0 < v1.2.2.2)) = true) => (ldr_ok e_Cell (h5 ga0))) (hc (fun (ga0 : ((decide (0 < v1.2.2.2)) && (decide (((lget x.1 (w64 (v1.2.2.2 - 1))).Row) = ((lget x.1 v1.2.2.2).Row)))) = true) => (ixr_ok e_Cell (h6 ga0))) (hc (fun (ga0 : ((decide (0 < v1.2.2.2)) && (decide (((lget x.1 (w64 (v1.2.2.2 - 1))).Row) = ((lget x.1 v1.2.2.2).Row)))) = true) => (ldr_ok e_Cell (h7 ga0))) .nil)))) (fun v3 hv => ?_)
      have hF := lt_elim hF hv
      refine Nblk ?_
      refine NR [] [1, 2, 7, 8, 9, 10, 11, 12, 13, 30, 31, 32, 61] [7, 9, 12] [16, 87] [(61, .bool (decide (since < ((lget x.1 v1.2.2.2).Time))))] .nil ?_
      refine NmeetP (fun v4 : Fault × Fault × Cell => (⟨[(1, .i since), (2, .bool whole), (7, .ptr 7 0), (8, .row 16 0), (9, .ptr 9 0), (10, .row 87 0), (12, .ptr 12 0), (30, .row 16 0), (31, .i (x.1.length : Int)), (32, .i v1.2.2.2)], [(7, (c_Fault v4.1)), (9, (c_Fault v4.2.1)), (12, (c_Cell v4.2.2))], [(16, .z 37 5 0 (x.1.map e_Cell)), (87, .z 37 5 0 (v1.2.2.1.map e_Cell))], [], []⟩ : S)) (fun v4 => merge_Compact_J2 v1 v4 = some v2) ?_ ?_
      ·refine Nif hF (fun hb hF => ?_) (fun hb hF => ?_)
       ·exact metP (v1.1, v1.2.1, (⟨(lget x.1 v1.2.2.2).Row, (lget x.1 v1.2.2.2).Col, (lget x.1 v1.2.2.2).Time, (lget x.1 v1.2.2.2).Gone, (lget x.1 v1.2.2.2).Value⟩ : Cell)) [] hF (by kernel_rfl)
       ·obtain ⟨h9, hF⟩ := asrt_elim hF
        obtain ⟨h10, hF⟩ := asrt_elim hF
        refine NR [.av (e_Cell (lget x.1 (w64 (v1.2.2.2 - 1))))] [1, 2, 7, 8, 9, 10, 12, 30, 31, 32, 66] [7, 9, 12] [16, 87] [(66, .bool (v3 && (decide (((lget x.1 (w64 (v1.2.2.2 - 1))).Time) ≤ since))))] (hc (fun (ga0 : v3 = true) => (ixr_ok e_Cell (h9 ga0))) (hc (fun (ga0 : v3 = true) => (ldr_ok e_Cell (h10 ga0))) .nil)) ?_
        refine Nif hF (fun hb hF => ?_) (fun hb hF => ?_)
        ·refine Nexit rfl ?_
         cases hF
         exact met [] (by kernel_rfl)
        ·refine NR [] [1, 2, 7, 8, 9, 10, 12, 30, 31, 32, 78] [7, 9, 12] [16, 87] [(78, .bool (((lget x.1 v1.2.2.2).Gone) && whole))] .nil ?_
         refine Nif hF (fun hb hF => ?_) (fun hb hF => ?_)
         ·refine Nexit rfl ?_
          cases hF
          exact met [] (by kernel_rfl)
         ·exact metP (v1.1, v1.2.1, (⟨(lget x.1 v1.2.2.2).Row, (lget x.1 v1.2.2.2).Col, (lget x.1 v1.2.2.2).Time, (lget x.1 v1.2.2.2).Gone, (lget x.1 v1.2.2.2).Value⟩ : Cell)) [] hF (by kernel_rfl)
      ·intro v4 hF
       have hF : merge_Compact_J2 v1 v4 = some v2 := hF
       unfold merge_Compact_J2 at hF
       obtain ⟨h8, hF⟩ := asrt_elim hF
       refine VR [.sealed, .xs ((v1.2.2.1 ++ [v4.2.2]).map e_Cell)] [1, 2, 7, 8, 9, 10, 30, 31, 32] [7, 9] [16, 87] [] [(10, .row 87 1)] [] [(87, .z 37 5 1 ((v1.2.2.1 ++ [v4.2.2]).map e_Cell))] [] (hc (app_ok e_Cell v1.2.2.1 [v4.2.2]) (hc (appl_ok e_Cell h8) .nil)) ?_
       cases hF
       exact met [(87, ⟨0, true, true, false⟩)] (by kernel_rfl)
     ·refine NR [] [1, 2, 7, 8, 9, 10, 30, 31, 32] [7, 9] [16, 87] [(32, .i (w64 (v1.2.2.2 + 1)))] .nil ?_
      exact Nrnd [] hF ih1 (by kernel_rfl)
    ·refine Nexit rfl ?_
     have hF := inrO_done hF dn1
     exact metP (v1.1, v1.2.1, v1.2.2.1) [] hF (by kernel_rfl)
   ·intro v hF
    have hF : merge_Compact_J1 v = some r := hF
    unfold merge_Compact_J1 at hF
    refine VD [] [6, 7] [7] [87] [] [(6, .row 87 0)] [(7, (c_Fault v.2.1))] [] [] .nil ?_
    cases hF
    exact Wk_ret (hfin _ ⟨[87], [], [87], [], [], [], by kernel_rfl⟩)

/- merge.Compact -/
noncomputable def merge_Compact_v1_J1 (v : Fault × Fault × List Cell) : Option (List Cell × Fault) :=
 some (v.2.2, v.2.1)
noncomputable def merge_Compact_v1_J2 (v1 : Fault × Fault × List Cell × Int) (v4 : Fault × Fault × Cell) : Option (Fault × Fault × List Cell) :=
 asrt (((v1.2.2.1 ++ [v4.2.2]).length : Int) * 64 ≤ 140737488351232) <|
 some (v4.1, v4.2.1, (v1.2.2.1 ++ [v4.2.2]))
noncomputable def merge_Compact_v1_B1 (since : Int) (whole : Bool) (x : List Cell × Fault) (v1 : Fault × Fault × List Cell × Int) : Option ((Fault × Fault × List Cell × Int) ⊕ (List Cell × Fault)) :=
 if (decide (v1.2.2.2 < (x.1.length : Int))) = true then
  ob (
   asrt (0 ≤ v1.2.2.2 ∧ v1.2.2.2 < (x.1.length : Int)) <|
   asrt (0 ≤ v1.2.2.2 ∧ v1.2.2.2 < (x.1.length : Int)) <|
   asrt ((decide (0 < v1.2.2.2)) = true → 0 ≤ w64 (v1.2.2.2 - 1) ∧ w64 (v1.2.2.2 - 1) < (x.1.length : Int)) <|
   asrt ((decide (0 < v1.2.2.2)) = true → 0 ≤ w64 (v1.2.2.2 - 1) ∧ w64 (v1.2.2.2 - 1) < (x.1.length : Int)) <|
   asrt (((decide (0 < v1.2.2.2)) && (decide (((lget x.1 (w64 (v1.2.2.2 - 1))).Row) = ((lget x.1 v1.2.2.2).Row)))) = true → 0 ≤ w64 (v1.2.2.2 - 1) ∧ w64 (v1.2.2.2 - 1) < (x.1.length : Int)) <|
   asrt (((decide (0 < v1.2.2.2)) && (decide (((lget x.1 (w64 (v1.2.2.2 - 1))).Row) = ((lget x.1 v1.2.2.2).Row)))) = true → 0 ≤ w64 (v1.2.2.2 - 1) ∧ w64 (v1.2.2.2 - 1) < (x.1.length : Int)) <|
   lt (((decide (0 < v1.2.2.2)) && (decide (((lget x.1 (w64 (v1.2.2.2 - 1))).Row) = ((lget x.1 v1.2.2.2).Row)))) && (decide (((lget x.1 (w64 (v1.2.2.2 - 1))).Col) = ((lget x.1 v1.2.2.2).Col)))) fun (v3 : Bool) =>
   if (decide (since < ((lget x.1 v1.2.2.2).Time))) = true then
    merge_Compact_v1_J2 v1 (v1.1, v1.2.1, (⟨(lget x.1 v1.2.2.2).Row, (lget x.1 v1.2.2.2).Col, (lget x.1 v1.2.2.2).Time, (lget x.1 v1.2.2.2).Gone, (lget x.1 v1.2.2.2).Value⟩ : Cell))
   else
    asrt (v3 = true → 0 ≤ w64 (v1.2.2.2 - 1) ∧ w64 (v1.2.2.2 - 1) < (x.1.length : Int)) <|
    asrt (v3 = true → 0 ≤ w64 (v1.2.2.2 - 1) ∧ w64 (v1.2.2.2 - 1) < (x.1.length : Int)) <|
    if (v3 && (decide (((lget x.1 (w64 (v1.2.2.2 - 1))).Time) ≤ since))) = true then
     some (v1.1, v1.2.1, v1.2.2.1)
    else
     if (((lget x.1 v1.2.2.2).Gone) && whole) = true then
      some (v1.1, v1.2.1, v1.2.2.1)
     else
      merge_Compact_v1_J2 v1 (v1.1, v1.2.1, (⟨(lget x.1 v1.2.2.2).Row, (lget x.1 v1.2.2.2).Col, (lget x.1 v1.2.2.2).Time, (lget x.1 v1.2.2.2).Gone, (lget x.1 v1.2.2.2).Value⟩ : Cell))) fun (v2 : Fault × Fault × List Cell) =>
  some (Sum.inl (v2.1, v2.2.1, v2.2.2, w64 (v1.2.2.2 + 1)))
 else
  inrO (merge_Compact_v1_J1 (v1.1, v1.2.1, v1.2.2.1))
noncomputable def merge_Compact_v1_L1 (since : Int) (whole : Bool) (x : List Cell × Fault) (v0 : Fault × Fault × List Cell × Int) : Option (List Cell × Fault) :=
 loopO (fun y => merge_Compact_v1_B1 since whole x y) v0
noncomputable def merge_Compact_v1 (l : List (List Cell)) (since : Int) (whole : Bool) : Option (List Cell × Fault) :=
 ob (merge_Join l) fun x =>
 if (!decide (x.2.Code = 0)) = true then
  some (([] : List Cell), x.2)
 else
  if ((decide (since < 0)) || (decide (1000000000 < since))) = true then
   lt (merge_fault 3 (-1)) fun x1 =>
   some (([] : List Cell), x1)
  else
   merge_Compact_v1_L1 since whole x ((⟨0, 0⟩ : Fault), x.2, ([] : List Cell), 0)
theorem merge_Compact_v1_ok (l : List (List Cell)) (since : Int) (whole : Bool) (r : List Cell × Fault) (hF : merge_Compact_v1 l since whole = some r) : Pe Try.prog 25 S.none [.sl 1 (l.map e_L_Cell), .i since, .bool whole] (.tup [.sl 5 (r.1.map e_Cell), .agg (c_Fault r.2)]) S.none := by
 refine PeN 91 [.tmp 6, .cell 7 28] [22, 28] Ty.ok Fn.b25 Try.func25 ?_
 intro Q g hfin
 unfold merge_Compact_v1 at hF
 refine VR [] [0, 1, 2, 7] [7] [] [] [(7, .ptr 7 0)] [(7, [.i 0, .i 0])] [] [] .nil ?_
 obtain ⟨x, h0, hF⟩ := ob_elim hF
 refine VR [.callE [] [] [] [] (.tup [.row 16 0, .agg (c_Fault x.2)]) ⟨[], [], [(16, .z 37 5 0 (x.1.map e_Cell))], [], []⟩] [1, 2, 7, 8, 9] [7, 9] [16] [] [(8, .row 16 0), (9, .ptr 9 0)] [(9, (c_Fault x.2))] [(16, .z 37 5 0 (x.1.map e_Cell))] [] (hc (Pe.ren (merge_Join_ok l x h0) ⟨[], [(13, 16)], [], []⟩) .nil) ?_
 refine NR [] [1, 2, 7, 8, 9, 21] [7, 9] [16] [(21, .bool (!decide (x.2.Code = 0)))] .nil ?_
 refine Nif hF (fun hb hF => ?_) (fun hb hF => ?_)
 ·refine VD [] [6, 7] [7] [] [] [(6, .nils)] [(7, (c_Fault x.2))] [] [] .nil ?_
  cases hF
  exact Wk_ret (hfin _ ⟨[], [], [], [], [], [], by kernel_rfl⟩)
 ·refine NR [] [1, 2, 7, 8, 9, 28] [7, 9] [16] [(28, .bool ((decide (since < 0)) || (decide (1000000000 < since))))] .nil ?_
  refine Nif hF (fun hb hF => ?_) (fun hb hF => ?_)
  ·obtain ⟨x1, h1, hF⟩ := lt_split hF
   refine VR [.callB (.agg (c_Fault x1))] [6, 7] [7] [] [] [(6, .nils)] [(7, (c_Fault x1))] [] [] (hc (merge_fault_ok 3 (-1) x1 h1) .nil) ?_
   cases hF
   exact Wk_ret (hfin _ ⟨[], [], [], [], [], [], by kernel_rfl⟩)
  ·refine NR [] [1, 2, 7, 8, 9, 10] [7, 9] [16] [(10, .nils)] .nil ?_
   refine NR [.nat (x.1.length : Int)] [1, 2, 7, 8, 9, 10, 30, 31, 32] [7, 9] [16] [(30, .row 16 0), (31, .i (x.1.length : Int)), (32, .i 0)] (hc (len_ok e_Cell x.1) .nil) ?_
   refine NmeetP (fun v : Fault × Fault × List Cell => (⟨[(7, .ptr 7 0), (9, .ptr 9 0), (10, .row 87 0)], [(7, (c_Fault v.1)), (9, (c_Fault v.2.1))], [(87, .z 37 5 0 (v.2.2.map e_Cell))], [], []⟩ : S)) (fun v => merge_Compact_v1_J1 v = some r) ?_ ?_
   ·refine Nblk ?_
    unfold merge_Compact_v1_L1 at hF
    refine Wk_nilrow 10 60000 37 5 rfl rfl rfl ?_
    refine Wk_trim (fs := [1, 2, 7, 8, 9, 10, 30, 31, 32]) (bs := [7, 9]) (rs := [16, 60000]) (ms := []) (aa := []) (nv := []) rfl ?_
    refine Wk_ren' ⟨[], [(60000, 87)], [], []⟩ rfl ?_
    refine Niter (fun v1 : Fault × Fault × List Cell × Int => (⟨[(1, .i since), (2, .bool whole), (7, .ptr 7 0), (8, .row 16 0), (9, .ptr 9 0), (10, .row 87 0), (30, .row 16 0), (31, .i (x.1.length : Int)), (32, .i v1.2.2.2)], [(7, (c_Fault v1.1)), (9, (c_Fault v1.2.1))], [(16, .z 37 5 0 (x.1.map e_Cell)), (87, .z 37 5 0 (v1.2.2.1.map e_Cell))], [], []⟩ : S)) [] hF (by kernel_rfl) ?_
    intro n1 v1 y1 hF ih1 dn1
    unfold merge_Compact_v1_B1 at hF
    refine NR [] [1, 2, 7, 8, 9, 10, 30, 31, 32, 33] [7, 9] [16, 87] [(33, .bool (decide (v1.2.2.2 < (x.1.length : Int))))] .nil ?_
    refine Nif hF (fun hb hF => ?_) (fun hb hF => ?_)
    ·obtain ⟨v2, hv, hF⟩ := ob_elim hF
     refine Nmeet (⟨[(1, .i since), (2, .bool whole), (7, .ptr 7 0), (8, .row 16 0), (9, .ptr 9 0), (10, .row 87 0), (30, .row 16 0), (31, .i (x.1.length : Int)), (32, .i v1.2.2.2)], [(7, (c_Fault v2.1)), (9, (c_Fault v2.2.1))], [(16, .z 37 5 0 (x.1.map e_Cell)), (87, .z 37 5 0 (v2.2.2.map e_Cell))], [], []⟩ : S) ?_ ?_
     ·have hF := hv
      refine Nblk ?_
      obtain ⟨h2, h3, hF⟩ := asrt2 hF
      refine VR [.av (e_Cell (lget x.1 v1.2.2.2))] [1, 2, 7, 8, 9, 10, 11, 12, 30, 31, 32] [7, 9, 12] [16, 87] [] [(11, .i v1.2.2.2), (12, .ptr 12 0)] [(12, (c_Cell (lget x.1 v1.2.2.2)))] [] [] (hc (ixr_ok e_Cell h2) (hc (ldr_ok e_Cell h3) .nil)) ?_
      obtain ⟨h4, h5, h6, h7, hF⟩ := asrt4 hF
      refine NDL (((decide (0 < v1.2.2.2)) && (decide (((lget x.1 (w64 (v1.2.2.2 - 1))).Row) = ((lget x.1 v1.2.2.2).Row)))) && (decide (((lget x.1 (w64 (v1.2.2.2 - 1))).Col) = ((lget x.1 v1.2.2.2).Col)))) (fun v3 : Bool => ([(13, .bool v3)], [], [], [])) [.av (e_Cell (lget x.1 (w64 (v1.2.2.2 - 1)))), .av (e_Cell (lget x.1 (w64 (v1.2.2.2 - 1))))] [1, 2, 7, 8, 9, 10, 11, 12, 13, 30, 31, 32] [7, 9, 12] [16, 87] [] (hc (fun (ga0 : (decide (0 < v1.2.2.2)) = true) => (ixr_ok e_Cell (h4 ga0))) (hc (fun (ga0 : (decide (0 < v1.2.2.2)) = true) => (ldr_ok e_Cell (h5 ga0))) (hc (fun (ga0 : ((decide (0 < v1.2.2.2)) && (decide (((lget x.1 (w64 (v1.2.2.2 - 1))).Row) = ((lget x.1 v1.2.2.2).Row)))) = true) => (ixr_ok e_Cell (h6 ga0))) (hc (fun (ga0 : ((decide (0 < v1.2.2.2)) && (decide (((lget x.1 (w64 (v1.2.2.2 - 1))).Row) = ((lget x.1 v1.2.2.2).Row)))) = true) => (ldr_ok e_Cell (h7 ga0))) .nil)))) (fun v3 hv => ?_)
      have hF := lt_elim hF hv
      refine Nblk ?_
      refine NR [] [1, 2, 7, 8, 9, 10, 11, 12, 13, 30, 31, 32, 61] [7, 9, 12] [16, 87] [(61, .bool (decide (since < ((lget x.1 v1.2.2.2).Time))))] .nil ?_
      refine NmeetP (fun v4 : Fault × Fault × Cell => (⟨[(1, .i since), (2, .bool whole), (7, .ptr 7 0), (8, .row 16 0), (9, .ptr 9 0), (10, .row 87 0), (12, .ptr 12 0), (30, .row 16 0), (31, .i (x.1.length : Int)), (32, .i v1.2.2.2)], [(7, (c_Fault v4.1)), (9, (c_Fault v4.2.1)), (12, (c_Cell v4.2.2))], [(16, .z 37 5 0 (x.1.map e_Cell)), (87, .z 37 5 0 (v1.2.2.1.map e_Cell))], [], []⟩ : S)) (fun v4 => merge_Compact_v1_J2 v1 v4 = some v2) ?_ ?_
      ·refine Nif hF (fun hb hF => ?_) (fun hb hF => ?_)
       ·exact metP (v1.1, v1.2.1, (⟨(lget x.1 v1.2.2.2).Row, (lget x.1 v1.2.2.2).Col, (lget x.1 v1.2.2.2).Time, (lget x.1 v1.2.2.2).Gone, (lget x.1 v1.2.2.2).Value⟩ : Cell)) [] hF (by kernel_rfl)
       ·obtain ⟨h9, hF⟩ := asrt_elim hF
        obtain ⟨h10, hF⟩ := asrt_elim hF
        refine NR [.av (e_Cell (lget x.1 (w64 (v1.2.2.2 - 1))))] [1, 2, 7, 8, 9, 10, 12, 30, 31, 32, 66] [7, 9, 12] [16, 87] [(66, .bool (v3 && (decide (((lget x.1 (w64 (v1.2.2.2 - 1))).Time) ≤ since))))] (hc (fun (ga0 : v3 = true) => (ixr_ok e_Cell (h9 ga0))) (hc (fun (ga0 : v3 = true) => (ldr_ok e_Cell (h10 ga0))) .nil)) ?_
        refine Nif hF (fun hb hF => ?_) (fun hb hF => ?_)
        ·refine Nexit rfl ?_
         cases hF
         exact met [] (by kernel_rfl)
        ·refine NR [] [1, 2, 7, 8, 9, 10, 12, 30, 31, 32, 78] [7, 9, 12] [16, 87] [(78, .bool (((lget x.1 v1.2.2.2).Gone) && whole))] .nil ?_
         refine Nif hF (fun hb hF => ?_) (fun hb hF => ?_)
         ·refine Nexit rfl ?_
          cases hF
          exact met [] (by kernel_rfl)
         ·exact metP (v1.1, v1.2.1, (⟨(lget x.1 v1.2.2.2).Row, (lget x.1 v1.2.2.2).Col, (lget x.1 v1.2.2.2).Time, (lget x.1 v1.2.2.2).Gone, (lget x.1 v1.2.2.2).Value⟩ : Cell)) [] hF (by kernel_rfl)
      ·intro v4 hF
       have hF : merge_Compact_v1_J2 v1 v4 = some v2 := hF
       unfold merge_Compact_v1_J2 at hF
       obtain ⟨h8, hF⟩ := asrt_elim hF
       refine VR [.sealed, .xs ((v1.2.2.1 ++ [v4.2.2]).map e_Cell)] [1, 2, 7, 8, 9, 10, 30, 31, 32] [7, 9] [16, 87] [] [(10, .row 87 1)] [] [(87, .z 37 5 1 ((v1.2.2.1 ++ [v4.2.2]).map e_Cell))] [] (hc (app_ok e_Cell v1.2.2.1 [v4.2.2]) (hc (appl_ok e_Cell h8) .nil)) ?_
       cases hF
       exact met [(87, ⟨0, true, true, false⟩)] (by kernel_rfl)
     ·refine NR [] [1, 2, 7, 8, 9, 10, 30, 31, 32] [7, 9] [16, 87] [(32, .i (w64 (v1.2.2.2 + 1)))] .nil ?_
      exact Nrnd [] hF ih1 (by kernel_rfl)
    ·refine Nexit rfl ?_
     have hF := inrO_done hF dn1
     exact metP (v1.1, v1.2.1, v1.2.2.1) [] hF (by kernel_rfl)
   ·intro v hF
    have hF : merge_Compact_v1_J1 v = some r := hF
    unfold merge_Compact_v1_J1 at hF
    refine VD [] [6, 7] [7] [87] [] [(6, .row 87 0)] [(7, (c_Fault v.2.1))] [] [] .nil ?_
    cases hF
    exact Wk_ret (hfin _ ⟨[], [], [], [], [], [], by kernel_rfl⟩)

/- tabularyref.SameCells -/
noncomputable def R_SameCells_J1 (v : Unit) : Option Bool :=
 some true
noncomputable def R_SameCells_B1 (a0 : List Cell) (b : List Cell) (v1 : Int) : Option (Int ⊕ Bool) :=
 if (decide (v1 < (a0.length : Int))) = true then
  asrt (0 ≤ v1 ∧ v1 < (a0.length : Int)) <|
  asrt (0 ≤ v1 ∧ v1 < (b.length : Int)) <|
  if (!(decide ((lget a0 v1).Row = (lget b v1).Row) && (decide ((lget a0 v1).Col = (lget b v1).Col) && (decide ((lget a0 v1).Time = (lget b v1).Time) && ((((lget a0 v1).Gone) == ((lget b v1).Gone)) && (decide ((lget a0 v1).Value = (lget b v1).Value) && true)))))) = true then
   some (Sum.inr false)
  else
   some (Sum.inl (w64 (v1 + 1)))
 else
  inrO (R_SameCells_J1 ())
noncomputable def R_SameCells_L1 (a0 : List Cell) (b : List Cell) (v0 : Int) : Option Bool :=
 loopO (fun y => R_SameCells_B1 a0 b y) v0
noncomputable def R_SameCells (a0 : List Cell) (b : List Cell) : Option Bool :=
 if (!decide ((a0.length : Int) = (b.length : Int))) = true then
  some false
 else
  R_SameCells_L1 a0 b 0
theorem R_SameCells_ok (a0 : List Cell) (b : List Cell) (r : Bool) (hF : R_SameCells a0 b = some r) : Pe Try.prog 31 S.none [.sl 5 (a0.map e_Cell), .sl 5 (b.map e_Cell)] (.bool r) S.none := by
 refine PeN 26 [.tmp 4] [4] Ty.ok Fn.b31 Try.func31 ?_
 intro Q g hfin
 unfold R_SameCells at hF
 refine NR [] [0, 1] [] [] [] .nil ?_
 refine NR [.nat (a0.length : Int), .nat (b.length : Int)] [0, 1, 10] [] [] [(10, .bool (!decide ((a0.length : Int) = (b.length : Int))))] (hc (len_ok e_Cell a0) (hc (len_ok e_Cell b) .nil)) ?_
 refine Nif hF (fun hb hF => ?_) (fun hb hF => ?_)
 ·refine NR [] [4] [] [] [(4, .bool false)] .nil ?_
  cases hF
  exact Wk_ret (hfin _ ⟨[], [], [], [], [], [], by kernel_rfl⟩)
 ·refine NR [] [0, 1, 5] [] [] [(5, .i 0)] .nil ?_
  refine NmeetP (fun v : Unit => (S.none : S)) (fun v => R_SameCells_J1 v = some r) ?_ ?_
  ·refine Nblk ?_
   unfold R_SameCells_L1 at hF
   refine Niter (fun v1 : Int => (⟨[(0, .sl 5 (a0.map e_Cell)), (1, .sl 5 (b.map e_Cell)), (5, .i v1)], [], [], [], []⟩ : S)) [] hF (by kernel_rfl) ?_
   intro n1 v1 y1 hF ih1 dn1
   unfold R_SameCells_B1 at hF
   refine NR [.nat (a0.length : Int)] [0, 1, 5, 14] [] [] [(14, .bool (decide (v1 < (a0.length : Int))))] (hc (len_ok e_Cell a0) .nil) ?_
   refine Nif hF (fun hb hF => ?_) (fun hb hF => ?_)
   ·refine Nblk ?_
    obtain ⟨h0, h1, hF⟩ := asrt2 hF
    refine ND [.av (e_Cell (lget a0 v1)), .av (e_Cell (lget b v1))] [0, 1, 5, 25] [] [] [(25, .bool (!(decide ((lget a0 v1).Row = (lget b v1).Row) && (decide ((lget a0 v1).Col = (lget b v1).Col) && (decide ((lget a0 v1).Time = (lget b v1).Time) && ((((lget a0 v1).Gone) == ((lget b v1).Gone)) && (decide ((lget a0 v1).Value = (lget b v1).Value) && true)))))))] (hc (idx_ok e_Cell h0) (hc (idx_ok e_Cell h1) .nil)) ?_
    refine Nif hF (fun hb hF => ?_) (fun hb hF => ?_)
    ·refine NR [] [4] [] [] [(4, .bool false)] .nil ?_
     have hF := ret_done hF dn1
     cases hF
     exact Wk_ret (hfin _ ⟨[], [], [], [], [], [], by kernel_rfl⟩)
    ·refine NR [] [0, 1, 5] [] [] [(5, .i (w64 (v1 + 1)))] .nil ?_
     exact Nrnd [] hF ih1 (by kernel_rfl)
   ·refine Nexit rfl ?_
    have hF := inrO_done hF dn1
    exact metP () [] hF (by kernel_rfl)
  ·intro v hF
   have hF : R_SameCells_J1 v = some r := hF
   unfold R_SameCells_J1 at hF
   refine NR [] [4] [] [] [(4, .bool true)] .nil ?_
   cases hF
   exact Wk_ret (hfin _ ⟨[], [], [], [], [], [], by kernel_rfl⟩)

/- tabularylaw.mergeBegun -/
noncomputable def law_mergeBegun  : Option Bool :=
 lt (law_versions) fun x =>
 ob (merge_Compact_v1 ([x] : List (List Cell)) 2 false) fun x1 =>
 lt (law_versions) fun x2 =>
 asrt ((decide (x1.2.Code = 0)) = true → 0 ≤ (1 : Int) ∧ (1 : Int) ≤ (x2.length : Int)) <|
 ob (if (decide (x1.2.Code = 0)) = true then (R_SameCells x1.1 (ltake x2 1)) else some default) fun x3 =>
 some ((decide (x1.2.Code = 0)) && x3)
theorem law_mergeBegun_ok  (r : Bool) (hF : law_mergeBegun  = some r) : Pe Try.prog 23 S.none [] (.bool r) S.none := by
 refine PeN 18 [.tmp 0] [4] Ty.ok Fn.b23 Try.func23 ?_
 intro Q g hfin
 unfold law_mergeBegun at hF
 refine NR [] [] [] [] [] .nil ?_
 obtain ⟨x, h0, hF⟩ := lt_split hF
 obtain ⟨x1, h1, hF⟩ := ob_elim hF
 refine VR [.call (.sl 5 (x.map e_Cell)), .sealed, .call (.tup [.sl 5 (x1.1.map e_Cell), .agg (c_Fault x1.2)])] [1, 2] [2] [] [] [(1, .sl 5 (x1.1.map e_Cell)), (2, .ptr 2 0)] [(2, (c_Fault x1.2))] [] [] (hc (law_versions_ok  x h0) (hc (merge_Compact_v1_ok ([x] : List (List Cell)) 2 false x1 h1) .nil)) ?_
 obtain ⟨x2, h2, hF⟩ := lt_split hF
 obtain ⟨h3, hF⟩ := asrt_elim hF
 obtain ⟨x3, h4, hF⟩ := ob_elim hF
 refine NR [.call (.sl 5 (x2.map e_Cell)), .xs ((ltake x2 1).map e_Cell), .callB (.bool x3)] [0] [] [] [(0, .bool ((decide (x1.2.Code = 0)) && x3))] (hc (fun (ga0 : (decide (x1.2.Code = 0)) = true) => (law_versions_ok  x2 h2)) (hc (fun (ga0 : (decide (x1.2.Code = 0)) = true) => (sl01_ok e_Cell (h3 ga0))) (hc (fun (ga0 : (decide (x1.2.Code = 0)) = true) => (R_SameCells_ok x1.1 (ltake x2 1) x3 (ite_t h4 ga0))) .nil))) ?_
 cases hF
 exact Wk_ret (hfin _ ⟨[], [], [], [], [], [], by kernel_rfl⟩)

/- tabularylaw.vastLists -/
noncomputable def law_vastLists_J1 (l : List (List Cell)) (v : Int) : Option Bool :=
 lt (((decide (100 < (l.length : Int))) || ((decide (150 < v)) && (decide (v < 1000)))) || (decide (3000 < v))) fun (v1 : Bool) =>
 some v1
noncomputable def law_vastLists_B1 (l : List (List Cell)) (v2 : Int × Int) : Option ((Int × Int) ⊕ Bool) :=
 if (decide (v2.2 < (l.length : Int))) = true then
  asrt (0 ≤ v2.2 ∧ v2.2 < (l.length : Int)) <|
  some (Sum.inl (w64 (v2.1 + ((lget l v2.2).length : Int)), w64 (v2.2 + 1)))
 else
  inrO (law_vastLists_J1 l v2.1)
noncomputable def law_vastLists_L1 (l : List (List Cell)) (v0 : Int × Int) : Option Bool :=
 loopO (fun y => law_vastLists_B1 l y) v0
noncomputable def law_vastLists (l : List (List Cell)) : Option Bool :=
 law_vastLists_L1 l (0, 0)
theorem law_vastLists_ok (l : List (List Cell)) (r : Bool) (hF : law_vastLists l = some r) : Pe Try.prog 24 S.none [.sl 1 (l.map e_L_Cell)] (.bool r) S.none := by
 refine PeN 33 [.tmp 2] [4] Ty.ok Fn.b24 Try.func24 ?_
 intro Q g hfin
 unfold law_vastLists at hF
 refine NR [] [0] [] [] [] .nil ?_
 refine NR [] [0, 3] [] [] [(3, .i 0)] .nil ?_
 refine NR [] [0, 3, 4] [] [] [(4, .i 0)] .nil ?_
 refine NmeetP (fun v : Int => (⟨[(0, .sl 1 (l.map e_L_Cell)), (3, .i v)], [], [], [], []⟩ : S)) (fun v => law_vastLists_J1 l v = some r) ?_ ?_
 ·refine Nblk ?_
  unfold law_vastLists_L1 at hF
  refine Niter (fun v2 : Int × Int => (⟨[(0, .sl 1 (l.map e_L_Cell)), (3, .i v2.1), (4, .i v2.2)], [], [], [], []⟩ : S)) [] hF (by kernel_rfl) ?_
  intro n1 v2 y1 hF ih1 dn1
  unfold law_vastLists_B1 at hF
  refine NR [.nat (l.length : Int)] [0, 3, 4, 8] [] [] [(8, .bool (decide (v2.2 < (l.length : Int))))] (hc (len_ok e_L_Cell l) .nil) ?_
  refine Nif hF (fun hb hF => ?_) (fun hb hF => ?_)
  ·refine Nblk ?_
   obtain ⟨h0, hF⟩ := asrt_elim hF
   refine NR [.av (e_L_Cell (lget l v2.2)), .nat ((lget l v2.2).length : Int)] [0, 3, 4] [] [] [(3, .i (w64 (v2.1 + ((lget l v2.2).length : Int))))] (hc (idx_ok e_L_Cell h0) (hc (len_ok e_Cell (lget l v2.2)) .nil)) ?_
   refine NR [] [0, 3, 4] [] [] [(4, .i (w64 (v2.2 + 1)))] .nil ?_
   exact Nrnd [] hF ih1 (by kernel_rfl)
  ·refine Nexit rfl ?_
   have hF := inrO_done hF dn1
   exact metP v2.1 [] hF (by kernel_rfl)
 ·intro v hF
  have hF : law_vastLists_J1 l v = some r := hF
  unfold law_vastLists_J1 at hF
  refine NRL (((decide (100 < (l.length : Int))) || ((decide (150 < v)) && (decide (v < 1000)))) || (decide (3000 < v))) (fun v1 : Bool => ([(2, .bool v1)], [], [], [])) [.nat (l.length : Int)] [2] [] [] [] (hc (len_ok e_L_Cell l) .nil) (fun v1 hv => ?_)
  have hF := lt_elim hF hv
  cases hF
  exact Wk_ret (hfin _ ⟨[], [], [], [], [], [], by kernel_rfl⟩)

/- tabularylaw.ownCells -/
noncomputable def law_ownCells_v1 (l : List Cell) : Option (List Cell) :=
 asrt ((l.length : Int) * 64 ≤ 140737488351232) <|
 some l
theorem law_ownCells_v1_ok (l : List Cell) (r : List Cell) (hF : law_ownCells_v1 l = some r) : Pe Try.prog 14 S.none [.sl 5 (l.map e_Cell)] (.sl 5 (r.map e_Cell)) S.none := by
 refine PeN 5 [.tmp 2] [22] Ty.ok Fn.b14 Try.func14 ?_
 intro Q g hfin
 unfold law_ownCells_v1 at hF
 refine NR [] [0] [] [] [] .nil ?_
 obtain ⟨h0, hF⟩ := asrt_elim hF
 refine VR [.xs (l.map e_Cell)] [2] [] [4] [] [(2, .row 4 1)] [] [(4, .z 37 5 1 (l.map e_Cell))] [] (hc (app0_ok e_Cell l) (hc (appl_ok e_Cell h0) .nil)) ?_
 cases hF
 exact Wk_ret (hfin _ ⟨[], [], [], [], [], [], by kernel_rfl⟩)

/- tabularylaw.ownLists -/
noncomputable def law_ownLists_J1 (v : List (List Cell)) : Option (List (List Cell)) :=
 some v
noncomputable def law_ownLists_B1 (l : List (List Cell)) (v1 : List (List Cell) × Int) : Option ((List (List Cell) × Int) ⊕ (List (List Cell))) :=
 if (decide (v1.2 < (l.length : Int))) = true then
  asrt (0 ≤ v1.2 ∧ v1.2 < (l.length : Int)) <|
  ob (law_ownCells_v1 (lget l v1.2)) fun x =>
  asrt (((v1.1 ++ ([x] : List (List Cell))).length : Int) * 24 ≤ 140737488351232) <|
  some (Sum.inl ((v1.1 ++ ([x] : List (List Cell))), w64 (v1.2 + 1)))
 else
  inrO (law_ownLists_J1 v1.1)
noncomputable def law_ownLists_L1 (l : List (List Cell)) (v0 : List (List Cell) × Int) : Option (List (List Cell)) :=
 loopO (fun y => law_ownLists_B1 l y) v0
noncomputable def law_ownLists (l : List (List Cell)) : Option (List (List Cell)) :=
 law_ownLists_L1 l (([] : List (List Cell)), 0)
theorem law_ownLists_ok (l : List (List Cell)) (r : List (List Cell)) (hF : law_ownLists l = some r) : Pe Try.prog 26 S.none [.sl 1 (l.map e_L_Cell)] (.row 18 0) ⟨[], [], [(18, .z 22 1 0 (r.map e_L_Cell))], [], []⟩ := by
 refine PeN 20 [.tmp 2] [46] Ty.ok Fn.b26 Try.func26 ?_
 intro Q g hfin
 unfold law_ownLists at hF
 refine NR [] [0] [] [] [] .nil ?_
 refine NR [] [0, 3] [] [] [(3, .nils)] .nil ?_
 refine NR [] [0, 3, 4] [] [] [(4, .i 0)] .nil ?_
 refine NmeetP (fun v : List (List Cell) => (⟨[(3, .row 18 0)], [], [(18, .z 22 1 0 (v.map e_L_Cell))], [], []⟩ : S)) (fun v => law_ownLists_J1 v = some r) ?_ ?_
 ·refine Nblk ?_
  unfold law_ownLists_L1 at hF
  refine Wk_nilrow 3 60000 22 1 rfl rfl rfl ?_
  refine Wk_trim (fs := [0, 3, 4]) (bs := []) (rs := [60000]) (ms := []) (aa := []) (nv := []) rfl ?_
  refine Wk_ren' ⟨[], [(60000, 18)], [], []⟩ rfl ?_
  refine Niter (fun v1 : List (List Cell) × Int => (⟨[(0, .sl 1 (l.map e_L_Cell)), (3, .row 18 0), (4, .i v1.2)], [], [(18, .z 22 1 0 (v1.1.map e_L_Cell))], [], []⟩ : S)) [] hF (by kernel_rfl) ?_
  intro n1 v1 y1 hF ih1 dn1
  unfold law_ownLists_B1 at hF
  refine NR [.nat (l.length : Int)] [0, 3, 4, 8] [] [18] [(8, .bool (decide (v1.2 < (l.length : Int))))] (hc (len_ok e_L_Cell l) .nil) ?_
  refine Nif hF (fun hb hF => ?_) (fun hb hF => ?_)
  ·refine Nblk ?_
   obtain ⟨h0, hF⟩ := asrt_elim hF
   obtain ⟨x, h1, hF⟩ := ob_elim hF
   obtain ⟨h2, hF⟩ := asrt_elim hF
   refine VR [.av (e_L_Cell (lget l v1.2)), .call (.sl 5 (x.map e_Cell)), .sealed, .xs ((v1.1 ++ ([x] : List (List Cell))).map e_L_Cell)] [0, 3, 4] [] [18] [] [(3, .row 18 1)] [] [(18, .z 22 1 1 ((v1.1 ++ ([x] : List (List Cell))).map e_L_Cell))] [] (hc (idx_ok e_L_Cell h0) (hc (law_ownCells_v1_ok (lget l v1.2) x h1) (hc (app_ok e_L_Cell v1.1 ([x] : List (List Cell))) (hc (appl_ok e_L_Cell h2) .nil)))) ?_
   refine NR [] [0, 3, 4] [] [18] [(4, .i (w64 (v1.2 + 1)))] .nil ?_
   exact Nrnd [(18, ⟨0, true, true, false⟩)] hF ih1 (by kernel_rfl)
  ·refine Nexit rfl ?_
   have hF := inrO_done hF dn1
   exact metP v1.1 [] hF (by kernel_rfl)
 ·intro v hF
  have hF : law_ownLists_J1 v = some r := hF
  unfold law_ownLists_J1 at hF
  refine NR [] [2] [] [18] [(2, .row 18 0)] .nil ?_
  cases hF
  exact Wk_ret (hfin _ ⟨[18], [], [18], [], [], [], by kernel_rfl⟩)

/- tabularylaw.ownLists -/
noncomputable def law_ownLists_v1_J1 (v : List (List Cell)) : Option (List (List Cell)) :=
 some v
noncomputable def law_ownLists_v1_B1 (l : List (List Cell)) (v1 : List (List Cell) × Int) : Option ((List (List Cell) × Int) ⊕ (List (List Cell))) :=
 if (decide (v1.2 < (l.length : Int))) = true then
  asrt (0 ≤ v1.2 ∧ v1.2 < (l.length : Int)) <|
  ob (law_ownCells_v1 (lget l v1.2)) fun x =>
  asrt (((v1.1 ++ ([x] : List (List Cell))).length : Int) * 24 ≤ 140737488351232) <|
  some (Sum.inl ((v1.1 ++ ([x] : List (List Cell))), w64 (v1.2 + 1)))
 else
  inrO (law_ownLists_v1_J1 v1.1)
noncomputable def law_ownLists_v1_L1 (l : List (List Cell)) (v0 : List (List Cell) × Int) : Option (List (List Cell)) :=
 loopO (fun y => law_ownLists_v1_B1 l y) v0
noncomputable def law_ownLists_v1 (l : List (List Cell)) : Option (List (List Cell)) :=
 law_ownLists_v1_L1 l (([] : List (List Cell)), 0)

/- tabularyref.F -/
noncomputable def R_F (code : Int) (at0 : Int) : Fault :=
 (⟨code, at0⟩ : Fault)
theorem R_F_ok (code : Int) (at0 : Int) (r : Fault) (hF : R_F code at0 = r) : Pe Try.prog 17 S.none [.i code, .i at0] (.agg (c_Fault r)) S.none := by
 refine PeN 8 [.cell 4 28] [28] Ty.ok Fn.b17 Try.func17 ?_
 intro Q g hfin
 unfold R_F at hF
 refine VR [] [0, 1, 4] [4] [] [] [(4, .ptr 4 0)] [(4, [.i 0, .i 0])] [] [] .nil ?_
 refine VR [] [4] [4] [] [] [] [(4, [.i code, .i at0])] [] [] .nil ?_
 cases hF
 exact Wk_ret (hfin _ ⟨[], [], [], [], [], [], by kernel_rfl⟩)

/- tabularyref.CellCode -/
noncomputable def R_CellCode (c : Cell) : Int :=
 if ((((decide (c.Row = ([] : List UInt8))) || (decide (40 < (c.Row.length : Int)))) || (decide (40 < (c.Col.length : Int)))) || (decide (200 < (c.Value.length : Int)))) = true then
  8
 else
  if ((decide (c.Time < 0)) || (decide (1000000000 < c.Time))) = true then
   3
  else
   if (c.Gone && (!decide (c.Value = ([] : List UInt8)))) = true then
    5
   else
    0
theorem R_CellCode_ok (c : Cell) (r : Int) (hF : R_CellCode c = r) : Pe Try.prog 44 S.none [.agg (c_Cell c)] (.i r) S.none := by
 refine PeN 39 [.tmp 2] [3] Ty.ok Fn.b44 Try.func44 ?_
 intro Q g hfin
 unfold R_CellCode at hF
 refine VR [] [1] [1] [] [] [(1, .ptr 1 0)] [(1, (c_Cell c))] [] [] .nil ?_
 refine NR [] [1, 23] [1] [] [(23, .bool ((((decide (c.Row = ([] : List UInt8))) || (decide (40 < (c.Row.length : Int)))) || (decide (40 < (c.Col.length : Int)))) || (decide (200 < (c.Value.length : Int)))))] .nil ?_
 refine Nif hF (fun hb hF => ?_) (fun hb hF => ?_)
 ·refine NR [] [2] [] [] [(2, .i 8)] .nil ?_
  cases hF
  exact Wk_ret (hfin _ ⟨[], [], [], [], [], [], by kernel_rfl⟩)
 ·refine NR [] [1, 31] [1] [] [(31, .bool ((decide (c.Time < 0)) || (decide (1000000000 < c.Time))))] .nil ?_
  refine Nif hF (fun hb hF => ?_) (fun hb hF => ?_)
  ·refine NR [] [2] [] [] [(2, .i 3)] .nil ?_
   cases hF
   exact Wk_ret (hfin _ ⟨[], [], [], [], [], [], by kernel_rfl⟩)
  ·refine NR [] [38] [] [] [(38, .bool (c.Gone && (!decide (c.Value = ([] : List UInt8)))))] .nil ?_
   refine Nif hF (fun hb hF => ?_) (fun hb hF => ?_)
   ·refine NR [] [2] [] [] [(2, .i 5)] .nil ?_
    cases hF
    exact Wk_ret (hfin _ ⟨[], [], [], [], [], [], by kernel_rfl⟩)
   ·refine NR [] [2] [] [] [(2, .i 0)] .nil ?_
    cases hF
    exact Wk_ret (hfin _ ⟨[], [], [], [], [], [], by kernel_rfl⟩)

/- tabularyref.Ahead -/
noncomputable def R_Ahead (a0 : Cell) (b : Cell) : Bool :=
 if (!decide (a0.Row = b.Row)) = true then
  Op.bytesLess a0.Row b.Row
 else
  if (!decide (a0.Col = b.Col)) = true then
   Op.bytesLess a0.Col b.Col
  else
   decide (b.Time < a0.Time)
theorem R_Ahead_ok (a0 : Cell) (b : Cell) (r : Bool) (hF : R_Ahead a0 b = r) : Pe Try.prog 52 S.none [.agg (c_Cell a0), .agg (c_Cell b)] (.bool r) S.none := by
 refine PeN 30 [.tmp 4] [4] Ty.ok Fn.b52 Try.func52 ?_
 intro Q g hfin
 unfold R_Ahead at hF
 refine VR [] [2, 3] [2, 3] [] [] [(2, .ptr 2 0), (3, .ptr 3 0)] [(2, (c_Cell a0)), (3, (c_Cell b))] [] [] .nil ?_
 refine NR [] [2, 3, 9] [2, 3] [] [(9, .bool (!decide (a0.Row = b.Row)))] .nil ?_
 refine Nif hF (fun hb hF => ?_) (fun hb hF => ?_)
 ·refine NR [] [4] [] [] [(4, .bool (Op.bytesLess a0.Row b.Row))] .nil ?_
  cases hF
  exact Wk_ret (hfin _ ⟨[], [], [], [], [], [], by kernel_rfl⟩)
 ·refine NR [] [2, 3, 19] [2, 3] [] [(19, .bool (!decide (a0.Col = b.Col)))] .nil ?_
  refine Nif hF (fun hb hF => ?_) (fun hb hF => ?_)
  ·refine NR [] [4] [] [] [(4, .bool (Op.bytesLess a0.Col b.Col))] .nil ?_
   cases hF
   exact Wk_ret (hfin _ ⟨[], [], [], [], [], [], by kernel_rfl⟩)
  ·refine NR [] [4] [] [] [(4, .bool (decide (b.Time < a0.Time)))] .nil ?_
   cases hF
   exact Wk_ret (hfin _ ⟨[], [], [], [], [], [], by kernel_rfl⟩)

/- tabularyref.CellsFault -/
noncomputable def R_CellsFault_J1 (v : Fault) : Option Fault :=
 some (⟨0, 0⟩ : Fault)
noncomputable def R_CellsFault_B1 (l : List Cell) (v1 : Fault × Int) : Option ((Fault × Int) ⊕ Fault) :=
 if (decide (v1.2 < (l.length : Int))) = true then
  asrt (0 ≤ v1.2 ∧ v1.2 < (l.length : Int)) <|
  lt (R_CellCode (⟨(lget l v1.2).Row, (lget l v1.2).Col, (lget l v1.2).Time, (lget l v1.2).Gone, (lget l v1.2).Value⟩ : Cell)) fun x1 =>
  if (!decide (x1 = 0)) = true then
   lt (R_F x1 v1.2) fun x2 =>
   some (Sum.inr x2)
  else
   asrt ((decide (0 < v1.2)) = true → 0 ≤ w64 (v1.2 - 1) ∧ w64 (v1.2 - 1) < (l.length : Int)) <|
   asrt ((decide (0 < v1.2)) = true → 0 ≤ v1.2 ∧ v1.2 < (l.length : Int)) <|
   lt (R_Ahead (⟨(lget l (w64 (v1.2 - 1))).Row, (lget l (w64 (v1.2 - 1))).Col, (lget l (w64 (v1.2 - 1))).Time, (lget l (w64 (v1.2 - 1))).Gone, (lget l (w64 (v1.2 - 1))).Value⟩ : Cell) (⟨(lget l v1.2).Row, (lget l v1.2).Col, (lget l v1.2).Time, (lget l v1.2).Gone, (lget l v1.2).Value⟩ : Cell)) fun x3 =>
   if ((decide (0 < v1.2)) && (!x3)) = true then
    lt (R_F 10 v1.2) fun x4 =>
    some (Sum.inr x4)
   else
    some (Sum.inl (v1.1, w64 (v1.2 + 1)))
 else
  inrO (R_CellsFault_J1 v1.1)
noncomputable def R_CellsFault_L1 (l : List Cell) (v0 : Fault × Int) : Option Fault :=
 loopO (fun y => R_CellsFault_B1 l y) v0
noncomputable def R_CellsFault (l : List Cell) : Option Fault :=
 if (decide (1000 < (l.length : Int))) = true then
  lt (R_F 2 0) fun x =>
  some x
 else
  R_CellsFault_L1 l ((⟨0, 0⟩ : Fault), 0)
theorem R_CellsFault_ok (l : List Cell) (r : Fault) (hF : R_CellsFault l = some r) : Pe Try.prog 16 S.none [.sl 5 (l.map e_Cell)] (.agg (c_Fault r)) S.none := by
 refine PeN 43 [.cell 2 28] [28] Ty.ok Fn.b16 Try.func16 ?_
 intro Q g hfin
 unfold R_CellsFault at hF
 refine VR [] [0, 2] [2] [] [] [(2, .ptr 2 0)] [(2, [.i 0, .i 0])] [] [] .nil ?_
 refine NR [.nat (l.length : Int)] [0, 2, 7] [2] [] [(7, .bool (decide (1000 < (l.length : Int))))] (hc (len_ok e_Cell l) .nil) ?_
 refine Nif hF (fun hb hF => ?_) (fun hb hF => ?_)
 ·obtain ⟨x, h0, hF⟩ := lt_split hF
  refine VR [.callB (.agg (c_Fault x))] [2] [2] [] [] [] [(2, (c_Fault x))] [] [] (hc (R_F_ok 2 0 x h0) .nil) ?_
  cases hF
  exact Wk_ret (hfin _ ⟨[], [], [], [], [], [], by kernel_rfl⟩)
 ·refine NR [] [0, 2, 3] [2] [] [(3, .i 0)] .nil ?_
  refine NmeetP (fun v : Fault => (⟨[(2, .ptr 2 0)], [(2, (c_Fault v))], [], [], []⟩ : S)) (fun v => R_CellsFault_J1 v = some r) ?_ ?_
  ·refine Nblk ?_
   unfold R_CellsFault_L1 at hF
   refine Niter (fun v1 : Fault × Int => (⟨[(0, .sl 5 (l.map e_Cell)), (2, .ptr 2 0), (3, .i v1.2)], [(2, (c_Fault v1.1))], [], [], []⟩ : S)) [] hF (by kernel_rfl) ?_
   intro n1 v1 y1 hF ih1 dn1
   unfold R_CellsFault_B1 at hF
   refine NR [.nat (l.length : Int)] [0, 2, 3, 12] [2] [] [(12, .bool (decide (v1.2 < (l.length : Int))))] (hc (len_ok e_Cell l) .nil) ?_
   refine Nif hF (fun hb hF => ?_) (fun hb hF => ?_)
   ·refine Nblk ?_
    obtain ⟨h1, hF⟩ := asrt_elim hF
    obtain ⟨x1, h2, hF⟩ := lt_split hF
    refine NR [.av (e_Cell (lget l v1.2)), .callB (.i x1)] [0, 2, 3, 4] [2] [] [(4, .i x1)] (hc (idx_ok e_Cell h1) (hc (R_CellCode_ok (⟨(lget l v1.2).Row, (lget l v1.2).Col, (lget l v1.2).Time, (lget l v1.2).Gone, (lget l v1.2).Value⟩ : Cell) x1 h2) .nil)) ?_
    refine NR [] [0, 2, 3, 4, 21] [2] [] [(21, .bool (!decide (x1 = 0)))] .nil ?_
    refine Nif hF (fun hb hF => ?_) (fun hb hF => ?_)
    ·obtain ⟨x2, h3, hF⟩ := lt_split hF
     refine VR [.callB (.agg (c_Fault x2))] [2] [2] [] [] [] [(2, (c_Fault x2))] [] [] (hc (R_F_ok x1 v1.2 x2 h3) .nil) ?_
     have hF := ret_done hF dn1
     cases hF
     exact Wk_ret (hfin _ ⟨[], [], [], [], [], [], by kernel_rfl⟩)
    ·obtain ⟨h4, hF⟩ := asrt_elim hF
     obtain ⟨h5, hF⟩ := asrt_elim hF
     obtain ⟨x3, h6, hF⟩ := lt_split hF
     refine ND [.av (e_Cell (lget l (w64 (v1.2 - 1)))), .av (e_Cell (lget l v1.2)), .callB (.bool x3)] [0, 2, 3, 39] [2] [] [(39, .bool ((decide (0 < v1.2)) && (!x3)))] (hc (fun (ga0 : (decide (0 < v1.2)) = true) => (idx_ok e_Cell (h4 ga0))) (hc (fun (ga0 : (decide (0 < v1.2)) = true) => (idx_ok e_Cell (h5 ga0))) (hc (fun (ga0 : (decide (0 < v1.2)) = true) => (R_Ahead_ok (⟨(lget l (w64 (v1.2 - 1))).Row, (lget l (w64 (v1.2 - 1))).Col, (lget l (w64 (v1.2 - 1))).Time, (lget l (w64 (v1.2 - 1))).Gone, (lget l (w64 (v1.2 - 1))).Value⟩ : Cell) (⟨(lget l v1.2).Row, (lget l v1.2).Col, (lget l v1.2).Time, (lget l v1.2).Gone, (lget l v1.2).Value⟩ : Cell) x3 h6)) .nil))) ?_
     refine Nif hF (fun hb hF => ?_) (fun hb hF => ?_)
     ·obtain ⟨x4, h7, hF⟩ := lt_split hF
      refine VR [.callB (.agg (c_Fault x4))] [2] [2] [] [] [] [(2, (c_Fault x4))] [] [] (hc (R_F_ok 10 v1.2 x4 h7) .nil) ?_
      have hF := ret_done hF dn1
      cases hF
      exact Wk_ret (hfin _ ⟨[], [], [], [], [], [], by kernel_rfl⟩)
     ·refine NR [] [0, 2, 3] [2] [] [(3, .i (w64 (v1.2 + 1)))] .nil ?_
      exact Nrnd [] hF ih1 (by kernel_rfl)
   ·refine Nexit rfl ?_
    have hF := inrO_done hF dn1
    exact metP v1.1 [] hF (by kernel_rfl)
  ·intro v hF
   have hF : R_CellsFault_J1 v = some r := hF
   unfold R_CellsFault_J1 at hF
   refine VR [] [2] [2] [] [] [] [(2, [.i 0, .i 0])] [] [] .nil ?_
   cases hF
   exact Wk_ret (hfin _ ⟨[], [], [], [], [], [], by kernel_rfl⟩)

/- tabularylaw.listsFault -/
noncomputable def law_listsFault_J1 (v : Fault) : Option Fault :=
 some (⟨0, 0⟩ : Fault)
noncomputable def law_listsFault_B1 (l : List (List Cell)) (v1 : Fault × Int) : Option ((Fault × Int) ⊕ Fault) :=
 if (decide (v1.2 < (l.length : Int))) = true then
  asrt (0 ≤ v1.2 ∧ v1.2 < (l.length : Int)) <|
  ob (R_CellsFault (lget l v1.2)) fun x1 =>
  if (!decide (x1.Code = 0)) = true then
   lt (R_F x1.Code v1.2) fun x2 =>
   some (Sum.inr x2)
  else
   some (Sum.inl (v1.1, w64 (v1.2 + 1)))
 else
  inrO (law_listsFault_J1 v1.1)
noncomputable def law_listsFault_L1 (l : List (List Cell)) (v0 : Fault × Int) : Option Fault :=
 loopO (fun y => law_listsFault_B1 l y) v0
noncomputable def law_listsFault (l : List (List Cell)) : Option Fault :=
 if (decide (20 < (l.length : Int))) = true then
  lt (R_F 2 (-1)) fun x =>
  some x
 else
  law_listsFault_L1 l ((⟨0, 0⟩ : Fault), 0)
theorem law_listsFault_ok (l : List (List Cell)) (r : Fault) (hF : law_listsFault l = some r) : Pe Try.prog 27 S.none [.sl 1 (l.map e_L_Cell)] (.agg (c_Fault r)) S.none := by
 refine PeN 28 [.cell 2 28] [28] Ty.ok Fn.b27 Try.func27 ?_
 intro Q g hfin
 unfold law_listsFault at hF
 refine VR [] [0, 2] [2] [] [] [(2, .ptr 2 0)] [(2, [.i 0, .i 0])] [] [] .nil ?_
 refine NR [.nat (l.length : Int)] [0, 2, 7] [2] [] [(7, .bool (decide (20 < (l.length : Int))))] (hc (len_ok e_L_Cell l) .nil) ?_
 refine Nif hF (fun hb hF => ?_) (fun hb hF => ?_)
 ·obtain ⟨x, h0, hF⟩ := lt_split hF
  refine VR [.callB (.agg (c_Fault x))] [2] [2] [] [] [] [(2, (c_Fault x))] [] [] (hc (R_F_ok 2 (-1) x h0) .nil) ?_
  cases hF
  exact Wk_ret (hfin _ ⟨[], [], [], [], [], [], by kernel_rfl⟩)
 ·refine NR [] [0, 2, 3] [2] [] [(3, .i 0)] .nil ?_
  refine NmeetP (fun v : Fault => (⟨[(2, .ptr 2 0)], [(2, (c_Fault v))], [], [], []⟩ : S)) (fun v => law_listsFault_J1 v = some r) ?_ ?_
  ·refine Nblk ?_
   unfold law_listsFault_L1 at hF
   refine Niter (fun v1 : Fault × Int => (⟨[(0, .sl 1 (l.map e_L_Cell)), (2, .ptr 2 0), (3, .i v1.2)], [(2, (c_Fault v1.1))], [], [], []⟩ : S)) [] hF (by kernel_rfl) ?_
   intro n1 v1 y1 hF ih1 dn1
   unfold law_listsFault_B1 at hF
   refine NR [.nat (l.length : Int)] [0, 2, 3, 12] [2] [] [(12, .bool (decide (v1.2 < (l.length : Int))))] (hc (len_ok e_L_Cell l) .nil) ?_
   refine Nif hF (fun hb hF => ?_) (fun hb hF => ?_)
   ·refine Nblk ?_
    obtain ⟨h1, hF⟩ := asrt_elim hF
    obtain ⟨x1, h2, hF⟩ := ob_elim hF
    refine VR [.av (e_L_Cell (lget l v1.2)), .callB (.agg (c_Fault x1))] [0, 2, 3, 4] [2, 4] [] [] [(4, .ptr 4 0)] [(4, (c_Fault x1))] [] [] (hc (idx_ok e_L_Cell h1) (hc (R_CellsFault_ok (lget l v1.2) x1 h2) .nil)) ?_
    refine NR [] [0, 2, 3, 4, 22] [2, 4] [] [(22, .bool (!decide (x1.Code = 0)))] .nil ?_
    refine Nif hF (fun hb hF => ?_) (fun hb hF => ?_)
    ·obtain ⟨x2, h3, hF⟩ := lt_split hF
     refine VR [.callB (.agg (c_Fault x2))] [2] [2] [] [] [] [(2, (c_Fault x2))] [] [] (hc (R_F_ok x1.Code v1.2 x2 h3) .nil) ?_
     have hF := ret_done hF dn1
     cases hF
     exact Wk_ret (hfin _ ⟨[], [], [], [], [], [], by kernel_rfl⟩)
    ·refine NR [] [0, 2, 3] [2] [] [(3, .i (w64 (v1.2 + 1)))] .nil ?_
     exact Nrnd [] hF ih1 (by kernel_rfl)
   ·refine Nexit rfl ?_
    have hF := inrO_done hF dn1
    exact metP v1.1 [] hF (by kernel_rfl)
  ·intro v hF
   have hF : law_listsFault_J1 v = some r := hF
   unfold law_listsFault_J1 at hF
   refine VR [] [2] [2] [] [] [] [(2, [.i 0, .i 0])] [] [] .nil ?_
   cases hF
   exact Wk_ret (hfin _ ⟨[], [], [], [], [], [], by kernel_rfl⟩)

/- tabularyref.PutCell -/
noncomputable def R_PutCell_J1 (l : List Cell) (v : Cell × Int) : Option (List Cell) :=
 asrt ((decide (v.2 < (l.length : Int))) = true → 0 ≤ v.2 ∧ v.2 < (l.length : Int)) <|
 lt (R_Ahead v.1 (⟨(lget l v.2).Row, (lget l v.2).Col, (lget l v.2).Time, (lget l v.2).Gone, (lget l v.2).Value⟩ : Cell)) fun x =>
 if ((decide (v.2 < (l.length : Int))) && (!x)) = true then
  asrt ((l.length : Int) * 64 ≤ 140737488351232) <|
  asrt (0 ≤ v.2 ∧ v.2 < (l.length : Int)) <|
  asrt (0 ≤ v.2 ∧ v.2 < (l.length : Int)) <|
  some (lset l v.2 v.1)
 else
  asrt (0 ≤ v.2 ∧ v.2 ≤ (l.length : Int)) <|
  asrt (((ltake l v.2).length : Int) * 64 ≤ 140737488351232) <|
  asrt ((((ltake l v.2) ++ [v.1]).length : Int) * 64 ≤ 140737488351232) <|
  asrt (0 ≤ v.2 ∧ v.2 ≤ (l.length : Int)) <|
  asrt (((((ltake l v.2) ++ [v.1]) ++ (ldrop l v.2)).length : Int) * 64 ≤ 140737488351232) <|
  some (((ltake l v.2) ++ [v.1]) ++ (ldrop l v.2))
noncomputable def R_PutCell_B1 (l : List Cell) (v1 : Cell × Int) : Option ((Cell × Int) ⊕ (List Cell)) :=
 asrt ((decide (v1.2 < (l.length : Int))) = true → 0 ≤ v1.2 ∧ v1.2 < (l.length : Int)) <|
 lt (R_Ahead (⟨(lget l v1.2).Row, (lget l v1.2).Col, (lget l v1.2).Time, (lget l v1.2).Gone, (lget l v1.2).Value⟩ : Cell) v1.1) fun x1 =>
 if ((decide (v1.2 < (l.length : Int))) && x1) = true then
  some (Sum.inl (v1.1, w64 (v1.2 + 1)))
 else
  inrO (R_PutCell_J1 l (v1.1, v1.2))
noncomputable def R_PutCell_L1 (l : List Cell) (v0 : Cell × Int) : Option (List Cell) :=
 loopO (fun y => R_PutCell_B1 l y) v0
noncomputable def R_PutCell (l : List Cell) (c : Cell) : Option (List Cell) :=
 R_PutCell_L1 l (c, 0)

/- tabularyref.PutCells -/
noncomputable def R_PutCells_J1 (v : List Cell) : Option (List Cell) :=
 some v
noncomputable def R_PutCells_B1 (m : List Cell) (v1 : List Cell × Int) : Option ((List Cell × Int) ⊕ (List Cell)) :=
 if (decide (v1.2 < (m.length : Int))) = true then
  asrt (0 ≤ v1.2 ∧ v1.2 < (m.length : Int)) <|
  ob (R_PutCell v1.1 (⟨(lget m v1.2).Row, (lget m v1.2).Col, (lget m v1.2).Time, (lget m v1.2).Gone, (lget m v1.2).Value⟩ : Cell)) fun x =>
  some (Sum.inl (x, w64 (v1.2 + 1)))
 else
  inrO (R_PutCells_J1 v1.1)
noncomputable def R_PutCells_L1 (m : List Cell) (v0 : List Cell × Int) : Option (List Cell) :=
 loopO (fun y => R_PutCells_B1 m y) v0
noncomputable def R_PutCells (l : List Cell) (m : List Cell) : Option (List Cell) :=
 R_PutCells_L1 m (l, 0)

/- tabularylaw.together -/
noncomputable def law_together_J1 (v : List Cell) : Option (List Cell) :=
 some v
noncomputable def law_together_B1 (l : List (List Cell)) (v1 : List Cell × Int) : Option ((List Cell × Int) ⊕ (List Cell)) :=
 if (decide (0 < v1.2)) = true then
  asrt (0 ≤ w64 (v1.2 - 1) ∧ w64 (v1.2 - 1) < (l.length : Int)) <|
  ob (R_PutCells v1.1 (lget l (w64 (v1.2 - 1)))) fun x =>
  some (Sum.inl (x, w64 (v1.2 - 1)))
 else
  inrO (law_together_J1 v1.1)
noncomputable def law_together_L1 (l : List (List Cell)) (v0 : List Cell × Int) : Option (List Cell) :=
 loopO (fun y => law_together_B1 l y) v0
noncomputable def law_together (l : List (List Cell)) : Option (List Cell) :=
 law_together_L1 l (([] : List Cell), (l.length : Int))

end G
end Go.Proofs.Ytkbgkkbinnclmaa
