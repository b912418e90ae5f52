/- The program's functions as plain functions, and that they are these. Written by a program (dec2.py). -/
import Derived.Test.YtkbgkkbinnclmaaTys
namespace Go.Proofs.Ytkbgkkbinnclmaa
open Go Go.Dm
set_option linter.unusedVariables false
set_option linter.unusedSimpArgs false
set_option maxRecDepth 100000
namespace G
/- tabularylaw.versions -/
noncomputable def law_versions  : List Cell :=
 lt ([(⟨([114] : List UInt8), ([99] : List UInt8), 2, false, ([98] : List UInt8)⟩ : Cell), (⟨([114] : List UInt8), ([99] : List UInt8), 1, false, ([97] : List UInt8)⟩ : Cell)]) fun (v : List Cell) =>
 v
theorem law_versions_ok  (r : List Cell) (hF : law_versions  = r) : Pe Try.prog 47 S.none [] (.sl 5 (r.map e_Cell)) S.none := by
 refine PeN 4 [.tmp 0] [22] Ty.ok Fn.b47 Try.func47 ?_
 intro Q g hfin
 unfold law_versions at hF
 refine NR [] [] [] [] [] .nil ?_
 refine NRL ([(⟨([114] : List UInt8), ([99] : List UInt8), 2, false, ([98] : List UInt8)⟩ : Cell), (⟨([114] : List UInt8), ([99] : List UInt8), 1, false, ([97] : List UInt8)⟩ : Cell)]) (fun v : List Cell => ([(0, .sl 5 (v.map e_Cell))], [], [], [])) [.sealed] [0] [] [] [] .nil (fun v hv => ?_)
 have hF := lt_elim hF hv
 cases hF
 exact Wk_ret (hfin _ ⟨[], [], [], [], [], [], by kernel_rfl⟩)

/- cell.fault -/
noncomputable def cell_fault (code : Int) (at0 : Int) : Fault :=
 (⟨code, at0⟩ : Fault)
theorem cell_fault_ok (code : Int) (at0 : Int) (r : Fault) (hF : cell_fault code at0 = r) : Pe Try.prog 48 S.none [.i code, .i at0] (.agg (c_Fault r)) S.none := by
 refine PeN 8 [.cell 4 28] [28] Ty.ok Fn.b48 Try.func48 ?_
 intro Q g hfin
 unfold cell_fault at hF
 refine VR [] [0, 1, 4] [4] [] [] [(4, .ptr 4 0)] [(4, [.i 0, .i 0])] [] [] .nil ?_
 refine VR [] [4] [4] [] [] [] [(4, [.i code, .i at0])] [] [] .nil ?_
 cases hF
 exact Wk_ret (hfin _ ⟨[], [], [], [], [], [], by kernel_rfl⟩)

/- cell.code -/
noncomputable def cell_code (c : Cell) : Int :=
 if ((((decide (c.Row = ([] : List UInt8))) || (decide (40 < (c.Row.length : Int)))) || (decide (40 < (c.Col.length : Int)))) || (decide (200 < (c.Value.length : Int)))) = true then
  8
 else
  if ((decide (c.Time < 0)) || (decide (1000000000 < c.Time))) = true then
   3
  else
   if (c.Gone && (!decide (c.Value = ([] : List UInt8)))) = true then
    5
   else
    0
theorem cell_code_ok (c : Cell) (r : Int) (hF : cell_code c = r) : Pe Try.prog 56 S.none [.agg (c_Cell c)] (.i r) S.none := by
 refine PeN 42 [.tmp 2] [3] Ty.ok Fn.b56 Try.func56 ?_
 intro Q g hfin
 unfold cell_code at hF
 refine VR [] [1] [1] [] [] [(1, .ptr 1 0)] [(1, (c_Cell c))] [] [] .nil ?_
 refine Nblk ?_
 refine NR [] [1, 3] [1] [] [(3, .bool ((((decide (c.Row = ([] : List UInt8))) || (decide (40 < (c.Row.length : Int)))) || (decide (40 < (c.Col.length : Int)))) || (decide (200 < (c.Value.length : Int)))))] .nil ?_
 refine Nif hF (fun hb hF => ?_) (fun hb hF => ?_)
 ·refine NR [] [2] [] [] [(2, .i 8)] .nil ?_
  cases hF
  exact Wk_ret (hfin _ ⟨[], [], [], [], [], [], by kernel_rfl⟩)
 ·refine NR [] [1, 25] [1] [] [(25, .bool ((decide (c.Time < 0)) || (decide (1000000000 < c.Time))))] .nil ?_
  refine Nif hF (fun hb hF => ?_) (fun hb hF => ?_)
  ·refine NR [] [2] [] [] [(2, .i 3)] .nil ?_
   cases hF
   exact Wk_ret (hfin _ ⟨[], [], [], [], [], [], by kernel_rfl⟩)
  ·refine NR [] [34] [] [] [(34, .bool (c.Gone && (!decide (c.Value = ([] : List UInt8)))))] .nil ?_
   refine Nif hF (fun hb hF => ?_) (fun hb hF => ?_)
   ·refine NR [] [2] [] [] [(2, .i 5)] .nil ?_
    cases hF
    exact Wk_ret (hfin _ ⟨[], [], [], [], [], [], by kernel_rfl⟩)
   ·refine NR [] [2] [] [] [(2, .i 0)] .nil ?_
    cases hF
    exact Wk_ret (hfin _ ⟨[], [], [], [], [], [], by kernel_rfl⟩)

/- cmp.isNaN[string] -/
noncomputable def cmp_isNaN_string (x : List UInt8) : Bool :=
 !decide (x = x)
theorem cmp_isNaN_string_ok (x : List UInt8) (r : Bool) (hF : cmp_isNaN_string x = r) : Pe Try.prog 87 S.none [.str x] (.bool r) S.none := by
 refine PeN 6 [.tmp 2] [4] Ty.ok Fn.b87 Try.func87 ?_
 intro Q g hfin
 unfold cmp_isNaN_string at hF
 refine NR [] [0] [] [] [] .nil ?_
 refine NR [] [2] [] [] [(2, .bool (!decide (x = x)))] .nil ?_
 cases hF
 exact Wk_ret (hfin _ ⟨[], [], [], [], [], [], by kernel_rfl⟩)

/- cmp.Compare[string] -/
noncomputable def cmp_Compare_string (x : List UInt8) (y0 : List UInt8) : Int :=
 lt (cmp_isNaN_string x) fun x1 =>
 lt (cmp_isNaN_string y0) fun x2 =>
 if x1 = true then
  if x2 = true then
   0
  else
   (-1)
 else
  if x2 = true then
   1
  else
   if (Op.bytesLess x y0) = true then
    (-1)
   else
    if (Op.bytesLess y0 x) = true then
     1
    else
     0
theorem cmp_Compare_string_ok (x : List UInt8) (y0 : List UInt8) (r : Int) (hF : cmp_Compare_string x y0 = r) : Pe Try.prog 74 S.none [.str x, .str y0] (.i r) S.none := by
 refine PeN 20 [.tmp 4] [3] Ty.ok Fn.b74 Try.func74 ?_
 intro Q g hfin
 unfold cmp_Compare_string at hF
 refine NR [] [0, 1] [] [] [] .nil ?_
 obtain ⟨x1, h0, hF⟩ := lt_split hF
 refine NR [.callB (.bool x1)] [0, 1, 5] [] [] [(5, .bool x1)] (hc (cmp_isNaN_string_ok x x1 h0) .nil) ?_
 obtain ⟨x2, h1, hF⟩ := lt_split hF
 refine NR [.callB (.bool x2)] [0, 1, 5, 6] [] [] [(6, .bool x2)] (hc (cmp_isNaN_string_ok y0 x2 h1) .nil) ?_
 refine NR [] [0, 1, 6, 11] [] [] [(11, .bool x1)] .nil ?_
 refine Nif hF (fun hb hF => ?_) (fun hb hF => ?_)
 ·refine NR [] [12] [] [] [(12, .bool x2)] .nil ?_
  refine Nif hF (fun hb hF => ?_) (fun hb hF => ?_)
  ·refine NR [] [4] [] [] [(4, .i 0)] .nil ?_
   cases hF
   exact Wk_ret (hfin _ ⟨[], [], [], [], [], [], by kernel_rfl⟩)
  ·refine NR [] [4] [] [] [(4, .i (-1))] .nil ?_
   cases hF
   exact Wk_ret (hfin _ ⟨[], [], [], [], [], [], by kernel_rfl⟩)
 ·refine NR [] [0, 1, 13] [] [] [(13, .bool x2)] .nil ?_
  refine Nif hF (fun hb hF => ?_) (fun hb hF => ?_)
  ·refine NR [] [4] [] [] [(4, .i 1)] .nil ?_
   cases hF
   exact Wk_ret (hfin _ ⟨[], [], [], [], [], [], by kernel_rfl⟩)
  ·refine NR [] [0, 1, 16] [] [] [(16, .bool (Op.bytesLess x y0))] .nil ?_
   refine Nif hF (fun hb hF => ?_) (fun hb hF => ?_)
   ·refine NR [] [4] [] [] [(4, .i (-1))] .nil ?_
    cases hF
    exact Wk_ret (hfin _ ⟨[], [], [], [], [], [], by kernel_rfl⟩)
   ·refine NR [] [19] [] [] [(19, .bool (Op.bytesLess y0 x))] .nil ?_
    refine Nif hF (fun hb hF => ?_) (fun hb hF => ?_)
    ·refine NR [] [4] [] [] [(4, .i 1)] .nil ?_
     cases hF
     exact Wk_ret (hfin _ ⟨[], [], [], [], [], [], by kernel_rfl⟩)
    ·refine NR [] [4] [] [] [(4, .i 0)] .nil ?_
     cases hF
     exact Wk_ret (hfin _ ⟨[], [], [], [], [], [], by kernel_rfl⟩)

/- cmp.isNaN[int] -/
noncomputable def cmp_isNaN_int (x : Int) : Bool :=
 !decide (x = x)
theorem cmp_isNaN_int_ok (x : Int) (r : Bool) (hF : cmp_isNaN_int x = r) : Pe Try.prog 88 S.none [.i x] (.bool r) S.none := by
 refine PeN 6 [.tmp 2] [4] Ty.ok Fn.b88 Try.func88 ?_
 intro Q g hfin
 unfold cmp_isNaN_int at hF
 refine NR [] [0] [] [] [] .nil ?_
 refine NR [] [2] [] [] [(2, .bool (!decide (x = x)))] .nil ?_
 cases hF
 exact Wk_ret (hfin _ ⟨[], [], [], [], [], [], by kernel_rfl⟩)

/- cmp.Compare[int] -/
noncomputable def cmp_Compare_int (x : Int) (y0 : Int) : Int :=
 lt (cmp_isNaN_int x) fun x1 =>
 lt (cmp_isNaN_int y0) fun x2 =>
 if x1 = true then
  if x2 = true then
   0
  else
   (-1)
 else
  if x2 = true then
   1
  else
   if (decide (x < y0)) = true then
    (-1)
   else
    if (decide (y0 < x)) = true then
     1
    else
     0
theorem cmp_Compare_int_ok (x : Int) (y0 : Int) (r : Int) (hF : cmp_Compare_int x y0 = r) : Pe Try.prog 75 S.none [.i x, .i y0] (.i r) S.none := by
 refine PeN 20 [.tmp 4] [3] Ty.ok Fn.b75 Try.func75 ?_
 intro Q g hfin
 unfold cmp_Compare_int at hF
 refine NR [] [0, 1] [] [] [] .nil ?_
 obtain ⟨x1, h0, hF⟩ := lt_split hF
 refine NR [.callB (.bool x1)] [0, 1, 5] [] [] [(5, .bool x1)] (hc (cmp_isNaN_int_ok x x1 h0) .nil) ?_
 obtain ⟨x2, h1, hF⟩ := lt_split hF
 refine NR [.callB (.bool x2)] [0, 1, 5, 6] [] [] [(6, .bool x2)] (hc (cmp_isNaN_int_ok y0 x2 h1) .nil) ?_
 refine NR [] [0, 1, 6, 11] [] [] [(11, .bool x1)] .nil ?_
 refine Nif hF (fun hb hF => ?_) (fun hb hF => ?_)
 ·refine NR [] [12] [] [] [(12, .bool x2)] .nil ?_
  refine Nif hF (fun hb hF => ?_) (fun hb hF => ?_)
  ·refine NR [] [4] [] [] [(4, .i 0)] .nil ?_
   cases hF
   exact Wk_ret (hfin _ ⟨[], [], [], [], [], [], by kernel_rfl⟩)
  ·refine NR [] [4] [] [] [(4, .i (-1))] .nil ?_
   cases hF
   exact Wk_ret (hfin _ ⟨[], [], [], [], [], [], by kernel_rfl⟩)
 ·refine NR [] [0, 1, 13] [] [] [(13, .bool x2)] .nil ?_
  refine Nif hF (fun hb hF => ?_) (fun hb hF => ?_)
  ·refine NR [] [4] [] [] [(4, .i 1)] .nil ?_
   cases hF
   exact Wk_ret (hfin _ ⟨[], [], [], [], [], [], by kernel_rfl⟩)
  ·refine NR [] [0, 1, 16] [] [] [(16, .bool (decide (x < y0)))] .nil ?_
   refine Nif hF (fun hb hF => ?_) (fun hb hF => ?_)
   ·refine NR [] [4] [] [] [(4, .i (-1))] .nil ?_
    cases hF
    exact Wk_ret (hfin _ ⟨[], [], [], [], [], [], by kernel_rfl⟩)
   ·refine NR [] [19] [] [] [(19, .bool (decide (y0 < x)))] .nil ?_
    refine Nif hF (fun hb hF => ?_) (fun hb hF => ?_)
    ·refine NR [] [4] [] [] [(4, .i 1)] .nil ?_
     cases hF
     exact Wk_ret (hfin _ ⟨[], [], [], [], [], [], by kernel_rfl⟩)
    ·refine NR [] [4] [] [] [(4, .i 0)] .nil ?_
     cases hF
     exact Wk_ret (hfin _ ⟨[], [], [], [], [], [], by kernel_rfl⟩)

/- cmp.Or[int] -/
noncomputable def cmp_Or_int_J1 (v : Unit) : Option Int :=
 some 0
noncomputable def cmp_Or_int_B1 (vals : List Int) (v1 : Int) : Option (Int ⊕ Int) :=
 if (decide (v1 < (vals.length : Int))) = true then
  asrt (0 ≤ v1 ∧ v1 < (vals.length : Int)) <|
  if (!decide ((lget vals v1) = 0)) = true then
   some (Sum.inr (lget vals v1))
  else
   some (Sum.inl (w64 (v1 + 1)))
 else
  inrO (cmp_Or_int_J1 ())
noncomputable def cmp_Or_int_L1 (vals : List Int) (v0 : Int) : Option Int :=
 loopO (fun y => cmp_Or_int_B1 vals y) v0
noncomputable def cmp_Or_int (vals : List Int) : Option Int :=
 cmp_Or_int_L1 vals 0
theorem cmp_Or_int_ok (vals : List Int) (r : Int) (hF : cmp_Or_int vals = some r) : Pe Try.prog 73 S.none [.sl 1 (vals.map e_i64)] (.i r) S.none := by
 refine PeN 18 [.tmp 2] [3] Ty.ok Fn.b73 Try.func73 ?_
 intro Q g hfin
 unfold cmp_Or_int at hF
 refine NR [] [0] [] [] [] .nil ?_
 refine NR [] [0, 3] [] [] [(3, .i 0)] .nil ?_
 refine NR [.nat (vals.length : Int)] [3, 6, 7, 8] [] [] [(6, .sl 1 (vals.map e_i64)), (7, .i (vals.length : Int)), (8, .i 0)] (hc (len_ok e_i64 vals) .nil) ?_
 refine NmeetP (fun v : Unit => (⟨[(3, .i 0)], [], [], [], []⟩ : S)) (fun v => cmp_Or_int_J1 v = some r) ?_ ?_
 ·refine Nblk ?_
  unfold cmp_Or_int_L1 at hF
  refine Niter (fun v1 : Int => (⟨[(3, .i 0), (6, .sl 1 (vals.map e_i64)), (7, .i (vals.length : Int)), (8, .i v1)], [], [], [], []⟩ : S)) [] hF (by kernel_rfl) ?_
  intro n1 v1 y1 hF ih1 dn1
  unfold cmp_Or_int_B1 at hF
  refine NR [] [3, 6, 7, 8, 9] [] [] [(9, .bool (decide (v1 < (vals.length : Int))))] .nil ?_
  refine Nif hF (fun hb hF => ?_) (fun hb hF => ?_)
  ·refine Nblk ?_
   obtain ⟨h0, hF⟩ := asrt_elim hF
   refine NR [.av (e_i64 (lget vals v1))] [3, 5, 6, 7, 8] [] [] [(5, .i (lget vals v1))] (hc (idx_ok e_i64 h0) .nil) ?_
   refine NR [] [3, 5, 6, 7, 8, 14] [] [] [(14, .bool (!decide ((lget vals v1) = 0)))] .nil ?_
   refine Nif hF (fun hb hF => ?_) (fun hb hF => ?_)
   ·refine NR [] [2] [] [] [(2, .i (lget vals v1))] .nil ?_
    have hF := ret_done hF dn1
    cases hF
    exact Wk_ret (hfin _ ⟨[], [], [], [], [], [], by kernel_rfl⟩)
   ·refine NR [] [3, 6, 7, 8] [] [] [(8, .i (w64 (v1 + 1)))] .nil ?_
    exact Nrnd [] hF ih1 (by kernel_rfl)
  ·refine Nexit rfl ?_
   have hF := inrO_done hF dn1
   exact metP () [] hF (by kernel_rfl)
 ·intro v hF
  have hF : cmp_Or_int_J1 v = some r := hF
  unfold cmp_Or_int_J1 at hF
  refine NR [] [2] [] [] [(2, .i 0)] .nil ?_
  cases hF
  exact Wk_ret (hfin _ ⟨[], [], [], [], [], [], by kernel_rfl⟩)

/- cell.Order -/
noncomputable def cell_Order (a0 : Cell) (b : Cell) : Option Int :=
 lt (cmp_Compare_string a0.Row b.Row) fun x =>
 lt (cmp_Compare_string a0.Col b.Col) fun x1 =>
 lt (cmp_Compare_int b.Time a0.Time) fun x2 =>
 ob (cmp_Or_int ([x, x1, x2] : List Int)) fun x3 =>
 some x3
theorem cell_Order_ok (a0 : Cell) (b : Cell) (r : Int) (hF : cell_Order a0 b = some r) : Pe Try.prog 57 S.none [.agg (c_Cell a0), .agg (c_Cell b)] (.i r) S.none := by
 refine PeN 22 [.tmp 4] [3] Ty.ok Fn.b57 Try.func57 ?_
 intro Q g hfin
 unfold cell_Order at hF
 refine VR [] [2, 3] [2, 3] [] [] [(2, .ptr 2 0), (3, .ptr 3 0)] [(2, (c_Cell a0)), (3, (c_Cell b))] [] [] .nil ?_
 obtain ⟨x, h0, hF⟩ := lt_split hF
 obtain ⟨x1, h1, hF⟩ := lt_split hF
 obtain ⟨x2, h2, hF⟩ := lt_split hF
 obtain ⟨x3, h3, hF⟩ := ob_elim hF
 refine ND [.callB (.i x), .callB (.i x1), .callB (.i x2), .sealed, .callB (.i x3)] [4] [] [] [(4, .i x3)] (hc (cmp_Compare_string_ok a0.Row b.Row x h0) (hc (cmp_Compare_string_ok a0.Col b.Col x1 h1) (hc (cmp_Compare_int_ok b.Time a0.Time x2 h2) (hc (cmp_Or_int_ok ([x, x1, x2] : List Int) x3 h3) .nil)))) ?_
 cases hF
 exact Wk_ret (hfin _ ⟨[], [], [], [], [], [], by kernel_rfl⟩)

/- cell.Check -/
noncomputable def cell_Check_J1 (v : Fault) : Option Fault :=
 some (⟨0, 0⟩ : Fault)
noncomputable def cell_Check_B1 (l : List Cell) (v1 : Fault × Int) : Option ((Fault × Int) ⊕ Fault) :=
 if (decide (v1.2 < (l.length : Int))) = true then
  asrt (0 ≤ v1.2 ∧ v1.2 < (l.length : Int)) <|
  lt (cell_code (⟨(lget l v1.2).Row, (lget l v1.2).Col, (lget l v1.2).Time, (lget l v1.2).Gone, (lget l v1.2).Value⟩ : Cell)) fun x1 =>
  if (!decide (x1 = 0)) = true then
   lt (cell_fault x1 v1.2) fun x2 =>
   some (Sum.inr x2)
  else
   asrt ((decide (0 < v1.2)) = true → 0 ≤ w64 (v1.2 - 1) ∧ w64 (v1.2 - 1) < (l.length : Int)) <|
   ob (if (decide (0 < v1.2)) = true then (cell_Order (⟨(lget l (w64 (v1.2 - 1))).Row, (lget l (w64 (v1.2 - 1))).Col, (lget l (w64 (v1.2 - 1))).Time, (lget l (w64 (v1.2 - 1))).Gone, (lget l (w64 (v1.2 - 1))).Value⟩ : Cell) (⟨(lget l v1.2).Row, (lget l v1.2).Col, (lget l v1.2).Time, (lget l v1.2).Gone, (lget l v1.2).Value⟩ : Cell)) else some default) fun x3 =>
   if ((decide (0 < v1.2)) && (decide (0 ≤ x3))) = true then
    lt (cell_fault 10 v1.2) fun x4 =>
    some (Sum.inr x4)
   else
    some (Sum.inl (v1.1, w64 (v1.2 + 1)))
 else
  inrO (cell_Check_J1 v1.1)
noncomputable def cell_Check_L1 (l : List Cell) (v0 : Fault × Int) : Option Fault :=
 loopO (fun y => cell_Check_B1 l y) v0
noncomputable def cell_Check (l : List Cell) : Option Fault :=
 if (decide (1000 < (l.length : Int))) = true then
  lt (cell_fault 2 0) fun x =>
  some x
 else
  cell_Check_L1 l ((⟨0, 0⟩ : Fault), 0)
theorem cell_Check_ok (l : List Cell) (r : Fault) (hF : cell_Check l = some r) : Pe Try.prog 32 S.none [.sl 5 (l.map e_Cell)] (.agg (c_Fault r)) S.none := by
 refine PeN 40 [.cell 2 28] [28] Ty.ok Fn.b32 Try.func32 ?_
 intro Q g hfin
 unfold cell_Check at hF
 refine VR [] [0, 2] [2] [] [] [(2, .ptr 2 0)] [(2, [.i 0, .i 0])] [] [] .nil ?_
 refine NR [.nat (l.length : Int)] [0, 2, 8] [2] [] [(8, .bool (decide (1000 < (l.length : Int))))] (hc (len_ok e_Cell l) .nil) ?_
 refine Nif hF (fun hb hF => ?_) (fun hb hF => ?_)
 ·obtain ⟨x, h0, hF⟩ := lt_split hF
  refine VR [.callB (.agg (c_Fault x))] [2] [2] [] [] [] [(2, (c_Fault x))] [] [] (hc (cell_fault_ok 2 0 x h0) .nil) ?_
  cases hF
  exact Wk_ret (hfin _ ⟨[], [], [], [], [], [], by kernel_rfl⟩)
 ·refine NR [.nat (l.length : Int)] [0, 2, 10, 11, 12] [2] [] [(10, .sl 5 (l.map e_Cell)), (11, .i (l.length : Int)), (12, .i 0)] (hc (len_ok e_Cell l) .nil) ?_
  refine NmeetP (fun v : Fault => (⟨[(2, .ptr 2 0)], [(2, (c_Fault v))], [], [], []⟩ : S)) (fun v => cell_Check_J1 v = some r) ?_ ?_
  ·refine Nblk ?_
   unfold cell_Check_L1 at hF
   refine Niter (fun v1 : Fault × Int => (⟨[(0, .sl 5 (l.map e_Cell)), (2, .ptr 2 0), (10, .sl 5 (l.map e_Cell)), (11, .i (l.length : Int)), (12, .i v1.2)], [(2, (c_Fault v1.1))], [], [], []⟩ : S)) [] hF (by kernel_rfl) ?_
   intro n1 v1 y1 hF ih1 dn1
   unfold cell_Check_B1 at hF
   refine NR [] [0, 2, 10, 11, 12, 13] [2] [] [(13, .bool (decide (v1.2 < (l.length : Int))))] .nil ?_
   refine Nif hF (fun hb hF => ?_) (fun hb hF => ?_)
   ·refine Nblk ?_
    obtain ⟨h1, hF⟩ := asrt_elim hF
    refine VR [.av (e_Cell (lget l v1.2))] [0, 2, 3, 4, 10, 11, 12] [2, 4] [] [] [(3, .i v1.2), (4, .ptr 4 0)] [(4, (c_Cell (lget l v1.2)))] [] [] (hc (idx_ok e_Cell h1) .nil) ?_
    obtain ⟨x1, h2, hF⟩ := lt_split hF
    refine NR [.callB (.i x1)] [0, 2, 3, 4, 5, 10, 11, 12] [2, 4] [] [(5, .i x1)] (hc (cell_code_ok (⟨(lget l v1.2).Row, (lget l v1.2).Col, (lget l v1.2).Time, (lget l v1.2).Gone, (lget l v1.2).Value⟩ : Cell) x1 h2) .nil) ?_
    refine NR [] [0, 2, 3, 4, 5, 10, 11, 12, 20] [2, 4] [] [(20, .bool (!decide (x1 = 0)))] .nil ?_
    refine Nif hF (fun hb hF => ?_) (fun hb hF => ?_)
    ·obtain ⟨x2, h3, hF⟩ := lt_split hF
     refine VR [.callB (.agg (c_Fault x2))] [2] [2] [] [] [] [(2, (c_Fault x2))] [] [] (hc (cell_fault_ok x1 v1.2 x2 h3) .nil) ?_
     have hF := ret_done hF dn1
     cases hF
     exact Wk_ret (hfin _ ⟨[], [], [], [], [], [], by kernel_rfl⟩)
    ·obtain ⟨h4, hF⟩ := asrt_elim hF
     obtain ⟨x3, h5, hF⟩ := ob_elim hF
     refine ND [.av (e_Cell (lget l (w64 (v1.2 - 1)))), .callB (.i x3)] [0, 2, 3, 10, 11, 12, 35] [2] [] [(35, .bool ((decide (0 < v1.2)) && (decide (0 ≤ x3))))] (hc (fun (ga0 : (decide (0 < v1.2)) = true) => (idx_ok e_Cell (h4 ga0))) (hc (fun (ga0 : (decide (0 < v1.2)) = true) => (cell_Order_ok (⟨(lget l (w64 (v1.2 - 1))).Row, (lget l (w64 (v1.2 - 1))).Col, (lget l (w64 (v1.2 - 1))).Time, (lget l (w64 (v1.2 - 1))).Gone, (lget l (w64 (v1.2 - 1))).Value⟩ : Cell) (⟨(lget l v1.2).Row, (lget l v1.2).Col, (lget l v1.2).Time, (lget l v1.2).Gone, (lget l v1.2).Value⟩ : Cell) x3 (ite_t h5 ga0))) .nil)) ?_
     refine Nif hF (fun hb hF => ?_) (fun hb hF => ?_)
     ·obtain ⟨x4, h6, hF⟩ := lt_split hF
      refine VR [.callB (.agg (c_Fault x4))] [2] [2] [] [] [] [(2, (c_Fault x4))] [] [] (hc (cell_fault_ok 10 v1.2 x4 h6) .nil) ?_
      have hF := ret_done hF dn1
      cases hF
      exact Wk_ret (hfin _ ⟨[], [], [], [], [], [], by kernel_rfl⟩)
     ·refine NR [] [0, 2, 10, 11, 12] [2] [] [(12, .i (w64 (v1.2 + 1)))] .nil ?_
      exact Nrnd [] hF ih1 (by kernel_rfl)
   ·refine Nexit rfl ?_
    have hF := inrO_done hF dn1
    exact metP v1.1 [] hF (by kernel_rfl)
  ·intro v hF
   have hF : cell_Check_J1 v = some r := hF
   unfold cell_Check_J1 at hF
   refine VR [] [2] [2] [] [] [] [(2, [.i 0, .i 0])] [] [] .nil ?_
   cases hF
   exact Wk_ret (hfin _ ⟨[], [], [], [], [], [], by kernel_rfl⟩)

/- slices.BinarySearchFunc[[]api.Cell,api.Cell,api.Cell] -/
noncomputable def slices_BinarySearchFunc_api_Cell_api_Cell_api_Cell_J1 (x : List Cell) (v : Cell × Int) : Option (Int × Bool) :=
 asrt ((decide (v.2 < (x.length : Int))) = true → 0 ≤ v.2 ∧ v.2 < (x.length : Int)) <|
 ob (if (decide (v.2 < (x.length : Int))) = true then (cell_Order (⟨(lget x v.2).Row, (lget x v.2).Col, (lget x v.2).Time, (lget x v.2).Gone, (lget x v.2).Value⟩ : Cell) v.1) else some default) fun x1 =>
 some (v.2, (decide (v.2 < (x.length : Int))) && (decide (x1 = 0)))
noncomputable def slices_BinarySearchFunc_api_Cell_api_Cell_api_Cell_B1 (x : List Cell) (v1 : Cell × Int × Int) : Option ((Cell × Int × Int) ⊕ (Int × Bool)) :=
 if (decide (v1.2.1 < v1.2.2)) = true then
  lt (w64 (Int.fdiv (IntKind.u64.wrap (w64 (v1.2.1 + v1.2.2))) (2 ^ (min (1 : Int).toNat 64)))) fun (v2 : Int) =>
  asrt (0 ≤ v2 ∧ v2 < (x.length : Int)) <|
  ob (cell_Order (⟨(lget x v2).Row, (lget x v2).Col, (lget x v2).Time, (lget x v2).Gone, (lget x v2).Value⟩ : Cell) v1.1) fun x2 =>
  if (decide (x2 < 0)) = true then
   some (Sum.inl (v1.1, w64 (v2 + 1), v1.2.2))
  else
   some (Sum.inl (v1.1, v1.2.1, v2))
 else
  inrO (slices_BinarySearchFunc_api_Cell_api_Cell_api_Cell_J1 x (v1.1, v1.2.1))
noncomputable def slices_BinarySearchFunc_api_Cell_api_Cell_api_Cell_L1 (x : List Cell) (v0 : Cell × Int × Int) : Option (Int × Bool) :=
 loopO (fun y => slices_BinarySearchFunc_api_Cell_api_Cell_api_Cell_B1 x y) v0
noncomputable def slices_BinarySearchFunc_api_Cell_api_Cell_api_Cell (x : List Cell) (target : Cell) : Option (Int × Bool) :=
 slices_BinarySearchFunc_api_Cell_api_Cell_api_Cell_L1 x (target, 0, (x.length : Int))
theorem slices_BinarySearchFunc_api_Cell_api_Cell_api_Cell_ok (x : List Cell) (target : Cell) (r : Int × Bool) (hF : slices_BinarySearchFunc_api_Cell_api_Cell_api_Cell x target = some r) : Pe Try.prog 70 S.none [.sl 5 (x.map e_Cell), .agg (c_Cell target), .fn 57 []] (.tup [.i r.1, .bool r.2]) S.none := by
 refine PeN 49 [.tmp 6, .tmp 7] [3, 4] Ty.ok Fn.b70 Try.func70 ?_
 intro Q g hfin
 unfold slices_BinarySearchFunc_api_Cell_api_Cell_api_Cell at hF
 refine VR [] [0, 2, 4] [4] [] [] [(4, .ptr 4 0)] [(4, (c_Cell target))] [] [] .nil ?_
 refine NR [.nat (x.length : Int)] [0, 2, 4, 8] [4] [] [(8, .i (x.length : Int))] (hc (len_ok e_Cell x) .nil) ?_
 refine NR [] [0, 2, 4, 8, 9, 10] [4] [] [(9, .i 0), (10, .i (x.length : Int))] .nil ?_
 refine NmeetP (fun v : Cell × Int => (⟨[(0, .sl 5 (x.map e_Cell)), (2, .fn 57 []), (4, .ptr 4 0), (8, .i (x.length : Int)), (9, .i v.2)], [(4, (c_Cell v.1))], [], [], []⟩ : S)) (fun v => slices_BinarySearchFunc_api_Cell_api_Cell_api_Cell_J1 x v = some r) ?_ ?_
 ·refine Nblk ?_
  unfold slices_BinarySearchFunc_api_Cell_api_Cell_api_Cell_L1 at hF
  refine Niter (fun v1 : Cell × Int × Int => (⟨[(0, .sl 5 (x.map e_Cell)), (2, .fn 57 []), (4, .ptr 4 0), (8, .i (x.length : Int)), (9, .i v1.2.1), (10, .i v1.2.2)], [(4, (c_Cell v1.1))], [], [], []⟩ : S)) [] hF (by kernel_rfl) ?_
  intro n1 v1 y1 hF ih1 dn1
  unfold slices_BinarySearchFunc_api_Cell_api_Cell_api_Cell_B1 at hF
  refine NR [] [0, 2, 4, 8, 9, 10, 17] [4] [] [(17, .bool (decide (v1.2.1 < v1.2.2)))] .nil ?_
  refine Nif hF (fun hb hF => ?_) (fun hb hF => ?_)
  ·refine Nblk ?_
   refine NRL (w64 (Int.fdiv (IntKind.u64.wrap (w64 (v1.2.1 + v1.2.2))) (2 ^ (min (1 : Int).toNat 64)))) (fun v2 : Int => ([(11, .i v2)], [], [], [])) [] [0, 2, 4, 8, 9, 10, 11] [4] [] [] (hc (by decide : (0 : Int) ≤ 1) .nil) (fun v2 hv => ?_)
   have hF := lt_elim hF hv
   obtain ⟨h2, hF⟩ := asrt_elim hF
   obtain ⟨x2, h3, hF⟩ := ob_elim hF
   refine ND [.av (e_Cell (lget x v2)), .callB (.i x2)] [0, 2, 4, 8, 9, 10, 11, 31] [4] [] [(31, .bool (decide (x2 < 0)))] (hc (idx_ok e_Cell h2) (hc (cell_Order_ok (⟨(lget x v2).Row, (lget x v2).Col, (lget x v2).Time, (lget x v2).Gone, (lget x v2).Value⟩ : Cell) v1.1 x2 h3) .nil)) ?_
   refine Nif hF (fun hb hF => ?_) (fun hb hF => ?_)
   ·refine NR [] [0, 2, 4, 8, 9, 10] [4] [] [(9, .i (w64 (v2 + 1)))] .nil ?_
    exact Nrnd [] hF ih1 (by kernel_rfl)
   ·refine NR [] [0, 2, 4, 8, 9, 10] [4] [] [(10, .i v2)] .nil ?_
    exact Nrnd [] hF ih1 (by kernel_rfl)
  ·refine Nexit rfl ?_
   have hF := inrO_done hF dn1
   exact metP (v1.1, v1.2.1) [] hF (by kernel_rfl)
 ·intro v hF
  have hF : slices_BinarySearchFunc_api_Cell_api_Cell_api_Cell_J1 x v = some r := hF
  unfold slices_BinarySearchFunc_api_Cell_api_Cell_api_Cell_J1 at hF
  obtain ⟨h0, hF⟩ := asrt_elim hF
  obtain ⟨x1, h1, hF⟩ := ob_elim hF
  refine ND [.av (e_Cell (lget x v.2)), .callB (.i x1)] [6, 7] [] [] [(6, .i v.2), (7, .bool ((decide (v.2 < (x.length : Int))) && (decide (x1 = 0))))] (hc (fun (ga0 : (decide (v.2 < (x.length : Int))) = true) => (idx_ok e_Cell (h0 ga0))) (hc (fun (ga0 : (decide (v.2 < (x.length : Int))) = true) => (cell_Order_ok (⟨(lget x v.2).Row, (lget x v.2).Col, (lget x v.2).Time, (lget x v.2).Gone, (lget x v.2).Value⟩ : Cell) v.1 x1 (ite_t h1 ga0))) .nil)) ?_
  cases hF
  exact Wk_ret (hfin _ ⟨[], [], [], [], [], [], by kernel_rfl⟩)

/- cell.Newest -/
noncomputable def cell_Newest (l : List Cell) (row : List UInt8) (col : List UInt8) (time : Int) : Option (Cell × Bool) :=
 ob (slices_BinarySearchFunc_api_Cell_api_Cell_api_Cell l (⟨row, col, time, false, ([] : List UInt8)⟩ : Cell)) fun x =>
 asrt ((decide (x.1 < (l.length : Int))) = true → 0 ≤ x.1 ∧ x.1 < (l.length : Int)) <|
 asrt (((decide (x.1 < (l.length : Int))) && (decide (((lget l x.1).Row) = row))) = true → 0 ≤ x.1 ∧ x.1 < (l.length : Int)) <|
 if (((decide (x.1 < (l.length : Int))) && (decide (((lget l x.1).Row) = row))) && (decide (((lget l x.1).Col) = col))) = true then
  asrt (0 ≤ x.1 ∧ x.1 < (l.length : Int)) <|
  some ((⟨(lget l x.1).Row, (lget l x.1).Col, (lget l x.1).Time, (lget l x.1).Gone, (lget l x.1).Value⟩ : Cell), true)
 else
  some ((⟨([] : List UInt8), ([] : List UInt8), 0, false, ([] : List UInt8)⟩ : Cell), false)
theorem cell_Newest_ok (l : List Cell) (row : List UInt8) (col : List UInt8) (time : Int) (r : Cell × Bool) (hF : cell_Newest l row col time = some r) : Pe Try.prog 49 S.none [.sl 5 (l.map e_Cell), .str row, .str col, .i time] (.tup [.agg (c_Cell r.1), .bool r.2]) S.none := by
 refine PeN 48 [.cell 8 37, .tmp 9] [37, 4] Ty.ok Fn.b49 Try.func49 ?_
 intro Q g hfin
 unfold cell_Newest at hF
 refine VR [] [0, 1, 2, 3, 8] [8] [] [] [(8, .ptr 8 0)] [(8, [.str [], .str [], .i 0, .bool false, .str []])] [] [] .nil ?_
 obtain ⟨x, h0, hF⟩ := ob_elim hF
 refine NR [.callB (.tup [.i x.1, .bool x.2])] [0, 1, 2, 8, 10] [8] [] [(10, .i x.1)] (hc (slices_BinarySearchFunc_api_Cell_api_Cell_api_Cell_ok l (⟨row, col, time, false, ([] : List UInt8)⟩ : Cell) x h0) .nil) ?_
 obtain ⟨h1, h2, hF⟩ := asrt2 hF
 refine NR [.nat (l.length : Int), .av (e_Cell (lget l x.1)), .av (e_Cell (lget l x.1))] [0, 8, 10, 42] [8] [] [(42, .bool (((decide (x.1 < (l.length : Int))) && (decide (((lget l x.1).Row) = row))) && (decide (((lget l x.1).Col) = col))))] (hc (len_ok e_Cell l) (hc (fun (ga0 : (decide (x.1 < (l.length : Int))) = true) => (idx_ok e_Cell (h1 ga0))) (hc (fun (ga0 : ((decide (x.1 < (l.length : Int))) && (decide (((lget l x.1).Row) = row))) = true) => (idx_ok e_Cell (h2 ga0))) .nil))) ?_
 refine Nif hF (fun hb hF => ?_) (fun hb hF => ?_)
 ·obtain ⟨h3, hF⟩ := asrt_elim hF
  refine VR [.av (e_Cell (lget l x.1))] [8, 9] [8] [] [] [(9, .bool true)] [(8, (c_Cell (lget l x.1)))] [] [] (hc (idx_ok e_Cell h3) .nil) ?_
  cases hF
  exact Wk_ret (hfin _ ⟨[], [], [], [], [], [], by kernel_rfl⟩)
 ·refine NR [] [8, 9] [8] [] [(9, .bool false)] .nil ?_
  cases hF
  exact Wk_ret (hfin _ ⟨[], [], [], [], [], [], by kernel_rfl⟩)

/- cell.Get -/
noncomputable def cell_Get (l : List Cell) (row : List UInt8) (col : List UInt8) (time : Int) : Option (List UInt8 × Bool × Fault) :=
 ob (cell_Check l) fun x =>
 if (!decide (x.Code = 0)) = true then
  some (([] : List UInt8), false, x)
 else
  if ((decide (time < 0)) || (decide (1000000000 < time))) = true then
   lt (cell_fault 3 (-1)) fun x1 =>
   some (([] : List UInt8), false, x1)
  else
   ob (cell_Newest l row col time) fun x2 =>
   some (x2.1.Value, x2.2 && (!x2.1.Gone), (⟨0, 0⟩ : Fault))
theorem cell_Get_ok (l : List Cell) (row : List UInt8) (col : List UInt8) (time : Int) (r : List UInt8 × Bool × Fault) (hF : cell_Get l row col time = some r) : Pe Try.prog 13 S.none [.sl 5 (l.map e_Cell), .str row, .str col, .i time] (.tup [.str r.1, .bool r.2.1, .agg (c_Fault r.2.2)]) S.none := by
 refine PeN 44 [.tmp 8, .tmp 9, .cell 10 28] [9, 4, 28] Ty.ok Fn.b13 Try.func13 ?_
 intro Q g hfin
 unfold cell_Get at hF
 refine VR [] [0, 1, 2, 3, 10] [10] [] [] [(10, .ptr 10 0)] [(10, [.i 0, .i 0])] [] [] .nil ?_
 obtain ⟨x, h0, hF⟩ := ob_elim hF
 refine VR [.callB (.agg (c_Fault x))] [0, 1, 2, 3, 10, 11] [10, 11] [] [] [(11, .ptr 11 0)] [(11, (c_Fault x))] [] [] (hc (cell_Check_ok l x h0) .nil) ?_
 refine NR [] [0, 1, 2, 3, 10, 11, 18] [10, 11] [] [(18, .bool (!decide (x.Code = 0)))] .nil ?_
 refine Nif hF (fun hb hF => ?_) (fun hb hF => ?_)
 ·refine VD [] [8, 9, 10] [10] [] [] [(8, .str ([] : List UInt8)), (9, .bool false)] [(10, (c_Fault x))] [] [] .nil ?_
  cases hF
  exact Wk_ret (hfin _ ⟨[], [], [], [], [], [], by kernel_rfl⟩)
 ·refine NR [] [0, 1, 2, 3, 10, 25] [10] [] [(25, .bool ((decide (time < 0)) || (decide (1000000000 < time))))] .nil ?_
  refine Nif hF (fun hb hF => ?_) (fun hb hF => ?_)
  ·obtain ⟨x1, h1, hF⟩ := lt_split hF
   refine VR [.callB (.agg (c_Fault x1))] [8, 9, 10] [10] [] [] [(8, .str ([] : List UInt8)), (9, .bool false)] [(10, (c_Fault x1))] [] [] (hc (cell_fault_ok 3 (-1) x1 h1) .nil) ?_
   cases hF
   exact Wk_ret (hfin _ ⟨[], [], [], [], [], [], by kernel_rfl⟩)
  ·obtain ⟨x2, h2, hF⟩ := ob_elim hF
   refine VR [.callB (.tup [.agg (c_Cell x2.1), .bool x2.2])] [10, 12, 13] [10, 12] [] [] [(12, .ptr 12 0), (13, .bool x2.2)] [(12, (c_Cell x2.1))] [] [] (hc (cell_Newest_ok l row col time x2 h2) .nil) ?_
   refine ND [] [8, 9, 10] [10] [] [(8, .str x2.1.Value), (9, .bool (x2.2 && (!x2.1.Gone)))] .nil ?_
   cases hF
   exact Wk_ret (hfin _ ⟨[], [], [], [], [], [], by kernel_rfl⟩)

/- tabularylaw.cellBegun -/
noncomputable def law_cellBegun  : Option Bool :=
 lt (law_versions) fun x =>
 ob (cell_Get x ([114] : List UInt8) ([99] : List UInt8) 1) fun x1 =>
 lt (law_versions) fun x2 =>
 ob (cell_Get x2 ([114] : List UInt8) ([99] : List UInt8) 0) fun x3 =>
 lt (((((decide (x1.2.2.Code = 0)) && (decide (x3.2.2.Code = 0))) && (decide (x1.1 = ([97] : List UInt8)))) && x1.2.1) && (!x3.2.1)) fun (v : Bool) =>
 some v
theorem law_cellBegun_ok  (r : Bool) (hF : law_cellBegun  = some r) : Pe Try.prog 11 S.none [] (.bool r) S.none := by
 refine PeN 38 [.tmp 0] [4] Ty.ok Fn.b11 Try.func11 ?_
 intro Q g hfin
 unfold law_cellBegun at hF
 refine NR [] [] [] [] [] .nil ?_
 obtain ⟨x, h0, hF⟩ := lt_split hF
 obtain ⟨x1, h1, hF⟩ := ob_elim hF
 refine VR [.call (.sl 5 (x.map e_Cell)), .callB (.tup [.str x1.1, .bool x1.2.1, .agg (c_Fault x1.2.2)])] [1, 2, 3] [3] [] [] [(1, .str x1.1), (2, .bool x1.2.1), (3, .ptr 3 0)] [(3, (c_Fault x1.2.2))] [] [] (hc (law_versions_ok  x h0) (hc (cell_Get_ok x ([114] : List UInt8) ([99] : List UInt8) 1 x1 h1) .nil)) ?_
 obtain ⟨x2, h2, hF⟩ := lt_split hF
 obtain ⟨x3, h3, hF⟩ := ob_elim hF
 refine VR [.call (.sl 5 (x2.map e_Cell)), .callB (.tup [.str x3.1, .bool x3.2.1, .agg (c_Fault x3.2.2)])] [1, 2, 3, 5, 6] [3, 6] [] [] [(5, .bool x3.2.1), (6, .ptr 6 0)] [(6, (c_Fault x3.2.2))] [] [] (hc (law_versions_ok  x2 h2) (hc (cell_Get_ok x2 ([114] : List UInt8) ([99] : List UInt8) 0 x3 h3) .nil)) ?_
 refine NRL (((((decide (x1.2.2.Code = 0)) && (decide (x3.2.2.Code = 0))) && (decide (x1.1 = ([97] : List UInt8)))) && x1.2.1) && (!x3.2.1)) (fun v : Bool => ([(0, .bool v)], [], [], [])) [] [0] [] [] [] .nil (fun v hv => ?_)
 have hF := lt_elim hF hv
 cases hF
 exact Wk_ret (hfin _ ⟨[], [], [], [], [], [], by kernel_rfl⟩)

/- tabularylaw.many -/
noncomputable def law_many (num : Int) : Bool :=
 lt (((decide (150 < num)) && (decide (num < 1000))) || (decide (2000 < num))) fun (v : Bool) =>
 v
theorem law_many_ok (num : Int) (r : Bool) (hF : law_many num = r) : Pe Try.prog 12 S.none [.i num] (.bool r) S.none := by
 refine PeN 13 [.tmp 2] [4] Ty.ok Fn.b12 Try.func12 ?_
 intro Q g hfin
 unfold law_many at hF
 refine NR [] [0] [] [] [] .nil ?_
 refine NRL (((decide (150 < num)) && (decide (num < 1000))) || (decide (2000 < num))) (fun v : Bool => ([(2, .bool v)], [], [], [])) [] [2] [] [] [] .nil (fun v hv => ?_)
 have hF := lt_elim hF hv
 cases hF
 exact Wk_ret (hfin _ ⟨[], [], [], [], [], [], by kernel_rfl⟩)

/- tabularylaw.ownCells -/
noncomputable def law_ownCells_v1 (l : List Cell) : Option (List Cell) :=
 asrt ((l.length : Int) * 64 ≤ 140737488351232) <|
 some l
theorem law_ownCells_v1_ok (l : List Cell) (r : List Cell) (hF : law_ownCells_v1 l = some r) : Pe Try.prog 14 S.none [.sl 5 (l.map e_Cell)] (.sl 5 (r.map e_Cell)) S.none := by
 refine PeN 5 [.tmp 2] [22] Ty.ok Fn.b14 Try.func14 ?_
 intro Q g hfin
 unfold law_ownCells_v1 at hF
 refine NR [] [0] [] [] [] .nil ?_
 obtain ⟨h0, hF⟩ := asrt_elim hF
 refine VR [.xs (l.map e_Cell)] [2] [] [4] [] [(2, .row 4 1)] [] [(4, .z 37 5 1 (l.map e_Cell))] [] (hc (app0_ok e_Cell l) (hc (appl_ok e_Cell h0) .nil)) ?_
 cases hF
 exact Wk_ret (hfin _ ⟨[], [], [], [], [], [], by kernel_rfl⟩)

/- cell.Asked -/
noncomputable def cell_Asked (a0 : Ask) : Fault :=
 if ((decide (a0.Time < 0)) || (decide (1000000000 < a0.Time))) = true then
  lt (cell_fault 3 (-1)) fun x =>
  x
 else
  if ((decide (a0.Many < 0)) || (decide (1000 < a0.Many))) = true then
   lt (cell_fault 3 (-2)) fun x1 =>
   x1
  else
   (⟨0, 0⟩ : Fault)

/- cell.Seen -/
noncomputable def cell_Seen_J1 (v : List Cell) : Option (List Cell) :=
 some v
noncomputable def cell_Seen_J2 (v1 : Ask × List Cell × List UInt8 × List UInt8 × Bool × Int) (v2 : Ask × List Cell × List UInt8 × List UInt8 × Bool) : Option ((Ask × List Cell × List UInt8 × List UInt8 × Bool × Int) ⊕ (List Cell)) :=
 some (Sum.inl (v2.1, v2.2.1, v2.2.2.1, v2.2.2.2.1, v2.2.2.2.2, w64 (v1.2.2.2.2.2 + 1)))
noncomputable def cell_Seen_B1 (l : List Cell) (v1 : Ask × List Cell × List UInt8 × List UInt8 × Bool × Int) : Option ((Ask × List Cell × List UInt8 × List UInt8 × Bool × Int) ⊕ (List Cell)) :=
 if (decide (v1.2.2.2.2.2 < (l.length : Int))) = true then
  asrt (0 ≤ v1.2.2.2.2.2 ∧ v1.2.2.2.2.2 < (l.length : Int)) <|
  if (((Op.bytesLess ((lget l v1.2.2.2.2.2).Row) v1.1.From) || ((!decide (v1.1.To = ([] : List UInt8))) && (!Op.bytesLess ((lget l v1.2.2.2.2.2).Row) v1.1.To))) || (decide (v1.1.Time < ((lget l v1.2.2.2.2.2).Time)))) = true then
   cell_Seen_J2 v1 (v1.1, v1.2.1, v1.2.2.1, v1.2.2.2.1, v1.2.2.2.2.1)
  else
   if ((v1.2.2.2.2.1 && (decide (((lget l v1.2.2.2.2.2).Row) = v1.2.2.1))) && (decide (((lget l v1.2.2.2.2.2).Col) = v1.2.2.2.1))) = true then
    cell_Seen_J2 v1 (v1.1, v1.2.1, v1.2.2.1, v1.2.2.2.1, v1.2.2.2.2.1)
   else
    if ((lget l v1.2.2.2.2.2).Gone) = true then
     cell_Seen_J2 v1 (v1.1, v1.2.1, (lget l v1.2.2.2.2.2).Row, (lget l v1.2.2.2.2.2).Col, true)
    else
     if (decide ((v1.2.1.length : Int) = v1.1.Many)) = true then
      inrO (cell_Seen_J1 v1.2.1)
     else
      asrt (((v1.2.1 ++ [(⟨(lget l v1.2.2.2.2.2).Row, (lget l v1.2.2.2.2.2).Col, (lget l v1.2.2.2.2.2).Time, (lget l v1.2.2.2.2.2).Gone, (lget l v1.2.2.2.2.2).Value⟩ : Cell)]).length : Int) * 64 ≤ 140737488351232) <|
      lt ((v1.2.1 ++ [(⟨(lget l v1.2.2.2.2.2).Row, (lget l v1.2.2.2.2.2).Col, (lget l v1.2.2.2.2.2).Time, (lget l v1.2.2.2.2.2).Gone, (lget l v1.2.2.2.2.2).Value⟩ : Cell)])) fun (v3 : List Cell) =>
      cell_Seen_J2 v1 (v1.1, v3, (lget l v1.2.2.2.2.2).Row, (lget l v1.2.2.2.2.2).Col, true)
 else
  inrO (cell_Seen_J1 v1.2.1)
noncomputable def cell_Seen_L1 (l : List Cell) (v0 : Ask × List Cell × List UInt8 × List UInt8 × Bool × Int) : Option (List Cell) :=
 loopO (fun y => cell_Seen_B1 l y) v0
noncomputable def cell_Seen (l : List Cell) (a0 : Ask) : Option (List Cell) :=
 cell_Seen_L1 l (a0, ([] : List Cell), ([] : List UInt8), ([] : List UInt8), false, 0)

/- cell.Scan -/
noncomputable def cell_Scan_v1 (l : List Cell) (a0 : Ask) : Option (List Cell × Fault) :=
 ob (cell_Check l) fun x =>
 if (!decide (x.Code = 0)) = true then
  some (([] : List Cell), x)
 else
  lt (cell_Asked a0) fun x1 =>
  if (!decide (x1.Code = 0)) = true then
   some (([] : List Cell), x1)
  else
   ob (cell_Seen l a0) fun x2 =>
   some (x2, (⟨0, 0⟩ : Fault))

/- tabularyref.F -/
noncomputable def R_F (code : Int) (at0 : Int) : Fault :=
 (⟨code, at0⟩ : Fault)
theorem R_F_ok (code : Int) (at0 : Int) (r : Fault) (hF : R_F code at0 = r) : Pe Try.prog 17 S.none [.i code, .i at0] (.agg (c_Fault r)) S.none := by
 refine PeN 8 [.cell 4 28] [28] Ty.ok Fn.b17 Try.func17 ?_
 intro Q g hfin
 unfold R_F at hF
 refine VR [] [0, 1, 4] [4] [] [] [(4, .ptr 4 0)] [(4, [.i 0, .i 0])] [] [] .nil ?_
 refine VR [] [4] [4] [] [] [] [(4, [.i code, .i at0])] [] [] .nil ?_
 cases hF
 exact Wk_ret (hfin _ ⟨[], [], [], [], [], [], by kernel_rfl⟩)

/- tabularyref.CellCode -/
noncomputable def R_CellCode (c : Cell) : Int :=
 if ((((decide (c.Row = ([] : List UInt8))) || (decide (40 < (c.Row.length : Int)))) || (decide (40 < (c.Col.length : Int)))) || (decide (200 < (c.Value.length : Int)))) = true then
  8
 else
  if ((decide (c.Time < 0)) || (decide (1000000000 < c.Time))) = true then
   3
  else
   if (c.Gone && (!decide (c.Value = ([] : List UInt8)))) = true then
    5
   else
    0
theorem R_CellCode_ok (c : Cell) (r : Int) (hF : R_CellCode c = r) : Pe Try.prog 44 S.none [.agg (c_Cell c)] (.i r) S.none := by
 refine PeN 39 [.tmp 2] [3] Ty.ok Fn.b44 Try.func44 ?_
 intro Q g hfin
 unfold R_CellCode at hF
 refine VR [] [1] [1] [] [] [(1, .ptr 1 0)] [(1, (c_Cell c))] [] [] .nil ?_
 refine NR [] [1, 23] [1] [] [(23, .bool ((((decide (c.Row = ([] : List UInt8))) || (decide (40 < (c.Row.length : Int)))) || (decide (40 < (c.Col.length : Int)))) || (decide (200 < (c.Value.length : Int)))))] .nil ?_
 refine Nif hF (fun hb hF => ?_) (fun hb hF => ?_)
 ·refine NR [] [2] [] [] [(2, .i 8)] .nil ?_
  cases hF
  exact Wk_ret (hfin _ ⟨[], [], [], [], [], [], by kernel_rfl⟩)
 ·refine NR [] [1, 31] [1] [] [(31, .bool ((decide (c.Time < 0)) || (decide (1000000000 < c.Time))))] .nil ?_
  refine Nif hF (fun hb hF => ?_) (fun hb hF => ?_)
  ·refine NR [] [2] [] [] [(2, .i 3)] .nil ?_
   cases hF
   exact Wk_ret (hfin _ ⟨[], [], [], [], [], [], by kernel_rfl⟩)
  ·refine NR [] [38] [] [] [(38, .bool (c.Gone && (!decide (c.Value = ([] : List UInt8)))))] .nil ?_
   refine Nif hF (fun hb hF => ?_) (fun hb hF => ?_)
   ·refine NR [] [2] [] [] [(2, .i 5)] .nil ?_
    cases hF
    exact Wk_ret (hfin _ ⟨[], [], [], [], [], [], by kernel_rfl⟩)
   ·refine NR [] [2] [] [] [(2, .i 0)] .nil ?_
    cases hF
    exact Wk_ret (hfin _ ⟨[], [], [], [], [], [], by kernel_rfl⟩)

/- tabularyref.Ahead -/
noncomputable def R_Ahead (a0 : Cell) (b : Cell) : Bool :=
 if (!decide (a0.Row = b.Row)) = true then
  Op.bytesLess a0.Row b.Row
 else
  if (!decide (a0.Col = b.Col)) = true then
   Op.bytesLess a0.Col b.Col
  else
   decide (b.Time < a0.Time)
theorem R_Ahead_ok (a0 : Cell) (b : Cell) (r : Bool) (hF : R_Ahead a0 b = r) : Pe Try.prog 52 S.none [.agg (c_Cell a0), .agg (c_Cell b)] (.bool r) S.none := by
 refine PeN 30 [.tmp 4] [4] Ty.ok Fn.b52 Try.func52 ?_
 intro Q g hfin
 unfold R_Ahead at hF
 refine VR [] [2, 3] [2, 3] [] [] [(2, .ptr 2 0), (3, .ptr 3 0)] [(2, (c_Cell a0)), (3, (c_Cell b))] [] [] .nil ?_
 refine NR [] [2, 3, 9] [2, 3] [] [(9, .bool (!decide (a0.Row = b.Row)))] .nil ?_
 refine Nif hF (fun hb hF => ?_) (fun hb hF => ?_)
 ·refine NR [] [4] [] [] [(4, .bool (Op.bytesLess a0.Row b.Row))] .nil ?_
  cases hF
  exact Wk_ret (hfin _ ⟨[], [], [], [], [], [], by kernel_rfl⟩)
 ·refine NR [] [2, 3, 19] [2, 3] [] [(19, .bool (!decide (a0.Col = b.Col)))] .nil ?_
  refine Nif hF (fun hb hF => ?_) (fun hb hF => ?_)
  ·refine NR [] [4] [] [] [(4, .bool (Op.bytesLess a0.Col b.Col))] .nil ?_
   cases hF
   exact Wk_ret (hfin _ ⟨[], [], [], [], [], [], by kernel_rfl⟩)
  ·refine NR [] [4] [] [] [(4, .bool (decide (b.Time < a0.Time)))] .nil ?_
   cases hF
   exact Wk_ret (hfin _ ⟨[], [], [], [], [], [], by kernel_rfl⟩)

/- tabularyref.CellsFault -/
noncomputable def R_CellsFault_J1 (v : Fault) : Option Fault :=
 some (⟨0, 0⟩ : Fault)
noncomputable def R_CellsFault_B1 (l : List Cell) (v1 : Fault × Int) : Option ((Fault × Int) ⊕ Fault) :=
 if (decide (v1.2 < (l.length : Int))) = true then
  asrt (0 ≤ v1.2 ∧ v1.2 < (l.length : Int)) <|
  lt (R_CellCode (⟨(lget l v1.2).Row, (lget l v1.2).Col, (lget l v1.2).Time, (lget l v1.2).Gone, (lget l v1.2).Value⟩ : Cell)) fun x1 =>
  if (!decide (x1 = 0)) = true then
   lt (R_F x1 v1.2) fun x2 =>
   some (Sum.inr x2)
  else
   asrt ((decide (0 < v1.2)) = true → 0 ≤ w64 (v1.2 - 1) ∧ w64 (v1.2 - 1) < (l.length : Int)) <|
   asrt ((decide (0 < v1.2)) = true → 0 ≤ v1.2 ∧ v1.2 < (l.length : Int)) <|
   lt (R_Ahead (⟨(lget l (w64 (v1.2 - 1))).Row, (lget l (w64 (v1.2 - 1))).Col, (lget l (w64 (v1.2 - 1))).Time, (lget l (w64 (v1.2 - 1))).Gone, (lget l (w64 (v1.2 - 1))).Value⟩ : Cell) (⟨(lget l v1.2).Row, (lget l v1.2).Col, (lget l v1.2).Time, (lget l v1.2).Gone, (lget l v1.2).Value⟩ : Cell)) fun x3 =>
   if ((decide (0 < v1.2)) && (!x3)) = true then
    lt (R_F 10 v1.2) fun x4 =>
    some (Sum.inr x4)
   else
    some (Sum.inl (v1.1, w64 (v1.2 + 1)))
 else
  inrO (R_CellsFault_J1 v1.1)
noncomputable def R_CellsFault_L1 (l : List Cell) (v0 : Fault × Int) : Option Fault :=
 loopO (fun y => R_CellsFault_B1 l y) v0
noncomputable def R_CellsFault (l : List Cell) : Option Fault :=
 if (decide (1000 < (l.length : Int))) = true then
  lt (R_F 2 0) fun x =>
  some x
 else
  R_CellsFault_L1 l ((⟨0, 0⟩ : Fault), 0)
theorem R_CellsFault_ok (l : List Cell) (r : Fault) (hF : R_CellsFault l = some r) : Pe Try.prog 16 S.none [.sl 5 (l.map e_Cell)] (.agg (c_Fault r)) S.none := by
 refine PeN 43 [.cell 2 28] [28] Ty.ok Fn.b16 Try.func16 ?_
 intro Q g hfin
 unfold R_CellsFault at hF
 refine VR [] [0, 2] [2] [] [] [(2, .ptr 2 0)] [(2, [.i 0, .i 0])] [] [] .nil ?_
 refine NR [.nat (l.length : Int)] [0, 2, 7] [2] [] [(7, .bool (decide (1000 < (l.length : Int))))] (hc (len_ok e_Cell l) .nil) ?_
 refine Nif hF (fun hb hF => ?_) (fun hb hF => ?_)
 ·obtain ⟨x, h0, hF⟩ := lt_split hF
  refine VR [.callB (.agg (c_Fault x))] [2] [2] [] [] [] [(2, (c_Fault x))] [] [] (hc (R_F_ok 2 0 x h0) .nil) ?_
  cases hF
  exact Wk_ret (hfin _ ⟨[], [], [], [], [], [], by kernel_rfl⟩)
 ·refine NR [] [0, 2, 3] [2] [] [(3, .i 0)] .nil ?_
  refine NmeetP (fun v : Fault => (⟨[(2, .ptr 2 0)], [(2, (c_Fault v))], [], [], []⟩ : S)) (fun v => R_CellsFault_J1 v = some r) ?_ ?_
  ·refine Nblk ?_
   unfold R_CellsFault_L1 at hF
   refine Niter (fun v1 : Fault × Int => (⟨[(0, .sl 5 (l.map e_Cell)), (2, .ptr 2 0), (3, .i v1.2)], [(2, (c_Fault v1.1))], [], [], []⟩ : S)) [] hF (by kernel_rfl) ?_
   intro n1 v1 y1 hF ih1 dn1
   unfold R_CellsFault_B1 at hF
   refine NR [.nat (l.length : Int)] [0, 2, 3, 12] [2] [] [(12, .bool (decide (v1.2 < (l.length : Int))))] (hc (len_ok e_Cell l) .nil) ?_
   refine Nif hF (fun hb hF => ?_) (fun hb hF => ?_)
   ·refine Nblk ?_
    obtain ⟨h1, hF⟩ := asrt_elim hF
    obtain ⟨x1, h2, hF⟩ := lt_split hF
    refine NR [.av (e_Cell (lget l v1.2)), .callB (.i x1)] [0, 2, 3, 4] [2] [] [(4, .i x1)] (hc (idx_ok e_Cell h1) (hc (R_CellCode_ok (⟨(lget l v1.2).Row, (lget l v1.2).Col, (lget l v1.2).Time, (lget l v1.2).Gone, (lget l v1.2).Value⟩ : Cell) x1 h2) .nil)) ?_
    refine NR [] [0, 2, 3, 4, 21] [2] [] [(21, .bool (!decide (x1 = 0)))] .nil ?_
    refine Nif hF (fun hb hF => ?_) (fun hb hF => ?_)
    ·obtain ⟨x2, h3, hF⟩ := lt_split hF
     refine VR [.callB (.agg (c_Fault x2))] [2] [2] [] [] [] [(2, (c_Fault x2))] [] [] (hc (R_F_ok x1 v1.2 x2 h3) .nil) ?_
     have hF := ret_done hF dn1
     cases hF
     exact Wk_ret (hfin _ ⟨[], [], [], [], [], [], by kernel_rfl⟩)
    ·obtain ⟨h4, hF⟩ := asrt_elim hF
     obtain ⟨h5, hF⟩ := asrt_elim hF
     obtain ⟨x3, h6, hF⟩ := lt_split hF
     refine ND [.av (e_Cell (lget l (w64 (v1.2 - 1)))), .av (e_Cell (lget l v1.2)), .callB (.bool x3)] [0, 2, 3, 39] [2] [] [(39, .bool ((decide (0 < v1.2)) && (!x3)))] (hc (fun (ga0 : (decide (0 < v1.2)) = true) => (idx_ok e_Cell (h4 ga0))) (hc (fun (ga0 : (decide (0 < v1.2)) = true) => (idx_ok e_Cell (h5 ga0))) (hc (fun (ga0 : (decide (0 < v1.2)) = true) => (R_Ahead_ok (⟨(lget l (w64 (v1.2 - 1))).Row, (lget l (w64 (v1.2 - 1))).Col, (lget l (w64 (v1.2 - 1))).Time, (lget l (w64 (v1.2 - 1))).Gone, (lget l (w64 (v1.2 - 1))).Value⟩ : Cell) (⟨(lget l v1.2).Row, (lget l v1.2).Col, (lget l v1.2).Time, (lget l v1.2).Gone, (lget l v1.2).Value⟩ : Cell) x3 h6)) .nil))) ?_
     refine Nif hF (fun hb hF => ?_) (fun hb hF => ?_)
     ·obtain ⟨x4, h7, hF⟩ := lt_split hF
      refine VR [.callB (.agg (c_Fault x4))] [2] [2] [] [] [] [(2, (c_Fault x4))] [] [] (hc (R_F_ok 10 v1.2 x4 h7) .nil) ?_
      have hF := ret_done hF dn1
      cases hF
      exact Wk_ret (hfin _ ⟨[], [], [], [], [], [], by kernel_rfl⟩)
     ·refine NR [] [0, 2, 3] [2] [] [(3, .i (w64 (v1.2 + 1)))] .nil ?_
      exact Nrnd [] hF ih1 (by kernel_rfl)
   ·refine Nexit rfl ?_
    have hF := inrO_done hF dn1
    exact metP v1.1 [] hF (by kernel_rfl)
  ·intro v hF
   have hF : R_CellsFault_J1 v = some r := hF
   unfold R_CellsFault_J1 at hF
   refine VR [] [2] [2] [] [] [] [(2, [.i 0, .i 0])] [] [] .nil ?_
   cases hF
   exact Wk_ret (hfin _ ⟨[], [], [], [], [], [], by kernel_rfl⟩)

/- tabularyref.SeenCell -/
noncomputable def R_SeenCell_J1 (l : List Cell) (v : Cell × Int) : Option (Cell × Bool) :=
 asrt ((!(decide (v.2 < 0))) = true → 0 ≤ v.2 ∧ v.2 < (l.length : Int)) <|
 if ((decide (v.2 < 0)) || ((lget l v.2).Gone)) = true then
  some ((⟨([] : List UInt8), ([] : List UInt8), 0, false, ([] : List UInt8)⟩ : Cell), false)
 else
  asrt (0 ≤ v.2 ∧ v.2 < (l.length : Int)) <|
  some ((⟨(lget l v.2).Row, (lget l v.2).Col, (lget l v.2).Time, (lget l v.2).Gone, (lget l v.2).Value⟩ : Cell), true)
noncomputable def R_SeenCell_B1 (l : List Cell) (row : List UInt8) (col : List UInt8) (time : Int) (v1 : Cell × Int × Int) : Option ((Cell × Int × Int) ⊕ (Cell × Bool)) :=
 if (decide (v1.2.2 < (l.length : Int))) = true then
  asrt (0 ≤ v1.2.2 ∧ v1.2.2 < (l.length : Int)) <|
  asrt ((decide (((lget l v1.2.2).Row) = row)) = true → 0 ≤ v1.2.2 ∧ v1.2.2 < (l.length : Int)) <|
  asrt (((decide (((lget l v1.2.2).Row) = row)) && (decide (((lget l v1.2.2).Col) = col))) = true → 0 ≤ v1.2.2 ∧ v1.2.2 < (l.length : Int)) <|
  asrt ((!(decide (v1.2.1 < 0))) = true → (((decide (((lget l v1.2.2).Row) = row)) && (decide (((lget l v1.2.2).Col) = col))) && (decide (((lget l v1.2.2).Time) ≤ time))) = true → 0 ≤ v1.2.2 ∧ v1.2.2 < (l.length : Int)) <|
  asrt ((!(decide (v1.2.1 < 0))) = true → (((decide (((lget l v1.2.2).Row) = row)) && (decide (((lget l v1.2.2).Col) = col))) && (decide (((lget l v1.2.2).Time) ≤ time))) = true → 0 ≤ v1.2.1 ∧ v1.2.1 < (l.length : Int)) <|
  ob (
   if ((((decide (((lget l v1.2.2).Row) = row)) && (decide (((lget l v1.2.2).Col) = col))) && (decide (((lget l v1.2.2).Time) ≤ time))) && ((decide (v1.2.1 < 0)) || (decide (((lget l v1.2.1).Time) < ((lget l v1.2.2).Time))))) = true then
    some (v1.1, v1.2.2)
   else
    some (v1.1, v1.2.1)) fun (v2 : Cell × Int) =>
  some (Sum.inl (v2.1, v2.2, w64 (v1.2.2 + 1)))
 else
  inrO (R_SeenCell_J1 l (v1.1, v1.2.1))
noncomputable def R_SeenCell_L1 (l : List Cell) (row : List UInt8) (col : List UInt8) (time : Int) (v0 : Cell × Int × Int) : Option (Cell × Bool) :=
 loopO (fun y => R_SeenCell_B1 l row col time y) v0
noncomputable def R_SeenCell (l : List Cell) (row : List UInt8) (col : List UInt8) (time : Int) : Option (Cell × Bool) :=
 R_SeenCell_L1 l row col time ((⟨([] : List UInt8), ([] : List UInt8), 0, false, ([] : List UInt8)⟩ : Cell), (-1), 0)

/- tabularyref.AskFault -/
noncomputable def R_AskFault (a0 : Ask) : Fault :=
 if ((decide (a0.Time < 0)) || (decide (1000000000 < a0.Time))) = true then
  lt (R_F 3 (-1)) fun x =>
  x
 else
  if ((decide (a0.Many < 0)) || (decide (1000 < a0.Many))) = true then
   lt (R_F 3 (-2)) fun x1 =>
   x1
  else
   (⟨0, 0⟩ : Fault)

/- tabularyref.Scanned -/
noncomputable def R_Scanned_v1_J1 (v : List Cell) : Option (List Cell) :=
 some v
noncomputable def R_Scanned_v1_B1 (l : List Cell) (v1 : Ask × List Cell × Int) : Option ((Ask × List Cell × Int) ⊕ (List Cell)) :=
 if ((decide (v1.2.2 < (l.length : Int))) && (decide ((v1.2.1.length : Int) < v1.1.Many))) = true then
  ob (
   asrt (0 ≤ v1.2.2 ∧ v1.2.2 < (l.length : Int)) <|
   if ((Op.bytesLess ((lget l v1.2.2).Row) v1.1.From) || ((!decide (v1.1.To = ([] : List UInt8))) && (!Op.bytesLess ((lget l v1.2.2).Row) v1.1.To))) = true then
    some (v1.1, v1.2.1)
   else
    ob (R_SeenCell l ((lget l v1.2.2).Row) ((lget l v1.2.2).Col) v1.1.Time) fun x =>
    if (x.2 && (decide (x.1.Row = (lget l v1.2.2).Row) && (decide (x.1.Col = (lget l v1.2.2).Col) && (decide (x.1.Time = (lget l v1.2.2).Time) && ((x.1.Gone == ((lget l v1.2.2).Gone)) && (decide (x.1.Value = (lget l v1.2.2).Value) && true)))))) = true then
     asrt (((v1.2.1 ++ [(⟨(lget l v1.2.2).Row, (lget l v1.2.2).Col, (lget l v1.2.2).Time, (lget l v1.2.2).Gone, (lget l v1.2.2).Value⟩ : Cell)]).length : Int) * 64 ≤ 140737488351232) <|
     lt ((v1.2.1 ++ [(⟨(lget l v1.2.2).Row, (lget l v1.2.2).Col, (lget l v1.2.2).Time, (lget l v1.2.2).Gone, (lget l v1.2.2).Value⟩ : Cell)])) fun (v3 : List Cell) =>
     some (v1.1, v3)
    else
     some (v1.1, v1.2.1)) fun (v2 : Ask × List Cell) =>
  some (Sum.inl (v2.1, v2.2, w64 (v1.2.2 + 1)))
 else
  inrO (R_Scanned_v1_J1 v1.2.1)
noncomputable def R_Scanned_v1_L1 (l : List Cell) (v0 : Ask × List Cell × Int) : Option (List Cell) :=
 loopO (fun y => R_Scanned_v1_B1 l y) v0
noncomputable def R_Scanned_v1 (l : List Cell) (a0 : Ask) : Option (List Cell) :=
 R_Scanned_v1_L1 l (a0, ([] : List Cell), 0)

/- tabularylaw.CellAsks$1 -/
noncomputable def law_CellAsks_1 (box : List Cell) (box1 : Ask) : Option (List Cell) :=
 ob (R_Scanned_v1 box box1) fun x =>
 some x

/- tabularyref.SameCells -/
noncomputable def R_SameCells_J1 (v : Unit) : Option Bool :=
 some true
noncomputable def R_SameCells_B1 (a0 : List Cell) (b : List Cell) (v1 : Int) : Option (Int ⊕ Bool) :=
 if (decide (v1 < (a0.length : Int))) = true then
  asrt (0 ≤ v1 ∧ v1 < (a0.length : Int)) <|
  asrt (0 ≤ v1 ∧ v1 < (b.length : Int)) <|
  if (!(decide ((lget a0 v1).Row = (lget b v1).Row) && (decide ((lget a0 v1).Col = (lget b v1).Col) && (decide ((lget a0 v1).Time = (lget b v1).Time) && ((((lget a0 v1).Gone) == ((lget b v1).Gone)) && (decide ((lget a0 v1).Value = (lget b v1).Value) && true)))))) = true then
   some (Sum.inr false)
  else
   some (Sum.inl (w64 (v1 + 1)))
 else
  inrO (R_SameCells_J1 ())
noncomputable def R_SameCells_L1 (a0 : List Cell) (b : List Cell) (v0 : Int) : Option Bool :=
 loopO (fun y => R_SameCells_B1 a0 b y) v0
noncomputable def R_SameCells (a0 : List Cell) (b : List Cell) : Option Bool :=
 if (!decide ((a0.length : Int) = (b.length : Int))) = true then
  some false
 else
  R_SameCells_L1 a0 b 0
theorem R_SameCells_ok (a0 : List Cell) (b : List Cell) (r : Bool) (hF : R_SameCells a0 b = some r) : Pe Try.prog 31 S.none [.sl 5 (a0.map e_Cell), .sl 5 (b.map e_Cell)] (.bool r) S.none := by
 refine PeN 26 [.tmp 4] [4] Ty.ok Fn.b31 Try.func31 ?_
 intro Q g hfin
 unfold R_SameCells at hF
 refine NR [] [0, 1] [] [] [] .nil ?_
 refine NR [.nat (a0.length : Int), .nat (b.length : Int)] [0, 1, 10] [] [] [(10, .bool (!decide ((a0.length : Int) = (b.length : Int))))] (hc (len_ok e_Cell a0) (hc (len_ok e_Cell b) .nil)) ?_
 refine Nif hF (fun hb hF => ?_) (fun hb hF => ?_)
 ·refine NR [] [4] [] [] [(4, .bool false)] .nil ?_
  cases hF
  exact Wk_ret (hfin _ ⟨[], [], [], [], [], [], by kernel_rfl⟩)
 ·refine NR [] [0, 1, 5] [] [] [(5, .i 0)] .nil ?_
  refine NmeetP (fun v : Unit => (S.none : S)) (fun v => R_SameCells_J1 v = some r) ?_ ?_
  ·refine Nblk ?_
   unfold R_SameCells_L1 at hF
   refine Niter (fun v1 : Int => (⟨[(0, .sl 5 (a0.map e_Cell)), (1, .sl 5 (b.map e_Cell)), (5, .i v1)], [], [], [], []⟩ : S)) [] hF (by kernel_rfl) ?_
   intro n1 v1 y1 hF ih1 dn1
   unfold R_SameCells_B1 at hF
   refine NR [.nat (a0.length : Int)] [0, 1, 5, 14] [] [] [(14, .bool (decide (v1 < (a0.length : Int))))] (hc (len_ok e_Cell a0) .nil) ?_
   refine Nif hF (fun hb hF => ?_) (fun hb hF => ?_)
   ·refine Nblk ?_
    obtain ⟨h0, h1, hF⟩ := asrt2 hF
    refine ND [.av (e_Cell (lget a0 v1)), .av (e_Cell (lget b v1))] [0, 1, 5, 25] [] [] [(25, .bool (!(decide ((lget a0 v1).Row = (lget b v1).Row) && (decide ((lget a0 v1).Col = (lget b v1).Col) && (decide ((lget a0 v1).Time = (lget b v1).Time) && ((((lget a0 v1).Gone) == ((lget b v1).Gone)) && (decide ((lget a0 v1).Value = (lget b v1).Value) && true)))))))] (hc (idx_ok e_Cell h0) (hc (idx_ok e_Cell h1) .nil)) ?_
    refine Nif hF (fun hb hF => ?_) (fun hb hF => ?_)
    ·refine NR [] [4] [] [] [(4, .bool false)] .nil ?_
     have hF := ret_done hF dn1
     cases hF
     exact Wk_ret (hfin _ ⟨[], [], [], [], [], [], by kernel_rfl⟩)
    ·refine NR [] [0, 1, 5] [] [] [(5, .i (w64 (v1 + 1)))] .nil ?_
     exact Nrnd [] hF ih1 (by kernel_rfl)
   ·refine Nexit rfl ?_
    have hF := inrO_done hF dn1
    exact metP () [] hF (by kernel_rfl)
  ·intro v hF
   have hF : R_SameCells_J1 v = some r := hF
   unfold R_SameCells_J1 at hF
   refine NR [] [4] [] [] [(4, .bool true)] .nil ?_
   cases hF
   exact Wk_ret (hfin _ ⟨[], [], [], [], [], [], by kernel_rfl⟩)

/- tabularylaw.cellsAs -/
noncomputable def law_cellsAs (l : List Cell) (f : Fault) (w0 : Fault) (box : List Cell) (box1 : Ask) : Option Bool :=
 if (!(decide (f.Code = w0.Code) && (decide (f.At = w0.At) && true))) = true then
  some false
 else
  if (!decide (w0.Code = 0)) = true then
   some (decide ((l.length : Int) = 0))
  else
   ob (law_CellAsks_1 box box1) fun x =>
   ob (R_SameCells l x) fun x1 =>
   some x1

/- tabularylaw.CellAsks -/
noncomputable def law_CellAsks_J1 (l : List Cell) (x5 : List Cell × Fault) (v1 : Ask × Fault × Fault) : Option Bool :=
 ob (
  if (decide (v1.2.2.Code = 0)) = true then
   lt (R_AskFault v1.1) fun x8 =>
   some (v1.1, v1.2.1, x8)
  else
   some (v1.1, v1.2.1, v1.2.2)) fun (v2 : Ask × Fault × Fault) =>
 if ((decide (v2.2.2.Code = 0)) && (decide (150 < (l.length : Int)))) = true then
  some (decide (v2.2.1.Code = 0))
 else
  ob (law_cellsAs x5.1 v2.2.1 v2.2.2 l v2.1) fun x9 =>
  some x9
noncomputable def law_CellAsks (l : List Cell) (row : List UInt8) (col : List UInt8) (a0 : Ask) : Option Bool :=
 ob (law_cellBegun) fun x =>
 if (!x) = true then
  some false
 else
  lt (law_many (l.length : Int)) fun x1 =>
  if x1 = true then
   some true
  else
   ob (law_ownCells_v1 l) fun x2 =>
   ob (cell_Get x2 row col a0.Time) fun x3 =>
   ob (law_ownCells_v1 l) fun x4 =>
   ob (cell_Scan_v1 x4 a0) fun x5 =>
   ob (R_CellsFault l) fun x6 =>
   ob (
    if ((decide (x6.Code = 0)) && ((decide (a0.Time < 0)) || (decide (1000000000 < a0.Time)))) = true then
     lt (R_F 3 (-1)) fun x7 =>
     some (a0, x3.2.2, x5.2, x6, x7)
    else
     some (a0, x3.2.2, x5.2, x6, x6)) fun (v : Ask × Fault × Fault × Fault × Fault) =>
   if ((!(decide (v.2.1.Code = v.2.2.2.2.Code) && (decide (v.2.1.At = v.2.2.2.2.At) && true))) || ((!decide (v.2.2.2.2.Code = 0)) && ((!decide (x3.1 = ([] : List UInt8))) || x3.2.1))) = true then
    some false
   else
    if (decide (v.2.2.2.2.Code = 0)) = true then
     ob (R_SeenCell l row col v.1.Time) fun x10 =>
     if ((!(x3.2.1 == x10.2)) || (!decide (x3.1 = x10.1.Value))) = true then
      some false
     else
      law_CellAsks_J1 l x5 (v.1, v.2.2.1, v.2.2.2.1)
    else
     law_CellAsks_J1 l x5 (v.1, v.2.2.1, v.2.2.2.1)

/- tabularylaw.CellScans -/
noncomputable def law_CellScans_J2 (x1 : List Cell × Fault) (v1 : Int) : Option Bool :=
 some (decide (v1 = (x1.1.length : Int)))
noncomputable def law_CellScans_J3 (v2 : Ask × Int × Int) (v3 : Ask × Int) : Option ((Ask × Int × Int) ⊕ Bool) :=
 some (Sum.inl (v3.1, v3.2, w64 (v2.2.2 + 1)))
noncomputable def law_CellScans_B1 (l : List Cell) (x1 : List Cell × Fault) (v2 : Ask × Int × Int) : Option ((Ask × Int × Int) ⊕ Bool) :=
 if (decide (v2.2.2 < (l.length : Int))) = true then
  asrt ((decide (0 < v2.2.2)) = true → 0 ≤ w64 (v2.2.2 - 1) ∧ w64 (v2.2.2 - 1) < (l.length : Int)) <|
  asrt ((decide (0 < v2.2.2)) = true → 0 ≤ v2.2.2 ∧ v2.2.2 < (l.length : Int)) <|
  asrt (((decide (0 < v2.2.2)) && (decide (((lget l (w64 (v2.2.2 - 1))).Row) = ((lget l v2.2.2).Row)))) = true → 0 ≤ w64 (v2.2.2 - 1) ∧ w64 (v2.2.2 - 1) < (l.length : Int)) <|
  asrt (((decide (0 < v2.2.2)) && (decide (((lget l (w64 (v2.2.2 - 1))).Row) = ((lget l v2.2.2).Row)))) = true → 0 ≤ v2.2.2 ∧ v2.2.2 < (l.length : Int)) <|
  asrt ((!(((decide (0 < v2.2.2)) && (decide (((lget l (w64 (v2.2.2 - 1))).Row) = ((lget l v2.2.2).Row)))) && (decide (((lget l (w64 (v2.2.2 - 1))).Col) = ((lget l v2.2.2).Col))))) = true → 0 ≤ v2.2.2 ∧ v2.2.2 < (l.length : Int)) <|
  asrt ((!decide (v2.1.To = ([] : List UInt8))) = true → (!((((decide (0 < v2.2.2)) && (decide (((lget l (w64 (v2.2.2 - 1))).Row) = ((lget l v2.2.2).Row)))) && (decide (((lget l (w64 (v2.2.2 - 1))).Col) = ((lget l v2.2.2).Col)))) || (Op.bytesLess ((lget l v2.2.2).Row) v2.1.From))) = true → 0 ≤ v2.2.2 ∧ v2.2.2 < (l.length : Int)) <|
  if (((((decide (0 < v2.2.2)) && (decide (((lget l (w64 (v2.2.2 - 1))).Row) = ((lget l v2.2.2).Row)))) && (decide (((lget l (w64 (v2.2.2 - 1))).Col) = ((lget l v2.2.2).Col)))) || (Op.bytesLess ((lget l v2.2.2).Row) v2.1.From)) || ((!decide (v2.1.To = ([] : List UInt8))) && (!Op.bytesLess ((lget l v2.2.2).Row) v2.1.To))) = true then
   law_CellScans_J3 v2 (v2.1, v2.2.1)
  else
   asrt (0 ≤ v2.2.2 ∧ v2.2.2 < (l.length : Int)) <|
   asrt (0 ≤ v2.2.2 ∧ v2.2.2 < (l.length : Int)) <|
   ob (cell_Get l ((lget l v2.2.2).Row) ((lget l v2.2.2).Col) v2.1.Time) fun x2 =>
   if (!decide (x2.2.2.Code = 0)) = true then
    some (Sum.inr false)
   else
    if x2.2.1 = true then
     law_CellScans_J3 v2 (v2.1, w64 (v2.2.1 + 1))
    else
     law_CellScans_J3 v2 (v2.1, v2.2.1)
 else
  inrO (law_CellScans_J2 x1 v2.2.1)
noncomputable def law_CellScans_L1 (l : List Cell) (x1 : List Cell × Fault) (v0 : Ask × Int × Int) : Option Bool :=
 loopO (fun y => law_CellScans_B1 l x1 y) v0
noncomputable def law_CellScans_J1 (l : List Cell) (x1 : List Cell × Fault) (v : Ask) : Option Bool :=
 if (decide ((x1.1.length : Int) = v.Many)) = true then
  some true
 else
  law_CellScans_L1 l x1 (v, 0, 0)
noncomputable def law_CellScans_B2 (l : List Cell) (x1 : List Cell × Fault) (v4 : Ask × Int) : Option ((Ask × Int) ⊕ Bool) :=
 if (decide (v4.2 < (x1.1.length : Int))) = true then
  asrt (0 ≤ v4.2 ∧ v4.2 < (x1.1.length : Int)) <|
  asrt (0 ≤ v4.2 ∧ v4.2 < (x1.1.length : Int)) <|
  ob (cell_Get l ((lget x1.1 v4.2).Row) ((lget x1.1 v4.2).Col) v4.1.Time) fun x3 =>
  asrt ((!((!decide (x3.2.2.Code = 0)) || (!x3.2.1))) = true → 0 ≤ v4.2 ∧ v4.2 < (x1.1.length : Int)) <|
  asrt ((decide (0 < v4.2)) = true → (!(((!decide (x3.2.2.Code = 0)) || (!x3.2.1)) || (!decide (x3.1 = ((lget x1.1 v4.2).Value))))) = true → 0 ≤ v4.2 ∧ v4.2 < (x1.1.length : Int)) <|
  asrt ((decide (0 < v4.2)) = true → (!(((!decide (x3.2.2.Code = 0)) || (!x3.2.1)) || (!decide (x3.1 = ((lget x1.1 v4.2).Value))))) = true → 0 ≤ w64 (v4.2 - 1) ∧ w64 (v4.2 - 1) < (x1.1.length : Int)) <|
  asrt ((!(Op.bytesLess ((lget x1.1 v4.2).Row) ((lget x1.1 (w64 (v4.2 - 1))).Row))) = true → (decide (0 < v4.2)) = true → (!(((!decide (x3.2.2.Code = 0)) || (!x3.2.1)) || (!decide (x3.1 = ((lget x1.1 v4.2).Value))))) = true → 0 ≤ v4.2 ∧ v4.2 < (x1.1.length : Int)) <|
  asrt ((!(Op.bytesLess ((lget x1.1 v4.2).Row) ((lget x1.1 (w64 (v4.2 - 1))).Row))) = true → (decide (0 < v4.2)) = true → (!(((!decide (x3.2.2.Code = 0)) || (!x3.2.1)) || (!decide (x3.1 = ((lget x1.1 v4.2).Value))))) = true → 0 ≤ w64 (v4.2 - 1) ∧ w64 (v4.2 - 1) < (x1.1.length : Int)) <|
  asrt ((decide (((lget x1.1 v4.2).Row) = ((lget x1.1 (w64 (v4.2 - 1))).Row))) = true → (!(Op.bytesLess ((lget x1.1 v4.2).Row) ((lget x1.1 (w64 (v4.2 - 1))).Row))) = true → (decide (0 < v4.2)) = true → (!(((!decide (x3.2.2.Code = 0)) || (!x3.2.1)) || (!decide (x3.1 = ((lget x1.1 v4.2).Value))))) = true → 0 ≤ v4.2 ∧ v4.2 < (x1.1.length : Int)) <|
  asrt ((decide (((lget x1.1 v4.2).Row) = ((lget x1.1 (w64 (v4.2 - 1))).Row))) = true → (!(Op.bytesLess ((lget x1.1 v4.2).Row) ((lget x1.1 (w64 (v4.2 - 1))).Row))) = true → (decide (0 < v4.2)) = true → (!(((!decide (x3.2.2.Code = 0)) || (!x3.2.1)) || (!decide (x3.1 = ((lget x1.1 v4.2).Value))))) = true → 0 ≤ w64 (v4.2 - 1) ∧ w64 (v4.2 - 1) < (x1.1.length : Int)) <|
  if ((((!decide (x3.2.2.Code = 0)) || (!x3.2.1)) || (!decide (x3.1 = ((lget x1.1 v4.2).Value)))) || ((decide (0 < v4.2)) && ((Op.bytesLess ((lget x1.1 v4.2).Row) ((lget x1.1 (w64 (v4.2 - 1))).Row)) || ((decide (((lget x1.1 v4.2).Row) = ((lget x1.1 (w64 (v4.2 - 1))).Row))) && (!Op.bytesLess ((lget x1.1 (w64 (v4.2 - 1))).Col) ((lget x1.1 v4.2).Col)))))) = true then
   some (Sum.inr false)
  else
   some (Sum.inl (v4.1, w64 (v4.2 + 1)))
 else
  inrO (law_CellScans_J1 l x1 v4.1)
noncomputable def law_CellScans_L2 (l : List Cell) (x1 : List Cell × Fault) (v0 : Ask × Int) : Option Bool :=
 loopO (fun y => law_CellScans_B2 l x1 y) v0
noncomputable def law_CellScans (l : List Cell) (a0 : Ask) : Option Bool :=
 ob (law_cellBegun) fun x =>
 if (!x) = true then
  some false
 else
  if (decide (150 < (l.length : Int))) = true then
   some true
  else
   ob (cell_Scan_v1 l a0) fun x1 =>
   if (!decide (x1.2.Code = 0)) = true then
    some true
   else
    law_CellScans_L2 l x1 (a0, 0)

/- wire.AddNum -/
noncomputable def wire_AddNum_v2_J1 (v : List UInt8 × Int) : Option (List UInt8) :=
 asrt (((v.1 ++ ([toU8 v.2] : List UInt8)).length : Int) * 1 ≤ 140737488351232) <|
 some (v.1 ++ ([toU8 v.2] : List UInt8))
noncomputable def wire_AddNum_v2_B1 (v1 : List UInt8 × Int) : Option ((List UInt8 × Int) ⊕ (List UInt8)) :=
 if (decide (127 < v1.2)) = true then
  asrt (((v1.1 ++ ([toU8 (((BitVec.ofInt 8 ((toU8 v1.2).toNat : Int) ||| BitVec.ofInt 8 ((128 : UInt8).toNat : Int)).toNat : Int))] : List UInt8)).length : Int) * 1 ≤ 140737488351232) <|
  lt ((v1.1 ++ ([toU8 (((BitVec.ofInt 8 ((toU8 v1.2).toNat : Int) ||| BitVec.ofInt 8 ((128 : UInt8).toNat : Int)).toNat : Int))] : List UInt8))) fun (v2 : List UInt8) =>
  some (Sum.inl (v2, Int.fdiv v1.2 (2 ^ (min (7 : Int).toNat 64))))
 else
  inrO (wire_AddNum_v2_J1 (v1.1, v1.2))
noncomputable def wire_AddNum_v2_L1 (v0 : List UInt8 × Int) : Option (List UInt8) :=
 loopO (fun y => wire_AddNum_v2_B1 y) v0
noncomputable def wire_AddNum_v2 (num : Int) (row : List UInt8) : Option (List UInt8) :=
 wire_AddNum_v2_L1 (row, num)

/- wire.AddText -/
noncomputable def wire_AddText_v2 (s0 : List UInt8) (row : List UInt8) : Option (List UInt8) :=
 ob (wire_AddNum_v2 (s0.length : Int) row) fun x =>
 asrt (((x ++ s0).length : Int) * 1 ≤ 140737488351232) <|
 some (x ++ s0)

/- cell.Add -/
noncomputable def cell_Add_v2 (c : Cell) (row : List UInt8) : Option (List UInt8) :=
 ob (wire_AddText_v2 c.Row row) fun x =>
 ob (wire_AddText_v2 c.Col x) fun x1 =>
 ob (
  if c.Gone = true then
   some (c, 1)
  else
   some (c, 0)) fun (v : Cell × Int) =>
 ob (wire_AddNum_v2 v.1.Time x1) fun x2 =>
 ob (wire_AddNum_v2 v.2 x2) fun x3 =>
 ob (wire_AddText_v2 v.1.Value x3) fun x4 =>
 some x4

/- cell.Write -/
noncomputable def cell_Write_v1_J1 (v : Fault × List UInt8) : Option (List UInt8 × Fault) :=
 some (v.2, (⟨0, 0⟩ : Fault))
noncomputable def cell_Write_v1_B1 (l : List Cell) (v1 : Fault × List UInt8 × Int) : Option ((Fault × List UInt8 × Int) ⊕ (List UInt8 × Fault)) :=
 if (decide (v1.2.2 < (l.length : Int))) = true then
  asrt (0 ≤ v1.2.2 ∧ v1.2.2 < (l.length : Int)) <|
  ob (cell_Add_v2 (⟨(lget l v1.2.2).Row, (lget l v1.2.2).Col, (lget l v1.2.2).Time, (lget l v1.2.2).Gone, (lget l v1.2.2).Value⟩ : Cell) v1.2.1) fun x1 =>
  if (decide (60000 < (x1.length : Int))) = true then
   lt (cell_fault 9 0) fun x2 =>
   some (Sum.inr (([] : List UInt8), x2))
  else
   some (Sum.inl (v1.1, x1, w64 (v1.2.2 + 1)))
 else
  inrO (cell_Write_v1_J1 (v1.1, v1.2.1))
noncomputable def cell_Write_v1_L1 (l : List Cell) (v0 : Fault × List UInt8 × Int) : Option (List UInt8 × Fault) :=
 loopO (fun y => cell_Write_v1_B1 l y) v0
noncomputable def cell_Write_v1 (l : List Cell) : Option (List UInt8 × Fault) :=
 ob (cell_Check l) fun x =>
 if (!decide (x.Code = 0)) = true then
  some (([] : List UInt8), x)
 else
  cell_Write_v1_L1 l ((⟨0, 0⟩ : Fault), ([] : List UInt8), 0)

/- tabularylaw.ownBytes -/
noncomputable def law_ownBytes_v1 (b : List UInt8) : Option (List UInt8) :=
 asrt ((b.length : Int) * 1 ≤ 140737488351232) <|
 some b

/- wire.Read -/
noncomputable def wire_Read (b : List UInt8) : Reader :=
 (⟨b, false⟩ : Reader)

/- (*wire.Reader).More -/
noncomputable def wire_Reader_More (box : Reader) : Bool :=
 decide (0 < (box.b.length : Int))

/- (*wire.Reader).Num -/
noncomputable def wire_Reader_Num_J1 (v : Reader) : Option (Int × Reader) :=
 some (0, (⟨([] : List UInt8), true⟩ : Reader))
noncomputable def wire_Reader_Num_B1 (v1 : Reader × Int × List UInt8 × Int × Int) : Option ((Reader × Int × List UInt8 × Int × Int) ⊕ (Int × Reader)) :=
 if (decide (v1.2.2.2.2 < v1.2.2.2.1)) = true then
  asrt (0 ≤ v1.2.2.2.2 ∧ v1.2.2.2.2 < (v1.2.2.1.length : Int)) <|
  asrt (0 ≤ (w64 (7 * v1.2.2.2.2))) <|
  lt (bitsOp .or .i64 v1.2.1 (w64 ((w64 ((toU8 (((BitVec.ofInt 8 ((lget v1.2.2.1 v1.2.2.2.2).toNat : Int) &&& BitVec.ofInt 8 ((127 : UInt8).toNat : Int)).toNat : Int))).toNat : Int)) * 2 ^ (min (w64 (7 * v1.2.2.2.2)).toNat 64)))) fun (v2 : Int) =>
  if ((decide (4 < v1.2.2.2.2)) || (decide (1000000000 < v2))) = true then
   inrO (wire_Reader_Num_J1 v1.1)
  else
   if (decide (((lget v1.2.2.1 v1.2.2.2.2).toNat : Int) < ((128 : UInt8).toNat : Int))) = true then
    if ((decide (0 < v1.2.2.2.2)) && (decide (((lget v1.2.2.1 v1.2.2.2.2).toNat : Int) = ((0 : UInt8).toNat : Int)))) = true then
     inrO (wire_Reader_Num_J1 v1.1)
    else
     asrt (0 ≤ w64 (v1.2.2.2.2 + 1) ∧ w64 (v1.2.2.2.2 + 1) ≤ (v1.1.b.length : Int)) <|
     some (Sum.inr (v2, (⟨(ldrop v1.1.b (w64 (v1.2.2.2.2 + 1))), v1.1.bad⟩ : Reader)))
   else
    some (Sum.inl (v1.1, v2, v1.2.2.1, v1.2.2.2.1, w64 (v1.2.2.2.2 + 1)))
 else
  inrO (wire_Reader_Num_J1 v1.1)
noncomputable def wire_Reader_Num_L1 (v0 : Reader × Int × List UInt8 × Int × Int) : Option (Int × Reader) :=
 loopO (fun y => wire_Reader_Num_B1 y) v0
noncomputable def wire_Reader_Num (box : Reader) : Option (Int × Reader) :=
 wire_Reader_Num_L1 (box, 0, box.b, (box.b.length : Int), 0)

/- (*wire.Reader).Text -/
noncomputable def wire_Reader_Text (box : Reader) : Option (List UInt8 × Reader) :=
 ob (wire_Reader_Num box) fun x =>
 if (x.2.bad || (decide ((x.2.b.length : Int) < x.1))) = true then
  some (([] : List UInt8), (⟨([] : List UInt8), true⟩ : Reader))
 else
  asrt (0 ≤ x.1 ∧ x.1 ≤ (x.2.b.length : Int)) <|
  asrt (0 ≤ x.1 ∧ x.1 ≤ (x.2.b.length : Int)) <|
  some ((ltake x.2.b x.1), (⟨(ldrop x.2.b x.1), x.2.bad⟩ : Reader))

/- (*wire.Reader).Fine -/
noncomputable def wire_Reader_Fine (box : Reader) : Bool :=
 !box.bad

/- cell.From -/
noncomputable def cell_From (box : Reader) : Option (Cell × Bool × Reader) :=
 ob (wire_Reader_Text box) fun x =>
 ob (wire_Reader_Text x.2) fun x1 =>
 ob (wire_Reader_Num x1.2) fun x2 =>
 ob (wire_Reader_Num x2.2) fun x3 =>
 ob (wire_Reader_Text x3.2) fun x4 =>
 lt (wire_Reader_Fine x4.2) fun x5 =>
 lt (cell_code (⟨x.1, x1.1, x2.1, decide (x3.1 = 1), x4.1⟩ : Cell)) fun x6 =>
 some ((⟨x.1, x1.1, x2.1, decide (x3.1 = 1), x4.1⟩ : Cell), ((decide (x3.1 < 2)) && x5) && (decide (x6 = 0)), x4.2)

/- cell.Read -/
noncomputable def cell_Read_v1_J1 (v : Fault × List Cell) : Option (List Cell × Fault) :=
 ob (cell_Check v.2) fun x2 =>
 if (!decide (x2.Code = 0)) = true then
  some (([] : List Cell), x2)
 else
  some (v.2, (⟨0, 0⟩ : Fault))
noncomputable def cell_Read_v1_B1 (v1 : Fault × List Cell × Reader) : Option ((Fault × List Cell × Reader) ⊕ (List Cell × Fault)) :=
 lt (wire_Reader_More v1.2.2) fun x3 =>
 if x3 = true then
  ob (cell_From v1.2.2) fun x4 =>
  if (!x4.2.1) = true then
   lt (cell_fault 5 (v1.2.1.length : Int)) fun x5 =>
   some (Sum.inr (([] : List Cell), x5))
  else
   asrt (((v1.2.1 ++ [x4.1]).length : Int) * 64 ≤ 140737488351232) <|
   some (Sum.inl (v1.1, (v1.2.1 ++ [x4.1]), x4.2.2))
 else
  inrO (cell_Read_v1_J1 (v1.1, v1.2.1))
noncomputable def cell_Read_v1_L1 (v0 : Fault × List Cell × Reader) : Option (List Cell × Fault) :=
 loopO (fun y => cell_Read_v1_B1 y) v0
noncomputable def cell_Read_v1 (b : List UInt8) : Option (List Cell × Fault) :=
 if (decide (60000 < (b.length : Int))) = true then
  lt (cell_fault 8 0) fun x =>
  some (([] : List Cell), x)
 else
  lt (wire_Read b) fun x1 =>
  cell_Read_v1_L1 ((⟨0, 0⟩ : Fault), ([] : List Cell), x1)

/- tabularyref.Number -/
noncomputable def R_Number_S (rec : Int → Option (List UInt8)) (num : Int) : Option (List UInt8) :=
 if (decide (num < 128)) = true then
  some ([toU8 num] : List UInt8)
 else
  ob (rec (w64 (Int.tdiv num 128))) fun x =>
  asrt (((([toU8 (w64 ((Int.tmod num 128) + 128))] : List UInt8) ++ x).length : Int) * 1 ≤ 140737488351232) <|
  some (([toU8 (w64 ((Int.tmod num 128) + 128))] : List UInt8) ++ x)
noncomputable def R_Number (num : Int) : Option (List UInt8) := recO (fun rec (x : Int) => R_Number_S rec x) num

/- tabularyref.Number -/
noncomputable def R_Number_v1 (num : Int) : Option (List UInt8) :=
 if (decide (num < 128)) = true then
  some ([toU8 num] : List UInt8)
 else
  ob (R_Number (w64 (Int.tdiv num 128))) fun x =>
  asrt (((([toU8 (w64 ((Int.tmod num 128) + 128))] : List UInt8) ++ x).length : Int) * 1 ≤ 140737488351232) <|
  some (([toU8 (w64 ((Int.tmod num 128) + 128))] : List UInt8) ++ x)

/- tabularyref.Same -/
noncomputable def R_Same (a0 : List UInt8) (b : List UInt8) : Bool :=
 decide (a0 = b)

/- tabularyref.NumberAt -/
noncomputable def R_NumberAt_J1 (v : Unit) : Option (Int × Int) :=
 some (0, 0)
noncomputable def R_NumberAt_J2 (b : List UInt8) (v1 : Int) (v2 : Int) : Option (Int ⊕ (Int × Int)) :=
 ob (if (decide (v2 ≤ 1000000000)) = true then (R_Number_v1 v2) else some default) fun x =>
 asrt ((decide (v2 ≤ 1000000000)) = true → 0 ≤ v1 ∧ v1 ≤ (b.length : Int)) <|
 lt (R_Same x (ltake b v1)) fun x1 =>
 if ((decide (v2 ≤ 1000000000)) && x1) = true then
  some (Sum.inr (v2, v1))
 else
  some (Sum.inl (w64 (v1 + 1)))
noncomputable def R_NumberAt_B2 (b : List UInt8) (v1 : Int) (v3 : Int × Int) : Option ((Int × Int) ⊕ (Int ⊕ (Int × Int))) :=
 if (decide (0 ≤ v3.2)) = true then
  asrt (0 ≤ v3.2 ∧ v3.2 < (b.length : Int)) <|
  lt (w64 ((w64 (v3.1 * 128)) + (Int.tmod (w64 ((lget b v3.2).toNat : Int)) 128))) fun (v4 : Int) =>
  some (Sum.inl (v4, w64 (v3.2 - 1)))
 else
  inrO (R_NumberAt_J2 b v1 v3.1)
noncomputable def R_NumberAt_L2 (b : List UInt8) (v1 : Int) (v0 : Int × Int) : Option (Int ⊕ (Int × Int)) :=
 loopO (fun y => R_NumberAt_B2 b v1 y) v0
noncomputable def R_NumberAt_B1 (b : List UInt8) (v1 : Int) : Option (Int ⊕ (Int × Int)) :=
 if ((decide (v1 ≤ 5)) && (decide (v1 ≤ (b.length : Int)))) = true then
  R_NumberAt_L2 b v1 (0, w64 (v1 - 1))
 else
  inrO (R_NumberAt_J1 ())
noncomputable def R_NumberAt_L1 (b : List UInt8) (v0 : Int) : Option (Int × Int) :=
 loopO (fun y => R_NumberAt_B1 b y) v0
noncomputable def R_NumberAt (b : List UInt8) : Option (Int × Int) :=
 R_NumberAt_L1 b 1

/- tabularyref.CellAt -/
noncomputable def R_CellAt_J1 (v : Cell × List (List UInt8) × List Int × Int) : Option (Cell × Int) :=
 asrt (0 ≤ (0 : Int) ∧ 0 < (v.2.1.length : Int)) <|
 asrt (0 ≤ (0 : Int) ∧ 0 < (v.2.1.length : Int)) <|
 asrt (0 ≤ (1 : Int) ∧ 1 < (v.2.1.length : Int)) <|
 asrt (0 ≤ (1 : Int) ∧ 1 < (v.2.1.length : Int)) <|
 asrt (0 ≤ (0 : Int) ∧ 0 < (v.2.2.1.length : Int)) <|
 asrt (0 ≤ (0 : Int) ∧ 0 < (v.2.2.1.length : Int)) <|
 asrt (0 ≤ (1 : Int) ∧ 1 < (v.2.2.1.length : Int)) <|
 asrt (0 ≤ (1 : Int) ∧ 1 < (v.2.2.1.length : Int)) <|
 asrt (0 ≤ (2 : Int) ∧ 2 < (v.2.1.length : Int)) <|
 asrt (0 ≤ (2 : Int) ∧ 2 < (v.2.1.length : Int)) <|
 asrt (0 ≤ (1 : Int) ∧ 1 < (v.2.2.1.length : Int)) <|
 asrt (0 ≤ (1 : Int) ∧ 1 < (v.2.2.1.length : Int)) <|
 lt (R_CellCode (⟨(lget v.2.1 0), (lget v.2.1 1), (lget v.2.2.1 0), decide ((lget v.2.2.1 1) = 1), (lget v.2.1 2)⟩ : Cell)) fun x =>
 if ((decide (1 < (lget v.2.2.1 1))) || (!decide (x = 0))) = true then
  some ((⟨([] : List UInt8), ([] : List UInt8), 0, false, ([] : List UInt8)⟩ : Cell), 0)
 else
  some ((⟨(lget v.2.1 0), (lget v.2.1 1), (lget v.2.2.1 0), decide ((lget v.2.2.1 1) = 1), (lget v.2.1 2)⟩ : Cell), v.2.2.2)
noncomputable def R_CellAt_J2 (v1 : Cell × List (List UInt8) × List Int × Int × Int) (v2 : Cell × List (List UInt8) × List Int × Int) : Option ((Cell × List (List UInt8) × List Int × Int × Int) ⊕ (Cell × Int)) :=
 some (Sum.inl (v2.1, v2.2.1, v2.2.2.1, v2.2.2.2, w64 (v1.2.2.2.2 + 1)))
noncomputable def R_CellAt_B1 (b : List UInt8) (v1 : Cell × List (List UInt8) × List Int × Int × Int) : Option ((Cell × List (List UInt8) × List Int × Int × Int) ⊕ (Cell × Int)) :=
 if (decide (v1.2.2.2.2 < 5)) = true then
  asrt (0 ≤ v1.2.2.2.1 ∧ v1.2.2.2.1 ≤ (b.length : Int)) <|
  ob (R_NumberAt (ldrop b v1.2.2.2.1)) fun x1 =>
  if (decide (x1.2 = 0)) = true then
   some (Sum.inr ((⟨([] : List UInt8), ([] : List UInt8), 0, false, ([] : List UInt8)⟩ : Cell), 0))
  else
   if ((decide (v1.2.2.2.2 = 2)) || (decide (v1.2.2.2.2 = 3))) = true then
    asrt (((v1.2.2.1 ++ ([x1.1] : List Int)).length : Int) * 8 ≤ 140737488351232) <|
    R_CellAt_J2 v1 (v1.1, v1.2.1, (v1.2.2.1 ++ ([x1.1] : List Int)), w64 (v1.2.2.2.1 + x1.2))
   else
    if (decide ((w64 ((b.length : Int) - (w64 (v1.2.2.2.1 + x1.2)))) < x1.1)) = true then
     some (Sum.inr ((⟨([] : List UInt8), ([] : List UInt8), 0, false, ([] : List UInt8)⟩ : Cell), 0))
    else
     asrt (0 ≤ w64 (v1.2.2.2.1 + x1.2) ∧ w64 (v1.2.2.2.1 + x1.2) ≤ w64 ((w64 (v1.2.2.2.1 + x1.2)) + x1.1) ∧ w64 ((w64 (v1.2.2.2.1 + x1.2)) + x1.1) ≤ (b.length : Int)) <|
     asrt (((v1.2.1 ++ ([(ldrop (ltake b (w64 ((w64 (v1.2.2.2.1 + x1.2)) + x1.1))) (w64 (v1.2.2.2.1 + x1.2)))] : List (List UInt8))).length : Int) * 16 ≤ 140737488351232) <|
     lt ((v1.2.1 ++ ([(ldrop (ltake b (w64 ((w64 (v1.2.2.2.1 + x1.2)) + x1.1))) (w64 (v1.2.2.2.1 + x1.2)))] : List (List UInt8)))) fun (v3 : List (List UInt8)) =>
     R_CellAt_J2 v1 (v1.1, v3, v1.2.2.1, w64 ((w64 (v1.2.2.2.1 + x1.2)) + x1.1))
 else
  inrO (R_CellAt_J1 (v1.1, v1.2.1, v1.2.2.1, v1.2.2.2.1))
noncomputable def R_CellAt_L1 (b : List UInt8) (v0 : Cell × List (List UInt8) × List Int × Int × Int) : Option (Cell × Int) :=
 loopO (fun y => R_CellAt_B1 b y) v0
noncomputable def R_CellAt (b : List UInt8) : Option (Cell × Int) :=
 R_CellAt_L1 b ((⟨([] : List UInt8), ([] : List UInt8), 0, false, ([] : List UInt8)⟩ : Cell), ([] : List (List UInt8)), ([] : List Int), 0, 0)

/- tabularyref.CellsOf -/
noncomputable def R_CellsOf_v1_J1 (v : Fault × List Cell) : Option (List Cell × Fault) :=
 ob (R_CellsFault v.2) fun x1 =>
 if (!decide (x1.Code = 0)) = true then
  some (([] : List Cell), x1)
 else
  some (v.2, (⟨0, 0⟩ : Fault))
noncomputable def R_CellsOf_v1_B1 (v1 : List UInt8 × Fault × List Cell) : Option ((List UInt8 × Fault × List Cell) ⊕ (List Cell × Fault)) :=
 if (decide (0 < (v1.1.length : Int))) = true then
  ob (R_CellAt v1.1) fun x2 =>
  if (decide (x2.2 = 0)) = true then
   lt (R_F 5 (v1.2.2.length : Int)) fun x3 =>
   some (Sum.inr (([] : List Cell), x3))
  else
   asrt (((v1.2.2 ++ [x2.1]).length : Int) * 64 ≤ 140737488351232) <|
   asrt (0 ≤ x2.2 ∧ x2.2 ≤ (v1.1.length : Int)) <|
   some (Sum.inl ((ldrop v1.1 x2.2), v1.2.1, (v1.2.2 ++ [x2.1])))
 else
  inrO (R_CellsOf_v1_J1 (v1.2.1, v1.2.2))
noncomputable def R_CellsOf_v1_L1 (v0 : List UInt8 × Fault × List Cell) : Option (List Cell × Fault) :=
 loopO (fun y => R_CellsOf_v1_B1 y) v0
noncomputable def R_CellsOf_v1 (b : List UInt8) : Option (List Cell × Fault) :=
 if (decide (60000 < (b.length : Int))) = true then
  lt (R_F 8 0) fun x =>
  some (([] : List Cell), x)
 else
  R_CellsOf_v1_L1 (b, (⟨0, 0⟩ : Fault), ([] : List Cell))

/- tabularyref.Written -/
noncomputable def R_Written (s0 : List UInt8) : Option (List UInt8) :=
 ob (R_Number (s0.length : Int)) fun x =>
 asrt (((x ++ s0).length : Int) * 1 ≤ 140737488351232) <|
 some (x ++ s0)

/- tabularyref.CellBytes -/
noncomputable def R_CellBytes_v1 (c : Cell) : Option (List UInt8) :=
 ob (R_Written c.Row) fun x =>
 ob (R_Written c.Col) fun x1 =>
 asrt (((x ++ x1).length : Int) * 1 ≤ 140737488351232) <|
 ob (R_Number c.Time) fun x2 =>
 asrt ((((x ++ x1) ++ x2).length : Int) * 1 ≤ 140737488351232) <|
 ob (
  if c.Gone = true then
   asrt (((((x ++ x1) ++ x2) ++ ([(1 : UInt8)] : List UInt8)).length : Int) * 1 ≤ 140737488351232) <|
   some (c, (((x ++ x1) ++ x2) ++ ([(1 : UInt8)] : List UInt8)))
  else
   asrt (((((x ++ x1) ++ x2) ++ ([(0 : UInt8)] : List UInt8)).length : Int) * 1 ≤ 140737488351232) <|
   some (c, (((x ++ x1) ++ x2) ++ ([(0 : UInt8)] : List UInt8)))) fun (v : Cell × List UInt8) =>
 ob (R_Written v.1.Value) fun x3 =>
 asrt (((v.2 ++ x3).length : Int) * 1 ≤ 140737488351232) <|
 some (v.2 ++ x3)

/- tabularylaw.CellWrites$1 -/
noncomputable def law_CellWrites_1 (row : List UInt8) : Unit :=
 ()

/- tabularylaw.bytesAs -/
noncomputable def law_bytesAs (b : List UInt8) (f : Fault) (w0 : Fault) (row : List UInt8) : Bool :=
 if (!(decide (f.Code = w0.Code) && (decide (f.At = w0.At) && true))) = true then
  false
 else
  if (!decide (w0.Code = 0)) = true then
   decide ((b.length : Int) = 0)
  else
   lt (law_CellWrites_1 row) fun x =>
   lt (R_Same b row) fun x1 =>
   x1

/- tabularylaw.CellWrites -/
noncomputable def law_CellWrites_J1 (l : List Cell) (x3 : List UInt8 × Fault) (v : Fault × Fault × List UInt8) : Option Bool :=
 ob (
  if ((decide (v.2.1.Code = 0)) && (decide (60000 < (v.2.2.length : Int)))) = true then
   lt (R_F 9 0) fun x9 =>
   some (v.1, x9)
  else
   some (v.1, v.2.1)) fun (v1 : Fault × Fault) =>
 lt (law_bytesAs x3.1 v1.1 v1.2 v.2.2) fun x10 =>
 if (!x10) = true then
  some false
 else
  if (!decide (v1.2.Code = 0)) = true then
   some true
  else
   ob (cell_Read_v1 x3.1) fun x11 =>
   ob (if (decide (x11.2.Code = 0)) = true then (R_SameCells x11.1 l) else some default) fun x12 =>
   some ((decide (x11.2.Code = 0)) && x12)
noncomputable def law_CellWrites_B1 (l : List Cell) (x3 : List UInt8 × Fault) (v2 : Fault × Fault × List UInt8 × Int) : Option ((Fault × Fault × List UInt8 × Int) ⊕ Bool) :=
 if ((decide (v2.2.2.2 < (l.length : Int))) && (decide (v2.2.1.Code = 0))) = true then
  asrt (0 ≤ v2.2.2.2 ∧ v2.2.2.2 < (l.length : Int)) <|
  ob (R_CellBytes_v1 (⟨(lget l v2.2.2.2).Row, (lget l v2.2.2.2).Col, (lget l v2.2.2.2).Time, (lget l v2.2.2.2).Gone, (lget l v2.2.2.2).Value⟩ : Cell)) fun x13 =>
  asrt (((v2.2.2.1 ++ x13).length : Int) * 1 ≤ 140737488351232) <|
  some (Sum.inl (v2.1, v2.2.1, (v2.2.2.1 ++ x13), w64 (v2.2.2.2 + 1)))
 else
  inrO (law_CellWrites_J1 l x3 (v2.1, v2.2.1, v2.2.2.1))
noncomputable def law_CellWrites_L1 (l : List Cell) (x3 : List UInt8 × Fault) (v0 : Fault × Fault × List UInt8 × Int) : Option Bool :=
 loopO (fun y => law_CellWrites_B1 l x3 y) v0
noncomputable def law_CellWrites (l : List Cell) (b : List UInt8) : Option Bool :=
 ob (law_cellBegun) fun x =>
 if (!x) = true then
  some false
 else
  lt (law_many (l.length : Int)) fun x1 =>
  if (x1 || (decide (100000 < (b.length : Int)))) = true then
   some true
  else
   ob (law_ownCells_v1 l) fun x2 =>
   ob (cell_Write_v1 x2) fun x3 =>
   ob (law_ownBytes_v1 b) fun x4 =>
   ob (cell_Read_v1 x4) fun x5 =>
   ob (R_CellsOf_v1 b) fun x6 =>
   ob (if (!(!(decide (x5.2.Code = x6.2.Code) && (decide (x5.2.At = x6.2.At) && true)))) = true then (R_SameCells x5.1 x6.1) else some default) fun x7 =>
   if ((!(decide (x5.2.Code = x6.2.Code) && (decide (x5.2.At = x6.2.At) && true))) || (!x7)) = true then
    some false
   else
    ob (R_CellsFault l) fun x8 =>
    law_CellWrites_L1 l x3 (x3.2, x8, ([] : List UInt8), 0)

/- slices.Clone[[]api.Cell,api.Cell] -/
noncomputable def slices_Clone_api_Cell_api_Cell (s0 : List Cell) : Option (List Cell) :=
 ubO (decide (s0.length = 0)) (
  some ([] : List Cell)) (
  asrt (((([] : List Cell) ++ s0).length : Int) * 64 ≤ 140737488351232) <|
  some (([] : List Cell) ++ s0))
theorem slices_Clone_api_Cell_api_Cell_ok (s0 : List Cell) (r : List Cell) (hF : slices_Clone_api_Cell_api_Cell s0 = some r) : Pe Try.prog 66 S.none [.sl 5 (s0.map e_Cell)] (.row 5 0) ⟨[], [], [(5, .o 37 5 0 (r.map e_Cell))], [], []⟩ := by
 refine PeN 8 [.tmp 2] [22] Ty.ok Fn.b66 Try.func66 ?_
 intro Q g hfin
 unfold slices_Clone_api_Cell_api_Cell at hF
 refine NR [] [0] [] [] [] .nil ?_
 refine NR [.bo (decide (s0.length = 0))] [0, 4] [] [] [(4, .ub (decide (s0.length = 0)) true)] (hc (ubn_ok e_Cell s0) .nil) ?_
 refine Wk_ub 4 rfl fun b hb1 hb2 => ?_
 refine Nsplit rfl (fun hb => ?_) (fun hb => ?_)
 ·have hb := hb1 hb
  have hF := (ubO_elim hF).1 hb
  refine NR [] [2] [] [] [(2, .nils)] .nil ?_
  cases hF
  refine Wk_nilrow 2 60000 37 5 rfl rfl rfl ?_
  refine Wk_ren' ⟨[], [(60000, 5)], [], []⟩ rfl ?_
  exact Wk_ret (hfin _ ⟨[5], [], [5], [], [], [(5, ⟨0, true, false, false⟩)], by kernel_rfl⟩)
 ·have hF := (ubO_elim hF).2
  obtain ⟨h0, hF⟩ := asrt_elim hF
  refine VR [.xs ((([] : List Cell) ++ s0).map e_Cell)] [2] [] [5] [] [(2, .row 5 1)] [] [(5, .o 37 5 1 ((([] : List Cell) ++ s0).map e_Cell))] [] (hc (app_ok e_Cell ([] : List Cell) s0) (hc (appl_ok e_Cell h0) .nil)) ?_
  cases hF
  exact Wk_ret (hfin _ ⟨[5], [], [5], [], [], [(5, ⟨0, true, true, false⟩)], by kernel_rfl⟩)

/- slices.Reverse[[]api.Cell,api.Cell] -/
noncomputable def slices_Reverse_api_Cell_api_Cell_v1_J1 (v : List Cell) : Option (List Cell) :=
 some v
noncomputable def slices_Reverse_api_Cell_api_Cell_v1_B1 (v1 : List Cell × Int × Int) : Option ((List Cell × Int × Int) ⊕ (List Cell)) :=
 if (decide (v1.2.1 < v1.2.2)) = true then
  asrt (0 ≤ v1.2.2 ∧ v1.2.2 < (v1.1.length : Int)) <|
  asrt (0 ≤ v1.2.2 ∧ v1.2.2 < (v1.1.length : Int)) <|
  asrt (0 ≤ v1.2.1 ∧ v1.2.1 < (v1.1.length : Int)) <|
  asrt (0 ≤ v1.2.1 ∧ v1.2.1 < (v1.1.length : Int)) <|
  asrt (0 ≤ v1.2.1 ∧ v1.2.1 < (v1.1.length : Int)) <|
  asrt (0 ≤ v1.2.1 ∧ v1.2.1 < (v1.1.length : Int)) <|
  asrt (0 ≤ v1.2.2 ∧ v1.2.2 < ((lset v1.1 v1.2.1 (⟨(lget v1.1 v1.2.2).Row, (lget v1.1 v1.2.2).Col, (lget v1.1 v1.2.2).Time, (lget v1.1 v1.2.2).Gone, (lget v1.1 v1.2.2).Value⟩ : Cell)).length : Int)) <|
  asrt (0 ≤ v1.2.2 ∧ v1.2.2 < ((lset v1.1 v1.2.1 (⟨(lget v1.1 v1.2.2).Row, (lget v1.1 v1.2.2).Col, (lget v1.1 v1.2.2).Time, (lget v1.1 v1.2.2).Gone, (lget v1.1 v1.2.2).Value⟩ : Cell)).length : Int)) <|
  lt ((lset (lset v1.1 v1.2.1 (⟨(lget v1.1 v1.2.2).Row, (lget v1.1 v1.2.2).Col, (lget v1.1 v1.2.2).Time, (lget v1.1 v1.2.2).Gone, (lget v1.1 v1.2.2).Value⟩ : Cell)) v1.2.2 (⟨(lget v1.1 v1.2.1).Row, (lget v1.1 v1.2.1).Col, (lget v1.1 v1.2.1).Time, (lget v1.1 v1.2.1).Gone, (lget v1.1 v1.2.1).Value⟩ : Cell))) fun (v2 : List Cell) =>
  some (Sum.inl (v2, w64 (v1.2.1 + 1), w64 (v1.2.2 - 1)))
 else
  inrO (slices_Reverse_api_Cell_api_Cell_v1_J1 v1.1)
noncomputable def slices_Reverse_api_Cell_api_Cell_v1_L1 (v0 : List Cell × Int × Int) : Option (List Cell) :=
 loopO (fun y => slices_Reverse_api_Cell_api_Cell_v1_B1 y) v0
noncomputable def slices_Reverse_api_Cell_api_Cell_v1 (row : List Cell) : Option (List Cell) :=
 slices_Reverse_api_Cell_api_Cell_v1_L1 (row, 0, w64 ((row.length : Int) - 1))
theorem slices_Reverse_api_Cell_api_Cell_v1_ok (row : List Cell) (rk : Nat) (rc : Nat) (rn : Bool) (r : List Cell) (hF : slices_Reverse_api_Cell_api_Cell_v1 row = some r) : Pe Try.prog 67 ⟨[], [], [(100000, ⟨37, 5, 0, 0, rc, rn, 0, [], (row.map e_Cell)⟩)], [], []⟩ [.row 100000 0] (.tup []) ⟨[], [], [(100000, ⟨37, 5, 0, 0, rc, rn, 0, [], (r.map e_Cell)⟩)], [], []⟩ := by
 refine PeN 28 [] [] Ty.ok Fn.b67 Try.func67 ?_
 intro Q g hfin
 unfold slices_Reverse_api_Cell_api_Cell_v1 at hF
 refine NR [.nat (row.length : Int)] [0, 2, 3] [] [100000] [(2, .i 0), (3, .i (w64 ((row.length : Int) - 1)))] (hc (len_ok e_Cell row) .nil) ?_
 refine NmeetP (fun v : List Cell => (⟨[], [], [(100000, ⟨37, 5, 0, 0, rc, rn, 0, [], (v.map e_Cell)⟩)], [], []⟩ : S)) (fun v => slices_Reverse_api_Cell_api_Cell_v1_J1 v = some r) ?_ ?_
 ·refine Nblk ?_
  unfold slices_Reverse_api_Cell_api_Cell_v1_L1 at hF
  refine Niter (fun v1 : List Cell × Int × Int => (⟨[(0, .row 100000 0), (2, .i v1.2.1), (3, .i v1.2.2)], [], [(100000, ⟨37, 5, 0, 0, rc, rn, 0, [], (v1.1.map e_Cell)⟩)], [], []⟩ : S)) [] hF (by kernel_rfl) ?_
  intro n1 v1 y1 hF ih1 dn1
  unfold slices_Reverse_api_Cell_api_Cell_v1_B1 at hF
  refine NR [] [0, 2, 3, 9] [] [100000] [(9, .bool (decide (v1.2.1 < v1.2.2)))] .nil ?_
  refine Nif hF (fun hb hF => ?_) (fun hb hF => ?_)
  ·refine Nblk ?_
   obtain ⟨h0, h1, h2, h3, hF⟩ := asrt4 hF
   obtain ⟨h4, h5, h6, h7, hF⟩ := asrt4 hF
   refine NDL ((lset (lset v1.1 v1.2.1 (⟨(lget v1.1 v1.2.2).Row, (lget v1.1 v1.2.2).Col, (lget v1.1 v1.2.2).Time, (lget v1.1 v1.2.2).Gone, (lget v1.1 v1.2.2).Value⟩ : Cell)) v1.2.2 (⟨(lget v1.1 v1.2.1).Row, (lget v1.1 v1.2.1).Col, (lget v1.1 v1.2.1).Time, (lget v1.1 v1.2.1).Gone, (lget v1.1 v1.2.1).Value⟩ : Cell))) (fun v2 : List Cell => ([], [], [(100000, ⟨37, 5, 0, 0, rc, rn, 0, [], (v2.map e_Cell)⟩)], [])) [.av (e_Cell (lget v1.1 v1.2.2)), .av (e_Cell (lget v1.1 v1.2.1)), .av (e_Cell (lget v1.1 v1.2.1)), .xs ((lset v1.1 v1.2.1 (⟨(lget v1.1 v1.2.2).Row, (lget v1.1 v1.2.2).Col, (lget v1.1 v1.2.2).Time, (lget v1.1 v1.2.2).Gone, (lget v1.1 v1.2.2).Value⟩ : Cell)).map e_Cell), .av (e_Cell (lget (lset v1.1 v1.2.1 (⟨(lget v1.1 v1.2.2).Row, (lget v1.1 v1.2.2).Col, (lget v1.1 v1.2.2).Time, (lget v1.1 v1.2.2).Gone, (lget v1.1 v1.2.2).Value⟩ : Cell)) v1.2.2)), .xs ((lset (lset v1.1 v1.2.1 (⟨(lget v1.1 v1.2.2).Row, (lget v1.1 v1.2.2).Col, (lget v1.1 v1.2.2).Time, (lget v1.1 v1.2.2).Gone, (lget v1.1 v1.2.2).Value⟩ : Cell)) v1.2.2 (⟨(lget v1.1 v1.2.1).Row, (lget v1.1 v1.2.1).Col, (lget v1.1 v1.2.1).Time, (lget v1.1 v1.2.1).Gone, (lget v1.1 v1.2.1).Value⟩ : Cell)).map e_Cell)] [0, 2, 3] [] [100000] [] (hc (ixr_ok e_Cell h0) (hc (ldr_ok e_Cell h1) (hc (ixr_ok e_Cell h2) (hc (ldr_ok e_Cell h3) (hc (ixr_ok e_Cell h4) (hc (ldr_ok e_Cell h5) (hc (set_ok e_Cell v1.1 v1.2.1 (⟨(lget v1.1 v1.2.2).Row, (lget v1.1 v1.2.2).Col, (lget v1.1 v1.2.2).Time, (lget v1.1 v1.2.2).Gone, (lget v1.1 v1.2.2).Value⟩ : Cell)) (hc (Nat.zero_le v1.2.1.toNat) (hc (ixr_ok e_Cell h6) (hc (ldr_ok e_Cell h7) (hc (set_ok e_Cell (lset v1.1 v1.2.1 (⟨(lget v1.1 v1.2.2).Row, (lget v1.1 v1.2.2).Col, (lget v1.1 v1.2.2).Time, (lget v1.1 v1.2.2).Gone, (lget v1.1 v1.2.2).Value⟩ : Cell)) v1.2.2 (⟨(lget v1.1 v1.2.1).Row, (lget v1.1 v1.2.1).Col, (lget v1.1 v1.2.1).Time, (lget v1.1 v1.2.1).Gone, (lget v1.1 v1.2.1).Value⟩ : Cell)) (hc (Nat.zero_le v1.2.2.toNat) .nil)))))))))))) (fun v2 hv => ?_)
   have hF := lt_elim hF hv
   refine NR [] [0, 2, 3] [] [100000] [(2, .i (w64 (v1.2.1 + 1))), (3, .i (w64 (v1.2.2 - 1)))] .nil ?_
   exact Nrnd [] hF ih1 (by kernel_rfl)
  ·refine Nexit rfl ?_
   have hF := inrO_done hF dn1
   exact metP v1.1 [] hF (by kernel_rfl)
 ·intro v hF
  have hF : slices_Reverse_api_Cell_api_Cell_v1_J1 v = some r := hF
  unfold slices_Reverse_api_Cell_api_Cell_v1_J1 at hF
  cases hF
  exact Wk_end (hfin _ ⟨[100000], [], [100000], [], [], [], by kernel_rfl⟩)

/- slices.Grow[[]api.Cell,api.Cell] -/
noncomputable def slices_Grow_api_Cell_api_Cell_v1 (num : Int) : Option (List Cell) :=
 ob (
  if (decide (num < 0)) = true then
   none
  else
   some ()) fun (v : Unit) =>
 ob (
  if (decide (0 < (w64 (num - (w64 (0 - 0)))))) = true then
   asrt (0 ≤ (w64 (num - (w64 (0 - 0)))) ∧ (w64 (num - (w64 (0 - 0)))).toNat * 64 ≤ 140737488351232) <|
   asrt (0 ≤ (0 : Int) ∧ (0 : Int) ≤ ((List.replicate (w64 (num - (w64 (0 - 0)))).toNat ((⟨([] : List UInt8), ([] : List UInt8), 0, false, ([] : List UInt8)⟩ : Cell) : Cell)).length : Int)) <|
   lt ((List.replicate (w64 (num - (w64 (0 - 0)))).toNat ((⟨([] : List UInt8), ([] : List UInt8), 0, false, ([] : List UInt8)⟩ : Cell) : Cell))) fun (v2 : List Cell) =>
   asrt (((0 : Int).toNat) ≤ v2.length) <|
   some (v2.take ((0 : Int).toNat))
  else
   some ([] : List Cell)) fun (v1 : List Cell) =>
 some v1
theorem slices_Grow_api_Cell_api_Cell_v1_ok (num : Int) (r : List Cell) (hF : slices_Grow_api_Cell_api_Cell_v1 num = some r) : Pe Try.prog 89 S.none [.nils, .i num] (.row 22 0) ⟨[], [], [(22, .o 37 5 0 (r.map e_Cell))], [], []⟩ := by
 refine PeN 27 [.tmp 4] [22] Ty.ok Fn.b89 Try.func89 ?_
 intro Q g hfin
 unfold slices_Grow_api_Cell_api_Cell_v1 at hF
 refine NR [] [0, 1] [] [] [] .nil ?_
 refine NR [] [0, 1, 6] [] [] [(6, .bool (decide (num < 0)))] .nil ?_
 obtain ⟨v, hv, hF⟩ := ob_elim hF
 refine Nmeet (⟨[(0, .nils), (1, .i num)], [], [], [], []⟩ : S) ?_ ?_
 ·have hF := hv
  refine Nif hF (fun hb hF => ?_) (fun hb hF => ?_)
  ·cases hF
  ·cases hF
   exact met [] (by kernel_rfl)
 ·refine NR [] [0, 1] [] [] [(1, .i (w64 (num - (w64 (0 - 0)))))] .nil ?_
  refine NR [] [0, 1, 16] [] [] [(16, .bool (decide (0 < (w64 (num - (w64 (0 - 0)))))))] .nil ?_
  obtain ⟨v1, hv, hF⟩ := ob_elim hF
  refine Nmeet (⟨[(0, .row 22 0)], [], [(22, .o 37 5 0 (v1.map e_Cell))], [], []⟩ : S) ?_ ?_
  ·have hF := hv
   refine Nif hF (fun hb hF => ?_) (fun hb hF => ?_)
   ·obtain ⟨h0, hF⟩ := asrt_elim hF
    obtain ⟨h1, hF⟩ := asrt_elim hF
    refine NRL ((List.replicate (w64 (num - (w64 (0 - 0)))).toNat ((⟨([] : List UInt8), ([] : List UInt8), 0, false, ([] : List UInt8)⟩ : Cell) : Cell))) (fun v2 : List Cell => ([(0, .rowv 22 0 0 ((0 : Int).toNat))], [], [(22, .z 37 5 0 (v2.map e_Cell))], [])) [.xs ((List.replicate (w64 (num - (w64 (0 - 0)))).toNat ((⟨([] : List UInt8), ([] : List UInt8), 0, false, ([] : List UInt8)⟩ : Cell) : Cell)).map e_Cell), .vw ((0 : Int).toNat)] [0] [] [22] [] (hc (rfl : (0 : Int) = 0) (hc h0 (hc (rep_ok e_Cell (w64 (num - (w64 (0 - 0)))) ((⟨([] : List UInt8), ([] : List UInt8), 0, false, ([] : List UInt8)⟩ : Cell) : Cell)) (hc (vw01_ok (cm := 0) e_Cell h1) .nil)))) (fun v2 hv => ?_)
    have hF := lt_elim hF hv
    obtain ⟨h2, hF⟩ := asrt_elim hF
    refine Wk_truncL 0 22 0 ((0 : Int).toNat) ((v2.take ((0 : Int).toNat)).map e_Cell) rfl rfl rfl rfl (tk_ok e_Cell h2).1 (Nat.zero_le _) (List.map_take).symm ?_
    cases hF
    exact met [(22, ⟨0, false, true, false⟩)] (by kernel_rfl)
   ·refine Wk_nilrow 0 60000 37 5 rfl rfl rfl ?_
    refine Wk_trim (fs := [0]) (bs := []) (rs := [60000]) (ms := []) (aa := []) (nv := []) rfl ?_
    refine Wk_ren' ⟨[], [(60000, 22)], [], []⟩ rfl ?_
    cases hF
    exact met [(22, ⟨0, true, false, false⟩)] (by kernel_rfl)
  ·refine NR [] [4] [] [22] [(4, .row 22 0)] .nil ?_
   cases hF
   exact Wk_ret (hfin _ ⟨[22], [], [22], [], [], [], by kernel_rfl⟩)

/- slices.Concat[[]api.Cell,api.Cell] -/
noncomputable def slices_Concat_api_Cell_api_Cell_J2 (v1 : List Cell) : Option (List Cell) :=
 some v1
noncomputable def slices_Concat_api_Cell_api_Cell_B1 (slices : List (List Cell)) (v2 : List Cell × Int) : Option ((List Cell × Int) ⊕ (List Cell)) :=
 if (decide (v2.2 < (slices.length : Int))) = true then
  asrt (0 ≤ v2.2 ∧ v2.2 < (slices.length : Int)) <|
  asrt (((v2.1 ++ (lget slices v2.2)).length : Int) * 64 ≤ 140737488351232) <|
  some (Sum.inl ((v2.1 ++ (lget slices v2.2)), w64 (v2.2 + 1)))
 else
  inrO (slices_Concat_api_Cell_api_Cell_J2 v2.1)
noncomputable def slices_Concat_api_Cell_api_Cell_L1 (slices : List (List Cell)) (v0 : List Cell × Int) : Option (List Cell) :=
 loopO (fun y => slices_Concat_api_Cell_api_Cell_B1 slices y) v0
noncomputable def slices_Concat_api_Cell_api_Cell_J1 (slices : List (List Cell)) (v : Int) : Option (List Cell) :=
 ob (slices_Grow_api_Cell_api_Cell_v1 v) fun x =>
 slices_Concat_api_Cell_api_Cell_L1 slices (x, 0)
noncomputable def slices_Concat_api_Cell_api_Cell_B2 (slices : List (List Cell)) (v3 : Int × Int) : Option ((Int × Int) ⊕ (List Cell)) :=
 if (decide (v3.2 < (slices.length : Int))) = true then
  asrt (0 ≤ v3.2 ∧ v3.2 < (slices.length : Int)) <|
  ob (
   if (decide ((w64 (v3.1 + ((lget slices v3.2).length : Int))) < 0)) = true then
    none
   else
    some ()) fun (v4 : Unit) =>
  some (Sum.inl (w64 (v3.1 + ((lget slices v3.2).length : Int)), w64 (v3.2 + 1)))
 else
  inrO (slices_Concat_api_Cell_api_Cell_J1 slices v3.1)
noncomputable def slices_Concat_api_Cell_api_Cell_L2 (slices : List (List Cell)) (v0 : Int × Int) : Option (List Cell) :=
 loopO (fun y => slices_Concat_api_Cell_api_Cell_B2 slices y) v0
noncomputable def slices_Concat_api_Cell_api_Cell (slices : List (List Cell)) : Option (List Cell) :=
 slices_Concat_api_Cell_api_Cell_L2 slices (0, 0)
theorem slices_Concat_api_Cell_api_Cell_ok (slices : List (List Cell)) (r : List Cell) (hF : slices_Concat_api_Cell_api_Cell slices = some r) : Pe Try.prog 82 S.none [.sl 1 (slices.map e_L_Cell)] (.row 24 0) ⟨[], [], [(24, .o 37 5 0 (r.map e_Cell))], [], []⟩ := by
 refine PeN 36 [.tmp 2] [22] Ty.ok Fn.b82 Try.func82 ?_
 intro Q g hfin
 unfold slices_Concat_api_Cell_api_Cell at hF
 refine NR [] [0] [] [] [] .nil ?_
 refine NR [] [0, 3] [] [] [(3, .i 0)] .nil ?_
 refine NR [.nat (slices.length : Int)] [0, 3, 9, 10, 11] [] [] [(9, .sl 1 (slices.map e_L_Cell)), (10, .i (slices.length : Int)), (11, .i 0)] (hc (len_ok e_L_Cell slices) .nil) ?_
 refine NmeetP (fun v : Int => (⟨[(0, .sl 1 (slices.map e_L_Cell)), (3, .i v)], [], [], [], []⟩ : S)) (fun v => slices_Concat_api_Cell_api_Cell_J1 slices v = some r) ?_ ?_
 ·refine Nblk ?_
  unfold slices_Concat_api_Cell_api_Cell_L2 at hF
  refine Niter (fun v3 : Int × Int => (⟨[(0, .sl 1 (slices.map e_L_Cell)), (3, .i v3.1), (9, .sl 1 (slices.map e_L_Cell)), (10, .i (slices.length : Int)), (11, .i v3.2)], [], [], [], []⟩ : S)) [] hF (by kernel_rfl) ?_
  intro n1 v3 y1 hF ih1 dn1
  unfold slices_Concat_api_Cell_api_Cell_B2 at hF
  refine NR [] [0, 3, 9, 10, 11, 12] [] [] [(12, .bool (decide (v3.2 < (slices.length : Int))))] .nil ?_
  refine Nif hF (fun hb hF => ?_) (fun hb hF => ?_)
  ·refine Nblk ?_
   obtain ⟨h3, hF⟩ := asrt_elim hF
   refine NR [.av (e_L_Cell (lget slices v3.2))] [0, 3, 5, 9, 10, 11] [] [] [(5, .sl 5 ((lget slices v3.2).map e_Cell))] (hc (idx_ok e_L_Cell h3) .nil) ?_
   refine NR [.nat ((lget slices v3.2).length : Int)] [0, 3, 9, 10, 11] [] [] [(3, .i (w64 (v3.1 + ((lget slices v3.2).length : Int))))] (hc (len_ok e_Cell (lget slices v3.2)) .nil) ?_
   refine NR [] [0, 3, 9, 10, 11, 20] [] [] [(20, .bool (decide ((w64 (v3.1 + ((lget slices v3.2).length : Int))) < 0)))] .nil ?_
   obtain ⟨v4, hv, hF⟩ := ob_elim hF
   refine Nmeet (⟨[(0, .sl 1 (slices.map e_L_Cell)), (3, .i (w64 (v3.1 + ((lget slices v3.2).length : Int)))), (9, .sl 1 (slices.map e_L_Cell)), (10, .i (slices.length : Int)), (11, .i v3.2)], [], [], [], []⟩ : S) ?_ ?_
   ·have hF := hv
    refine Nif hF (fun hb hF => ?_) (fun hb hF => ?_)
    ·cases hF
    ·cases hF
     exact met [] (by kernel_rfl)
   ·refine NR [] [0, 3, 9, 10, 11] [] [] [(11, .i (w64 (v3.2 + 1)))] .nil ?_
    exact Nrnd [] hF ih1 (by kernel_rfl)
  ·refine Nexit rfl ?_
   have hF := inrO_done hF dn1
   exact metP v3.1 [] hF (by kernel_rfl)
 ·intro v hF
  have hF : slices_Concat_api_Cell_api_Cell_J1 slices v = some r := hF
  unfold slices_Concat_api_Cell_api_Cell_J1 at hF
  obtain ⟨x, h0, hF⟩ := ob_elim hF
  refine VR [.raw [0], .callE [] [] [] [] (.row 24 0) ⟨[], [], [(24, .o 37 5 0 (x.map e_Cell))], [], []⟩] [0, 6] [] [24] [] [(6, .row 24 0)] [] [(24, .o 37 5 0 (x.map e_Cell))] [] (hc (Pe.ren (slices_Grow_api_Cell_api_Cell_v1_ok v x h0) ⟨[], [(22, 24)], [], []⟩) .nil) ?_
  refine NR [.nat (slices.length : Int)] [6, 25, 26, 27] [] [24] [(25, .sl 1 (slices.map e_L_Cell)), (26, .i (slices.length : Int)), (27, .i 0)] (hc (len_ok e_L_Cell slices) .nil) ?_
  refine NmeetP (fun v1 : List Cell => (⟨[(6, .row 24 0)], [], [(24, .o 37 5 0 (v1.map e_Cell))], [], []⟩ : S)) (fun v1 => slices_Concat_api_Cell_api_Cell_J2 v1 = some r) ?_ ?_
  ·refine Nblk ?_
   unfold slices_Concat_api_Cell_api_Cell_L1 at hF
   refine Niter (fun v2 : List Cell × Int => (⟨[(6, .row 24 0), (25, .sl 1 (slices.map e_L_Cell)), (26, .i (slices.length : Int)), (27, .i v2.2)], [], [(24, .o 37 5 0 (v2.1.map e_Cell))], [], []⟩ : S)) [] hF (by kernel_rfl) ?_
   intro n1 v2 y1 hF ih1 dn1
   unfold slices_Concat_api_Cell_api_Cell_B1 at hF
   refine NR [] [6, 25, 26, 27, 28] [] [24] [(28, .bool (decide (v2.2 < (slices.length : Int))))] .nil ?_
   refine Nif hF (fun hb hF => ?_) (fun hb hF => ?_)
   ·refine Nblk ?_
    obtain ⟨h1, hF⟩ := asrt_elim hF
    refine NR [.av (e_L_Cell (lget slices v2.2))] [6, 8, 25, 26, 27] [] [24] [(8, .sl 5 ((lget slices v2.2).map e_Cell))] (hc (idx_ok e_L_Cell h1) .nil) ?_
    obtain ⟨h2, hF⟩ := asrt_elim hF
    refine VR [.xs ((v2.1 ++ (lget slices v2.2)).map e_Cell)] [6, 25, 26, 27] [] [24] [] [(6, .row 24 1)] [] [(24, .o 37 5 1 ((v2.1 ++ (lget slices v2.2)).map e_Cell))] [] (hc (app_ok e_Cell v2.1 (lget slices v2.2)) (hc (appl_ok e_Cell h2) .nil)) ?_
    refine NR [] [6, 25, 26, 27] [] [24] [(27, .i (w64 (v2.2 + 1)))] .nil ?_
    exact Nrnd [(24, ⟨0, true, true, false⟩)] hF ih1 (by kernel_rfl)
   ·refine Nexit rfl ?_
    have hF := inrO_done hF dn1
    exact metP v2.1 [] hF (by kernel_rfl)
  ·intro v1 hF
   have hF : slices_Concat_api_Cell_api_Cell_J2 v1 = some r := hF
   unfold slices_Concat_api_Cell_api_Cell_J2 at hF
   refine NR [] [2] [] [24] [(2, .row 24 0)] .nil ?_
   cases hF
   exact Wk_ret (hfin _ ⟨[24], [], [24], [], [], [], by kernel_rfl⟩)

/- slices.insertionSortCmpFunc[api.Cell] -/
noncomputable def slices_insertionSortCmpFunc_api_Cell_v1_J1 (v : List Cell) : Option (List Cell) :=
 some v
noncomputable def slices_insertionSortCmpFunc_api_Cell_v1_J2 (v1 : List Cell × Int) (v2 : List Cell) : Option ((List Cell × Int) ⊕ (List Cell)) :=
 some (Sum.inl (v2, w64 (v1.2 + 1)))
noncomputable def slices_insertionSortCmpFunc_api_Cell_v1_B2 (a0 : Int) (v1 : List Cell × Int) (v3 : List Cell × Int) : Option ((List Cell × Int) ⊕ ((List Cell × Int) ⊕ (List Cell))) :=
 asrt ((decide (a0 < v3.2)) = true → 0 ≤ v3.2 ∧ v3.2 < (v3.1.length : Int)) <|
 asrt ((decide (a0 < v3.2)) = true → 0 ≤ v3.2 ∧ v3.2 < (v3.1.length : Int)) <|
 asrt ((decide (a0 < v3.2)) = true → 0 ≤ w64 (v3.2 - 1) ∧ w64 (v3.2 - 1) < (v3.1.length : Int)) <|
 asrt ((decide (a0 < v3.2)) = true → 0 ≤ w64 (v3.2 - 1) ∧ w64 (v3.2 - 1) < (v3.1.length : Int)) <|
 ob (if (decide (a0 < v3.2)) = true then (cell_Order (⟨(lget v3.1 v3.2).Row, (lget v3.1 v3.2).Col, (lget v3.1 v3.2).Time, (lget v3.1 v3.2).Gone, (lget v3.1 v3.2).Value⟩ : Cell) (⟨(lget v3.1 (w64 (v3.2 - 1))).Row, (lget v3.1 (w64 (v3.2 - 1))).Col, (lget v3.1 (w64 (v3.2 - 1))).Time, (lget v3.1 (w64 (v3.2 - 1))).Gone, (lget v3.1 (w64 (v3.2 - 1))).Value⟩ : Cell)) else some default) fun x =>
 if ((decide (a0 < v3.2)) && (decide (x < 0))) = true then
  asrt (0 ≤ w64 (v3.2 - 1) ∧ w64 (v3.2 - 1) < (v3.1.length : Int)) <|
  asrt (0 ≤ w64 (v3.2 - 1) ∧ w64 (v3.2 - 1) < (v3.1.length : Int)) <|
  asrt (0 ≤ v3.2 ∧ v3.2 < (v3.1.length : Int)) <|
  asrt (0 ≤ v3.2 ∧ v3.2 < (v3.1.length : Int)) <|
  asrt (0 ≤ v3.2 ∧ v3.2 < (v3.1.length : Int)) <|
  asrt (0 ≤ v3.2 ∧ v3.2 < (v3.1.length : Int)) <|
  asrt (0 ≤ w64 (v3.2 - 1) ∧ w64 (v3.2 - 1) < ((lset v3.1 v3.2 (⟨(lget v3.1 (w64 (v3.2 - 1))).Row, (lget v3.1 (w64 (v3.2 - 1))).Col, (lget v3.1 (w64 (v3.2 - 1))).Time, (lget v3.1 (w64 (v3.2 - 1))).Gone, (lget v3.1 (w64 (v3.2 - 1))).Value⟩ : Cell)).length : Int)) <|
  asrt (0 ≤ w64 (v3.2 - 1) ∧ w64 (v3.2 - 1) < ((lset v3.1 v3.2 (⟨(lget v3.1 (w64 (v3.2 - 1))).Row, (lget v3.1 (w64 (v3.2 - 1))).Col, (lget v3.1 (w64 (v3.2 - 1))).Time, (lget v3.1 (w64 (v3.2 - 1))).Gone, (lget v3.1 (w64 (v3.2 - 1))).Value⟩ : Cell)).length : Int)) <|
  lt ((lset (lset v3.1 v3.2 (⟨(lget v3.1 (w64 (v3.2 - 1))).Row, (lget v3.1 (w64 (v3.2 - 1))).Col, (lget v3.1 (w64 (v3.2 - 1))).Time, (lget v3.1 (w64 (v3.2 - 1))).Gone, (lget v3.1 (w64 (v3.2 - 1))).Value⟩ : Cell)) (w64 (v3.2 - 1)) (⟨(lget v3.1 v3.2).Row, (lget v3.1 v3.2).Col, (lget v3.1 v3.2).Time, (lget v3.1 v3.2).Gone, (lget v3.1 v3.2).Value⟩ : Cell))) fun (v4 : List Cell) =>
  some (Sum.inl (v4, w64 (v3.2 - 1)))
 else
  inrO (slices_insertionSortCmpFunc_api_Cell_v1_J2 v1 v3.1)
noncomputable def slices_insertionSortCmpFunc_api_Cell_v1_L2 (a0 : Int) (v1 : List Cell × Int) (v0 : List Cell × Int) : Option ((List Cell × Int) ⊕ (List Cell)) :=
 loopO (fun y => slices_insertionSortCmpFunc_api_Cell_v1_B2 a0 v1 y) v0
noncomputable def slices_insertionSortCmpFunc_api_Cell_v1_B1 (a0 : Int) (b : Int) (v1 : List Cell × Int) : Option ((List Cell × Int) ⊕ (List Cell)) :=
 if (decide (v1.2 < b)) = true then
  slices_insertionSortCmpFunc_api_Cell_v1_L2 a0 v1 (v1.1, v1.2)
 else
  inrO (slices_insertionSortCmpFunc_api_Cell_v1_J1 v1.1)
noncomputable def slices_insertionSortCmpFunc_api_Cell_v1_L1 (a0 : Int) (b : Int) (v0 : List Cell × Int) : Option (List Cell) :=
 loopO (fun y => slices_insertionSortCmpFunc_api_Cell_v1_B1 a0 b y) v0
noncomputable def slices_insertionSortCmpFunc_api_Cell_v1 (a0 : Int) (b : Int) (row : List Cell) : Option (List Cell) :=
 slices_insertionSortCmpFunc_api_Cell_v1_L1 a0 b (row, w64 (a0 + 1))
theorem slices_insertionSortCmpFunc_api_Cell_v1_ok (a0 : Int) (b : Int) (row : List Cell) (rk : Nat) (rc : Nat) (rn : Bool) (r : List Cell) (hF : slices_insertionSortCmpFunc_api_Cell_v1 a0 b row = some r) : Pe Try.prog 92 ⟨[], [], [(100000, ⟨37, 5, 0, 0, rc, rn, 0, [], (row.map e_Cell)⟩)], [], []⟩ [.row 100000 0, .i a0, .i b, .fn 57 []] (.tup []) ⟨[], [], [(100000, ⟨37, 5, 0, 0, rc, rn, 0, [], (r.map e_Cell)⟩)], [], []⟩ := by
 refine PeN 53 [] [] Ty.ok Fn.b92 Try.func92 ?_
 intro Q g hfin
 unfold slices_insertionSortCmpFunc_api_Cell_v1 at hF
 refine NR [] [0, 1, 2, 3, 8] [] [100000] [(8, .i (w64 (a0 + 1)))] .nil ?_
 refine NmeetP (fun v : List Cell => (⟨[], [], [(100000, ⟨37, 5, 0, 0, rc, rn, 0, [], (v.map e_Cell)⟩)], [], []⟩ : S)) (fun v => slices_insertionSortCmpFunc_api_Cell_v1_J1 v = some r) ?_ ?_
 ·refine Nblk ?_
  unfold slices_insertionSortCmpFunc_api_Cell_v1_L1 at hF
  refine Niter (fun v1 : List Cell × Int => (⟨[(0, .row 100000 0), (1, .i a0), (2, .i b), (3, .fn 57 []), (8, .i v1.2)], [], [(100000, ⟨37, 5, 0, 0, rc, rn, 0, [], (v1.1.map e_Cell)⟩)], [], []⟩ : S)) [] hF (by kernel_rfl) ?_
  intro n1 v1 y1 hF ih1 dn1
  unfold slices_insertionSortCmpFunc_api_Cell_v1_B1 at hF
  refine NR [] [0, 1, 2, 3, 8, 14] [] [100000] [(14, .bool (decide (v1.2 < b)))] .nil ?_
  refine Nif hF (fun hb hF => ?_) (fun hb hF => ?_)
  ·refine Nblk ?_
   refine NR [] [0, 1, 2, 3, 8, 9] [] [100000] [(9, .i v1.2)] .nil ?_
   refine NmeetP (fun v2 : List Cell => (⟨[(0, .row 100000 0), (1, .i a0), (2, .i b), (3, .fn 57 []), (8, .i v1.2)], [], [(100000, ⟨37, 5, 0, 0, rc, rn, 0, [], (v2.map e_Cell)⟩)], [], []⟩ : S)) (fun v2 => slices_insertionSortCmpFunc_api_Cell_v1_J2 v1 v2 = some y1) ?_ ?_
   ·refine Nblk ?_
    unfold slices_insertionSortCmpFunc_api_Cell_v1_L2 at hF
    refine Niter (fun v3 : List Cell × Int => (⟨[(0, .row 100000 0), (1, .i a0), (2, .i b), (3, .fn 57 []), (8, .i v1.2), (9, .i v3.2)], [], [(100000, ⟨37, 5, 0, 0, rc, rn, 0, [], (v3.1.map e_Cell)⟩)], [], []⟩ : S)) [] hF (by kernel_rfl) ?_
    intro n2 v3 y2 hF ih2 dn2
    unfold slices_insertionSortCmpFunc_api_Cell_v1_B2 at hF
    obtain ⟨h0, h1, h2, h3, hF⟩ := asrt4 hF
    obtain ⟨x, h4, hF⟩ := ob_elim hF
    refine ND [.av (e_Cell (lget v3.1 v3.2)), .av (e_Cell (lget v3.1 (w64 (v3.2 - 1)))), .callB (.i x)] [0, 1, 2, 3, 8, 9, 34] [] [100000] [(34, .bool ((decide (a0 < v3.2)) && (decide (x < 0))))] (hc (fun (ga0 : (decide (a0 < v3.2)) = true) => (ixr_ok e_Cell (h0 ga0))) (hc (fun (ga0 : (decide (a0 < v3.2)) = true) => (ldr_ok e_Cell (h1 ga0))) (hc (fun (ga0 : (decide (a0 < v3.2)) = true) => (ixr_ok e_Cell (h2 ga0))) (hc (fun (ga0 : (decide (a0 < v3.2)) = true) => (ldr_ok e_Cell (h3 ga0))) (hc (fun (ga0 : (decide (a0 < v3.2)) = true) => (cell_Order_ok (⟨(lget v3.1 v3.2).Row, (lget v3.1 v3.2).Col, (lget v3.1 v3.2).Time, (lget v3.1 v3.2).Gone, (lget v3.1 v3.2).Value⟩ : Cell) (⟨(lget v3.1 (w64 (v3.2 - 1))).Row, (lget v3.1 (w64 (v3.2 - 1))).Col, (lget v3.1 (w64 (v3.2 - 1))).Time, (lget v3.1 (w64 (v3.2 - 1))).Gone, (lget v3.1 (w64 (v3.2 - 1))).Value⟩ : Cell) x (ite_t h4 ga0))) .nil))))) ?_
    refine Nif hF (fun hb hF => ?_) (fun hb hF => ?_)
    ·refine Nblk ?_
     obtain ⟨h5, h6, h7, h8, hF⟩ := asrt4 hF
     obtain ⟨h9, h10, h11, h12, hF⟩ := asrt4 hF
     refine NDL ((lset (lset v3.1 v3.2 (⟨(lget v3.1 (w64 (v3.2 - 1))).Row, (lget v3.1 (w64 (v3.2 - 1))).Col, (lget v3.1 (w64 (v3.2 - 1))).Time, (lget v3.1 (w64 (v3.2 - 1))).Gone, (lget v3.1 (w64 (v3.2 - 1))).Value⟩ : Cell)) (w64 (v3.2 - 1)) (⟨(lget v3.1 v3.2).Row, (lget v3.1 v3.2).Col, (lget v3.1 v3.2).Time, (lget v3.1 v3.2).Gone, (lget v3.1 v3.2).Value⟩ : Cell))) (fun v4 : List Cell => ([], [], [(100000, ⟨37, 5, 0, 0, rc, rn, 0, [], (v4.map e_Cell)⟩)], [])) [.av (e_Cell (lget v3.1 (w64 (v3.2 - 1)))), .av (e_Cell (lget v3.1 v3.2)), .av (e_Cell (lget v3.1 v3.2)), .xs ((lset v3.1 v3.2 (⟨(lget v3.1 (w64 (v3.2 - 1))).Row, (lget v3.1 (w64 (v3.2 - 1))).Col, (lget v3.1 (w64 (v3.2 - 1))).Time, (lget v3.1 (w64 (v3.2 - 1))).Gone, (lget v3.1 (w64 (v3.2 - 1))).Value⟩ : Cell)).map e_Cell), .av (e_Cell (lget (lset v3.1 v3.2 (⟨(lget v3.1 (w64 (v3.2 - 1))).Row, (lget v3.1 (w64 (v3.2 - 1))).Col, (lget v3.1 (w64 (v3.2 - 1))).Time, (lget v3.1 (w64 (v3.2 - 1))).Gone, (lget v3.1 (w64 (v3.2 - 1))).Value⟩ : Cell)) (w64 (v3.2 - 1)))), .xs ((lset (lset v3.1 v3.2 (⟨(lget v3.1 (w64 (v3.2 - 1))).Row, (lget v3.1 (w64 (v3.2 - 1))).Col, (lget v3.1 (w64 (v3.2 - 1))).Time, (lget v3.1 (w64 (v3.2 - 1))).Gone, (lget v3.1 (w64 (v3.2 - 1))).Value⟩ : Cell)) (w64 (v3.2 - 1)) (⟨(lget v3.1 v3.2).Row, (lget v3.1 v3.2).Col, (lget v3.1 v3.2).Time, (lget v3.1 v3.2).Gone, (lget v3.1 v3.2).Value⟩ : Cell)).map e_Cell)] [0, 1, 2, 3, 8, 9] [] [100000] [] (hc (ixr_ok e_Cell h5) (hc (ldr_ok e_Cell h6) (hc (ixr_ok e_Cell h7) (hc (ldr_ok e_Cell h8) (hc (ixr_ok e_Cell h9) (hc (ldr_ok e_Cell h10) (hc (set_ok e_Cell v3.1 v3.2 (⟨(lget v3.1 (w64 (v3.2 - 1))).Row, (lget v3.1 (w64 (v3.2 - 1))).Col, (lget v3.1 (w64 (v3.2 - 1))).Time, (lget v3.1 (w64 (v3.2 - 1))).Gone, (lget v3.1 (w64 (v3.2 - 1))).Value⟩ : Cell)) (hc (Nat.zero_le v3.2.toNat) (hc (ixr_ok e_Cell h11) (hc (ldr_ok e_Cell h12) (hc (set_ok e_Cell (lset v3.1 v3.2 (⟨(lget v3.1 (w64 (v3.2 - 1))).Row, (lget v3.1 (w64 (v3.2 - 1))).Col, (lget v3.1 (w64 (v3.2 - 1))).Time, (lget v3.1 (w64 (v3.2 - 1))).Gone, (lget v3.1 (w64 (v3.2 - 1))).Value⟩ : Cell)) (w64 (v3.2 - 1)) (⟨(lget v3.1 v3.2).Row, (lget v3.1 v3.2).Col, (lget v3.1 v3.2).Time, (lget v3.1 v3.2).Gone, (lget v3.1 v3.2).Value⟩ : Cell)) (hc (Nat.zero_le ((w64 (v3.2 - 1)).toNat)) .nil)))))))))))) (fun v4 hv => ?_)
     have hF := lt_elim hF hv
     refine NR [] [0, 1, 2, 3, 8, 9] [] [100000] [(9, .i (w64 (v3.2 - 1)))] .nil ?_
     exact Nrnd [] hF ih2 (by kernel_rfl)
    ·refine Nexit rfl ?_
     have hF := inrO_done hF dn2
     exact metP v3.1 [] hF (by kernel_rfl)
   ·intro v2 hF
    have hF : slices_insertionSortCmpFunc_api_Cell_v1_J2 v1 v2 = some y1 := hF
    unfold slices_insertionSortCmpFunc_api_Cell_v1_J2 at hF
    refine NR [] [0, 1, 2, 3, 8] [] [100000] [(8, .i (w64 (v1.2 + 1)))] .nil ?_
    exact Nrnd [] hF ih1 (by kernel_rfl)
  ·refine Nexit rfl ?_
   have hF := inrO_done hF dn1
   exact metP v1.1 [] hF (by kernel_rfl)
 ·intro v hF
  have hF : slices_insertionSortCmpFunc_api_Cell_v1_J1 v = some r := hF
  unfold slices_insertionSortCmpFunc_api_Cell_v1_J1 at hF
  cases hF
  exact Wk_end (hfin _ ⟨[100000], [], [100000], [], [], [], by kernel_rfl⟩)

/- slices.swapRangeCmpFunc[api.Cell] -/
noncomputable def slices_swapRangeCmpFunc_api_Cell_v1_J1 (v : List Cell) : Option (List Cell) :=
 some v
noncomputable def slices_swapRangeCmpFunc_api_Cell_v1_B1 (a0 : Int) (b : Int) (num : Int) (v1 : List Cell × Int) : Option ((List Cell × Int) ⊕ (List Cell)) :=
 if (decide (v1.2 < num)) = true then
  asrt (0 ≤ w64 (b + v1.2) ∧ w64 (b + v1.2) < (v1.1.length : Int)) <|
  asrt (0 ≤ w64 (b + v1.2) ∧ w64 (b + v1.2) < (v1.1.length : Int)) <|
  asrt (0 ≤ w64 (a0 + v1.2) ∧ w64 (a0 + v1.2) < (v1.1.length : Int)) <|
  asrt (0 ≤ w64 (a0 + v1.2) ∧ w64 (a0 + v1.2) < (v1.1.length : Int)) <|
  asrt (0 ≤ w64 (a0 + v1.2) ∧ w64 (a0 + v1.2) < (v1.1.length : Int)) <|
  asrt (0 ≤ w64 (a0 + v1.2) ∧ w64 (a0 + v1.2) < (v1.1.length : Int)) <|
  asrt (0 ≤ w64 (b + v1.2) ∧ w64 (b + v1.2) < ((lset v1.1 (w64 (a0 + v1.2)) (⟨(lget v1.1 (w64 (b + v1.2))).Row, (lget v1.1 (w64 (b + v1.2))).Col, (lget v1.1 (w64 (b + v1.2))).Time, (lget v1.1 (w64 (b + v1.2))).Gone, (lget v1.1 (w64 (b + v1.2))).Value⟩ : Cell)).length : Int)) <|
  asrt (0 ≤ w64 (b + v1.2) ∧ w64 (b + v1.2) < ((lset v1.1 (w64 (a0 + v1.2)) (⟨(lget v1.1 (w64 (b + v1.2))).Row, (lget v1.1 (w64 (b + v1.2))).Col, (lget v1.1 (w64 (b + v1.2))).Time, (lget v1.1 (w64 (b + v1.2))).Gone, (lget v1.1 (w64 (b + v1.2))).Value⟩ : Cell)).length : Int)) <|
  lt ((lset (lset v1.1 (w64 (a0 + v1.2)) (⟨(lget v1.1 (w64 (b + v1.2))).Row, (lget v1.1 (w64 (b + v1.2))).Col, (lget v1.1 (w64 (b + v1.2))).Time, (lget v1.1 (w64 (b + v1.2))).Gone, (lget v1.1 (w64 (b + v1.2))).Value⟩ : Cell)) (w64 (b + v1.2)) (⟨(lget v1.1 (w64 (a0 + v1.2))).Row, (lget v1.1 (w64 (a0 + v1.2))).Col, (lget v1.1 (w64 (a0 + v1.2))).Time, (lget v1.1 (w64 (a0 + v1.2))).Gone, (lget v1.1 (w64 (a0 + v1.2))).Value⟩ : Cell))) fun (v2 : List Cell) =>
  some (Sum.inl (v2, w64 (v1.2 + 1)))
 else
  inrO (slices_swapRangeCmpFunc_api_Cell_v1_J1 v1.1)
noncomputable def slices_swapRangeCmpFunc_api_Cell_v1_L1 (a0 : Int) (b : Int) (num : Int) (v0 : List Cell × Int) : Option (List Cell) :=
 loopO (fun y => slices_swapRangeCmpFunc_api_Cell_v1_B1 a0 b num y) v0
noncomputable def slices_swapRangeCmpFunc_api_Cell_v1 (a0 : Int) (b : Int) (num : Int) (row : List Cell) : Option (List Cell) :=
 slices_swapRangeCmpFunc_api_Cell_v1_L1 a0 b num (row, 0)
theorem slices_swapRangeCmpFunc_api_Cell_v1_ok (a0 : Int) (b : Int) (num : Int) (row : List Cell) (rk : Nat) (rc : Nat) (rn : Bool) (r : List Cell) (hF : slices_swapRangeCmpFunc_api_Cell_v1 a0 b num row = some r) : Pe Try.prog 95 ⟨[], [], [(100000, ⟨37, 5, 0, 0, rc, rn, 0, [], (row.map e_Cell)⟩)], [], []⟩ [.row 100000 0, .i a0, .i b, .i num, .fn 57 []] (.tup []) ⟨[], [], [(100000, ⟨37, 5, 0, 0, rc, rn, 0, [], (r.map e_Cell)⟩)], [], []⟩ := by
 refine PeN 38 [] [] Ty.ok Fn.b95 Try.func95 ?_
 intro Q g hfin
 unfold slices_swapRangeCmpFunc_api_Cell_v1 at hF
 refine NR [] [0, 1, 2, 3, 10] [] [100000] [(10, .i 0)] .nil ?_
 refine NmeetP (fun v : List Cell => (⟨[], [], [(100000, ⟨37, 5, 0, 0, rc, rn, 0, [], (v.map e_Cell)⟩)], [], []⟩ : S)) (fun v => slices_swapRangeCmpFunc_api_Cell_v1_J1 v = some r) ?_ ?_
 ·refine Nblk ?_
  unfold slices_swapRangeCmpFunc_api_Cell_v1_L1 at hF
  refine Niter (fun v1 : List Cell × Int => (⟨[(0, .row 100000 0), (1, .i a0), (2, .i b), (3, .i num), (10, .i v1.2)], [], [(100000, ⟨37, 5, 0, 0, rc, rn, 0, [], (v1.1.map e_Cell)⟩)], [], []⟩ : S)) [] hF (by kernel_rfl) ?_
  intro n1 v1 y1 hF ih1 dn1
  unfold slices_swapRangeCmpFunc_api_Cell_v1_B1 at hF
  refine NR [] [0, 1, 2, 3, 10, 13] [] [100000] [(13, .bool (decide (v1.2 < num)))] .nil ?_
  refine Nif hF (fun hb hF => ?_) (fun hb hF => ?_)
  ·refine Nblk ?_
   obtain ⟨h0, h1, h2, h3, hF⟩ := asrt4 hF
   obtain ⟨h4, h5, h6, h7, hF⟩ := asrt4 hF
   refine NDL ((lset (lset v1.1 (w64 (a0 + v1.2)) (⟨(lget v1.1 (w64 (b + v1.2))).Row, (lget v1.1 (w64 (b + v1.2))).Col, (lget v1.1 (w64 (b + v1.2))).Time, (lget v1.1 (w64 (b + v1.2))).Gone, (lget v1.1 (w64 (b + v1.2))).Value⟩ : Cell)) (w64 (b + v1.2)) (⟨(lget v1.1 (w64 (a0 + v1.2))).Row, (lget v1.1 (w64 (a0 + v1.2))).Col, (lget v1.1 (w64 (a0 + v1.2))).Time, (lget v1.1 (w64 (a0 + v1.2))).Gone, (lget v1.1 (w64 (a0 + v1.2))).Value⟩ : Cell))) (fun v2 : List Cell => ([], [], [(100000, ⟨37, 5, 0, 0, rc, rn, 0, [], (v2.map e_Cell)⟩)], [])) [.av (e_Cell (lget v1.1 (w64 (b + v1.2)))), .av (e_Cell (lget v1.1 (w64 (a0 + v1.2)))), .av (e_Cell (lget v1.1 (w64 (a0 + v1.2)))), .xs ((lset v1.1 (w64 (a0 + v1.2)) (⟨(lget v1.1 (w64 (b + v1.2))).Row, (lget v1.1 (w64 (b + v1.2))).Col, (lget v1.1 (w64 (b + v1.2))).Time, (lget v1.1 (w64 (b + v1.2))).Gone, (lget v1.1 (w64 (b + v1.2))).Value⟩ : Cell)).map e_Cell), .av (e_Cell (lget (lset v1.1 (w64 (a0 + v1.2)) (⟨(lget v1.1 (w64 (b + v1.2))).Row, (lget v1.1 (w64 (b + v1.2))).Col, (lget v1.1 (w64 (b + v1.2))).Time, (lget v1.1 (w64 (b + v1.2))).Gone, (lget v1.1 (w64 (b + v1.2))).Value⟩ : Cell)) (w64 (b + v1.2)))), .xs ((lset (lset v1.1 (w64 (a0 + v1.2)) (⟨(lget v1.1 (w64 (b + v1.2))).Row, (lget v1.1 (w64 (b + v1.2))).Col, (lget v1.1 (w64 (b + v1.2))).Time, (lget v1.1 (w64 (b + v1.2))).Gone, (lget v1.1 (w64 (b + v1.2))).Value⟩ : Cell)) (w64 (b + v1.2)) (⟨(lget v1.1 (w64 (a0 + v1.2))).Row, (lget v1.1 (w64 (a0 + v1.2))).Col, (lget v1.1 (w64 (a0 + v1.2))).Time, (lget v1.1 (w64 (a0 + v1.2))).Gone, (lget v1.1 (w64 (a0 + v1.2))).Value⟩ : Cell)).map e_Cell)] [0, 1, 2, 3, 10] [] [100000] [] (hc (ixr_ok e_Cell h0) (hc (ldr_ok e_Cell h1) (hc (ixr_ok e_Cell h2) (hc (ldr_ok e_Cell h3) (hc (ixr_ok e_Cell h4) (hc (ldr_ok e_Cell h5) (hc (set_ok e_Cell v1.1 (w64 (a0 + v1.2)) (⟨(lget v1.1 (w64 (b + v1.2))).Row, (lget v1.1 (w64 (b + v1.2))).Col, (lget v1.1 (w64 (b + v1.2))).Time, (lget v1.1 (w64 (b + v1.2))).Gone, (lget v1.1 (w64 (b + v1.2))).Value⟩ : Cell)) (hc (Nat.zero_le ((w64 (a0 + v1.2)).toNat)) (hc (ixr_ok e_Cell h6) (hc (ldr_ok e_Cell h7) (hc (set_ok e_Cell (lset v1.1 (w64 (a0 + v1.2)) (⟨(lget v1.1 (w64 (b + v1.2))).Row, (lget v1.1 (w64 (b + v1.2))).Col, (lget v1.1 (w64 (b + v1.2))).Time, (lget v1.1 (w64 (b + v1.2))).Gone, (lget v1.1 (w64 (b + v1.2))).Value⟩ : Cell)) (w64 (b + v1.2)) (⟨(lget v1.1 (w64 (a0 + v1.2))).Row, (lget v1.1 (w64 (a0 + v1.2))).Col, (lget v1.1 (w64 (a0 + v1.2))).Time, (lget v1.1 (w64 (a0 + v1.2))).Gone, (lget v1.1 (w64 (a0 + v1.2))).Value⟩ : Cell)) (hc (Nat.zero_le ((w64 (b + v1.2)).toNat)) .nil)))))))))))) (fun v2 hv => ?_)
   have hF := lt_elim hF hv
   refine NR [] [0, 1, 2, 3, 10] [] [100000] [(10, .i (w64 (v1.2 + 1)))] .nil ?_
   exact Nrnd [] hF ih1 (by kernel_rfl)
  ·refine Nexit rfl ?_
   have hF := inrO_done hF dn1
   exact metP v1.1 [] hF (by kernel_rfl)
 ·intro v hF
  have hF : slices_swapRangeCmpFunc_api_Cell_v1_J1 v = some r := hF
  unfold slices_swapRangeCmpFunc_api_Cell_v1_J1 at hF
  cases hF
  exact Wk_end (hfin _ ⟨[100000], [], [100000], [], [], [], by kernel_rfl⟩)

/- slices.rotateCmpFunc[api.Cell] -/
noncomputable def slices_rotateCmpFunc_api_Cell_v1_J1 (m : Int) (v : List Cell × Int) : Option (List Cell) :=
 ob (slices_swapRangeCmpFunc_api_Cell_v1 (w64 (m - v.2)) m v.2 v.1) fun x =>
 some x
noncomputable def slices_rotateCmpFunc_api_Cell_v1_B1 (m : Int) (v1 : List Cell × Int × Int) : Option ((List Cell × Int × Int) ⊕ (List Cell)) :=
 if (!decide (v1.2.1 = v1.2.2)) = true then
  if (decide (v1.2.2 < v1.2.1)) = true then
   ob (slices_swapRangeCmpFunc_api_Cell_v1 (w64 (m - v1.2.1)) m v1.2.2 v1.1) fun x1 =>
   some (Sum.inl (x1, w64 (v1.2.1 - v1.2.2), v1.2.2))
  else
   ob (slices_swapRangeCmpFunc_api_Cell_v1 (w64 (m - v1.2.1)) (w64 ((w64 (m + v1.2.2)) - v1.2.1)) v1.2.1 v1.1) fun x2 =>
   some (Sum.inl (x2, v1.2.1, w64 (v1.2.2 - v1.2.1)))
 else
  inrO (slices_rotateCmpFunc_api_Cell_v1_J1 m (v1.1, v1.2.1))
noncomputable def slices_rotateCmpFunc_api_Cell_v1_L1 (m : Int) (v0 : List Cell × Int × Int) : Option (List Cell) :=
 loopO (fun y => slices_rotateCmpFunc_api_Cell_v1_B1 m y) v0
noncomputable def slices_rotateCmpFunc_api_Cell_v1 (a0 : Int) (m : Int) (b : Int) (row : List Cell) : Option (List Cell) :=
 slices_rotateCmpFunc_api_Cell_v1_L1 m (row, w64 (m - a0), w64 (b - m))
theorem slices_rotateCmpFunc_api_Cell_v1_ok (a0 : Int) (m : Int) (b : Int) (row : List Cell) (rk : Nat) (rc : Nat) (rn : Bool) (r : List Cell) (hF : slices_rotateCmpFunc_api_Cell_v1 a0 m b row = some r) : Pe Try.prog 94 ⟨[], [], [(100000, ⟨37, 5, 0, 0, rc, rn, 0, [], (row.map e_Cell)⟩)], [], []⟩ [.row 100000 0, .i a0, .i m, .i b, .fn 57 []] (.tup []) ⟨[], [], [(100000, ⟨37, 5, 0, 0, rc, rn, 0, [], (r.map e_Cell)⟩)], [], []⟩ := by
 refine PeN 58 [] [] Ty.ok Fn.b94 Try.func94 ?_
 intro Q g hfin
 unfold slices_rotateCmpFunc_api_Cell_v1 at hF
 refine NR [] [0, 2, 3, 4, 10] [] [100000] [(10, .i (w64 (m - a0)))] .nil ?_
 refine NR [] [0, 2, 4, 10, 11] [] [100000] [(11, .i (w64 (b - m)))] .nil ?_
 refine NmeetP (fun v : List Cell × Int => (⟨[(0, .row 100000 0), (2, .i m), (4, .fn 57 []), (10, .i v.2)], [], [(100000, ⟨37, 5, 0, 0, rc, rn, 0, [], (v.1.map e_Cell)⟩)], [], []⟩ : S)) (fun v => slices_rotateCmpFunc_api_Cell_v1_J1 m v = some r) ?_ ?_
 ·refine Nblk ?_
  unfold slices_rotateCmpFunc_api_Cell_v1_L1 at hF
  refine Niter (fun v1 : List Cell × Int × Int => (⟨[(0, .row 100000 0), (2, .i m), (4, .fn 57 []), (10, .i v1.2.1), (11, .i v1.2.2)], [], [(100000, ⟨37, 5, 0, 0, rc, rn, 0, [], (v1.1.map e_Cell)⟩)], [], []⟩ : S)) [] hF (by kernel_rfl) ?_
  intro n1 v1 y1 hF ih1 dn1
  unfold slices_rotateCmpFunc_api_Cell_v1_B1 at hF
  refine NR [] [0, 2, 4, 10, 11, 20] [] [100000] [(20, .bool (!decide (v1.2.1 = v1.2.2)))] .nil ?_
  refine Nif hF (fun hb hF => ?_) (fun hb hF => ?_)
  ·refine Nblk ?_
   refine NR [] [0, 2, 4, 10, 11, 23] [] [100000] [(23, .bool (decide (v1.2.2 < v1.2.1)))] .nil ?_
   refine Nif hF (fun hb hF => ?_) (fun hb hF => ?_)
   ·obtain ⟨x1, h1, hF⟩ := ob_elim hF
    refine VR [.callE [] [100000] [] [] (.tup []) ⟨[], [], [(100000, ⟨37, 5, 0, 0, rc, rn, 0, [], (x1.map e_Cell)⟩)], [], []⟩] [0, 2, 4, 10, 11] [] [100000] [] [] [] [(100000, ⟨37, 5, 0, 0, rc, rn, 0, [], (x1.map e_Cell)⟩)] [] (hc (Pe.ren (slices_swapRangeCmpFunc_api_Cell_v1_ok (w64 (m - v1.2.1)) m v1.2.2 v1.1 0 rc rn x1 h1) ⟨[], [], [], []⟩) .nil) ?_
    refine NR [] [0, 2, 4, 10, 11] [] [100000] [(10, .i (w64 (v1.2.1 - v1.2.2)))] .nil ?_
    exact Nrnd [] hF ih1 (by kernel_rfl)
   ·obtain ⟨x2, h2, hF⟩ := ob_elim hF
    refine VR [.callE [] [100000] [] [] (.tup []) ⟨[], [], [(100000, ⟨37, 5, 0, 0, rc, rn, 0, [], (x2.map e_Cell)⟩)], [], []⟩] [0, 2, 4, 10, 11] [] [100000] [] [] [] [(100000, ⟨37, 5, 0, 0, rc, rn, 0, [], (x2.map e_Cell)⟩)] [] (hc (Pe.ren (slices_swapRangeCmpFunc_api_Cell_v1_ok (w64 (m - v1.2.1)) (w64 ((w64 (m + v1.2.2)) - v1.2.1)) v1.2.1 v1.1 0 rc rn x2 h2) ⟨[], [], [], []⟩) .nil) ?_
    refine NR [] [0, 2, 4, 10, 11] [] [100000] [(11, .i (w64 (v1.2.2 - v1.2.1)))] .nil ?_
    exact Nrnd [] hF ih1 (by kernel_rfl)
  ·refine Nexit rfl ?_
   have hF := inrO_done hF dn1
   exact metP (v1.1, v1.2.1) [] hF (by kernel_rfl)
 ·intro v hF
  have hF : slices_rotateCmpFunc_api_Cell_v1_J1 m v = some r := hF
  unfold slices_rotateCmpFunc_api_Cell_v1_J1 at hF
  obtain ⟨x, h0, hF⟩ := ob_elim hF
  refine VR [.callE [] [100000] [] [] (.tup []) ⟨[], [], [(100000, ⟨37, 5, 0, 0, rc, rn, 0, [], (x.map e_Cell)⟩)], [], []⟩] [] [] [100000] [] [] [] [(100000, ⟨37, 5, 0, 0, rc, rn, 0, [], (x.map e_Cell)⟩)] [] (hc (Pe.ren (slices_swapRangeCmpFunc_api_Cell_v1_ok (w64 (m - v.2)) m v.2 v.1 0 rc rn x h0) ⟨[], [], [], []⟩) .nil) ?_
  cases hF
  exact Wk_end (hfin _ ⟨[100000], [], [100000], [], [], [], by kernel_rfl⟩)

end G
end Go.Proofs.Ytkbgkkbinnclmaa
