/- The program's functions as plain functions, and that they are these. Written by a program (dec2.py). -/
import Derived.Test.YtkbgkkbinnclmaaGf0
namespace Go.Proofs.Ytkbgkkbinnclmaa
open Go Go.Dm
set_option linter.unusedVariables false
set_option linter.unusedSimpArgs false
set_option maxRecDepth 100000
namespace G
/- tabularylaw.MergeCompacts$1 -/
noncomputable def law_MergeCompacts_1_v1_J1 (v : List Cell) : Option (List Cell) :=
 some v
noncomputable def law_MergeCompacts_1_v1_J2 (v1 : List Cell × Int) (v2 : List Cell) : Option ((List Cell × Int) ⊕ (List Cell)) :=
 some (Sum.inl (v2, w64 (v1.2 + 1)))
noncomputable def law_MergeCompacts_1_v1_J3 (box1 : Int) (box2 : Bool) (v1 : List Cell × Int) (v3 : Cell × Bool) : Option ((List Cell × Int) ⊕ (List Cell)) :=
 if ((decide (v3.1.Time ≤ box1)) && (v3.2 || (v3.1.Gone && box2))) = true then
  law_MergeCompacts_1_v1_J2 v1 v1.1
 else
  asrt (((v1.1 ++ [v3.1]).length : Int) * 64 ≤ 140737488351232) <|
  law_MergeCompacts_1_v1_J2 v1 (v1.1 ++ [v3.1])
noncomputable def law_MergeCompacts_1_v1_B2 (box : List Cell) (box1 : Int) (box2 : Bool) (v1 : List Cell × Int) (v4 : Cell × Bool × Int) : Option ((Cell × Bool × Int) ⊕ ((List Cell × Int) ⊕ (List Cell))) :=
 if (decide (v4.2.2 < v1.2)) = true then
  asrt ((!v4.2.1) = true → 0 ≤ v4.2.2 ∧ v4.2.2 < (box.length : Int)) <|
  asrt ((decide (((lget box v4.2.2).Row) = v4.1.Row)) = true → (!v4.2.1) = true → 0 ≤ v4.2.2 ∧ v4.2.2 < (box.length : Int)) <|
  asrt (((decide (((lget box v4.2.2).Row) = v4.1.Row)) && (decide (((lget box v4.2.2).Col) = v4.1.Col))) = true → (!v4.2.1) = true → 0 ≤ v4.2.2 ∧ v4.2.2 < (box.length : Int)) <|
  lt (v4.2.1 || (((decide (((lget box v4.2.2).Row) = v4.1.Row)) && (decide (((lget box v4.2.2).Col) = v4.1.Col))) && (decide (((lget box v4.2.2).Time) ≤ box1)))) fun (v5 : Bool) =>
  some (Sum.inl (v4.1, v5, w64 (v4.2.2 + 1)))
 else
  inrO (law_MergeCompacts_1_v1_J3 box1 box2 v1 (v4.1, v4.2.1))
noncomputable def law_MergeCompacts_1_v1_L2 (box : List Cell) (box1 : Int) (box2 : Bool) (v1 : List Cell × Int) (v0 : Cell × Bool × Int) : Option ((List Cell × Int) ⊕ (List Cell)) :=
 loopO (fun y => law_MergeCompacts_1_v1_B2 box box1 box2 v1 y) v0
noncomputable def law_MergeCompacts_1_v1_B1 (box : List Cell) (box1 : Int) (box2 : Bool) (v1 : List Cell × Int) : Option ((List Cell × Int) ⊕ (List Cell)) :=
 if (decide (v1.2 < (box.length : Int))) = true then
  asrt (0 ≤ v1.2 ∧ v1.2 < (box.length : Int)) <|
  law_MergeCompacts_1_v1_L2 box box1 box2 v1 ((⟨(lget box v1.2).Row, (lget box v1.2).Col, (lget box v1.2).Time, (lget box v1.2).Gone, (lget box v1.2).Value⟩ : Cell), false, 0)
 else
  inrO (law_MergeCompacts_1_v1_J1 v1.1)
noncomputable def law_MergeCompacts_1_v1_L1 (box : List Cell) (box1 : Int) (box2 : Bool) (v0 : List Cell × Int) : Option (List Cell) :=
 loopO (fun y => law_MergeCompacts_1_v1_B1 box box1 box2 y) v0
noncomputable def law_MergeCompacts_1_v1 (box : List Cell) (box1 : Int) (box2 : Bool) : Option (List Cell) :=
 law_MergeCompacts_1_v1_L1 box box1 box2 (([] : List Cell), 0)
theorem law_MergeCompacts_1_v1_ok (box : List Cell) (box1 : Int) (box2 : Bool) (r : List Cell) (hF : law_MergeCompacts_1_v1 box box1 box2 = some r) : Pe Try.prog 29 ⟨[], [(100000, [.sl 5 (box.map e_Cell)]), (100001, [.i box1]), (100002, [.bool box2])], [], [], []⟩ [.ptr 100000 0, .ptr 100001 0, .ptr 100002 0] (.sl 5 (r.map e_Cell)) ⟨[], [(100000, [.sl 5 (box.map e_Cell)]), (100001, [.i box1]), (100002, [.bool box2])], [], [], []⟩ := by
 refine PeN 73 [.tmp 3] [22] Ty.ok Fn.b29 Try.func29 ?_
 intro Q g hfin
 unfold law_MergeCompacts_1_v1 at hF
 refine NR [] [0, 1, 2] [100000, 100001, 100002] [] [] .nil ?_
 refine NR [] [0, 1, 2, 4] [100000, 100001, 100002] [] [(4, .nils)] .nil ?_
 refine NR [] [0, 1, 2, 4, 5] [100000, 100001, 100002] [] [(5, .i 0)] .nil ?_
 refine NmeetP (fun v : List Cell => (⟨[(4, .row 71 0)], [(100000, [.sl 5 (box.map e_Cell)]), (100001, [.i box1]), (100002, [.bool box2])], [(71, .z 37 5 0 (v.map e_Cell))], [], []⟩ : S)) (fun v => law_MergeCompacts_1_v1_J1 v = some r) ?_ ?_
 ·refine Nblk ?_
  unfold law_MergeCompacts_1_v1_L1 at hF
  refine Wk_nilrow 4 60000 37 5 rfl rfl rfl ?_
  refine Wk_trim (fs := [0, 1, 2, 4, 5]) (bs := [100000, 100001, 100002]) (rs := [60000]) (ms := []) (aa := []) (nv := []) rfl ?_
  refine Wk_ren' ⟨[], [(60000, 71)], [], []⟩ rfl ?_
  refine Niter (fun v1 : List Cell × Int => (⟨[(0, .ptr 100000 0), (1, .ptr 100001 0), (2, .ptr 100002 0), (4, .row 71 0), (5, .i v1.2)], [(100000, [.sl 5 (box.map e_Cell)]), (100001, [.i box1]), (100002, [.bool box2])], [(71, .z 37 5 0 (v1.1.map e_Cell))], [], []⟩ : S)) [] hF (by kernel_rfl) ?_
  intro n1 v1 y1 hF ih1 dn1
  unfold law_MergeCompacts_1_v1_B1 at hF
  refine NR [.nat (box.length : Int)] [0, 1, 2, 4, 5, 12] [100000, 100001, 100002] [71] [(12, .bool (decide (v1.2 < (box.length : Int))))] (hc (len_ok e_Cell box) .nil) ?_
  refine Nif hF (fun hb hF => ?_) (fun hb hF => ?_)
  ·refine NmeetP (fun v2 : List Cell => (⟨[(0, .ptr 100000 0), (1, .ptr 100001 0), (2, .ptr 100002 0), (4, .row 71 0), (5, .i v1.2)], [(100000, [.sl 5 (box.map e_Cell)]), (100001, [.i box1]), (100002, [.bool box2])], [(71, .z 37 5 0 (v2.map e_Cell))], [], []⟩ : S)) (fun v2 => law_MergeCompacts_1_v1_J2 v1 v2 = some y1) ?_ ?_
   ·refine Nblk ?_
    obtain ⟨h0, hF⟩ := asrt_elim hF
    refine VR [.av (e_Cell (lget box v1.2))] [0, 1, 2, 4, 5, 6] [6, 100000, 100001, 100002] [71] [] [(6, .ptr 6 0)] [(6, (c_Cell (lget box v1.2)))] [] [] (hc (idx_ok e_Cell h0) .nil) ?_
    refine NR [] [0, 1, 2, 4, 5, 6, 7] [6, 100000, 100001, 100002] [71] [(7, .bool false)] .nil ?_
    refine NR [] [0, 1, 2, 4, 5, 6, 7, 8] [6, 100000, 100001, 100002] [71] [(8, .i 0)] .nil ?_
    refine NmeetP (fun v3 : Cell × Bool => (⟨[(0, .ptr 100000 0), (1, .ptr 100001 0), (2, .ptr 100002 0), (4, .row 71 0), (5, .i v1.2), (6, .ptr 6 0), (7, .bool v3.2)], [(6, (c_Cell v3.1)), (100000, [.sl 5 (box.map e_Cell)]), (100001, [.i box1]), (100002, [.bool box2])], [(71, .z 37 5 0 (v1.1.map e_Cell))], [], []⟩ : S)) (fun v3 => law_MergeCompacts_1_v1_J3 box1 box2 v1 v3 = some y1) ?_ ?_
    ·refine Nblk ?_
     unfold law_MergeCompacts_1_v1_L2 at hF
     refine Niter (fun v4 : Cell × Bool × Int => (⟨[(0, .ptr 100000 0), (1, .ptr 100001 0), (2, .ptr 100002 0), (4, .row 71 0), (5, .i v1.2), (6, .ptr 6 0), (7, .bool v4.2.1), (8, .i v4.2.2)], [(6, (c_Cell v4.1)), (100000, [.sl 5 (box.map e_Cell)]), (100001, [.i box1]), (100002, [.bool box2])], [(71, .z 37 5 0 (v1.1.map e_Cell))], [], []⟩ : S)) [] hF (by kernel_rfl) ?_
     intro n2 v4 y2 hF ih2 dn2
     unfold law_MergeCompacts_1_v1_B2 at hF
     refine NR [] [0, 1, 2, 4, 5, 6, 7, 8, 21] [6, 100000, 100001, 100002] [71] [(21, .bool (decide (v4.2.2 < v1.2)))] .nil ?_
     refine Nif hF (fun hb hF => ?_) (fun hb hF => ?_)
     ·refine Nblk ?_
      obtain ⟨h2, h3, hF⟩ := asrt2 hF
      obtain ⟨h4, hF⟩ := asrt_elim hF
      refine NDL (v4.2.1 || (((decide (((lget box v4.2.2).Row) = v4.1.Row)) && (decide (((lget box v4.2.2).Col) = v4.1.Col))) && (decide (((lget box v4.2.2).Time) ≤ box1)))) (fun v5 : Bool => ([(7, .bool v5)], [], [], [])) [.av (e_Cell (lget box v4.2.2)), .av (e_Cell (lget box v4.2.2)), .av (e_Cell (lget box v4.2.2))] [0, 1, 2, 4, 5, 6, 7, 8] [6, 100000, 100001, 100002] [71] [] (hc (fun (ga0 : (!v4.2.1) = true) => (idx_ok e_Cell (h2 ga0))) (hc (fun (ga0 : (decide (((lget box v4.2.2).Row) = v4.1.Row)) = true) (ga1 : (!v4.2.1) = true) => (idx_ok e_Cell (h3 ga0 ga1))) (hc (fun (ga0 : ((decide (((lget box v4.2.2).Row) = v4.1.Row)) && (decide (((lget box v4.2.2).Col) = v4.1.Col))) = true) (ga1 : (!v4.2.1) = true) => (idx_ok e_Cell (h4 ga0 ga1))) .nil))) (fun v5 hv => ?_)
      have hF := lt_elim hF hv
      refine NR [] [0, 1, 2, 4, 5, 6, 7, 8] [6, 100000, 100001, 100002] [71] [(8, .i (w64 (v4.2.2 + 1)))] .nil ?_
      exact Nrnd [] hF ih2 (by kernel_rfl)
     ·refine Nexit rfl ?_
      have hF := inrO_done hF dn2
      exact metP (v4.1, v4.2.1) [] hF (by kernel_rfl)
    ·intro v3 hF
     have hF : law_MergeCompacts_1_v1_J3 box1 box2 v1 v3 = some y1 := hF
     unfold law_MergeCompacts_1_v1_J3 at hF
     refine NR [] [0, 1, 2, 4, 5, 6, 67] [6, 100000, 100001, 100002] [71] [(67, .bool ((decide (v3.1.Time ≤ box1)) && (v3.2 || (v3.1.Gone && box2))))] .nil ?_
     refine Nif hF (fun hb hF => ?_) (fun hb hF => ?_)
     ·refine Nexit rfl ?_
      exact metP v1.1 [] hF (by kernel_rfl)
     ·obtain ⟨h1, hF⟩ := asrt_elim hF
      refine VR [.sealed, .xs ((v1.1 ++ [v3.1]).map e_Cell)] [0, 1, 2, 4, 5] [100000, 100001, 100002] [71] [] [(4, .row 71 1)] [] [(71, .z 37 5 1 ((v1.1 ++ [v3.1]).map e_Cell))] [] (hc (app_ok e_Cell v1.1 [v3.1]) (hc (appl_ok e_Cell h1) .nil)) ?_
      exact metP (v1.1 ++ [v3.1]) [(71, ⟨0, true, true, false⟩)] hF (by kernel_rfl)
   ·intro v2 hF
    have hF : law_MergeCompacts_1_v1_J2 v1 v2 = some y1 := hF
    unfold law_MergeCompacts_1_v1_J2 at hF
    refine NR [] [0, 1, 2, 4, 5] [100000, 100001, 100002] [71] [(5, .i (w64 (v1.2 + 1)))] .nil ?_
    exact Nrnd [] hF ih1 (by kernel_rfl)
  ·refine Nexit rfl ?_
   have hF := inrO_done hF dn1
   exact metP v1.1 [] hF (by kernel_rfl)
 ·intro v hF
  have hF : law_MergeCompacts_1_v1_J1 v = some r := hF
  unfold law_MergeCompacts_1_v1_J1 at hF
  refine NR [] [3] [100000, 100001, 100002] [71] [(3, .row 71 0)] .nil ?_
  cases hF
  exact Wk_ret (hfin _ ⟨[], [100000, 100001, 100002], [], [], [], [], by kernel_rfl⟩)

/- tabularylaw.cellsAs -/
noncomputable def law_cellsAs (l : List Cell) (f : Fault) (w0 : Fault) (box : List Cell) (box1 : Int) (box2 : Bool) : Option Bool :=
 if (!(decide (f.Code = w0.Code) && (decide (f.At = w0.At) && true))) = true then
  some false
 else
  if (!decide (w0.Code = 0)) = true then
   some (decide ((l.length : Int) = 0))
  else
   ob (law_MergeCompacts_1_v1 box box1 box2) fun x =>
   ob (R_SameCells l x) fun x1 =>
   some x1
theorem law_cellsAs_ok (l : List Cell) (f : Fault) (w0 : Fault) (box : List Cell) (box1 : Int) (box2 : Bool) (r : Bool) (hF : law_cellsAs l f w0 box box1 box2 = some r) : Pe Try.prog 20 ⟨[], [(100000, [.sl 5 (box.map e_Cell)]), (100001, [.i box1]), (100002, [.bool box2])], [], [], []⟩ [.sl 5 (l.map e_Cell), .agg (c_Fault f), .agg (c_Fault w0), .fn 29 [.ptr 100000 0, .ptr 100001 0, .ptr 100002 0]] (.bool r) ⟨[], [(100000, [.sl 5 (box.map e_Cell)]), (100001, [.i box1]), (100002, [.bool box2])], [], [], []⟩ := by
 refine PeN 22 [.tmp 8] [4] Ty.ok Fn.b20 Try.func20 ?_
 intro Q g hfin
 unfold law_cellsAs at hF
 refine VR [] [0, 3, 5, 6] [5, 6, 100000, 100001, 100002] [] [] [(5, .ptr 5 0), (6, .ptr 6 0)] [(5, (c_Fault f)), (6, (c_Fault w0))] [] [] .nil ?_
 refine NR [] [0, 3, 6, 11] [6, 100000, 100001, 100002] [] [(11, .bool (!(decide (f.Code = w0.Code) && (decide (f.At = w0.At) && true))))] .nil ?_
 refine Nif hF (fun hb hF => ?_) (fun hb hF => ?_)
 ·refine NR [] [8] [100000, 100001, 100002] [] [(8, .bool false)] .nil ?_
  cases hF
  exact Wk_ret (hfin _ ⟨[], [100000, 100001, 100002], [], [], [], [], by kernel_rfl⟩)
 ·refine NR [] [0, 3, 14] [100000, 100001, 100002] [] [(14, .bool (!decide (w0.Code = 0)))] .nil ?_
  refine Nif hF (fun hb hF => ?_) (fun hb hF => ?_)
  ·refine NR [.nat (l.length : Int)] [8] [100000, 100001, 100002] [] [(8, .bool (decide ((l.length : Int) = 0)))] (hc (len_ok e_Cell l) .nil) ?_
   cases hF
   exact Wk_ret (hfin _ ⟨[], [100000, 100001, 100002], [], [], [], [], by kernel_rfl⟩)
  ·obtain ⟨x, h0, hF⟩ := ob_elim hF
   obtain ⟨x1, h1, hF⟩ := ob_elim hF
   refine NR [.callR [100000, 100001, 100002] [] [] [] (.sl 5 (x.map e_Cell)), .callB (.bool x1)] [8] [100000, 100001, 100002] [] [(8, .bool x1)] (hc (Pe.ren (law_MergeCompacts_1_v1_ok box box1 box2 x h0) ⟨[], [], [], []⟩) (hc (R_SameCells_ok l x x1 h1) .nil)) ?_
   cases hF
   exact Wk_ret (hfin _ ⟨[], [100000, 100001, 100002], [], [], [], [], by kernel_rfl⟩)

/- tabularylaw.MergeCompacts -/
noncomputable def law_MergeCompacts (l : List (List Cell)) (since : Int) (whole : Bool) : Option Bool :=
 ob (law_mergeBegun) fun x =>
 if (!x) = true then
  some false
 else
  ob (law_vastLists l) fun x1 =>
  if x1 = true then
   some true
  else
   ob (law_ownLists_v1 l) fun x2 =>
   ob (merge_Compact_v1 x2 since whole) fun x3 =>
   ob (law_listsFault l) fun x4 =>
   ob (
    if (decide (x4.Code = 0)) = true then
     ob (law_together l) fun x5 =>
     if (decide (1000 < (x5.length : Int))) = true then
      lt (R_F 9 (-1)) fun x6 =>
      some (x3.2, x6, x5)
     else
      some (x3.2, x4, x5)
    else
     some (x3.2, x4, ([] : List Cell))) fun (v : Fault × Fault × List Cell) =>
   ob (
    if ((decide (v.2.1.Code = 0)) && ((decide (since < 0)) || (decide (1000000000 < since)))) = true then
     lt (R_F 3 (-1)) fun x7 =>
     some (v.1, x7)
    else
     some (v.1, v.2.1)) fun (v1 : Fault × Fault) =>
   ob (law_cellsAs x3.1 v1.1 v1.2 v.2.2 since whole) fun x8 =>
   some x8
theorem law_MergeCompacts_ok (l : List (List Cell)) (since : Int) (whole : Bool) (r : Bool) (hF : law_MergeCompacts l since whole = some r) : Pe Try.prog 5 S.none [.sl 1 (l.map e_L_Cell), .i since, .bool whole] (.bool r) S.none := by
 refine PeN 51 [.tmp 6] [4] Ty.ok Fn.b5 Try.func5 ?_
 intro Q g hfin
 unfold law_MergeCompacts at hF
 refine VR [] [0, 4, 5] [4, 5] [] [] [(4, .ptr 4 0), (5, .ptr 5 0)] [(4, [.i since]), (5, [.bool whole])] [] [] .nil ?_
 obtain ⟨x, h0, hF⟩ := ob_elim hF
 refine NR [.callB (.bool x)] [0, 4, 5, 12] [4, 5] [] [(12, .bool (!x))] (hc (law_mergeBegun_ok  x h0) .nil) ?_
 refine Nif hF (fun hb hF => ?_) (fun hb hF => ?_)
 ·refine NR [] [6] [] [] [(6, .bool false)] .nil ?_
  cases hF
  exact Wk_ret (hfin _ ⟨[], [], [], [], [], [], by kernel_rfl⟩)
 ·obtain ⟨x1, h1, hF⟩ := ob_elim hF
  refine NR [.callB (.bool x1)] [0, 4, 5, 14] [4, 5] [] [(14, .bool x1)] (hc (law_vastLists_ok l x1 h1) .nil) ?_
  refine Nif hF (fun hb hF => ?_) (fun hb hF => ?_)
  ·refine NR [] [6] [] [] [(6, .bool true)] .nil ?_
   cases hF
   exact Wk_ret (hfin _ ⟨[], [], [], [], [], [], by kernel_rfl⟩)
  ·obtain ⟨x2, h2, hF⟩ := ob_elim hF
   obtain ⟨x3, h3, hF⟩ := ob_elim hF
   refine VD [.call (.sl 1 (x2.map e_L_Cell)), .call (.tup [.sl 5 (x3.1.map e_Cell), .agg (c_Fault x3.2)])] [0, 4, 5, 7, 8] [4, 5, 8] [] [] [(7, .sl 5 (x3.1.map e_Cell)), (8, .ptr 8 0)] [(8, (c_Fault x3.2))] [] [] (hc (law_ownLists_v1_ok l x2 h2) (hc (merge_Compact_v1_ok x2 since whole x3 h3) .nil)) ?_
   obtain ⟨x4, h4, hF⟩ := ob_elim hF
   refine VR [.callB (.agg (c_Fault x4))] [0, 4, 5, 7, 8, 9] [4, 5, 8, 9] [] [] [(9, .ptr 9 0)] [(9, (c_Fault x4))] [] [] (hc (law_listsFault_ok l x4 h4) .nil) ?_
   refine VR [] [0, 4, 5, 7, 8, 9, 10] [4, 5, 8, 9, 10] [] [] [(10, .ptr 10 0)] [(10, [.nils])] [] [] .nil ?_
   refine NR [] [0, 4, 5, 7, 8, 9, 10, 27] [4, 5, 8, 9, 10] [] [(27, .bool (decide (x4.Code = 0)))] .nil ?_
   obtain ⟨v, hv, hF⟩ := ob_elim hF
   refine Nmeet (⟨[(4, .ptr 4 0), (5, .ptr 5 0), (7, .sl 5 (x3.1.map e_Cell)), (8, .ptr 8 0), (9, .ptr 9 0), (10, .ptr 10 0)], [(4, [.i since]), (5, [.bool whole]), (8, (c_Fault v.1)), (9, (c_Fault v.2.1)), (10, [.sl 5 (v.2.2.map e_Cell)])], [], [], []⟩ : S) ?_ ?_
   ·have hF := hv
    refine Nif hF (fun hb hF => ?_) (fun hb hF => ?_)
    ·obtain ⟨x5, h5, hF⟩ := ob_elim hF
     refine VR [.call (.sl 5 (x5.map e_Cell))] [4, 5, 7, 8, 9, 10] [4, 5, 8, 9, 10] [] [] [] [(10, [.sl 5 (x5.map e_Cell)])] [] [] (hc (law_together_ok l x5 h5) .nil) ?_
     refine NR [.nat (x5.length : Int)] [4, 5, 7, 8, 9, 10, 32] [4, 5, 8, 9, 10] [] [(32, .bool (decide (1000 < (x5.length : Int))))] (hc (len_ok e_Cell x5) .nil) ?_
     refine Nif hF (fun hb hF => ?_) (fun hb hF => ?_)
     ·obtain ⟨x6, h6, hF⟩ := lt_split hF
      refine VR [.callB (.agg (c_Fault x6))] [4, 5, 7, 8, 9, 10] [4, 5, 8, 9, 10] [] [] [] [(9, (c_Fault x6))] [] [] (hc (R_F_ok 9 (-1) x6 h6) .nil) ?_
      cases hF
      exact met [] (by kernel_rfl)
     ·cases hF
      exact met [] (by kernel_rfl)
    ·refine Wk_coeB 10 [.sl 5 (([] : List Cell).map e_Cell)] rfl (.cons (CoeS.nils 5) .nil) ?_
     cases hF
     exact met [] (by kernel_rfl)
   ·refine NR [] [4, 5, 7, 8, 9, 10, 44] [4, 5, 8, 9, 10] [] [(44, .bool ((decide (v.2.1.Code = 0)) && ((decide (since < 0)) || (decide (1000000000 < since)))))] .nil ?_
    obtain ⟨v1, hv, hF⟩ := ob_elim hF
    refine Nmeet (⟨[(4, .ptr 4 0), (5, .ptr 5 0), (7, .sl 5 (x3.1.map e_Cell)), (8, .ptr 8 0), (9, .ptr 9 0), (10, .ptr 10 0)], [(4, [.i since]), (5, [.bool whole]), (8, (c_Fault v1.1)), (9, (c_Fault v1.2)), (10, [.sl 5 (v.2.2.map e_Cell)])], [], [], []⟩ : S) ?_ ?_
    ·have hF := hv
     refine Nif hF (fun hb hF => ?_) (fun hb hF => ?_)
     ·obtain ⟨x7, h7, hF⟩ := lt_split hF
      refine VR [.callB (.agg (c_Fault x7))] [4, 5, 7, 8, 9, 10] [4, 5, 8, 9, 10] [] [] [] [(9, (c_Fault x7))] [] [] (hc (R_F_ok 3 (-1) x7 h7) .nil) ?_
      cases hF
      exact met [] (by kernel_rfl)
     ·cases hF
      exact met [] (by kernel_rfl)
    ·obtain ⟨x8, h8, hF⟩ := ob_elim hF
     refine NR [.callR [10, 4, 5] [] [] [] (.bool x8)] [6] [] [] [(6, .bool x8)] (hc (Pe.ren (law_cellsAs_ok x3.1 v1.1 v1.2 v.2.2 since whole x8 h8) ⟨[(100000, 10), (100001, 4), (100002, 5)], [], [], []⟩) .nil) ?_
     cases hF
     exact Wk_ret (hfin _ ⟨[], [], [], [], [], [], by kernel_rfl⟩)

/- merge.Join -/
noncomputable def merge_Join_v1 (l : List (List Cell)) : Option (List Cell × Fault) :=
 ob (merge_lists l) fun x =>
 if (!decide (x.Code = 0)) = true then
  some (([] : List Cell), x)
 else
  ob (merge_joined l) fun x1 =>
  if (decide (1000 < (x1.length : Int))) = true then
   lt (merge_fault 9 (-1)) fun x2 =>
   some (([] : List Cell), x2)
  else
   some (x1, (⟨0, 0⟩ : Fault))

/- tabularylaw.MergeGroups -/
noncomputable def law_MergeGroups (l : List (List Cell)) (at0 : Int) : Option Bool :=
 ob (law_mergeBegun) fun x =>
 if (!x) = true then
  some false
 else
  ob (law_vastLists l) fun x1 =>
  if ((x1 || (decide (at0 < 0))) || (decide ((l.length : Int) < at0))) = true then
   some true
  else
   ob (merge_Join_v1 l) fun x2 =>
   if (!decide (x2.2.Code = 0)) = true then
    some true
   else
    asrt (0 ≤ at0 ∧ at0 ≤ (l.length : Int)) <|
    ob (merge_Join_v1 (ltake l at0)) fun x3 =>
    asrt (0 ≤ at0 ∧ at0 ≤ (l.length : Int)) <|
    ob (merge_Join_v1 (ldrop l at0)) fun x4 =>
    if ((!decide (x3.2.Code = 0)) || (!decide (x4.2.Code = 0))) = true then
     some false
    else
     ob (merge_Join_v1 ([x3.1, x4.1] : List (List Cell))) fun x5 =>
     ob (merge_Join_v1 ([x2.1, x2.1] : List (List Cell))) fun x6 =>
     ob (if ((decide (x5.2.Code = 0)) && (decide (x6.2.Code = 0))) = true then (R_SameCells x5.1 x2.1) else some default) fun x7 =>
     ob (if (((decide (x5.2.Code = 0)) && (decide (x6.2.Code = 0))) && x7) = true then (R_SameCells x6.1 x2.1) else some default) fun x8 =>
     ob (if ((((decide (x5.2.Code = 0)) && (decide (x6.2.Code = 0))) && x7) && x8) = true then (cell_Check x2.1) else some default) fun x9 =>
     lt (((((decide (x5.2.Code = 0)) && (decide (x6.2.Code = 0))) && x7) && x8) && (decide (x9.Code = 0))) fun (v : Bool) =>
     some v

/- cell.Asked -/
noncomputable def cell_Asked (a0 : Ask) : Fault :=
 if ((decide (a0.Time < 0)) || (decide (1000000000 < a0.Time))) = true then
  lt (cell_fault 3 (-1)) fun x =>
  x
 else
  if ((decide (a0.Many < 0)) || (decide (1000 < a0.Many))) = true then
   lt (cell_fault 3 (-2)) fun x1 =>
   x1
  else
   (⟨0, 0⟩ : Fault)

/- cell.Seen -/
noncomputable def cell_Seen_J1 (v : List Cell) : Option (List Cell) :=
 some v
noncomputable def cell_Seen_J2 (v1 : Ask × List Cell × List UInt8 × List UInt8 × Bool × Int) (v2 : Ask × List Cell × List UInt8 × List UInt8 × Bool) : Option ((Ask × List Cell × List UInt8 × List UInt8 × Bool × Int) ⊕ (List Cell)) :=
 some (Sum.inl (v2.1, v2.2.1, v2.2.2.1, v2.2.2.2.1, v2.2.2.2.2, w64 (v1.2.2.2.2.2 + 1)))
noncomputable def cell_Seen_B1 (l : List Cell) (v1 : Ask × List Cell × List UInt8 × List UInt8 × Bool × Int) : Option ((Ask × List Cell × List UInt8 × List UInt8 × Bool × Int) ⊕ (List Cell)) :=
 if (decide (v1.2.2.2.2.2 < (l.length : Int))) = true then
  asrt (0 ≤ v1.2.2.2.2.2 ∧ v1.2.2.2.2.2 < (l.length : Int)) <|
  if (((Op.bytesLess ((lget l v1.2.2.2.2.2).Row) v1.1.From) || ((!decide (v1.1.To = ([] : List UInt8))) && (!Op.bytesLess ((lget l v1.2.2.2.2.2).Row) v1.1.To))) || (decide (v1.1.Time < ((lget l v1.2.2.2.2.2).Time)))) = true then
   cell_Seen_J2 v1 (v1.1, v1.2.1, v1.2.2.1, v1.2.2.2.1, v1.2.2.2.2.1)
  else
   if ((v1.2.2.2.2.1 && (decide (((lget l v1.2.2.2.2.2).Row) = v1.2.2.1))) && (decide (((lget l v1.2.2.2.2.2).Col) = v1.2.2.2.1))) = true then
    cell_Seen_J2 v1 (v1.1, v1.2.1, v1.2.2.1, v1.2.2.2.1, v1.2.2.2.2.1)
   else
    if ((lget l v1.2.2.2.2.2).Gone) = true then
     cell_Seen_J2 v1 (v1.1, v1.2.1, (lget l v1.2.2.2.2.2).Row, (lget l v1.2.2.2.2.2).Col, true)
    else
     if (decide ((v1.2.1.length : Int) = v1.1.Many)) = true then
      inrO (cell_Seen_J1 v1.2.1)
     else
      asrt (((v1.2.1 ++ [(⟨(lget l v1.2.2.2.2.2).Row, (lget l v1.2.2.2.2.2).Col, (lget l v1.2.2.2.2.2).Time, (lget l v1.2.2.2.2.2).Gone, (lget l v1.2.2.2.2.2).Value⟩ : Cell)]).length : Int) * 64 ≤ 140737488351232) <|
      lt ((v1.2.1 ++ [(⟨(lget l v1.2.2.2.2.2).Row, (lget l v1.2.2.2.2.2).Col, (lget l v1.2.2.2.2.2).Time, (lget l v1.2.2.2.2.2).Gone, (lget l v1.2.2.2.2.2).Value⟩ : Cell)])) fun (v3 : List Cell) =>
      cell_Seen_J2 v1 (v1.1, v3, (lget l v1.2.2.2.2.2).Row, (lget l v1.2.2.2.2.2).Col, true)
 else
  inrO (cell_Seen_J1 v1.2.1)
noncomputable def cell_Seen_L1 (l : List Cell) (v0 : Ask × List Cell × List UInt8 × List UInt8 × Bool × Int) : Option (List Cell) :=
 loopO (fun y => cell_Seen_B1 l y) v0
noncomputable def cell_Seen (l : List Cell) (a0 : Ask) : Option (List Cell) :=
 cell_Seen_L1 l (a0, ([] : List Cell), ([] : List UInt8), ([] : List UInt8), false, 0)

/- merge.Scan -/
noncomputable def merge_Scan (l : List (List Cell)) (a0 : Ask) : Option (List Cell × Fault) :=
 ob (merge_lists l) fun x =>
 if (!decide (x.Code = 0)) = true then
  some (([] : List Cell), x)
 else
  lt (cell_Asked a0) fun x1 =>
  if (!decide (x1.Code = 0)) = true then
   some (([] : List Cell), x1)
  else
   ob (merge_joined l) fun x2 =>
   ob (cell_Seen x2 a0) fun x3 =>
   some (x3, (⟨0, 0⟩ : Fault))

/- merge.Scan -/
noncomputable def merge_Scan_v1 (l : List (List Cell)) (a0 : Ask) : Option (List Cell × Fault) :=
 ob (merge_lists l) fun x =>
 if (!decide (x.Code = 0)) = true then
  some (([] : List Cell), x)
 else
  lt (cell_Asked a0) fun x1 =>
  if (!decide (x1.Code = 0)) = true then
   some (([] : List Cell), x1)
  else
   ob (merge_joined l) fun x2 =>
   ob (cell_Seen x2 a0) fun x3 =>
   some (x3, (⟨0, 0⟩ : Fault))

/- tabularylaw.MergeJoins$1 -/
noncomputable def law_MergeJoins_1 (box : List Cell) : List Cell :=
 box

/- tabularylaw.cellsAs -/
noncomputable def law_cellsAs_v1 (l : List Cell) (f : Fault) (w0 : Fault) (box : List Cell) : Option Bool :=
 if (!(decide (f.Code = w0.Code) && (decide (f.At = w0.At) && true))) = true then
  some false
 else
  if (!decide (w0.Code = 0)) = true then
   some (decide ((l.length : Int) = 0))
  else
   lt (law_MergeJoins_1 box) fun x =>
   ob (R_SameCells l x) fun x1 =>
   some x1

/- tabularyref.AskFault -/
noncomputable def R_AskFault (a0 : Ask) : Fault :=
 if ((decide (a0.Time < 0)) || (decide (1000000000 < a0.Time))) = true then
  lt (R_F 3 (-1)) fun x =>
  x
 else
  if ((decide (a0.Many < 0)) || (decide (1000 < a0.Many))) = true then
   lt (R_F 3 (-2)) fun x1 =>
   x1
  else
   (⟨0, 0⟩ : Fault)

/- tabularyref.SeenCell -/
noncomputable def R_SeenCell_J1 (l : List Cell) (v : Cell × Int) : Option (Cell × Bool) :=
 asrt ((!(decide (v.2 < 0))) = true → 0 ≤ v.2 ∧ v.2 < (l.length : Int)) <|
 if ((decide (v.2 < 0)) || ((lget l v.2).Gone)) = true then
  some ((⟨([] : List UInt8), ([] : List UInt8), 0, false, ([] : List UInt8)⟩ : Cell), false)
 else
  asrt (0 ≤ v.2 ∧ v.2 < (l.length : Int)) <|
  some ((⟨(lget l v.2).Row, (lget l v.2).Col, (lget l v.2).Time, (lget l v.2).Gone, (lget l v.2).Value⟩ : Cell), true)
noncomputable def R_SeenCell_B1 (l : List Cell) (row : List UInt8) (col : List UInt8) (time : Int) (v1 : Cell × Int × Int) : Option ((Cell × Int × Int) ⊕ (Cell × Bool)) :=
 if (decide (v1.2.2 < (l.length : Int))) = true then
  asrt (0 ≤ v1.2.2 ∧ v1.2.2 < (l.length : Int)) <|
  asrt ((decide (((lget l v1.2.2).Row) = row)) = true → 0 ≤ v1.2.2 ∧ v1.2.2 < (l.length : Int)) <|
  asrt (((decide (((lget l v1.2.2).Row) = row)) && (decide (((lget l v1.2.2).Col) = col))) = true → 0 ≤ v1.2.2 ∧ v1.2.2 < (l.length : Int)) <|
  asrt ((!(decide (v1.2.1 < 0))) = true → (((decide (((lget l v1.2.2).Row) = row)) && (decide (((lget l v1.2.2).Col) = col))) && (decide (((lget l v1.2.2).Time) ≤ time))) = true → 0 ≤ v1.2.2 ∧ v1.2.2 < (l.length : Int)) <|
  asrt ((!(decide (v1.2.1 < 0))) = true → (((decide (((lget l v1.2.2).Row) = row)) && (decide (((lget l v1.2.2).Col) = col))) && (decide (((lget l v1.2.2).Time) ≤ time))) = true → 0 ≤ v1.2.1 ∧ v1.2.1 < (l.length : Int)) <|
  ob (
   if ((((decide (((lget l v1.2.2).Row) = row)) && (decide (((lget l v1.2.2).Col) = col))) && (decide (((lget l v1.2.2).Time) ≤ time))) && ((decide (v1.2.1 < 0)) || (decide (((lget l v1.2.1).Time) < ((lget l v1.2.2).Time))))) = true then
    some (v1.1, v1.2.2)
   else
    some (v1.1, v1.2.1)) fun (v2 : Cell × Int) =>
  some (Sum.inl (v2.1, v2.2, w64 (v1.2.2 + 1)))
 else
  inrO (R_SeenCell_J1 l (v1.1, v1.2.1))
noncomputable def R_SeenCell_L1 (l : List Cell) (row : List UInt8) (col : List UInt8) (time : Int) (v0 : Cell × Int × Int) : Option (Cell × Bool) :=
 loopO (fun y => R_SeenCell_B1 l row col time y) v0
noncomputable def R_SeenCell (l : List Cell) (row : List UInt8) (col : List UInt8) (time : Int) : Option (Cell × Bool) :=
 R_SeenCell_L1 l row col time ((⟨([] : List UInt8), ([] : List UInt8), 0, false, ([] : List UInt8)⟩ : Cell), (-1), 0)

/- tabularyref.Scanned -/
noncomputable def R_Scanned_v1_J1 (v : List Cell) : Option (List Cell) :=
 some v
noncomputable def R_Scanned_v1_B1 (l : List Cell) (v1 : Ask × List Cell × Int) : Option ((Ask × List Cell × Int) ⊕ (List Cell)) :=
 if ((decide (v1.2.2 < (l.length : Int))) && (decide ((v1.2.1.length : Int) < v1.1.Many))) = true then
  ob (
   asrt (0 ≤ v1.2.2 ∧ v1.2.2 < (l.length : Int)) <|
   if ((Op.bytesLess ((lget l v1.2.2).Row) v1.1.From) || ((!decide (v1.1.To = ([] : List UInt8))) && (!Op.bytesLess ((lget l v1.2.2).Row) v1.1.To))) = true then
    some (v1.1, v1.2.1)
   else
    ob (R_SeenCell l ((lget l v1.2.2).Row) ((lget l v1.2.2).Col) v1.1.Time) fun x =>
    if (x.2 && (decide (x.1.Row = (lget l v1.2.2).Row) && (decide (x.1.Col = (lget l v1.2.2).Col) && (decide (x.1.Time = (lget l v1.2.2).Time) && ((x.1.Gone == ((lget l v1.2.2).Gone)) && (decide (x.1.Value = (lget l v1.2.2).Value) && true)))))) = true then
     asrt (((v1.2.1 ++ [(⟨(lget l v1.2.2).Row, (lget l v1.2.2).Col, (lget l v1.2.2).Time, (lget l v1.2.2).Gone, (lget l v1.2.2).Value⟩ : Cell)]).length : Int) * 64 ≤ 140737488351232) <|
     lt ((v1.2.1 ++ [(⟨(lget l v1.2.2).Row, (lget l v1.2.2).Col, (lget l v1.2.2).Time, (lget l v1.2.2).Gone, (lget l v1.2.2).Value⟩ : Cell)])) fun (v3 : List Cell) =>
     some (v1.1, v3)
    else
     some (v1.1, v1.2.1)) fun (v2 : Ask × List Cell) =>
  some (Sum.inl (v2.1, v2.2, w64 (v1.2.2 + 1)))
 else
  inrO (R_Scanned_v1_J1 v1.2.1)
noncomputable def R_Scanned_v1_L1 (l : List Cell) (v0 : Ask × List Cell × Int) : Option (List Cell) :=
 loopO (fun y => R_Scanned_v1_B1 l y) v0
noncomputable def R_Scanned_v1 (l : List Cell) (a0 : Ask) : Option (List Cell) :=
 R_Scanned_v1_L1 l (a0, ([] : List Cell), 0)

/- tabularylaw.MergeJoins$2 -/
noncomputable def law_MergeJoins_2 (box : List Cell) (box1 : Ask) : Option (List Cell) :=
 ob (R_Scanned_v1 box box1) fun x =>
 some x

/- tabularylaw.cellsAs -/
noncomputable def law_cellsAs_v2 (l : List Cell) (f : Fault) (w0 : Fault) (box : List Cell) (box1 : Ask) : Option Bool :=
 if (!(decide (f.Code = w0.Code) && (decide (f.At = w0.At) && true))) = true then
  some false
 else
  if (!decide (w0.Code = 0)) = true then
   some (decide ((l.length : Int) = 0))
  else
   ob (law_MergeJoins_2 box box1) fun x =>
   ob (R_SameCells l x) fun x1 =>
   some x1

/- tabularylaw.MergeJoins -/
noncomputable def law_MergeJoins (l : List (List Cell)) (a0 : Ask) : Option Bool :=
 ob (law_mergeBegun) fun x =>
 if (!x) = true then
  some false
 else
  ob (law_vastLists l) fun x1 =>
  if x1 = true then
   some true
  else
   ob (law_ownLists_v1 l) fun x2 =>
   ob (merge_Join_v1 x2) fun x3 =>
   ob (law_ownLists_v1 l) fun x4 =>
   ob (merge_Scan_v1 x4 a0) fun x5 =>
   ob (law_listsFault l) fun x6 =>
   ob (
    if (decide (x6.Code = 0)) = true then
     ob (law_together l) fun x7 =>
     if (decide (1000 < (x7.length : Int))) = true then
      lt (R_F 9 (-1)) fun x8 =>
      some (a0, x3.2, x5.2, x6, x7, x8)
     else
      some (a0, x3.2, x5.2, x6, x7, x6)
    else
     some (a0, x3.2, x5.2, x6, ([] : List Cell), x6)) fun (v : Ask × Fault × Fault × Fault × List Cell × Fault) =>
   ob (law_cellsAs_v1 x3.1 v.2.1 v.2.2.2.2.2 v.2.2.2.2.1) fun x9 =>
   if (!x9) = true then
    some false
   else
    ob (
     if (decide (v.2.2.2.1.Code = 0)) = true then
      lt (R_AskFault v.1) fun x10 =>
      some (v.1, v.2.2.1, x10)
     else
      some (v.1, v.2.2.1, v.2.2.2.1)) fun (v1 : Ask × Fault × Fault) =>
    if ((decide (v1.2.2.Code = 0)) && (decide (300 < (v.2.2.2.2.1.length : Int)))) = true then
     some (decide (v1.2.1.Code = 0))
    else
     ob (law_cellsAs_v2 x5.1 v1.2.1 v1.2.2 v.2.2.2.2.1 v1.1) fun x11 =>
     some x11

/- tabularylaw.MergeSame -/
noncomputable def law_MergeSame (l : List (List Cell)) (older : List (List Cell)) (since : Int) (whole : Bool) (a0 : Ask) : Option Bool :=
 ob (law_mergeBegun) fun x =>
 if (!x) = true then
  some false
 else
  ob (law_vastLists l) fun x1 =>
  ob (if (!x1) = true then (law_vastLists older) else some default) fun x2 =>
  ob (if (!(((x1 || x2) || (decide (19 < (w64 ((l.length : Int) + (older.length : Int)))))) || (decide (a0.Time < since)))) = true then (law_listsFault older) else some default) fun x3 =>
  if ((((x1 || x2) || (decide (19 < (w64 ((l.length : Int) + (older.length : Int)))))) || (decide (a0.Time < since))) || (!decide (x3.Code = 0))) = true then
   some true
  else
   ob (merge_Compact l since whole) fun x4 =>
   if (!decide (x4.2.Code = 0)) = true then
    some true
   else
    ob (merge_Scan l a0) fun x5 =>
    ob (merge_Scan ([x4.1] : List (List Cell)) a0) fun x6 =>
    if (!decide (x5.2.Code = 0)) = true then
     lt ((decide (x5.2.Code = x6.2.Code) && (decide (x5.2.At = x6.2.At) && true))) fun (v : Bool) =>
     some v
    else
     ob (if (!(!decide (x6.2.Code = 0))) = true then (R_SameCells x5.1 x6.1) else some default) fun x7 =>
     if ((!decide (x6.2.Code = 0)) || (!x7)) = true then
      some false
     else
      ob (merge_Compact ([x4.1] : List (List Cell)) since whole) fun x8 =>
      ob (if (!(!decide (x8.2.Code = 0))) = true then (R_SameCells x8.1 x4.1) else some default) fun x9 =>
      if ((!decide (x8.2.Code = 0)) || (!x9)) = true then
       some false
      else
       if whole = true then
        some true
       else
        ob (law_ownLists l) fun x10 =>
        asrt (((x10 ++ older).length : Int) * 24 ≤ 140737488351232) <|
        ob (merge_Scan (x10 ++ older) a0) fun x11 =>
        asrt (((([x4.1] : List (List Cell)) ++ older).length : Int) * 24 ≤ 140737488351232) <|
        ob (merge_Scan (([x4.1] : List (List Cell)) ++ older) a0) fun x12 =>
        ob (if ((decide (x11.2.Code = 0)) && (decide (x12.2.Code = 0))) = true then (R_SameCells x11.1 x12.1) else some default) fun x13 =>
        some (((decide (x11.2.Code = 0)) && (decide (x12.2.Code = 0))) && x13)

end G
end Go.Proofs.Ytkbgkkbinnclmaa
