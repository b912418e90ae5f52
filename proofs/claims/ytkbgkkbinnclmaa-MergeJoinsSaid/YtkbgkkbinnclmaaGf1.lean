/- The program's functions as plain functions, and that they are these. Written by a program (dec2.py). -/
import Derived.Test.YtkbgkkbinnclmaaGf0
namespace Go.Proofs.Ytkbgkkbinnclmaa
open Go Go.Dm
set_option linter.unusedVariables false
set_option linter.unusedSimpArgs false
set_option maxRecDepth 100000
namespace G
/- tabularylaw.MergeCompacts$1 -/
noncomputable def law_MergeCompacts_1_v1_J1 (v : List Cell) : Option (List Cell) :=
 some v
noncomputable def law_MergeCompacts_1_v1_J2 (v1 : List Cell × Int) (v2 : List Cell) : Option ((List Cell × Int) ⊕ (List Cell)) :=
 some (Sum.inl (v2, w64 (v1.2 + 1)))
noncomputable def law_MergeCompacts_1_v1_J3 (box1 : Int) (box2 : Bool) (v1 : List Cell × Int) (v3 : Cell × Bool) : Option ((List Cell × Int) ⊕ (List Cell)) :=
 if ((decide (v3.1.Time ≤ box1)) && (v3.2 || (v3.1.Gone && box2))) = true then
  law_MergeCompacts_1_v1_J2 v1 v1.1
 else
  asrt (((v1.1 ++ [v3.1]).length : Int) * 64 ≤ 140737488351232) <|
  law_MergeCompacts_1_v1_J2 v1 (v1.1 ++ [v3.1])
noncomputable def law_MergeCompacts_1_v1_B2 (box : List Cell) (box1 : Int) (box2 : Bool) (v1 : List Cell × Int) (v4 : Cell × Bool × Int) : Option ((Cell × Bool × Int) ⊕ ((List Cell × Int) ⊕ (List Cell))) :=
 if (decide (v4.2.2 < v1.2)) = true then
  asrt ((!v4.2.1) = true → 0 ≤ v4.2.2 ∧ v4.2.2 < (box.length : Int)) <|
  asrt ((decide (((lget box v4.2.2).Row) = v4.1.Row)) = true → (!v4.2.1) = true → 0 ≤ v4.2.2 ∧ v4.2.2 < (box.length : Int)) <|
  asrt (((decide (((lget box v4.2.2).Row) = v4.1.Row)) && (decide (((lget box v4.2.2).Col) = v4.1.Col))) = true → (!v4.2.1) = true → 0 ≤ v4.2.2 ∧ v4.2.2 < (box.length : Int)) <|
  lt (v4.2.1 || (((decide (((lget box v4.2.2).Row) = v4.1.Row)) && (decide (((lget box v4.2.2).Col) = v4.1.Col))) && (decide (((lget box v4.2.2).Time) ≤ box1)))) fun (v5 : Bool) =>
  some (Sum.inl (v4.1, v5, w64 (v4.2.2 + 1)))
 else
  inrO (law_MergeCompacts_1_v1_J3 box1 box2 v1 (v4.1, v4.2.1))
noncomputable def law_MergeCompacts_1_v1_L2 (box : List Cell) (box1 : Int) (box2 : Bool) (v1 : List Cell × Int) (v0 : Cell × Bool × Int) : Option ((List Cell × Int) ⊕ (List Cell)) :=
 loopO (fun y => law_MergeCompacts_1_v1_B2 box box1 box2 v1 y) v0
noncomputable def law_MergeCompacts_1_v1_B1 (box : List Cell) (box1 : Int) (box2 : Bool) (v1 : List Cell × Int) : Option ((List Cell × Int) ⊕ (List Cell)) :=
 if (decide (v1.2 < (box.length : Int))) = true then
  asrt (0 ≤ v1.2 ∧ v1.2 < (box.length : Int)) <|
  law_MergeCompacts_1_v1_L2 box box1 box2 v1 ((⟨(lget box v1.2).Row, (lget box v1.2).Col, (lget box v1.2).Time, (lget box v1.2).Gone, (lget box v1.2).Value⟩ : Cell), false, 0)
 else
  inrO (law_MergeCompacts_1_v1_J1 v1.1)
noncomputable def law_MergeCompacts_1_v1_L1 (box : List Cell) (box1 : Int) (box2 : Bool) (v0 : List Cell × Int) : Option (List Cell) :=
 loopO (fun y => law_MergeCompacts_1_v1_B1 box box1 box2 y) v0
noncomputable def law_MergeCompacts_1_v1 (box : List Cell) (box1 : Int) (box2 : Bool) : Option (List Cell) :=
 law_MergeCompacts_1_v1_L1 box box1 box2 (([] : List Cell), 0)

/- tabularylaw.cellsAs -/
noncomputable def law_cellsAs (l : List Cell) (f : Fault) (w0 : Fault) (box : List Cell) (box1 : Int) (box2 : Bool) : Option Bool :=
 if (!(decide (f.Code = w0.Code) && (decide (f.At = w0.At) && true))) = true then
  some false
 else
  if (!decide (w0.Code = 0)) = true then
   some (decide ((l.length : Int) = 0))
  else
   ob (law_MergeCompacts_1_v1 box box1 box2) fun x =>
   ob (R_SameCells l x) fun x1 =>
   some x1

/- tabularylaw.MergeCompacts -/
noncomputable def law_MergeCompacts (l : List (List Cell)) (since : Int) (whole : Bool) : Option Bool :=
 ob (law_mergeBegun) fun x =>
 if (!x) = true then
  some false
 else
  ob (law_vastLists l) fun x1 =>
  if x1 = true then
   some true
  else
   ob (law_ownLists_v1 l) fun x2 =>
   ob (merge_Compact_v1 x2 since whole) fun x3 =>
   ob (law_listsFault l) fun x4 =>
   ob (
    if (decide (x4.Code = 0)) = true then
     ob (law_together l) fun x5 =>
     if (decide (1000 < (x5.length : Int))) = true then
      lt (R_F 9 (-1)) fun x6 =>
      some (x3.2, x6, x5)
     else
      some (x3.2, x4, x5)
    else
     some (x3.2, x4, ([] : List Cell))) fun (v : Fault × Fault × List Cell) =>
   ob (
    if ((decide (v.2.1.Code = 0)) && ((decide (since < 0)) || (decide (1000000000 < since)))) = true then
     lt (R_F 3 (-1)) fun x7 =>
     some (v.1, x7)
    else
     some (v.1, v.2.1)) fun (v1 : Fault × Fault) =>
   ob (law_cellsAs x3.1 v1.1 v1.2 v.2.2 since whole) fun x8 =>
   some x8

/- merge.Join -/
noncomputable def merge_Join_v1 (l : List (List Cell)) : Option (List Cell × Fault) :=
 ob (merge_lists l) fun x =>
 if (!decide (x.Code = 0)) = true then
  some (([] : List Cell), x)
 else
  ob (merge_joined l) fun x1 =>
  if (decide (1000 < (x1.length : Int))) = true then
   lt (merge_fault 9 (-1)) fun x2 =>
   some (([] : List Cell), x2)
  else
   some (x1, (⟨0, 0⟩ : Fault))
theorem merge_Join_v1_ok (l : List (List Cell)) (r : List Cell × Fault) (hF : merge_Join_v1 l = some r) : Pe Try.prog 30 S.none [.sl 1 (l.map e_L_Cell)] (.tup [.sl 5 (r.1.map e_Cell), .agg (c_Fault r.2)]) S.none := by
 refine PeN 20 [.tmp 2, .cell 3 28] [22, 28] Ty.ok Fn.b30 Try.func30 ?_
 intro Q g hfin
 unfold merge_Join_v1 at hF
 refine VR [] [0, 3] [3] [] [] [(3, .ptr 3 0)] [(3, [.i 0, .i 0])] [] [] .nil ?_
 obtain ⟨x, h0, hF⟩ := ob_elim hF
 refine VR [.callB (.agg (c_Fault x))] [0, 3, 4] [3, 4] [] [] [(4, .ptr 4 0)] [(4, (c_Fault x))] [] [] (hc (merge_lists_ok l x h0) .nil) ?_
 refine NR [] [0, 3, 4, 10] [3, 4] [] [(10, .bool (!decide (x.Code = 0)))] .nil ?_
 refine Nif hF (fun hb hF => ?_) (fun hb hF => ?_)
 ·refine VD [] [2, 3] [3] [] [] [(2, .nils)] [(3, (c_Fault x))] [] [] .nil ?_
  cases hF
  exact Wk_ret (hfin _ ⟨[], [], [], [], [], [], by kernel_rfl⟩)
 ·obtain ⟨x1, h1, hF⟩ := ob_elim hF
  refine VR [.callE [] [] [] [] (.row 13 0) ⟨[], [], [(13, .z 37 5 0 (x1.map e_Cell))], [], []⟩] [3, 5] [3] [13] [] [(5, .row 13 0)] [] [(13, .z 37 5 0 (x1.map e_Cell))] [] (hc (Pe.ren (merge_joined_ok l x1 h1) ⟨[], [(6, 13)], [], []⟩) .nil) ?_
  refine NR [.nat (x1.length : Int)] [3, 5, 16] [3] [13] [(16, .bool (decide (1000 < (x1.length : Int))))] (hc (len_ok e_Cell x1) .nil) ?_
  refine Nif hF (fun hb hF => ?_) (fun hb hF => ?_)
  ·obtain ⟨x2, h2, hF⟩ := lt_split hF
   refine VR [.callB (.agg (c_Fault x2))] [2, 3] [3] [] [] [(2, .nils)] [(3, (c_Fault x2))] [] [] (hc (merge_fault_ok 9 (-1) x2 h2) .nil) ?_
   cases hF
   exact Wk_ret (hfin _ ⟨[], [], [], [], [], [], by kernel_rfl⟩)
  ·refine NR [] [2, 3] [3] [13] [(2, .row 13 0)] .nil ?_
   cases hF
   exact Wk_ret (hfin _ ⟨[], [], [], [], [], [], by kernel_rfl⟩)

/- tabularylaw.MergeGroups -/
noncomputable def law_MergeGroups (l : List (List Cell)) (at0 : Int) : Option Bool :=
 ob (law_mergeBegun) fun x =>
 if (!x) = true then
  some false
 else
  ob (law_vastLists l) fun x1 =>
  if ((x1 || (decide (at0 < 0))) || (decide ((l.length : Int) < at0))) = true then
   some true
  else
   ob (merge_Join_v1 l) fun x2 =>
   if (!decide (x2.2.Code = 0)) = true then
    some true
   else
    asrt (0 ≤ at0 ∧ at0 ≤ (l.length : Int)) <|
    ob (merge_Join_v1 (ltake l at0)) fun x3 =>
    asrt (0 ≤ at0 ∧ at0 ≤ (l.length : Int)) <|
    ob (merge_Join_v1 (ldrop l at0)) fun x4 =>
    if ((!decide (x3.2.Code = 0)) || (!decide (x4.2.Code = 0))) = true then
     some false
    else
     ob (merge_Join_v1 ([x3.1, x4.1] : List (List Cell))) fun x5 =>
     ob (merge_Join_v1 ([x2.1, x2.1] : List (List Cell))) fun x6 =>
     ob (if ((decide (x5.2.Code = 0)) && (decide (x6.2.Code = 0))) = true then (R_SameCells x5.1 x2.1) else some default) fun x7 =>
     ob (if (((decide (x5.2.Code = 0)) && (decide (x6.2.Code = 0))) && x7) = true then (R_SameCells x6.1 x2.1) else some default) fun x8 =>
     ob (if ((((decide (x5.2.Code = 0)) && (decide (x6.2.Code = 0))) && x7) && x8) = true then (cell_Check x2.1) else some default) fun x9 =>
     lt (((((decide (x5.2.Code = 0)) && (decide (x6.2.Code = 0))) && x7) && x8) && (decide (x9.Code = 0))) fun (v : Bool) =>
     some v

/- cell.Asked -/
noncomputable def cell_Asked (a0 : Ask) : Fault :=
 if ((decide (a0.Time < 0)) || (decide (1000000000 < a0.Time))) = true then
  lt (cell_fault 3 (-1)) fun x =>
  x
 else
  if ((decide (a0.Many < 0)) || (decide (1000 < a0.Many))) = true then
   lt (cell_fault 3 (-2)) fun x1 =>
   x1
  else
   (⟨0, 0⟩ : Fault)
theorem cell_Asked_ok (a0 : Ask) (r : Fault) (hF : cell_Asked a0 = r) : Pe Try.prog 50 S.none [.agg (c_Ask a0)] (.agg (c_Fault r)) S.none := by
 refine PeN 22 [.cell 2 28] [28] Ty.ok Fn.b50 Try.func50 ?_
 intro Q g hfin
 unfold cell_Asked at hF
 refine VR [] [1, 2] [1, 2] [] [] [(1, .ptr 1 0), (2, .ptr 2 0)] [(1, (c_Ask a0)), (2, [.i 0, .i 0])] [] [] .nil ?_
 refine NR [] [1, 2, 10] [1, 2] [] [(10, .bool ((decide (a0.Time < 0)) || (decide (1000000000 < a0.Time))))] .nil ?_
 refine Nif hF (fun hb hF => ?_) (fun hb hF => ?_)
 ·obtain ⟨x, h0, hF⟩ := lt_split hF
  refine VR [.callB (.agg (c_Fault x))] [2] [2] [] [] [] [(2, (c_Fault x))] [] [] (hc (cell_fault_ok 3 (-1) x h0) .nil) ?_
  cases hF
  exact Wk_ret (hfin _ ⟨[], [], [], [], [], [], by kernel_rfl⟩)
 ·refine NR [] [2, 19] [2] [] [(19, .bool ((decide (a0.Many < 0)) || (decide (1000 < a0.Many))))] .nil ?_
  refine Nif hF (fun hb hF => ?_) (fun hb hF => ?_)
  ·obtain ⟨x1, h1, hF⟩ := lt_split hF
   refine VR [.callB (.agg (c_Fault x1))] [2] [2] [] [] [] [(2, (c_Fault x1))] [] [] (hc (cell_fault_ok 3 (-2) x1 h1) .nil) ?_
   cases hF
   exact Wk_ret (hfin _ ⟨[], [], [], [], [], [], by kernel_rfl⟩)
  ·refine NR [] [2] [2] [] [] .nil ?_
   cases hF
   exact Wk_ret (hfin _ ⟨[], [], [], [], [], [], by kernel_rfl⟩)

/- cell.Seen -/
noncomputable def cell_Seen_J1 (v : List Cell) : Option (List Cell) :=
 some v
noncomputable def cell_Seen_J2 (v1 : Ask × List Cell × List UInt8 × List UInt8 × Bool × Int) (v2 : Ask × List Cell × List UInt8 × List UInt8 × Bool) : Option ((Ask × List Cell × List UInt8 × List UInt8 × Bool × Int) ⊕ (List Cell)) :=
 some (Sum.inl (v2.1, v2.2.1, v2.2.2.1, v2.2.2.2.1, v2.2.2.2.2, w64 (v1.2.2.2.2.2 + 1)))
noncomputable def cell_Seen_B1 (l : List Cell) (v1 : Ask × List Cell × List UInt8 × List UInt8 × Bool × Int) : Option ((Ask × List Cell × List UInt8 × List UInt8 × Bool × Int) ⊕ (List Cell)) :=
 if (decide (v1.2.2.2.2.2 < (l.length : Int))) = true then
  asrt (0 ≤ v1.2.2.2.2.2 ∧ v1.2.2.2.2.2 < (l.length : Int)) <|
  if (((Op.bytesLess ((lget l v1.2.2.2.2.2).Row) v1.1.From) || ((!decide (v1.1.To = ([] : List UInt8))) && (!Op.bytesLess ((lget l v1.2.2.2.2.2).Row) v1.1.To))) || (decide (v1.1.Time < ((lget l v1.2.2.2.2.2).Time)))) = true then
   cell_Seen_J2 v1 (v1.1, v1.2.1, v1.2.2.1, v1.2.2.2.1, v1.2.2.2.2.1)
  else
   if ((v1.2.2.2.2.1 && (decide (((lget l v1.2.2.2.2.2).Row) = v1.2.2.1))) && (decide (((lget l v1.2.2.2.2.2).Col) = v1.2.2.2.1))) = true then
    cell_Seen_J2 v1 (v1.1, v1.2.1, v1.2.2.1, v1.2.2.2.1, v1.2.2.2.2.1)
   else
    if ((lget l v1.2.2.2.2.2).Gone) = true then
     cell_Seen_J2 v1 (v1.1, v1.2.1, (lget l v1.2.2.2.2.2).Row, (lget l v1.2.2.2.2.2).Col, true)
    else
     if (decide ((v1.2.1.length : Int) = v1.1.Many)) = true then
      inrO (cell_Seen_J1 v1.2.1)
     else
      asrt (((v1.2.1 ++ [(⟨(lget l v1.2.2.2.2.2).Row, (lget l v1.2.2.2.2.2).Col, (lget l v1.2.2.2.2.2).Time, (lget l v1.2.2.2.2.2).Gone, (lget l v1.2.2.2.2.2).Value⟩ : Cell)]).length : Int) * 64 ≤ 140737488351232) <|
      lt ((v1.2.1 ++ [(⟨(lget l v1.2.2.2.2.2).Row, (lget l v1.2.2.2.2.2).Col, (lget l v1.2.2.2.2.2).Time, (lget l v1.2.2.2.2.2).Gone, (lget l v1.2.2.2.2.2).Value⟩ : Cell)])) fun (v3 : List Cell) =>
      cell_Seen_J2 v1 (v1.1, v3, (lget l v1.2.2.2.2.2).Row, (lget l v1.2.2.2.2.2).Col, true)
 else
  inrO (cell_Seen_J1 v1.2.1)
noncomputable def cell_Seen_L1 (l : List Cell) (v0 : Ask × List Cell × List UInt8 × List UInt8 × Bool × Int) : Option (List Cell) :=
 loopO (fun y => cell_Seen_B1 l y) v0
noncomputable def cell_Seen (l : List Cell) (a0 : Ask) : Option (List Cell) :=
 cell_Seen_L1 l (a0, ([] : List Cell), ([] : List UInt8), ([] : List UInt8), false, 0)
theorem cell_Seen_ok (l : List Cell) (a0 : Ask) (r : List Cell) (hF : cell_Seen l a0 = some r) : Pe Try.prog 51 S.none [.sl 5 (l.map e_Cell), .agg (c_Ask a0)] (.row 68 0) ⟨[], [], [(68, .z 37 5 0 (r.map e_Cell))], [], []⟩ := by
 refine PeN 71 [.tmp 4] [22] Ty.ok Fn.b51 Try.func51 ?_
 intro Q g hfin
 unfold cell_Seen at hF
 refine VR [] [0, 3] [3] [] [] [(3, .ptr 3 0)] [(3, (c_Ask a0))] [] [] .nil ?_
 refine NR [] [0, 3, 5] [3] [] [(5, .nils)] .nil ?_
 refine NR [] [0, 3, 5, 6, 7, 8] [3] [] [(6, .str ([] : List UInt8)), (7, .str ([] : List UInt8)), (8, .bool false)] .nil ?_
 refine NR [.nat (l.length : Int)] [3, 5, 6, 7, 8, 11, 12, 13] [3] [] [(11, .sl 5 (l.map e_Cell)), (12, .i (l.length : Int)), (13, .i 0)] (hc (len_ok e_Cell l) .nil) ?_
 refine NmeetP (fun v : List Cell => (⟨[(5, .row 68 0)], [], [(68, .z 37 5 0 (v.map e_Cell))], [], []⟩ : S)) (fun v => cell_Seen_J1 v = some r) ?_ ?_
 ·refine Nblk ?_
  unfold cell_Seen_L1 at hF
  refine Wk_nilrow 5 60000 37 5 rfl rfl rfl ?_
  refine Wk_trim (fs := [3, 5, 6, 7, 8, 11, 12, 13]) (bs := [3]) (rs := [60000]) (ms := []) (aa := []) (nv := []) rfl ?_
  refine Wk_ren' ⟨[], [(60000, 68)], [], []⟩ rfl ?_
  refine Niter (fun v1 : Ask × List Cell × List UInt8 × List UInt8 × Bool × Int => (⟨[(3, .ptr 3 0), (5, .row 68 0), (6, .str v1.2.2.1), (7, .str v1.2.2.2.1), (8, .bool v1.2.2.2.2.1), (11, .sl 5 (l.map e_Cell)), (12, .i (l.length : Int)), (13, .i v1.2.2.2.2.2)], [(3, (c_Ask v1.1))], [(68, .z 37 5 0 (v1.2.1.map e_Cell))], [], []⟩ : S)) [] hF (by kernel_rfl) ?_
  intro n1 v1 y1 hF ih1 dn1
  unfold cell_Seen_B1 at hF
  refine NR [] [3, 5, 6, 7, 8, 11, 12, 13, 14] [3] [68] [(14, .bool (decide (v1.2.2.2.2.2 < (l.length : Int))))] .nil ?_
  refine Nif hF (fun hb hF => ?_) (fun hb hF => ?_)
  ·refine NmeetP (fun v2 : Ask × List Cell × List UInt8 × List UInt8 × Bool => (⟨[(3, .ptr 3 0), (5, .row 68 0), (6, .str v2.2.2.1), (7, .str v2.2.2.2.1), (8, .bool v2.2.2.2.2), (11, .sl 5 (l.map e_Cell)), (12, .i (l.length : Int)), (13, .i v1.2.2.2.2.2)], [(3, (c_Ask v2.1))], [(68, .z 37 5 0 (v2.2.1.map e_Cell))], [], []⟩ : S)) (fun v2 => cell_Seen_J2 v1 v2 = some y1) ?_ ?_
   ·refine Nblk ?_
    obtain ⟨h0, hF⟩ := asrt_elim hF
    refine VR [.av (e_Cell (lget l v1.2.2.2.2.2))] [3, 5, 6, 7, 8, 10, 11, 12, 13] [3, 10] [68] [] [(10, .ptr 10 0)] [(10, (c_Cell (lget l v1.2.2.2.2.2)))] [] [] (hc (idx_ok e_Cell h0) .nil) ?_
    refine NR [] [3, 5, 6, 7, 8, 10, 11, 12, 13, 40] [3, 10] [68] [(40, .bool (((Op.bytesLess ((lget l v1.2.2.2.2.2).Row) v1.1.From) || ((!decide (v1.1.To = ([] : List UInt8))) && (!Op.bytesLess ((lget l v1.2.2.2.2.2).Row) v1.1.To))) || (decide (v1.1.Time < ((lget l v1.2.2.2.2.2).Time)))))] .nil ?_
    refine Nif hF (fun hb hF => ?_) (fun hb hF => ?_)
    ·refine Nexit rfl ?_
     exact metP (v1.1, v1.2.1, v1.2.2.1, v1.2.2.2.1, v1.2.2.2.2.1) [] hF (by kernel_rfl)
    ·refine NR [] [3, 5, 6, 7, 8, 10, 11, 12, 13, 53] [3, 10] [68] [(53, .bool ((v1.2.2.2.2.1 && (decide (((lget l v1.2.2.2.2.2).Row) = v1.2.2.1))) && (decide (((lget l v1.2.2.2.2.2).Col) = v1.2.2.2.1))))] .nil ?_
     refine Nif hF (fun hb hF => ?_) (fun hb hF => ?_)
     ·refine Nexit rfl ?_
      exact metP (v1.1, v1.2.1, v1.2.2.1, v1.2.2.2.1, v1.2.2.2.2.1) [] hF (by kernel_rfl)
     ·refine ND [] [3, 5, 6, 7, 8, 10, 11, 12, 13] [3, 10] [68] [(6, .str ((lget l v1.2.2.2.2.2).Row)), (7, .str ((lget l v1.2.2.2.2.2).Col)), (8, .bool true)] .nil ?_
      refine NR [] [3, 5, 6, 7, 8, 10, 11, 12, 13, 59] [3, 10] [68] [(59, .bool ((lget l v1.2.2.2.2.2).Gone))] .nil ?_
      refine Nif hF (fun hb hF => ?_) (fun hb hF => ?_)
      ·refine Nexit rfl ?_
       exact metP (v1.1, v1.2.1, (lget l v1.2.2.2.2.2).Row, (lget l v1.2.2.2.2.2).Col, true) [] hF (by kernel_rfl)
      ·refine NR [.nat (v1.2.1.length : Int)] [3, 5, 6, 7, 8, 10, 11, 12, 13, 64] [3, 10] [68] [(64, .bool (decide ((v1.2.1.length : Int) = v1.1.Many)))] (hc (len_ok e_Cell v1.2.1) .nil) ?_
       refine Nif hF (fun hb hF => ?_) (fun hb hF => ?_)
       ·refine Nexit rfl ?_
        have hF := inrO_done hF dn1
        exact metP v1.2.1 [] hF (by kernel_rfl)
       ·obtain ⟨h1, hF⟩ := asrt_elim hF
        refine NRL ((v1.2.1 ++ [(⟨(lget l v1.2.2.2.2.2).Row, (lget l v1.2.2.2.2.2).Col, (lget l v1.2.2.2.2.2).Time, (lget l v1.2.2.2.2.2).Gone, (lget l v1.2.2.2.2.2).Value⟩ : Cell)])) (fun v3 : List Cell => ([(5, .row 68 1)], [], [(68, .z 37 5 1 (v3.map e_Cell))], [])) [.sealed, .xs ((v1.2.1 ++ [(⟨(lget l v1.2.2.2.2.2).Row, (lget l v1.2.2.2.2.2).Col, (lget l v1.2.2.2.2.2).Time, (lget l v1.2.2.2.2.2).Gone, (lget l v1.2.2.2.2.2).Value⟩ : Cell)]).map e_Cell)] [3, 5, 6, 7, 8, 11, 12, 13] [3] [68] [] (hc (app_ok e_Cell v1.2.1 [(⟨(lget l v1.2.2.2.2.2).Row, (lget l v1.2.2.2.2.2).Col, (lget l v1.2.2.2.2.2).Time, (lget l v1.2.2.2.2.2).Gone, (lget l v1.2.2.2.2.2).Value⟩ : Cell)]) (hc (appl_ok e_Cell h1) .nil)) (fun v3 hv => ?_)
        have hF := lt_elim hF hv
        exact metP (v1.1, v3, (lget l v1.2.2.2.2.2).Row, (lget l v1.2.2.2.2.2).Col, true) [(68, ⟨0, true, true, false⟩)] hF (by kernel_rfl)
   ·intro v2 hF
    have hF : cell_Seen_J2 v1 v2 = some y1 := hF
    unfold cell_Seen_J2 at hF
    refine NR [] [3, 5, 6, 7, 8, 11, 12, 13] [3] [68] [(13, .i (w64 (v1.2.2.2.2.2 + 1)))] .nil ?_
    exact Nrnd [] hF ih1 (by kernel_rfl)
  ·refine Nexit rfl ?_
   have hF := inrO_done hF dn1
   exact metP v1.2.1 [] hF (by kernel_rfl)
 ·intro v hF
  have hF : cell_Seen_J1 v = some r := hF
  unfold cell_Seen_J1 at hF
  refine NR [] [4] [] [68] [(4, .row 68 0)] .nil ?_
  cases hF
  exact Wk_ret (hfin _ ⟨[68], [], [68], [], [], [], by kernel_rfl⟩)

/- merge.Scan -/
noncomputable def merge_Scan (l : List (List Cell)) (a0 : Ask) : Option (List Cell × Fault) :=
 ob (merge_lists l) fun x =>
 if (!decide (x.Code = 0)) = true then
  some (([] : List Cell), x)
 else
  lt (cell_Asked a0) fun x1 =>
  if (!decide (x1.Code = 0)) = true then
   some (([] : List Cell), x1)
  else
   ob (merge_joined l) fun x2 =>
   ob (cell_Seen x2 a0) fun x3 =>
   some (x3, (⟨0, 0⟩ : Fault))

/- merge.Scan -/
noncomputable def merge_Scan_v1 (l : List (List Cell)) (a0 : Ask) : Option (List Cell × Fault) :=
 ob (merge_lists l) fun x =>
 if (!decide (x.Code = 0)) = true then
  some (([] : List Cell), x)
 else
  lt (cell_Asked a0) fun x1 =>
  if (!decide (x1.Code = 0)) = true then
   some (([] : List Cell), x1)
  else
   ob (merge_joined l) fun x2 =>
   ob (cell_Seen x2 a0) fun x3 =>
   some (x3, (⟨0, 0⟩ : Fault))
theorem merge_Scan_v1_ok (l : List (List Cell)) (a0 : Ask) (r : List Cell × Fault) (hF : merge_Scan_v1 l a0 = some r) : Pe Try.prog 40 S.none [.sl 1 (l.map e_L_Cell), .agg (c_Ask a0)] (.tup [.sl 5 (r.1.map e_Cell), .agg (c_Fault r.2)]) S.none := by
 refine PeN 25 [.tmp 4, .cell 5 28] [22, 28] Ty.ok Fn.b40 Try.func40 ?_
 intro Q g hfin
 unfold merge_Scan_v1 at hF
 refine VR [] [0, 3, 5] [3, 5] [] [] [(3, .ptr 3 0), (5, .ptr 5 0)] [(3, (c_Ask a0)), (5, [.i 0, .i 0])] [] [] .nil ?_
 obtain ⟨x, h0, hF⟩ := ob_elim hF
 refine VR [.callB (.agg (c_Fault x))] [0, 3, 5, 6] [3, 5, 6] [] [] [(6, .ptr 6 0)] [(6, (c_Fault x))] [] [] (hc (merge_lists_ok l x h0) .nil) ?_
 refine NR [] [0, 3, 5, 6, 12] [3, 5, 6] [] [(12, .bool (!decide (x.Code = 0)))] .nil ?_
 refine Nif hF (fun hb hF => ?_) (fun hb hF => ?_)
 ·refine VD [] [4, 5] [5] [] [] [(4, .nils)] [(5, (c_Fault x))] [] [] .nil ?_
  cases hF
  exact Wk_ret (hfin _ ⟨[], [], [], [], [], [], by kernel_rfl⟩)
 ·obtain ⟨x1, h1, hF⟩ := lt_split hF
  refine VR [.callB (.agg (c_Fault x1))] [0, 3, 5, 7] [3, 5, 7] [] [] [(7, .ptr 7 0)] [(7, (c_Fault x1))] [] [] (hc (cell_Asked_ok a0 x1 h1) .nil) ?_
  refine NR [] [0, 3, 5, 7, 18] [3, 5, 7] [] [(18, .bool (!decide (x1.Code = 0)))] .nil ?_
  refine Nif hF (fun hb hF => ?_) (fun hb hF => ?_)
  ·refine VD [] [4, 5] [5] [] [] [(4, .nils)] [(5, (c_Fault x1))] [] [] .nil ?_
   cases hF
   exact Wk_ret (hfin _ ⟨[], [], [], [], [], [], by kernel_rfl⟩)
  ·obtain ⟨x2, h2, hF⟩ := ob_elim hF
   obtain ⟨x3, h3, hF⟩ := ob_elim hF
   refine VD [.callE [] [] [] [] (.row 21 0) ⟨[], [], [(21, .z 37 5 0 (x2.map e_Cell))], [], []⟩, .callE [] [] [] [] (.row 23 0) ⟨[], [], [(23, .z 37 5 0 (x3.map e_Cell))], [], []⟩] [4, 5] [5] [23] [] [(4, .row 23 0)] [] [(23, .z 37 5 0 (x3.map e_Cell))] [] (hc (Pe.ren (merge_joined_ok l x2 h2) ⟨[], [(6, 21)], [], []⟩) (hc (Pe.ren (cell_Seen_ok x2 a0 x3 h3) ⟨[], [(68, 23)], [], []⟩) .nil)) ?_
   cases hF
   exact Wk_ret (hfin _ ⟨[], [], [], [], [], [], by kernel_rfl⟩)

/- tabularylaw.MergeJoins$1 -/
noncomputable def law_MergeJoins_1 (box : List Cell) : List Cell :=
 box
theorem law_MergeJoins_1_ok (box : List Cell) (r : List Cell) (hF : law_MergeJoins_1 box = r) : Pe Try.prog 41 ⟨[], [(100000, [.sl 5 (box.map e_Cell)])], [], [], []⟩ [.ptr 100000 0] (.sl 5 (r.map e_Cell)) ⟨[], [(100000, [.sl 5 (box.map e_Cell)])], [], [], []⟩ := by
 refine PeN 3 [.tmp 1] [22] Ty.ok Fn.b41 Try.func41 ?_
 intro Q g hfin
 unfold law_MergeJoins_1 at hF
 refine NR [] [0] [100000] [] [] .nil ?_
 refine NR [] [1] [100000] [] [(1, .sl 5 (box.map e_Cell))] .nil ?_
 cases hF
 exact Wk_ret (hfin _ ⟨[], [100000], [], [], [], [], by kernel_rfl⟩)

/- tabularylaw.cellsAs -/
noncomputable def law_cellsAs_v1 (l : List Cell) (f : Fault) (w0 : Fault) (box : List Cell) : Option Bool :=
 if (!(decide (f.Code = w0.Code) && (decide (f.At = w0.At) && true))) = true then
  some false
 else
  if (!decide (w0.Code = 0)) = true then
   some (decide ((l.length : Int) = 0))
  else
   lt (law_MergeJoins_1 box) fun x =>
   ob (R_SameCells l x) fun x1 =>
   some x1
theorem law_cellsAs_v1_ok (l : List Cell) (f : Fault) (w0 : Fault) (box : List Cell) (r : Bool) (hF : law_cellsAs_v1 l f w0 box = some r) : Pe Try.prog 20 ⟨[], [(100000, [.sl 5 (box.map e_Cell)])], [], [], []⟩ [.sl 5 (l.map e_Cell), .agg (c_Fault f), .agg (c_Fault w0), .fn 41 [.ptr 100000 0]] (.bool r) ⟨[], [(100000, [.sl 5 (box.map e_Cell)])], [], [], []⟩ := by
 refine PeN 22 [.tmp 8] [4] Ty.ok Fn.b20 Try.func20 ?_
 intro Q g hfin
 unfold law_cellsAs_v1 at hF
 refine VR [] [0, 3, 5, 6] [5, 6, 100000] [] [] [(5, .ptr 5 0), (6, .ptr 6 0)] [(5, (c_Fault f)), (6, (c_Fault w0))] [] [] .nil ?_
 refine NR [] [0, 3, 6, 11] [6, 100000] [] [(11, .bool (!(decide (f.Code = w0.Code) && (decide (f.At = w0.At) && true))))] .nil ?_
 refine Nif hF (fun hb hF => ?_) (fun hb hF => ?_)
 ·refine NR [] [8] [100000] [] [(8, .bool false)] .nil ?_
  cases hF
  exact Wk_ret (hfin _ ⟨[], [100000], [], [], [], [], by kernel_rfl⟩)
 ·refine NR [] [0, 3, 14] [100000] [] [(14, .bool (!decide (w0.Code = 0)))] .nil ?_
  refine Nif hF (fun hb hF => ?_) (fun hb hF => ?_)
  ·refine NR [.nat (l.length : Int)] [8] [100000] [] [(8, .bool (decide ((l.length : Int) = 0)))] (hc (len_ok e_Cell l) .nil) ?_
   cases hF
   exact Wk_ret (hfin _ ⟨[], [100000], [], [], [], [], by kernel_rfl⟩)
  ·obtain ⟨x, h0, hF⟩ := lt_split hF
   obtain ⟨x1, h1, hF⟩ := ob_elim hF
   refine NR [.callR [100000] [] [] [] (.sl 5 (x.map e_Cell)), .callB (.bool x1)] [8] [100000] [] [(8, .bool x1)] (hc (Pe.ren (law_MergeJoins_1_ok box x h0) ⟨[], [], [], []⟩) (hc (R_SameCells_ok l x x1 h1) .nil)) ?_
   cases hF
   exact Wk_ret (hfin _ ⟨[], [100000], [], [], [], [], by kernel_rfl⟩)

/- tabularyref.AskFault -/
noncomputable def R_AskFault (a0 : Ask) : Fault :=
 if ((decide (a0.Time < 0)) || (decide (1000000000 < a0.Time))) = true then
  lt (R_F 3 (-1)) fun x =>
  x
 else
  if ((decide (a0.Many < 0)) || (decide (1000 < a0.Many))) = true then
   lt (R_F 3 (-2)) fun x1 =>
   x1
  else
   (⟨0, 0⟩ : Fault)
theorem R_AskFault_ok (a0 : Ask) (r : Fault) (hF : R_AskFault a0 = r) : Pe Try.prog 19 S.none [.agg (c_Ask a0)] (.agg (c_Fault r)) S.none := by
 refine PeN 22 [.cell 2 28] [28] Ty.ok Fn.b19 Try.func19 ?_
 intro Q g hfin
 unfold R_AskFault at hF
 refine VR [] [1, 2] [1, 2] [] [] [(1, .ptr 1 0), (2, .ptr 2 0)] [(1, (c_Ask a0)), (2, [.i 0, .i 0])] [] [] .nil ?_
 refine NR [] [1, 2, 10] [1, 2] [] [(10, .bool ((decide (a0.Time < 0)) || (decide (1000000000 < a0.Time))))] .nil ?_
 refine Nif hF (fun hb hF => ?_) (fun hb hF => ?_)
 ·obtain ⟨x, h0, hF⟩ := lt_split hF
  refine VR [.callB (.agg (c_Fault x))] [2] [2] [] [] [] [(2, (c_Fault x))] [] [] (hc (R_F_ok 3 (-1) x h0) .nil) ?_
  cases hF
  exact Wk_ret (hfin _ ⟨[], [], [], [], [], [], by kernel_rfl⟩)
 ·refine NR [] [2, 19] [2] [] [(19, .bool ((decide (a0.Many < 0)) || (decide (1000 < a0.Many))))] .nil ?_
  refine Nif hF (fun hb hF => ?_) (fun hb hF => ?_)
  ·obtain ⟨x1, h1, hF⟩ := lt_split hF
   refine VR [.callB (.agg (c_Fault x1))] [2] [2] [] [] [] [(2, (c_Fault x1))] [] [] (hc (R_F_ok 3 (-2) x1 h1) .nil) ?_
   cases hF
   exact Wk_ret (hfin _ ⟨[], [], [], [], [], [], by kernel_rfl⟩)
  ·refine NR [] [2] [2] [] [] .nil ?_
   cases hF
   exact Wk_ret (hfin _ ⟨[], [], [], [], [], [], by kernel_rfl⟩)

/- tabularyref.SeenCell -/
noncomputable def R_SeenCell_J1 (l : List Cell) (v : Cell × Int) : Option (Cell × Bool) :=
 asrt ((!(decide (v.2 < 0))) = true → 0 ≤ v.2 ∧ v.2 < (l.length : Int)) <|
 if ((decide (v.2 < 0)) || ((lget l v.2).Gone)) = true then
  some ((⟨([] : List UInt8), ([] : List UInt8), 0, false, ([] : List UInt8)⟩ : Cell), false)
 else
  asrt (0 ≤ v.2 ∧ v.2 < (l.length : Int)) <|
  some ((⟨(lget l v.2).Row, (lget l v.2).Col, (lget l v.2).Time, (lget l v.2).Gone, (lget l v.2).Value⟩ : Cell), true)
noncomputable def R_SeenCell_B1 (l : List Cell) (row : List UInt8) (col : List UInt8) (time : Int) (v1 : Cell × Int × Int) : Option ((Cell × Int × Int) ⊕ (Cell × Bool)) :=
 if (decide (v1.2.2 < (l.length : Int))) = true then
  asrt (0 ≤ v1.2.2 ∧ v1.2.2 < (l.length : Int)) <|
  asrt ((decide (((lget l v1.2.2).Row) = row)) = true → 0 ≤ v1.2.2 ∧ v1.2.2 < (l.length : Int)) <|
  asrt (((decide (((lget l v1.2.2).Row) = row)) && (decide (((lget l v1.2.2).Col) = col))) = true → 0 ≤ v1.2.2 ∧ v1.2.2 < (l.length : Int)) <|
  asrt ((!(decide (v1.2.1 < 0))) = true → (((decide (((lget l v1.2.2).Row) = row)) && (decide (((lget l v1.2.2).Col) = col))) && (decide (((lget l v1.2.2).Time) ≤ time))) = true → 0 ≤ v1.2.2 ∧ v1.2.2 < (l.length : Int)) <|
  asrt ((!(decide (v1.2.1 < 0))) = true → (((decide (((lget l v1.2.2).Row) = row)) && (decide (((lget l v1.2.2).Col) = col))) && (decide (((lget l v1.2.2).Time) ≤ time))) = true → 0 ≤ v1.2.1 ∧ v1.2.1 < (l.length : Int)) <|
  ob (
   if ((((decide (((lget l v1.2.2).Row) = row)) && (decide (((lget l v1.2.2).Col) = col))) && (decide (((lget l v1.2.2).Time) ≤ time))) && ((decide (v1.2.1 < 0)) || (decide (((lget l v1.2.1).Time) < ((lget l v1.2.2).Time))))) = true then
    some (v1.1, v1.2.2)
   else
    some (v1.1, v1.2.1)) fun (v2 : Cell × Int) =>
  some (Sum.inl (v2.1, v2.2, w64 (v1.2.2 + 1)))
 else
  inrO (R_SeenCell_J1 l (v1.1, v1.2.1))
noncomputable def R_SeenCell_L1 (l : List Cell) (row : List UInt8) (col : List UInt8) (time : Int) (v0 : Cell × Int × Int) : Option (Cell × Bool) :=
 loopO (fun y => R_SeenCell_B1 l row col time y) v0
noncomputable def R_SeenCell (l : List Cell) (row : List UInt8) (col : List UInt8) (time : Int) : Option (Cell × Bool) :=
 R_SeenCell_L1 l row col time ((⟨([] : List UInt8), ([] : List UInt8), 0, false, ([] : List UInt8)⟩ : Cell), (-1), 0)
theorem R_SeenCell_ok (l : List Cell) (row : List UInt8) (col : List UInt8) (time : Int) (r : Cell × Bool) (hF : R_SeenCell l row col time = some r) : Pe Try.prog 18 S.none [.sl 5 (l.map e_Cell), .str row, .str col, .i time] (.tup [.agg (c_Cell r.1), .bool r.2]) S.none := by
 refine PeN 75 [.cell 8 37, .tmp 9] [37, 4] Ty.ok Fn.b18 Try.func18 ?_
 intro Q g hfin
 unfold R_SeenCell at hF
 refine VR [] [0, 1, 2, 3, 8] [8] [] [] [(8, .ptr 8 0)] [(8, [.str [], .str [], .i 0, .bool false, .str []])] [] [] .nil ?_
 refine NR [] [0, 1, 2, 3, 8, 10] [8] [] [(10, .i (-1))] .nil ?_
 refine NR [] [0, 1, 2, 3, 8, 10, 11] [8] [] [(11, .i 0)] .nil ?_
 refine NmeetP (fun v : Cell × Int => (⟨[(0, .sl 5 (l.map e_Cell)), (8, .ptr 8 0), (10, .i v.2)], [(8, (c_Cell v.1))], [], [], []⟩ : S)) (fun v => R_SeenCell_J1 l v = some r) ?_ ?_
 ·refine Nblk ?_
  unfold R_SeenCell_L1 at hF
  refine Niter (fun v1 : Cell × Int × Int => (⟨[(0, .sl 5 (l.map e_Cell)), (1, .str row), (2, .str col), (3, .i time), (8, .ptr 8 0), (10, .i v1.2.1), (11, .i v1.2.2)], [(8, (c_Cell v1.1))], [], [], []⟩ : S)) [] hF (by kernel_rfl) ?_
  intro n1 v1 y1 hF ih1 dn1
  unfold R_SeenCell_B1 at hF
  refine NR [.nat (l.length : Int)] [0, 1, 2, 3, 8, 10, 11, 15] [8] [] [(15, .bool (decide (v1.2.2 < (l.length : Int))))] (hc (len_ok e_Cell l) .nil) ?_
  refine Nif hF (fun hb hF => ?_) (fun hb hF => ?_)
  ·refine Nblk ?_
   obtain ⟨h2, h3, h4, h5, hF⟩ := asrt4 hF
   obtain ⟨h6, hF⟩ := asrt_elim hF
   refine ND [.av (e_Cell (lget l v1.2.2)), .av (e_Cell (lget l v1.2.2)), .av (e_Cell (lget l v1.2.2)), .av (e_Cell (lget l v1.2.2)), .av (e_Cell (lget l v1.2.1))] [0, 1, 2, 3, 8, 10, 11, 59] [8] [] [(59, .bool ((((decide (((lget l v1.2.2).Row) = row)) && (decide (((lget l v1.2.2).Col) = col))) && (decide (((lget l v1.2.2).Time) ≤ time))) && ((decide (v1.2.1 < 0)) || (decide (((lget l v1.2.1).Time) < ((lget l v1.2.2).Time))))))] (hc (idx_ok e_Cell h2) (hc (fun (ga0 : (decide (((lget l v1.2.2).Row) = row)) = true) => (idx_ok e_Cell (h3 ga0))) (hc (fun (ga0 : ((decide (((lget l v1.2.2).Row) = row)) && (decide (((lget l v1.2.2).Col) = col))) = true) => (idx_ok e_Cell (h4 ga0))) (hc (fun (ga0 : (!(decide (v1.2.1 < 0))) = true) (ga1 : (((decide (((lget l v1.2.2).Row) = row)) && (decide (((lget l v1.2.2).Col) = col))) && (decide (((lget l v1.2.2).Time) ≤ time))) = true) => (idx_ok e_Cell (h5 ga0 ga1))) (hc (fun (ga0 : (!(decide (v1.2.1 < 0))) = true) (ga1 : (((decide (((lget l v1.2.2).Row) = row)) && (decide (((lget l v1.2.2).Col) = col))) && (decide (((lget l v1.2.2).Time) ≤ time))) = true) => (idx_ok e_Cell (h6 ga0 ga1))) .nil))))) ?_
   obtain ⟨v2, hv, hF⟩ := ob_elim hF
   refine Nmeet (⟨[(0, .sl 5 (l.map e_Cell)), (1, .str row), (2, .str col), (3, .i time), (8, .ptr 8 0), (10, .i v2.2), (11, .i v1.2.2)], [(8, (c_Cell v2.1))], [], [], []⟩ : S) ?_ ?_
   ·have hF := hv
    refine Nif hF (fun hb hF => ?_) (fun hb hF => ?_)
    ·refine NR [] [0, 1, 2, 3, 8, 10, 11] [8] [] [(10, .i v1.2.2)] .nil ?_
     cases hF
     exact met [] (by kernel_rfl)
    ·cases hF
     exact met [] (by kernel_rfl)
   ·refine NR [] [0, 1, 2, 3, 8, 10, 11] [8] [] [(11, .i (w64 (v1.2.2 + 1)))] .nil ?_
    exact Nrnd [] hF ih1 (by kernel_rfl)
  ·refine Nexit rfl ?_
   have hF := inrO_done hF dn1
   exact metP (v1.1, v1.2.1) [] hF (by kernel_rfl)
 ·intro v hF
  have hF : R_SeenCell_J1 l v = some r := hF
  unfold R_SeenCell_J1 at hF
  obtain ⟨h0, hF⟩ := asrt_elim hF
  refine NR [.av (e_Cell (lget l v.2))] [0, 8, 10, 69] [8] [] [(69, .bool ((decide (v.2 < 0)) || ((lget l v.2).Gone)))] (hc (fun (ga0 : (!(decide (v.2 < 0))) = true) => (idx_ok e_Cell (h0 ga0))) .nil) ?_
  refine Nif hF (fun hb hF => ?_) (fun hb hF => ?_)
  ·refine VR [] [8, 9] [8] [] [] [(9, .bool false)] [(8, [.str [], .str [], .i 0, .bool false, .str []])] [] [] .nil ?_
   cases hF
   exact Wk_ret (hfin _ ⟨[], [], [], [], [], [], by kernel_rfl⟩)
  ·obtain ⟨h1, hF⟩ := asrt_elim hF
   refine VR [.av (e_Cell (lget l v.2))] [8, 9] [8] [] [] [(9, .bool true)] [(8, (c_Cell (lget l v.2)))] [] [] (hc (idx_ok e_Cell h1) .nil) ?_
   cases hF
   exact Wk_ret (hfin _ ⟨[], [], [], [], [], [], by kernel_rfl⟩)

/- tabularyref.Scanned -/
noncomputable def R_Scanned_v1_J1 (v : List Cell) : Option (List Cell) :=
 some v
noncomputable def R_Scanned_v1_B1 (l : List Cell) (v1 : Ask × List Cell × Int) : Option ((Ask × List Cell × Int) ⊕ (List Cell)) :=
 if ((decide (v1.2.2 < (l.length : Int))) && (decide ((v1.2.1.length : Int) < v1.1.Many))) = true then
  ob (
   asrt (0 ≤ v1.2.2 ∧ v1.2.2 < (l.length : Int)) <|
   if ((Op.bytesLess ((lget l v1.2.2).Row) v1.1.From) || ((!decide (v1.1.To = ([] : List UInt8))) && (!Op.bytesLess ((lget l v1.2.2).Row) v1.1.To))) = true then
    some (v1.1, v1.2.1)
   else
    ob (R_SeenCell l ((lget l v1.2.2).Row) ((lget l v1.2.2).Col) v1.1.Time) fun x =>
    if (x.2 && (decide (x.1.Row = (lget l v1.2.2).Row) && (decide (x.1.Col = (lget l v1.2.2).Col) && (decide (x.1.Time = (lget l v1.2.2).Time) && ((x.1.Gone == ((lget l v1.2.2).Gone)) && (decide (x.1.Value = (lget l v1.2.2).Value) && true)))))) = true then
     asrt (((v1.2.1 ++ [(⟨(lget l v1.2.2).Row, (lget l v1.2.2).Col, (lget l v1.2.2).Time, (lget l v1.2.2).Gone, (lget l v1.2.2).Value⟩ : Cell)]).length : Int) * 64 ≤ 140737488351232) <|
     lt ((v1.2.1 ++ [(⟨(lget l v1.2.2).Row, (lget l v1.2.2).Col, (lget l v1.2.2).Time, (lget l v1.2.2).Gone, (lget l v1.2.2).Value⟩ : Cell)])) fun (v3 : List Cell) =>
     some (v1.1, v3)
    else
     some (v1.1, v1.2.1)) fun (v2 : Ask × List Cell) =>
  some (Sum.inl (v2.1, v2.2, w64 (v1.2.2 + 1)))
 else
  inrO (R_Scanned_v1_J1 v1.2.1)
noncomputable def R_Scanned_v1_L1 (l : List Cell) (v0 : Ask × List Cell × Int) : Option (List Cell) :=
 loopO (fun y => R_Scanned_v1_B1 l y) v0
noncomputable def R_Scanned_v1 (l : List Cell) (a0 : Ask) : Option (List Cell) :=
 R_Scanned_v1_L1 l (a0, ([] : List Cell), 0)
theorem R_Scanned_v1_ok (l : List Cell) (a0 : Ask) (r : List Cell) (hF : R_Scanned_v1 l a0 = some r) : Pe Try.prog 22 S.none [.sl 5 (l.map e_Cell), .agg (c_Ask a0)] (.sl 5 (r.map e_Cell)) S.none := by
 refine PeN 66 [.tmp 4] [22] Ty.ok Fn.b22 Try.func22 ?_
 intro Q g hfin
 unfold R_Scanned_v1 at hF
 refine VR [] [0, 3] [3] [] [] [(3, .ptr 3 0)] [(3, (c_Ask a0))] [] [] .nil ?_
 refine NR [] [0, 3, 5] [3] [] [(5, .nils)] .nil ?_
 refine NR [] [0, 3, 5, 6] [3] [] [(6, .i 0)] .nil ?_
 refine NmeetP (fun v : List Cell => (⟨[(5, .row 64 0)], [], [(64, .z 37 5 0 (v.map e_Cell))], [], []⟩ : S)) (fun v => R_Scanned_v1_J1 v = some r) ?_ ?_
 ·refine Nblk ?_
  unfold R_Scanned_v1_L1 at hF
  refine Wk_nilrow 5 60000 37 5 rfl rfl rfl ?_
  refine Wk_trim (fs := [0, 3, 5, 6]) (bs := [3]) (rs := [60000]) (ms := []) (aa := []) (nv := []) rfl ?_
  refine Wk_ren' ⟨[], [(60000, 64)], [], []⟩ rfl ?_
  refine Niter (fun v1 : Ask × List Cell × Int => (⟨[(0, .sl 5 (l.map e_Cell)), (3, .ptr 3 0), (5, .row 64 0), (6, .i v1.2.2)], [(3, (c_Ask v1.1))], [(64, .z 37 5 0 (v1.2.1.map e_Cell))], [], []⟩ : S)) [] hF (by kernel_rfl) ?_
  intro n1 v1 y1 hF ih1 dn1
  unfold R_Scanned_v1_B1 at hF
  refine NR [.nat (l.length : Int), .nat (v1.2.1.length : Int)] [0, 3, 5, 6, 20] [3] [64] [(20, .bool ((decide (v1.2.2 < (l.length : Int))) && (decide ((v1.2.1.length : Int) < v1.1.Many))))] (hc (len_ok e_Cell l) (hc (fun (_ : (decide (v1.2.2 < (l.length : Int))) = true) => (len_ok e_Cell v1.2.1)) .nil)) ?_
  refine Nif hF (fun hb hF => ?_) (fun hb hF => ?_)
  ·obtain ⟨v2, hv, hF⟩ := ob_elim hF
   refine Nmeet (⟨[(0, .sl 5 (l.map e_Cell)), (3, .ptr 3 0), (5, .row 64 0), (6, .i v1.2.2)], [(3, (c_Ask v2.1))], [(64, .z 37 5 0 (v2.2.map e_Cell))], [], []⟩ : S) ?_ ?_
   ·have hF := hv
    refine Nblk ?_
    obtain ⟨h0, hF⟩ := asrt_elim hF
    refine VR [.av (e_Cell (lget l v1.2.2))] [0, 3, 5, 6, 7] [3, 7] [64] [] [(7, .ptr 7 0)] [(7, (c_Cell (lget l v1.2.2)))] [] [] (hc (idx_ok e_Cell h0) .nil) ?_
    refine NR [] [0, 3, 5, 6, 7, 43] [3, 7] [64] [(43, .bool ((Op.bytesLess ((lget l v1.2.2).Row) v1.1.From) || ((!decide (v1.1.To = ([] : List UInt8))) && (!Op.bytesLess ((lget l v1.2.2).Row) v1.1.To))))] .nil ?_
    refine Nif hF (fun hb hF => ?_) (fun hb hF => ?_)
    ·refine Nexit rfl ?_
     cases hF
     exact met [] (by kernel_rfl)
    ·obtain ⟨x, h1, hF⟩ := ob_elim hF
     refine VR [.callB (.tup [.agg (c_Cell x.1), .bool x.2])] [0, 3, 5, 6, 7, 8, 9] [3, 7, 8] [64] [] [(8, .ptr 8 0), (9, .bool x.2)] [(8, (c_Cell x.1))] [] [] (hc (R_SeenCell_ok l ((lget l v1.2.2).Row) ((lget l v1.2.2).Col) v1.1.Time x h1) .nil) ?_
     refine NR [] [0, 3, 5, 6, 7, 60] [3, 7] [64] [(60, .bool (x.2 && (decide (x.1.Row = (lget l v1.2.2).Row) && (decide (x.1.Col = (lget l v1.2.2).Col) && (decide (x.1.Time = (lget l v1.2.2).Time) && ((x.1.Gone == ((lget l v1.2.2).Gone)) && (decide (x.1.Value = (lget l v1.2.2).Value) && true)))))))] .nil ?_
     refine Nif hF (fun hb hF => ?_) (fun hb hF => ?_)
     ·obtain ⟨h2, hF⟩ := asrt_elim hF
      refine NRL ((v1.2.1 ++ [(⟨(lget l v1.2.2).Row, (lget l v1.2.2).Col, (lget l v1.2.2).Time, (lget l v1.2.2).Gone, (lget l v1.2.2).Value⟩ : Cell)])) (fun v3 : List Cell => ([(5, .row 64 1)], [], [(64, .z 37 5 1 (v3.map e_Cell))], [])) [.sealed, .xs ((v1.2.1 ++ [(⟨(lget l v1.2.2).Row, (lget l v1.2.2).Col, (lget l v1.2.2).Time, (lget l v1.2.2).Gone, (lget l v1.2.2).Value⟩ : Cell)]).map e_Cell)] [0, 3, 5, 6] [3] [64] [] (hc (app_ok e_Cell v1.2.1 [(⟨(lget l v1.2.2).Row, (lget l v1.2.2).Col, (lget l v1.2.2).Time, (lget l v1.2.2).Gone, (lget l v1.2.2).Value⟩ : Cell)]) (hc (appl_ok e_Cell h2) .nil)) (fun v3 hv => ?_)
      have hF := lt_elim hF hv
      cases hF
      exact met [(64, ⟨0, true, true, false⟩)] (by kernel_rfl)
     ·cases hF
      exact met [] (by kernel_rfl)
   ·refine NR [] [0, 3, 5, 6] [3] [64] [(6, .i (w64 (v1.2.2 + 1)))] .nil ?_
    exact Nrnd [] hF ih1 (by kernel_rfl)
  ·refine Nexit rfl ?_
   have hF := inrO_done hF dn1
   exact metP v1.2.1 [] hF (by kernel_rfl)
 ·intro v hF
  have hF : R_Scanned_v1_J1 v = some r := hF
  unfold R_Scanned_v1_J1 at hF
  refine NR [] [4] [] [64] [(4, .row 64 0)] .nil ?_
  cases hF
  exact Wk_ret (hfin _ ⟨[], [], [], [], [], [], by kernel_rfl⟩)

/- tabularylaw.MergeJoins$2 -/
noncomputable def law_MergeJoins_2 (box : List Cell) (box1 : Ask) : Option (List Cell) :=
 ob (R_Scanned_v1 box box1) fun x =>
 some x
theorem law_MergeJoins_2_ok (box : List Cell) (box1 : Ask) (r : List Cell) (hF : law_MergeJoins_2 box box1 = some r) : Pe Try.prog 42 ⟨[], [(100000, [.sl 5 (box.map e_Cell)]), (100001, (c_Ask box1))], [], [], []⟩ [.ptr 100000 0, .ptr 100001 0] (.sl 5 (r.map e_Cell)) ⟨[], [(100000, [.sl 5 (box.map e_Cell)]), (100001, (c_Ask box1))], [], [], []⟩ := by
 refine PeN 6 [.tmp 2] [22] Ty.ok Fn.b42 Try.func42 ?_
 intro Q g hfin
 unfold law_MergeJoins_2 at hF
 refine NR [] [0, 1] [100000, 100001] [] [] .nil ?_
 obtain ⟨x, h0, hF⟩ := ob_elim hF
 refine NR [.call (.sl 5 (x.map e_Cell))] [2] [100000, 100001] [] [(2, .sl 5 (x.map e_Cell))] (hc (R_Scanned_v1_ok box box1 x h0) .nil) ?_
 cases hF
 exact Wk_ret (hfin _ ⟨[], [100000, 100001], [], [], [], [], by kernel_rfl⟩)

/- tabularylaw.cellsAs -/
noncomputable def law_cellsAs_v2 (l : List Cell) (f : Fault) (w0 : Fault) (box : List Cell) (box1 : Ask) : Option Bool :=
 if (!(decide (f.Code = w0.Code) && (decide (f.At = w0.At) && true))) = true then
  some false
 else
  if (!decide (w0.Code = 0)) = true then
   some (decide ((l.length : Int) = 0))
  else
   ob (law_MergeJoins_2 box box1) fun x =>
   ob (R_SameCells l x) fun x1 =>
   some x1
theorem law_cellsAs_v2_ok (l : List Cell) (f : Fault) (w0 : Fault) (box : List Cell) (box1 : Ask) (r : Bool) (hF : law_cellsAs_v2 l f w0 box box1 = some r) : Pe Try.prog 20 ⟨[], [(100000, [.sl 5 (box.map e_Cell)]), (100001, (c_Ask box1))], [], [], []⟩ [.sl 5 (l.map e_Cell), .agg (c_Fault f), .agg (c_Fault w0), .fn 42 [.ptr 100000 0, .ptr 100001 0]] (.bool r) ⟨[], [(100000, [.sl 5 (box.map e_Cell)]), (100001, (c_Ask box1))], [], [], []⟩ := by
 refine PeN 22 [.tmp 8] [4] Ty.ok Fn.b20 Try.func20 ?_
 intro Q g hfin
 unfold law_cellsAs_v2 at hF
 refine VR [] [0, 3, 5, 6] [5, 6, 100000, 100001] [] [] [(5, .ptr 5 0), (6, .ptr 6 0)] [(5, (c_Fault f)), (6, (c_Fault w0))] [] [] .nil ?_
 refine NR [] [0, 3, 6, 11] [6, 100000, 100001] [] [(11, .bool (!(decide (f.Code = w0.Code) && (decide (f.At = w0.At) && true))))] .nil ?_
 refine Nif hF (fun hb hF => ?_) (fun hb hF => ?_)
 ·refine NR [] [8] [100000, 100001] [] [(8, .bool false)] .nil ?_
  cases hF
  exact Wk_ret (hfin _ ⟨[], [100000, 100001], [], [], [], [], by kernel_rfl⟩)
 ·refine NR [] [0, 3, 14] [100000, 100001] [] [(14, .bool (!decide (w0.Code = 0)))] .nil ?_
  refine Nif hF (fun hb hF => ?_) (fun hb hF => ?_)
  ·refine NR [.nat (l.length : Int)] [8] [100000, 100001] [] [(8, .bool (decide ((l.length : Int) = 0)))] (hc (len_ok e_Cell l) .nil) ?_
   cases hF
   exact Wk_ret (hfin _ ⟨[], [100000, 100001], [], [], [], [], by kernel_rfl⟩)
  ·obtain ⟨x, h0, hF⟩ := ob_elim hF
   obtain ⟨x1, h1, hF⟩ := ob_elim hF
   refine NR [.callR [100000, 100001] [] [] [] (.sl 5 (x.map e_Cell)), .callB (.bool x1)] [8] [100000, 100001] [] [(8, .bool x1)] (hc (Pe.ren (law_MergeJoins_2_ok box box1 x h0) ⟨[], [], [], []⟩) (hc (R_SameCells_ok l x x1 h1) .nil)) ?_
   cases hF
   exact Wk_ret (hfin _ ⟨[], [100000, 100001], [], [], [], [], by kernel_rfl⟩)

/- tabularylaw.MergeJoins -/
noncomputable def law_MergeJoins (l : List (List Cell)) (a0 : Ask) : Option Bool :=
 ob (law_mergeBegun) fun x =>
 if (!x) = true then
  some false
 else
  ob (law_vastLists l) fun x1 =>
  if x1 = true then
   some true
  else
   ob (law_ownLists_v1 l) fun x2 =>
   ob (merge_Join_v1 x2) fun x3 =>
   ob (law_ownLists_v1 l) fun x4 =>
   ob (merge_Scan_v1 x4 a0) fun x5 =>
   ob (law_listsFault l) fun x6 =>
   ob (
    if (decide (x6.Code = 0)) = true then
     ob (law_together l) fun x7 =>
     if (decide (1000 < (x7.length : Int))) = true then
      lt (R_F 9 (-1)) fun x8 =>
      some (a0, x3.2, x5.2, x6, x7, x8)
     else
      some (a0, x3.2, x5.2, x6, x7, x6)
    else
     some (a0, x3.2, x5.2, x6, ([] : List Cell), x6)) fun (v : Ask × Fault × Fault × Fault × List Cell × Fault) =>
   ob (law_cellsAs_v1 x3.1 v.2.1 v.2.2.2.2.2 v.2.2.2.2.1) fun x9 =>
   if (!x9) = true then
    some false
   else
    ob (
     if (decide (v.2.2.2.1.Code = 0)) = true then
      lt (R_AskFault v.1) fun x10 =>
      some (v.1, v.2.2.1, x10)
     else
      some (v.1, v.2.2.1, v.2.2.2.1)) fun (v1 : Ask × Fault × Fault) =>
    if ((decide (v1.2.2.Code = 0)) && (decide (300 < (v.2.2.2.2.1.length : Int)))) = true then
     some (decide (v1.2.1.Code = 0))
    else
     ob (law_cellsAs_v2 x5.1 v1.2.1 v1.2.2 v.2.2.2.2.1 v1.1) fun x11 =>
     some x11
theorem law_MergeJoins_ok (l : List (List Cell)) (a0 : Ask) (r : Bool) (hF : law_MergeJoins l a0 = some r) : Pe Try.prog 8 S.none [.sl 1 (l.map e_L_Cell), .agg (c_Ask a0)] (.bool r) S.none := by
 refine PeN 68 [.tmp 4] [4] Ty.ok Fn.b8 Try.func8 ?_
 intro Q g hfin
 unfold law_MergeJoins at hF
 refine VR [] [0, 3] [3] [] [] [(3, .ptr 3 0)] [(3, (c_Ask a0))] [] [] .nil ?_
 obtain ⟨x, h0, hF⟩ := ob_elim hF
 refine NR [.callB (.bool x)] [0, 3, 13] [3] [] [(13, .bool (!x))] (hc (law_mergeBegun_ok  x h0) .nil) ?_
 refine Nif hF (fun hb hF => ?_) (fun hb hF => ?_)
 ·refine NR [] [4] [] [] [(4, .bool false)] .nil ?_
  cases hF
  exact Wk_ret (hfin _ ⟨[], [], [], [], [], [], by kernel_rfl⟩)
 ·obtain ⟨x1, h1, hF⟩ := ob_elim hF
  refine NR [.callB (.bool x1)] [0, 3, 15] [3] [] [(15, .bool x1)] (hc (law_vastLists_ok l x1 h1) .nil) ?_
  refine Nif hF (fun hb hF => ?_) (fun hb hF => ?_)
  ·refine NR [] [4] [] [] [(4, .bool true)] .nil ?_
   cases hF
   exact Wk_ret (hfin _ ⟨[], [], [], [], [], [], by kernel_rfl⟩)
  ·obtain ⟨x2, h2, hF⟩ := ob_elim hF
   obtain ⟨x3, h3, hF⟩ := ob_elim hF
   refine VR [.call (.sl 1 (x2.map e_L_Cell)), .call (.tup [.sl 5 (x3.1.map e_Cell), .agg (c_Fault x3.2)])] [0, 3, 5, 6] [3, 6] [] [] [(5, .sl 5 (x3.1.map e_Cell)), (6, .ptr 6 0)] [(6, (c_Fault x3.2))] [] [] (hc (law_ownLists_v1_ok l x2 h2) (hc (merge_Join_v1_ok x2 x3 h3) .nil)) ?_
   obtain ⟨x4, h4, hF⟩ := ob_elim hF
   obtain ⟨x5, h5, hF⟩ := ob_elim hF
   refine VD [.call (.sl 1 (x4.map e_L_Cell)), .call (.tup [.sl 5 (x5.1.map e_Cell), .agg (c_Fault x5.2)])] [0, 3, 5, 6, 7, 8] [3, 6, 8] [] [] [(7, .sl 5 (x5.1.map e_Cell)), (8, .ptr 8 0)] [(8, (c_Fault x5.2))] [] [] (hc (law_ownLists_v1_ok l x4 h4) (hc (merge_Scan_v1_ok x4 a0 x5 h5) .nil)) ?_
   obtain ⟨x6, h6, hF⟩ := ob_elim hF
   refine VR [.callB (.agg (c_Fault x6))] [0, 3, 5, 6, 7, 8, 9] [3, 6, 8, 9] [] [] [(9, .ptr 9 0)] [(9, (c_Fault x6))] [] [] (hc (law_listsFault_ok l x6 h6) .nil) ?_
   refine VR [] [0, 3, 5, 6, 7, 8, 9, 10] [3, 6, 8, 9, 10] [] [] [(10, .ptr 10 0)] [(10, [.nils])] [] [] .nil ?_
   refine VR [] [0, 3, 5, 6, 7, 8, 9, 10, 11] [3, 6, 8, 9, 10, 11] [] [] [(11, .ptr 11 0)] [(11, (c_Fault x6))] [] [] .nil ?_
   refine NR [] [0, 3, 5, 6, 7, 8, 9, 10, 11, 34] [3, 6, 8, 9, 10, 11] [] [(34, .bool (decide (x6.Code = 0)))] .nil ?_
   obtain ⟨v, hv, hF⟩ := ob_elim hF
   refine Nmeet (⟨[(3, .ptr 3 0), (5, .sl 5 (x3.1.map e_Cell)), (6, .ptr 6 0), (7, .sl 5 (x5.1.map e_Cell)), (8, .ptr 8 0), (9, .ptr 9 0), (10, .ptr 10 0), (11, .ptr 11 0)], [(3, (c_Ask v.1)), (6, (c_Fault v.2.1)), (8, (c_Fault v.2.2.1)), (9, (c_Fault v.2.2.2.1)), (10, [.sl 5 (v.2.2.2.2.1.map e_Cell)]), (11, (c_Fault v.2.2.2.2.2))], [], [], []⟩ : S) ?_ ?_
   ·have hF := hv
    refine Nif hF (fun hb hF => ?_) (fun hb hF => ?_)
    ·obtain ⟨x7, h7, hF⟩ := ob_elim hF
     refine VR [.call (.sl 5 (x7.map e_Cell))] [3, 5, 6, 7, 8, 9, 10, 11] [3, 6, 8, 9, 10, 11] [] [] [] [(10, [.sl 5 (x7.map e_Cell)])] [] [] (hc (law_together_ok l x7 h7) .nil) ?_
     refine NR [.nat (x7.length : Int)] [3, 5, 6, 7, 8, 9, 10, 11, 39] [3, 6, 8, 9, 10, 11] [] [(39, .bool (decide (1000 < (x7.length : Int))))] (hc (len_ok e_Cell x7) .nil) ?_
     refine Nif hF (fun hb hF => ?_) (fun hb hF => ?_)
     ·obtain ⟨x8, h8, hF⟩ := lt_split hF
      refine VR [.callB (.agg (c_Fault x8))] [3, 5, 6, 7, 8, 9, 10, 11] [3, 6, 8, 9, 10, 11] [] [] [] [(11, (c_Fault x8))] [] [] (hc (R_F_ok 9 (-1) x8 h8) .nil) ?_
      cases hF
      exact met [] (by kernel_rfl)
     ·cases hF
      exact met [] (by kernel_rfl)
    ·refine Wk_coeB 10 [.sl 5 (([] : List Cell).map e_Cell)] rfl (.cons (CoeS.nils 5) .nil) ?_
     cases hF
     exact met [] (by kernel_rfl)
   ·obtain ⟨x9, h9, hF⟩ := ob_elim hF
    refine NR [.callR [10] [] [] [] (.bool x9)] [3, 7, 8, 9, 10, 46] [3, 8, 9, 10] [] [(46, .bool (!x9))] (hc (Pe.ren (law_cellsAs_v1_ok x3.1 v.2.1 v.2.2.2.2.2 v.2.2.2.2.1 x9 h9) ⟨[(100000, 10)], [], [], []⟩) .nil) ?_
    refine Nif hF (fun hb hF => ?_) (fun hb hF => ?_)
    ·refine NR [] [4] [] [] [(4, .bool false)] .nil ?_
     cases hF
     exact Wk_ret (hfin _ ⟨[], [], [], [], [], [], by kernel_rfl⟩)
    ·refine NR [] [3, 7, 8, 9, 10, 49] [3, 8, 9, 10] [] [(49, .bool (decide (v.2.2.2.1.Code = 0)))] .nil ?_
     obtain ⟨v1, hv, hF⟩ := ob_elim hF
     refine Nmeet (⟨[(3, .ptr 3 0), (7, .sl 5 (x5.1.map e_Cell)), (8, .ptr 8 0), (9, .ptr 9 0), (10, .ptr 10 0)], [(3, (c_Ask v1.1)), (8, (c_Fault v1.2.1)), (9, (c_Fault v1.2.2)), (10, [.sl 5 (v.2.2.2.2.1.map e_Cell)])], [], [], []⟩ : S) ?_ ?_
     ·have hF := hv
      refine Nif hF (fun hb hF => ?_) (fun hb hF => ?_)
      ·obtain ⟨x10, h10, hF⟩ := lt_split hF
       refine VR [.callB (.agg (c_Fault x10))] [3, 7, 8, 9, 10] [3, 8, 9, 10] [] [] [] [(9, (c_Fault x10))] [] [] (hc (R_AskFault_ok v.1 x10 h10) .nil) ?_
       cases hF
       exact met [] (by kernel_rfl)
      ·cases hF
       exact met [] (by kernel_rfl)
     ·refine NR [.nat (v.2.2.2.2.1.length : Int)] [3, 7, 8, 9, 10, 59] [3, 8, 9, 10] [] [(59, .bool ((decide (v1.2.2.Code = 0)) && (decide (300 < (v.2.2.2.2.1.length : Int)))))] (hc (fun (_ : (decide (v1.2.2.Code = 0)) = true) => (len_ok e_Cell v.2.2.2.2.1)) .nil) ?_
      refine Nif hF (fun hb hF => ?_) (fun hb hF => ?_)
      ·refine NR [] [4] [] [] [(4, .bool (decide (v1.2.1.Code = 0)))] .nil ?_
       cases hF
       exact Wk_ret (hfin _ ⟨[], [], [], [], [], [], by kernel_rfl⟩)
      ·obtain ⟨x11, h11, hF⟩ := ob_elim hF
       refine NR [.callR [10, 3] [] [] [] (.bool x11)] [4] [] [] [(4, .bool x11)] (hc (Pe.ren (law_cellsAs_v2_ok x5.1 v1.2.1 v1.2.2 v.2.2.2.2.1 v1.1 x11 h11) ⟨[(100000, 10), (100001, 3)], [], [], []⟩) .nil) ?_
       cases hF
       exact Wk_ret (hfin _ ⟨[], [], [], [], [], [], by kernel_rfl⟩)

/- tabularylaw.MergeSame -/
noncomputable def law_MergeSame (l : List (List Cell)) (older : List (List Cell)) (since : Int) (whole : Bool) (a0 : Ask) : Option Bool :=
 ob (law_mergeBegun) fun x =>
 if (!x) = true then
  some false
 else
  ob (law_vastLists l) fun x1 =>
  ob (if (!x1) = true then (law_vastLists older) else some default) fun x2 =>
  ob (if (!(((x1 || x2) || (decide (19 < (w64 ((l.length : Int) + (older.length : Int)))))) || (decide (a0.Time < since)))) = true then (law_listsFault older) else some default) fun x3 =>
  if ((((x1 || x2) || (decide (19 < (w64 ((l.length : Int) + (older.length : Int)))))) || (decide (a0.Time < since))) || (!decide (x3.Code = 0))) = true then
   some true
  else
   ob (merge_Compact l since whole) fun x4 =>
   if (!decide (x4.2.Code = 0)) = true then
    some true
   else
    ob (merge_Scan l a0) fun x5 =>
    ob (merge_Scan ([x4.1] : List (List Cell)) a0) fun x6 =>
    if (!decide (x5.2.Code = 0)) = true then
     lt ((decide (x5.2.Code = x6.2.Code) && (decide (x5.2.At = x6.2.At) && true))) fun (v : Bool) =>
     some v
    else
     ob (if (!(!decide (x6.2.Code = 0))) = true then (R_SameCells x5.1 x6.1) else some default) fun x7 =>
     if ((!decide (x6.2.Code = 0)) || (!x7)) = true then
      some false
     else
      ob (merge_Compact ([x4.1] : List (List Cell)) since whole) fun x8 =>
      ob (if (!(!decide (x8.2.Code = 0))) = true then (R_SameCells x8.1 x4.1) else some default) fun x9 =>
      if ((!decide (x8.2.Code = 0)) || (!x9)) = true then
       some false
      else
       if whole = true then
        some true
       else
        ob (law_ownLists l) fun x10 =>
        asrt (((x10 ++ older).length : Int) * 24 ≤ 140737488351232) <|
        ob (merge_Scan (x10 ++ older) a0) fun x11 =>
        asrt (((([x4.1] : List (List Cell)) ++ older).length : Int) * 24 ≤ 140737488351232) <|
        ob (merge_Scan (([x4.1] : List (List Cell)) ++ older) a0) fun x12 =>
        ob (if ((decide (x11.2.Code = 0)) && (decide (x12.2.Code = 0))) = true then (R_SameCells x11.1 x12.1) else some default) fun x13 =>
        some (((decide (x11.2.Code = 0)) && (decide (x12.2.Code = 0))) && x13)

end G
end Go.Proofs.Ytkbgkkbinnclmaa
