/- The program's functions as plain functions, and that they are these. Written by a program (dec2.py). -/
import Derived.Test.YtkbgkkbinnclmaaGf0
namespace Go.Proofs.Ytkbgkkbinnclmaa
open Go Go.Dm
set_option linter.unusedVariables false
set_option linter.unusedSimpArgs false
set_option maxRecDepth 100000
namespace G
/- tabularylaw.MergeCompacts$1 -/
noncomputable def law_MergeCompacts_1_v1_J1 (v : List Cell) : Option (List Cell) :=
 some v
noncomputable def law_MergeCompacts_1_v1_J2 (v1 : List Cell × Int) (v2 : List Cell) : Option ((List Cell × Int) ⊕ (List Cell)) :=
 some (Sum.inl (v2, w64 (v1.2 + 1)))
noncomputable def law_MergeCompacts_1_v1_J3 (box1 : Int) (box2 : Bool) (v1 : List Cell × Int) (v3 : Cell × Bool) : Option ((List Cell × Int) ⊕ (List Cell)) :=
 if ((decide (v3.1.Time ≤ box1)) && (v3.2 || (v3.1.Gone && box2))) = true then
  law_MergeCompacts_1_v1_J2 v1 v1.1
 else
  asrt (((v1.1 ++ [v3.1]).length : Int) * 64 ≤ 140737488351232) <|
  law_MergeCompacts_1_v1_J2 v1 (v1.1 ++ [v3.1])
noncomputable def law_MergeCompacts_1_v1_B2 (box : List Cell) (box1 : Int) (box2 : Bool) (v1 : List Cell × Int) (v4 : Cell × Bool × Int) : Option ((Cell × Bool × Int) ⊕ ((List Cell × Int) ⊕ (List Cell))) :=
 if (decide (v4.2.2 < v1.2)) = true then
  asrt ((!v4.2.1) = true → 0 ≤ v4.2.2 ∧ v4.2.2 < (box.length : Int)) <|
  asrt ((decide (((lget box v4.2.2).Row) = v4.1.Row)) = true → (!v4.2.1) = true → 0 ≤ v4.2.2 ∧ v4.2.2 < (box.length : Int)) <|
  asrt (((decide (((lget box v4.2.2).Row) = v4.1.Row)) && (decide (((lget box v4.2.2).Col) = v4.1.Col))) = true → (!v4.2.1) = true → 0 ≤ v4.2.2 ∧ v4.2.2 < (box.length : Int)) <|
  lt (v4.2.1 || (((decide (((lget box v4.2.2).Row) = v4.1.Row)) && (decide (((lget box v4.2.2).Col) = v4.1.Col))) && (decide (((lget box v4.2.2).Time) ≤ box1)))) fun (v5 : Bool) =>
  some (Sum.inl (v4.1, v5, w64 (v4.2.2 + 1)))
 else
  inrO (law_MergeCompacts_1_v1_J3 box1 box2 v1 (v4.1, v4.2.1))
noncomputable def law_MergeCompacts_1_v1_L2 (box : List Cell) (box1 : Int) (box2 : Bool) (v1 : List Cell × Int) (v0 : Cell × Bool × Int) : Option ((List Cell × Int) ⊕ (List Cell)) :=
 loopO (fun y => law_MergeCompacts_1_v1_B2 box box1 box2 v1 y) v0
noncomputable def law_MergeCompacts_1_v1_B1 (box : List Cell) (box1 : Int) (box2 : Bool) (v1 : List Cell × Int) : Option ((List Cell × Int) ⊕ (List Cell)) :=
 if (decide (v1.2 < (box.length : Int))) = true then
  asrt (0 ≤ v1.2 ∧ v1.2 < (box.length : Int)) <|
  law_MergeCompacts_1_v1_L2 box box1 box2 v1 ((⟨(lget box v1.2).Row, (lget box v1.2).Col, (lget box v1.2).Time, (lget box v1.2).Gone, (lget box v1.2).Value⟩ : Cell), false, 0)
 else
  inrO (law_MergeCompacts_1_v1_J1 v1.1)
noncomputable def law_MergeCompacts_1_v1_L1 (box : List Cell) (box1 : Int) (box2 : Bool) (v0 : List Cell × Int) : Option (List Cell) :=
 loopO (fun y => law_MergeCompacts_1_v1_B1 box box1 box2 y) v0
noncomputable def law_MergeCompacts_1_v1 (box : List Cell) (box1 : Int) (box2 : Bool) : Option (List Cell) :=
 law_MergeCompacts_1_v1_L1 box box1 box2 (([] : List Cell), 0)

/- tabularylaw.cellsAs -/
noncomputable def law_cellsAs (l : List Cell) (f : Fault) (w0 : Fault) (box : List Cell) (box1 : Int) (box2 : Bool) : Option Bool :=
 if (!(decide (f.Code = w0.Code) && (decide (f.At = w0.At) && true))) = true then
  some false
 else
  if (!decide (w0.Code = 0)) = true then
   some (decide ((l.length : Int) = 0))
  else
   ob (law_MergeCompacts_1_v1 box box1 box2) fun x =>
   ob (R_SameCells l x) fun x1 =>
   some x1

/- tabularylaw.MergeCompacts -/
noncomputable def law_MergeCompacts (l : List (List Cell)) (since : Int) (whole : Bool) : Option Bool :=
 ob (law_mergeBegun) fun x =>
 if (!x) = true then
  some false
 else
  ob (law_vastLists l) fun x1 =>
  if x1 = true then
   some true
  else
   ob (law_ownLists_v1 l) fun x2 =>
   ob (merge_Compact_v1 x2 since whole) fun x3 =>
   ob (law_listsFault l) fun x4 =>
   ob (
    if (decide (x4.Code = 0)) = true then
     ob (law_together l) fun x5 =>
     if (decide (1000 < (x5.length : Int))) = true then
      lt (R_F 9 (-1)) fun x6 =>
      some (x3.2, x6, x5)
     else
      some (x3.2, x4, x5)
    else
     some (x3.2, x4, ([] : List Cell))) fun (v : Fault × Fault × List Cell) =>
   ob (
    if ((decide (v.2.1.Code = 0)) && ((decide (since < 0)) || (decide (1000000000 < since)))) = true then
     lt (R_F 3 (-1)) fun x7 =>
     some (v.1, x7)
    else
     some (v.1, v.2.1)) fun (v1 : Fault × Fault) =>
   ob (law_cellsAs x3.1 v1.1 v1.2 v.2.2 since whole) fun x8 =>
   some x8

/- merge.Join -/
noncomputable def merge_Join_v1 (l : List (List Cell)) : Option (List Cell × Fault) :=
 ob (merge_lists l) fun x =>
 if (!decide (x.Code = 0)) = true then
  some (([] : List Cell), x)
 else
  ob (merge_joined l) fun x1 =>
  if (decide (1000 < (x1.length : Int))) = true then
   lt (merge_fault 9 (-1)) fun x2 =>
   some (([] : List Cell), x2)
  else
   some (x1, (⟨0, 0⟩ : Fault))

/- tabularylaw.MergeGroups -/
noncomputable def law_MergeGroups (l : List (List Cell)) (at0 : Int) : Option Bool :=
 ob (law_mergeBegun) fun x =>
 if (!x) = true then
  some false
 else
  ob (law_vastLists l) fun x1 =>
  if ((x1 || (decide (at0 < 0))) || (decide ((l.length : Int) < at0))) = true then
   some true
  else
   ob (merge_Join_v1 l) fun x2 =>
   if (!decide (x2.2.Code = 0)) = true then
    some true
   else
    asrt (0 ≤ at0 ∧ at0 ≤ (l.length : Int)) <|
    ob (merge_Join_v1 (ltake l at0)) fun x3 =>
    asrt (0 ≤ at0 ∧ at0 ≤ (l.length : Int)) <|
    ob (merge_Join_v1 (ldrop l at0)) fun x4 =>
    if ((!decide (x3.2.Code = 0)) || (!decide (x4.2.Code = 0))) = true then
     some false
    else
     ob (merge_Join_v1 ([x3.1, x4.1] : List (List Cell))) fun x5 =>
     ob (merge_Join_v1 ([x2.1, x2.1] : List (List Cell))) fun x6 =>
     ob (if ((decide (x5.2.Code = 0)) && (decide (x6.2.Code = 0))) = true then (R_SameCells x5.1 x2.1) else some default) fun x7 =>
     ob (if (((decide (x5.2.Code = 0)) && (decide (x6.2.Code = 0))) && x7) = true then (R_SameCells x6.1 x2.1) else some default) fun x8 =>
     ob (if ((((decide (x5.2.Code = 0)) && (decide (x6.2.Code = 0))) && x7) && x8) = true then (cell_Check x2.1) else some default) fun x9 =>
     lt (((((decide (x5.2.Code = 0)) && (decide (x6.2.Code = 0))) && x7) && x8) && (decide (x9.Code = 0))) fun (v : Bool) =>
     some v

/- cell.Asked -/
noncomputable def cell_Asked (a0 : Ask) : Fault :=
 if ((decide (a0.Time < 0)) || (decide (1000000000 < a0.Time))) = true then
  lt (cell_fault 3 (-1)) fun x =>
  x
 else
  if ((decide (a0.Many < 0)) || (decide (1000 < a0.Many))) = true then
   lt (cell_fault 3 (-2)) fun x1 =>
   x1
  else
   (⟨0, 0⟩ : Fault)
theorem cell_Asked_ok (a0 : Ask) (r : Fault) (hF : cell_Asked a0 = r) : Pe Try.prog 50 S.none [.agg (c_Ask a0)] (.agg (c_Fault r)) S.none := by
 refine PeN 22 [.cell 2 28] [28] Ty.ok Fn.b50 Try.func50 ?_
 intro Q g hfin
 unfold cell_Asked at hF
 refine VR [] [1, 2] [1, 2] [] [] [(1, .ptr 1 0), (2, .ptr 2 0)] [(1, (c_Ask a0)), (2, [.i 0, .i 0])] [] [] .nil ?_
 refine NR [] [1, 2, 10] [1, 2] [] [(10, .bool ((decide (a0.Time < 0)) || (decide (1000000000 < a0.Time))))] .nil ?_
 refine Nif hF (fun hb hF => ?_) (fun hb hF => ?_)
 ·obtain ⟨x, h0, hF⟩ := lt_split hF
  refine VR [.callB (.agg (c_Fault x))] [2] [2] [] [] [] [(2, (c_Fault x))] [] [] (hc (cell_fault_ok 3 (-1) x h0) .nil) ?_
  cases hF
  exact Wk_ret (hfin _ ⟨[], [], [], [], [], [], by kernel_rfl⟩)
 ·refine NR [] [2, 19] [2] [] [(19, .bool ((decide (a0.Many < 0)) || (decide (1000 < a0.Many))))] .nil ?_
  refine Nif hF (fun hb hF => ?_) (fun hb hF => ?_)
  ·obtain ⟨x1, h1, hF⟩ := lt_split hF
   refine VR [.callB (.agg (c_Fault x1))] [2] [2] [] [] [] [(2, (c_Fault x1))] [] [] (hc (cell_fault_ok 3 (-2) x1 h1) .nil) ?_
   cases hF
   exact Wk_ret (hfin _ ⟨[], [], [], [], [], [], by kernel_rfl⟩)
  ·refine NR [] [2] [2] [] [] .nil ?_
   cases hF
   exact Wk_ret (hfin _ ⟨[], [], [], [], [], [], by kernel_rfl⟩)

/- cell.Seen -/
noncomputable def cell_Seen_J1 (v : List Cell) : Option (List Cell) :=
 some v
noncomputable def cell_Seen_J2 (v1 : Ask × List Cell × List UInt8 × List UInt8 × Bool × Int) (v2 : Ask × List Cell × List UInt8 × List UInt8 × Bool) : Option ((Ask × List Cell × List UInt8 × List UInt8 × Bool × Int) ⊕ (List Cell)) :=
 some (Sum.inl (v2.1, v2.2.1, v2.2.2.1, v2.2.2.2.1, v2.2.2.2.2, w64 (v1.2.2.2.2.2 + 1)))
noncomputable def cell_Seen_B1 (l : List Cell) (v1 : Ask × List Cell × List UInt8 × List UInt8 × Bool × Int) : Option ((Ask × List Cell × List UInt8 × List UInt8 × Bool × Int) ⊕ (List Cell)) :=
 if (decide (v1.2.2.2.2.2 < (l.length : Int))) = true then
  asrt (0 ≤ v1.2.2.2.2.2 ∧ v1.2.2.2.2.2 < (l.length : Int)) <|
  if (((Op.bytesLess ((lget l v1.2.2.2.2.2).Row) v1.1.From) || ((!decide (v1.1.To = ([] : List UInt8))) && (!Op.bytesLess ((lget l v1.2.2.2.2.2).Row) v1.1.To))) || (decide (v1.1.Time < ((lget l v1.2.2.2.2.2).Time)))) = true then
   cell_Seen_J2 v1 (v1.1, v1.2.1, v1.2.2.1, v1.2.2.2.1, v1.2.2.2.2.1)
  else
   if ((v1.2.2.2.2.1 && (decide (((lget l v1.2.2.2.2.2).Row) = v1.2.2.1))) && (decide (((lget l v1.2.2.2.2.2).Col) = v1.2.2.2.1))) = true then
    cell_Seen_J2 v1 (v1.1, v1.2.1, v1.2.2.1, v1.2.2.2.1, v1.2.2.2.2.1)
   else
    if ((lget l v1.2.2.2.2.2).Gone) = true then
     cell_Seen_J2 v1 (v1.1, v1.2.1, (lget l v1.2.2.2.2.2).Row, (lget l v1.2.2.2.2.2).Col, true)
    else
     if (decide ((v1.2.1.length : Int) = v1.1.Many)) = true then
      inrO (cell_Seen_J1 v1.2.1)
     else
      asrt (((v1.2.1 ++ [(⟨(lget l v1.2.2.2.2.2).Row, (lget l v1.2.2.2.2.2).Col, (lget l v1.2.2.2.2.2).Time, (lget l v1.2.2.2.2.2).Gone, (lget l v1.2.2.2.2.2).Value⟩ : Cell)]).length : Int) * 64 ≤ 140737488351232) <|
      lt ((v1.2.1 ++ [(⟨(lget l v1.2.2.2.2.2).Row, (lget l v1.2.2.2.2.2).Col, (lget l v1.2.2.2.2.2).Time, (lget l v1.2.2.2.2.2).Gone, (lget l v1.2.2.2.2.2).Value⟩ : Cell)])) fun (v3 : List Cell) =>
      cell_Seen_J2 v1 (v1.1, v3, (lget l v1.2.2.2.2.2).Row, (lget l v1.2.2.2.2.2).Col, true)
 else
  inrO (cell_Seen_J1 v1.2.1)
noncomputable def cell_Seen_L1 (l : List Cell) (v0 : Ask × List Cell × List UInt8 × List UInt8 × Bool × Int) : Option (List Cell) :=
 loopO (fun y => cell_Seen_B1 l y) v0
noncomputable def cell_Seen (l : List Cell) (a0 : Ask) : Option (List Cell) :=
 cell_Seen_L1 l (a0, ([] : List Cell), ([] : List UInt8), ([] : List UInt8), false, 0)
theorem cell_Seen_ok (l : List Cell) (a0 : Ask) (r : List Cell) (hF : cell_Seen l a0 = some r) : Pe Try.prog 51 S.none [.sl 5 (l.map e_Cell), .agg (c_Ask a0)] (.row 68 0) ⟨[], [], [(68, .z 37 5 0 (r.map e_Cell))], [], []⟩ := by
 refine PeN 71 [.tmp 4] [22] Ty.ok Fn.b51 Try.func51 ?_
 intro Q g hfin
 unfold cell_Seen at hF
 refine VR [] [0, 3] [3] [] [] [(3, .ptr 3 0)] [(3, (c_Ask a0))] [] [] .nil ?_
 refine NR [] [0, 3, 5] [3] [] [(5, .nils)] .nil ?_
 refine NR [] [0, 3, 5, 6, 7, 8] [3] [] [(6, .str ([] : List UInt8)), (7, .str ([] : List UInt8)), (8, .bool false)] .nil ?_
 refine NR [.nat (l.length : Int)] [3, 5, 6, 7, 8, 11, 12, 13] [3] [] [(11, .sl 5 (l.map e_Cell)), (12, .i (l.length : Int)), (13, .i 0)] (hc (len_ok e_Cell l) .nil) ?_
 refine NmeetP (fun v : List Cell => (⟨[(5, .row 68 0)], [], [(68, .z 37 5 0 (v.map e_Cell))], [], []⟩ : S)) (fun v => cell_Seen_J1 v = some r) ?_ ?_
 ·refine Nblk ?_
  unfold cell_Seen_L1 at hF
  refine Wk_nilrow 5 60000 37 5 rfl rfl rfl ?_
  refine Wk_trim (fs := [3, 5, 6, 7, 8, 11, 12, 13]) (bs := [3]) (rs := [60000]) (ms := []) (aa := []) (nv := []) rfl ?_
  refine Wk_ren' ⟨[], [(60000, 68)], [], []⟩ rfl ?_
  refine Niter (fun v1 : Ask × List Cell × List UInt8 × List UInt8 × Bool × Int => (⟨[(3, .ptr 3 0), (5, .row 68 0), (6, .str v1.2.2.1), (7, .str v1.2.2.2.1), (8, .bool v1.2.2.2.2.1), (11, .sl 5 (l.map e_Cell)), (12, .i (l.length : Int)), (13, .i v1.2.2.2.2.2)], [(3, (c_Ask v1.1))], [(68, .z 37 5 0 (v1.2.1.map e_Cell))], [], []⟩ : S)) [] hF (by kernel_rfl) ?_
  intro n1 v1 y1 hF ih1 dn1
  unfold cell_Seen_B1 at hF
  refine NR [] [3, 5, 6, 7, 8, 11, 12, 13, 14] [3] [68] [(14, .bool (decide (v1.2.2.2.2.2 < (l.length : Int))))] .nil ?_
  refine Nif hF (fun hb hF => ?_) (fun hb hF => ?_)
  ·refine NmeetP (fun v2 : Ask × List Cell × List UInt8 × List UInt8 × Bool => (⟨[(3, .ptr 3 0), (5, .row 68 0), (6, .str v2.2.2.1), (7, .str v2.2.2.2.1), (8, .bool v2.2.2.2.2), (11, .sl 5 (l.map e_Cell)), (12, .i (l.length : Int)), (13, .i v1.2.2.2.2.2)], [(3, (c_Ask v2.1))], [(68, .z 37 5 0 (v2.2.1.map e_Cell))], [], []⟩ : S)) (fun v2 => cell_Seen_J2 v1 v2 = some y1) ?_ ?_
   ·refine Nblk ?_
    obtain ⟨h0, hF⟩ := asrt_elim hF
    refine VR [.av (e_Cell (lget l v1.2.2.2.2.2))] [3, 5, 6, 7, 8, 10, 11, 12, 13] [3, 10] [68] [] [(10, .ptr 10 0)] [(10, (c_Cell (lget l v1.2.2.2.2.2)))] [] [] (hc (idx_ok e_Cell h0) .nil) ?_
    refine NR [] [3, 5, 6, 7, 8, 10, 11, 12, 13, 40] [3, 10] [68] [(40, .bool (((Op.bytesLess ((lget l v1.2.2.2.2.2).Row) v1.1.From) || ((!decide (v1.1.To = ([] : List UInt8))) && (!Op.bytesLess ((lget l v1.2.2.2.2.2).Row) v1.1.To))) || (decide (v1.1.Time < ((lget l v1.2.2.2.2.2).Time)))))] .nil ?_
    refine Nif hF (fun hb hF => ?_) (fun hb hF => ?_)
    ·refine Nexit rfl ?_
     exact metP (v1.1, v1.2.1, v1.2.2.1, v1.2.2.2.1, v1.2.2.2.2.1) [] hF (by kernel_rfl)
    ·refine NR [] [3, 5, 6, 7, 8, 10, 11, 12, 13, 53] [3, 10] [68] [(53, .bool ((v1.2.2.2.2.1 && (decide (((lget l v1.2.2.2.2.2).Row) = v1.2.2.1))) && (decide (((lget l v1.2.2.2.2.2).Col) = v1.2.2.2.1))))] .nil ?_
     refine Nif hF (fun hb hF => ?_) (fun hb hF => ?_)
     ·refine Nexit rfl ?_
      exact metP (v1.1, v1.2.1, v1.2.2.1, v1.2.2.2.1, v1.2.2.2.2.1) [] hF (by kernel_rfl)
     ·refine ND [] [3, 5, 6, 7, 8, 10, 11, 12, 13] [3, 10] [68] [(6, .str ((lget l v1.2.2.2.2.2).Row)), (7, .str ((lget l v1.2.2.2.2.2).Col)), (8, .bool true)] .nil ?_
      refine NR [] [3, 5, 6, 7, 8, 10, 11, 12, 13, 59] [3, 10] [68] [(59, .bool ((lget l v1.2.2.2.2.2).Gone))] .nil ?_
      refine Nif hF (fun hb hF => ?_) (fun hb hF => ?_)
      ·refine Nexit rfl ?_
       exact metP (v1.1, v1.2.1, (lget l v1.2.2.2.2.2).Row, (lget l v1.2.2.2.2.2).Col, true) [] hF (by kernel_rfl)
      ·refine NR [.nat (v1.2.1.length : Int)] [3, 5, 6, 7, 8, 10, 11, 12, 13, 64] [3, 10] [68] [(64, .bool (decide ((v1.2.1.length : Int) = v1.1.Many)))] (hc (len_ok e_Cell v1.2.1) .nil) ?_
       refine Nif hF (fun hb hF => ?_) (fun hb hF => ?_)
       ·refine Nexit rfl ?_
        have hF := inrO_done hF dn1
        exact metP v1.2.1 [] hF (by kernel_rfl)
       ·obtain ⟨h1, hF⟩ := asrt_elim hF
        refine NRL ((v1.2.1 ++ [(⟨(lget l v1.2.2.2.2.2).Row, (lget l v1.2.2.2.2.2).Col, (lget l v1.2.2.2.2.2).Time, (lget l v1.2.2.2.2.2).Gone, (lget l v1.2.2.2.2.2).Value⟩ : Cell)])) (fun v3 : List Cell => ([(5, .row 68 1)], [], [(68, .z 37 5 1 (v3.map e_Cell))], [])) [.sealed, .xs ((v1.2.1 ++ [(⟨(lget l v1.2.2.2.2.2).Row, (lget l v1.2.2.2.2.2).Col, (lget l v1.2.2.2.2.2).Time, (lget l v1.2.2.2.2.2).Gone, (lget l v1.2.2.2.2.2).Value⟩ : Cell)]).map e_Cell)] [3, 5, 6, 7, 8, 11, 12, 13] [3] [68] [] (hc (app_ok e_Cell v1.2.1 [(⟨(lget l v1.2.2.2.2.2).Row, (lget l v1.2.2.2.2.2).Col, (lget l v1.2.2.2.2.2).Time, (lget l v1.2.2.2.2.2).Gone, (lget l v1.2.2.2.2.2).Value⟩ : Cell)]) (hc (appl_ok e_Cell h1) .nil)) (fun v3 hv => ?_)
        have hF := lt_elim hF hv
        exact metP (v1.1, v3, (lget l v1.2.2.2.2.2).Row, (lget l v1.2.2.2.2.2).Col, true) [(68, ⟨0, true, true, false⟩)] hF (by kernel_rfl)
   ·intro v2 hF
    have hF : cell_Seen_J2 v1 v2 = some y1 := hF
    unfold cell_Seen_J2 at hF
    refine NR [] [3, 5, 6, 7, 8, 11, 12, 13] [3] [68] [(13, .i (w64 (v1.2.2.2.2.2 + 1)))] .nil ?_
    exact Nrnd [] hF ih1 (by kernel_rfl)
  ·refine Nexit rfl ?_
   have hF := inrO_done hF dn1
   exact metP v1.2.1 [] hF (by kernel_rfl)
 ·intro v hF
  have hF : cell_Seen_J1 v = some r := hF
  unfold cell_Seen_J1 at hF
  refine NR [] [4] [] [68] [(4, .row 68 0)] .nil ?_
  cases hF
  exact Wk_ret (hfin _ ⟨[68], [], [68], [], [], [], by kernel_rfl⟩)

/- merge.Scan -/
noncomputable def merge_Scan (l : List (List Cell)) (a0 : Ask) : Option (List Cell × Fault) :=
 ob (merge_lists l) fun x =>
 if (!decide (x.Code = 0)) = true then
  some (([] : List Cell), x)
 else
  lt (cell_Asked a0) fun x1 =>
  if (!decide (x1.Code = 0)) = true then
   some (([] : List Cell), x1)
  else
   ob (merge_joined l) fun x2 =>
   ob (cell_Seen x2 a0) fun x3 =>
   some (x3, (⟨0, 0⟩ : Fault))
theorem merge_Scan_ok (l : List (List Cell)) (a0 : Ask) (r : List Cell × Fault) (hF : merge_Scan l a0 = some r) : Pe Try.prog 40 S.none [.sl 1 (l.map e_L_Cell), .agg (c_Ask a0)] (.tup [.row 23 0, .agg (c_Fault r.2)]) ⟨[], [], [(23, .z 37 5 0 (r.1.map e_Cell))], [], []⟩ := by
 refine PeN 25 [.tmp 4, .cell 5 28] [22, 28] Ty.ok Fn.b40 Try.func40 ?_
 intro Q g hfin
 unfold merge_Scan at hF
 refine VR [] [0, 3, 5] [3, 5] [] [] [(3, .ptr 3 0), (5, .ptr 5 0)] [(3, (c_Ask a0)), (5, [.i 0, .i 0])] [] [] .nil ?_
 obtain ⟨x, h0, hF⟩ := ob_elim hF
 refine VR [.callB (.agg (c_Fault x))] [0, 3, 5, 6] [3, 5, 6] [] [] [(6, .ptr 6 0)] [(6, (c_Fault x))] [] [] (hc (merge_lists_ok l x h0) .nil) ?_
 refine NR [] [0, 3, 5, 6, 12] [3, 5, 6] [] [(12, .bool (!decide (x.Code = 0)))] .nil ?_
 refine Nif hF (fun hb hF => ?_) (fun hb hF => ?_)
 ·refine VD [] [4, 5] [5] [] [] [(4, .nils)] [(5, (c_Fault x))] [] [] .nil ?_
  cases hF
  refine Wk_nilrow 4 60000 37 5 rfl rfl rfl ?_
  refine Wk_ren' ⟨[], [(60000, 23)], [], []⟩ rfl ?_
  exact Wk_ret (hfin _ ⟨[23], [], [23], [], [], [], by kernel_rfl⟩)
 ·obtain ⟨x1, h1, hF⟩ := lt_split hF
  refine VR [.callB (.agg (c_Fault x1))] [0, 3, 5, 7] [3, 5, 7] [] [] [(7, .ptr 7 0)] [(7, (c_Fault x1))] [] [] (hc (cell_Asked_ok a0 x1 h1) .nil) ?_
  refine NR [] [0, 3, 5, 7, 18] [3, 5, 7] [] [(18, .bool (!decide (x1.Code = 0)))] .nil ?_
  refine Nif hF (fun hb hF => ?_) (fun hb hF => ?_)
  ·refine VD [] [4, 5] [5] [] [] [(4, .nils)] [(5, (c_Fault x1))] [] [] .nil ?_
   cases hF
   refine Wk_nilrow 4 60001 37 5 rfl rfl rfl ?_
   refine Wk_ren' ⟨[], [(60001, 23)], [], []⟩ rfl ?_
   exact Wk_ret (hfin _ ⟨[23], [], [23], [], [], [], by kernel_rfl⟩)
  ·obtain ⟨x2, h2, hF⟩ := ob_elim hF
   obtain ⟨x3, h3, hF⟩ := ob_elim hF
   refine VD [.callE [] [] [] [] (.row 21 0) ⟨[], [], [(21, .z 37 5 0 (x2.map e_Cell))], [], []⟩, .callE [] [] [] [] (.row 23 0) ⟨[], [], [(23, .z 37 5 0 (x3.map e_Cell))], [], []⟩] [4, 5] [5] [23] [] [(4, .row 23 0)] [] [(23, .z 37 5 0 (x3.map e_Cell))] [] (hc (Pe.ren (merge_joined_ok l x2 h2) ⟨[], [(6, 21)], [], []⟩) (hc (Pe.ren (cell_Seen_ok x2 a0 x3 h3) ⟨[], [(68, 23)], [], []⟩) .nil)) ?_
   cases hF
   exact Wk_ret (hfin _ ⟨[23], [], [23], [], [], [], by kernel_rfl⟩)

/- merge.Scan -/
noncomputable def merge_Scan_v1 (l : List (List Cell)) (a0 : Ask) : Option (List Cell × Fault) :=
 ob (merge_lists l) fun x =>
 if (!decide (x.Code = 0)) = true then
  some (([] : List Cell), x)
 else
  lt (cell_Asked a0) fun x1 =>
  if (!decide (x1.Code = 0)) = true then
   some (([] : List Cell), x1)
  else
   ob (merge_joined l) fun x2 =>
   ob (cell_Seen x2 a0) fun x3 =>
   some (x3, (⟨0, 0⟩ : Fault))

/- tabularylaw.MergeJoins$1 -/
noncomputable def law_MergeJoins_1 (box : List Cell) : List Cell :=
 box

/- tabularylaw.cellsAs -/
noncomputable def law_cellsAs_v1 (l : List Cell) (f : Fault) (w0 : Fault) (box : List Cell) : Option Bool :=
 if (!(decide (f.Code = w0.Code) && (decide (f.At = w0.At) && true))) = true then
  some false
 else
  if (!decide (w0.Code = 0)) = true then
   some (decide ((l.length : Int) = 0))
  else
   lt (law_MergeJoins_1 box) fun x =>
   ob (R_SameCells l x) fun x1 =>
   some x1

/- tabularyref.AskFault -/
noncomputable def R_AskFault (a0 : Ask) : Fault :=
 if ((decide (a0.Time < 0)) || (decide (1000000000 < a0.Time))) = true then
  lt (R_F 3 (-1)) fun x =>
  x
 else
  if ((decide (a0.Many < 0)) || (decide (1000 < a0.Many))) = true then
   lt (R_F 3 (-2)) fun x1 =>
   x1
  else
   (⟨0, 0⟩ : Fault)

/- tabularyref.SeenCell -/
noncomputable def R_SeenCell_J1 (l : List Cell) (v : Cell × Int) : Option (Cell × Bool) :=
 asrt ((!(decide (v.2 < 0))) = true → 0 ≤ v.2 ∧ v.2 < (l.length : Int)) <|
 if ((decide (v.2 < 0)) || ((lget l v.2).Gone)) = true then
  some ((⟨([] : List UInt8), ([] : List UInt8), 0, false, ([] : List UInt8)⟩ : Cell), false)
 else
  asrt (0 ≤ v.2 ∧ v.2 < (l.length : Int)) <|
  some ((⟨(lget l v.2).Row, (lget l v.2).Col, (lget l v.2).Time, (lget l v.2).Gone, (lget l v.2).Value⟩ : Cell), true)
noncomputable def R_SeenCell_B1 (l : List Cell) (row : List UInt8) (col : List UInt8) (time : Int) (v1 : Cell × Int × Int) : Option ((Cell × Int × Int) ⊕ (Cell × Bool)) :=
 if (decide (v1.2.2 < (l.length : Int))) = true then
  asrt (0 ≤ v1.2.2 ∧ v1.2.2 < (l.length : Int)) <|
  asrt ((decide (((lget l v1.2.2).Row) = row)) = true → 0 ≤ v1.2.2 ∧ v1.2.2 < (l.length : Int)) <|
  asrt (((decide (((lget l v1.2.2).Row) = row)) && (decide (((lget l v1.2.2).Col) = col))) = true → 0 ≤ v1.2.2 ∧ v1.2.2 < (l.length : Int)) <|
  asrt ((!(decide (v1.2.1 < 0))) = true → (((decide (((lget l v1.2.2).Row) = row)) && (decide (((lget l v1.2.2).Col) = col))) && (decide (((lget l v1.2.2).Time) ≤ time))) = true → 0 ≤ v1.2.2 ∧ v1.2.2 < (l.length : Int)) <|
  asrt ((!(decide (v1.2.1 < 0))) = true → (((decide (((lget l v1.2.2).Row) = row)) && (decide (((lget l v1.2.2).Col) = col))) && (decide (((lget l v1.2.2).Time) ≤ time))) = true → 0 ≤ v1.2.1 ∧ v1.2.1 < (l.length : Int)) <|
  ob (
   if ((((decide (((lget l v1.2.2).Row) = row)) && (decide (((lget l v1.2.2).Col) = col))) && (decide (((lget l v1.2.2).Time) ≤ time))) && ((decide (v1.2.1 < 0)) || (decide (((lget l v1.2.1).Time) < ((lget l v1.2.2).Time))))) = true then
    some (v1.1, v1.2.2)
   else
    some (v1.1, v1.2.1)) fun (v2 : Cell × Int) =>
  some (Sum.inl (v2.1, v2.2, w64 (v1.2.2 + 1)))
 else
  inrO (R_SeenCell_J1 l (v1.1, v1.2.1))
noncomputable def R_SeenCell_L1 (l : List Cell) (row : List UInt8) (col : List UInt8) (time : Int) (v0 : Cell × Int × Int) : Option (Cell × Bool) :=
 loopO (fun y => R_SeenCell_B1 l row col time y) v0
noncomputable def R_SeenCell (l : List Cell) (row : List UInt8) (col : List UInt8) (time : Int) : Option (Cell × Bool) :=
 R_SeenCell_L1 l row col time ((⟨([] : List UInt8), ([] : List UInt8), 0, false, ([] : List UInt8)⟩ : Cell), (-1), 0)

/- tabularyref.Scanned -/
noncomputable def R_Scanned_v1_J1 (v : List Cell) : Option (List Cell) :=
 some v
noncomputable def R_Scanned_v1_B1 (l : List Cell) (v1 : Ask × List Cell × Int) : Option ((Ask × List Cell × Int) ⊕ (List Cell)) :=
 if ((decide (v1.2.2 < (l.length : Int))) && (decide ((v1.2.1.length : Int) < v1.1.Many))) = true then
  ob (
   asrt (0 ≤ v1.2.2 ∧ v1.2.2 < (l.length : Int)) <|
   if ((Op.bytesLess ((lget l v1.2.2).Row) v1.1.From) || ((!decide (v1.1.To = ([] : List UInt8))) && (!Op.bytesLess ((lget l v1.2.2).Row) v1.1.To))) = true then
    some (v1.1, v1.2.1)
   else
    ob (R_SeenCell l ((lget l v1.2.2).Row) ((lget l v1.2.2).Col) v1.1.Time) fun x =>
    if (x.2 && (decide (x.1.Row = (lget l v1.2.2).Row) && (decide (x.1.Col = (lget l v1.2.2).Col) && (decide (x.1.Time = (lget l v1.2.2).Time) && ((x.1.Gone == ((lget l v1.2.2).Gone)) && (decide (x.1.Value = (lget l v1.2.2).Value) && true)))))) = true then
     asrt (((v1.2.1 ++ [(⟨(lget l v1.2.2).Row, (lget l v1.2.2).Col, (lget l v1.2.2).Time, (lget l v1.2.2).Gone, (lget l v1.2.2).Value⟩ : Cell)]).length : Int) * 64 ≤ 140737488351232) <|
     lt ((v1.2.1 ++ [(⟨(lget l v1.2.2).Row, (lget l v1.2.2).Col, (lget l v1.2.2).Time, (lget l v1.2.2).Gone, (lget l v1.2.2).Value⟩ : Cell)])) fun (v3 : List Cell) =>
     some (v1.1, v3)
    else
     some (v1.1, v1.2.1)) fun (v2 : Ask × List Cell) =>
  some (Sum.inl (v2.1, v2.2, w64 (v1.2.2 + 1)))
 else
  inrO (R_Scanned_v1_J1 v1.2.1)
noncomputable def R_Scanned_v1_L1 (l : List Cell) (v0 : Ask × List Cell × Int) : Option (List Cell) :=
 loopO (fun y => R_Scanned_v1_B1 l y) v0
noncomputable def R_Scanned_v1 (l : List Cell) (a0 : Ask) : Option (List Cell) :=
 R_Scanned_v1_L1 l (a0, ([] : List Cell), 0)

/- tabularylaw.MergeJoins$2 -/
noncomputable def law_MergeJoins_2 (box : List Cell) (box1 : Ask) : Option (List Cell) :=
 ob (R_Scanned_v1 box box1) fun x =>
 some x

/- tabularylaw.cellsAs -/
noncomputable def law_cellsAs_v2 (l : List Cell) (f : Fault) (w0 : Fault) (box : List Cell) (box1 : Ask) : Option Bool :=
 if (!(decide (f.Code = w0.Code) && (decide (f.At = w0.At) && true))) = true then
  some false
 else
  if (!decide (w0.Code = 0)) = true then
   some (decide ((l.length : Int) = 0))
  else
   ob (law_MergeJoins_2 box box1) fun x =>
   ob (R_SameCells l x) fun x1 =>
   some x1

/- tabularylaw.MergeJoins -/
noncomputable def law_MergeJoins (l : List (List Cell)) (a0 : Ask) : Option Bool :=
 ob (law_mergeBegun) fun x =>
 if (!x) = true then
  some false
 else
  ob (law_vastLists l) fun x1 =>
  if x1 = true then
   some true
  else
   ob (law_ownLists_v1 l) fun x2 =>
   ob (merge_Join_v1 x2) fun x3 =>
   ob (law_ownLists_v1 l) fun x4 =>
   ob (merge_Scan_v1 x4 a0) fun x5 =>
   ob (law_listsFault l) fun x6 =>
   ob (
    if (decide (x6.Code = 0)) = true then
     ob (law_together l) fun x7 =>
     if (decide (1000 < (x7.length : Int))) = true then
      lt (R_F 9 (-1)) fun x8 =>
      some (a0, x3.2, x5.2, x6, x7, x8)
     else
      some (a0, x3.2, x5.2, x6, x7, x6)
    else
     some (a0, x3.2, x5.2, x6, ([] : List Cell), x6)) fun (v : Ask × Fault × Fault × Fault × List Cell × Fault) =>
   ob (law_cellsAs_v1 x3.1 v.2.1 v.2.2.2.2.2 v.2.2.2.2.1) fun x9 =>
   if (!x9) = true then
    some false
   else
    ob (
     if (decide (v.2.2.2.1.Code = 0)) = true then
      lt (R_AskFault v.1) fun x10 =>
      some (v.1, v.2.2.1, x10)
     else
      some (v.1, v.2.2.1, v.2.2.2.1)) fun (v1 : Ask × Fault × Fault) =>
    if ((decide (v1.2.2.Code = 0)) && (decide (300 < (v.2.2.2.2.1.length : Int)))) = true then
     some (decide (v1.2.1.Code = 0))
    else
     ob (law_cellsAs_v2 x5.1 v1.2.1 v1.2.2 v.2.2.2.2.1 v1.1) fun x11 =>
     some x11

/- tabularylaw.MergeSame -/
noncomputable def law_MergeSame (l : List (List Cell)) (older : List (List Cell)) (since : Int) (whole : Bool) (a0 : Ask) : Option Bool :=
 ob (law_mergeBegun) fun x =>
 if (!x) = true then
  some false
 else
  ob (law_vastLists l) fun x1 =>
  ob (if (!x1) = true then (law_vastLists older) else some default) fun x2 =>
  ob (if (!(((x1 || x2) || (decide (19 < (w64 ((l.length : Int) + (older.length : Int)))))) || (decide (a0.Time < since)))) = true then (law_listsFault older) else some default) fun x3 =>
  if ((((x1 || x2) || (decide (19 < (w64 ((l.length : Int) + (older.length : Int)))))) || (decide (a0.Time < since))) || (!decide (x3.Code = 0))) = true then
   some true
  else
   ob (merge_Compact l since whole) fun x4 =>
   if (!decide (x4.2.Code = 0)) = true then
    some true
   else
    ob (merge_Scan l a0) fun x5 =>
    ob (merge_Scan ([x4.1] : List (List Cell)) a0) fun x6 =>
    if (!decide (x5.2.Code = 0)) = true then
     lt ((decide (x5.2.Code = x6.2.Code) && (decide (x5.2.At = x6.2.At) && true))) fun (v : Bool) =>
     some v
    else
     ob (if (!(!decide (x6.2.Code = 0))) = true then (R_SameCells x5.1 x6.1) else some default) fun x7 =>
     if ((!decide (x6.2.Code = 0)) || (!x7)) = true then
      some false
     else
      ob (merge_Compact ([x4.1] : List (List Cell)) since whole) fun x8 =>
      ob (if (!(!decide (x8.2.Code = 0))) = true then (R_SameCells x8.1 x4.1) else some default) fun x9 =>
      if ((!decide (x8.2.Code = 0)) || (!x9)) = true then
       some false
      else
       if whole = true then
        some true
       else
        ob (law_ownLists l) fun x10 =>
        asrt (((x10 ++ older).length : Int) * 24 ≤ 140737488351232) <|
        ob (merge_Scan (x10 ++ older) a0) fun x11 =>
        asrt (((([x4.1] : List (List Cell)) ++ older).length : Int) * 24 ≤ 140737488351232) <|
        ob (merge_Scan (([x4.1] : List (List Cell)) ++ older) a0) fun x12 =>
        ob (if ((decide (x11.2.Code = 0)) && (decide (x12.2.Code = 0))) = true then (R_SameCells x11.1 x12.1) else some default) fun x13 =>
        some (((decide (x11.2.Code = 0)) && (decide (x12.2.Code = 0))) && x13)
theorem law_MergeSame_ok (l : List (List Cell)) (older : List (List Cell)) (since : Int) (whole : Bool) (a0 : Ask) (r : Bool) (hF : law_MergeSame l older since whole a0 = some r) : Pe Try.prog 9 S.none [.sl 1 (l.map e_L_Cell), .sl 1 (older.map e_L_Cell), .i since, .bool whole, .agg (c_Ask a0)] (.bool r) S.none := by
 refine PeN 133 [.tmp 10] [4] Ty.ok Fn.b9 Try.func9 ?_
 intro Q g hfin
 unfold law_MergeSame at hF
 refine VR [] [0, 1, 2, 3, 9] [9] [] [] [(9, .ptr 9 0)] [(9, (c_Ask a0))] [] [] .nil ?_
 obtain ⟨x, h0, hF⟩ := ob_elim hF
 refine NR [.callB (.bool x)] [0, 1, 2, 3, 9, 19] [9] [] [(19, .bool (!x))] (hc (law_mergeBegun_ok  x h0) .nil) ?_
 refine Nif hF (fun hb hF => ?_) (fun hb hF => ?_)
 ·refine NR [] [10] [] [] [(10, .bool false)] .nil ?_
  cases hF
  exact Wk_ret (hfin _ ⟨[], [], [], [], [], [], by kernel_rfl⟩)
 ·obtain ⟨x1, h1, hF⟩ := ob_elim hF
  obtain ⟨x2, h2, hF⟩ := ob_elim hF
  obtain ⟨x3, h3, hF⟩ := ob_elim hF
  refine NR [.callB (.bool x1), .callB (.bool x2), .nat (l.length : Int), .nat (older.length : Int), .callB (.agg (c_Fault x3))] [0, 1, 2, 3, 9, 45] [9] [] [(45, .bool ((((x1 || x2) || (decide (19 < (w64 ((l.length : Int) + (older.length : Int)))))) || (decide (a0.Time < since))) || (!decide (x3.Code = 0))))] (hc (law_vastLists_ok l x1 h1) (hc (fun (ga0 : (!x1) = true) => (law_vastLists_ok older x2 (ite_t h2 ga0))) (hc (fun (_ : (!(x1 || x2)) = true) => (len_ok e_L_Cell l)) (hc (fun (_ : (!(x1 || x2)) = true) => (len_ok e_L_Cell older)) (hc (fun (ga0 : (!(((x1 || x2) || (decide (19 < (w64 ((l.length : Int) + (older.length : Int)))))) || (decide (a0.Time < since)))) = true) => (law_listsFault_ok older x3 (ite_t h3 ga0))) .nil))))) ?_
  refine Nif hF (fun hb hF => ?_) (fun hb hF => ?_)
  ·refine NR [] [10] [] [] [(10, .bool true)] .nil ?_
   cases hF
   exact Wk_ret (hfin _ ⟨[], [], [], [], [], [], by kernel_rfl⟩)
  ·obtain ⟨x4, h4, hF⟩ := ob_elim hF
   refine VR [.callE [] [] [] [] (.tup [.row 50 0, .agg (c_Fault x4.2)]) ⟨[], [], [(50, .z 37 5 0 (x4.1.map e_Cell))], [], []⟩] [0, 1, 2, 3, 9, 11, 12] [9, 12] [50] [] [(11, .row 50 0), (12, .ptr 12 0)] [(12, (c_Fault x4.2))] [(50, .z 37 5 0 (x4.1.map e_Cell))] [] (hc (Pe.ren (merge_Compact_ok l since whole x4 h4) ⟨[], [(87, 50)], [], []⟩) .nil) ?_
   refine NR [] [0, 1, 2, 3, 9, 11, 12, 55] [9, 12] [50] [(55, .bool (!decide (x4.2.Code = 0)))] .nil ?_
   refine Nif hF (fun hb hF => ?_) (fun hb hF => ?_)
   ·refine NR [] [10] [] [] [(10, .bool true)] .nil ?_
    cases hF
    exact Wk_ret (hfin _ ⟨[], [], [], [], [], [], by kernel_rfl⟩)
   ·obtain ⟨x5, h5, hF⟩ := ob_elim hF
    refine VR [.callE [] [] [] [] (.tup [.row 59 0, .agg (c_Fault x5.2)]) ⟨[], [], [(59, .z 37 5 0 (x5.1.map e_Cell))], [], []⟩] [0, 1, 2, 3, 9, 11, 12, 13, 14] [9, 12, 14] [50, 59] [] [(13, .row 59 0), (14, .ptr 14 0)] [(14, (c_Fault x5.2))] [(59, .z 37 5 0 (x5.1.map e_Cell))] [] (hc (Pe.ren (merge_Scan_ok l a0 x5 h5) ⟨[], [(23, 59)], [], []⟩) .nil) ?_
    obtain ⟨x6, h6, hF⟩ := ob_elim hF
    refine VR [.callE [] [] [] [] (.tup [.row 66 0, .agg (c_Fault x6.2)]) ⟨[], [], [(66, .z 37 5 0 (x6.1.map e_Cell))], [], []⟩] [0, 1, 2, 3, 9, 11, 12, 13, 14, 15, 16] [9, 12, 14, 16] [50, 59, 66] [] [(15, .row 66 0), (16, .ptr 16 0)] [(16, (c_Fault x6.2))] [(50, ⟨37, 5, 0, (x4.1.map e_Cell).length, 0, true, 0, [], (x4.1.map e_Cell)⟩), (66, .z 37 5 0 (x6.1.map e_Cell))] [] (hc (Pe.ren (merge_Scan_ok ([x4.1] : List (List Cell)) a0 x6 h6) ⟨[], [(23, 66)], [], []⟩) .nil) ?_
    refine NR [] [0, 1, 2, 3, 9, 11, 12, 13, 14, 15, 16, 71] [9, 12, 14, 16] [50, 59, 66] [(71, .bool (!decide (x5.2.Code = 0)))] .nil ?_
    refine Nif hF (fun hb hF => ?_) (fun hb hF => ?_)
    ·refine NRL ((decide (x5.2.Code = x6.2.Code) && (decide (x5.2.At = x6.2.At) && true))) (fun v : Bool => ([(10, .bool v)], [], [], [])) [] [10] [] [] [] .nil (fun v hv => ?_)
     have hF := lt_elim hF hv
     cases hF
     exact Wk_ret (hfin _ ⟨[], [], [], [], [], [], by kernel_rfl⟩)
    ·obtain ⟨x7, h7, hF⟩ := ob_elim hF
     refine NR [.callB (.bool x7)] [0, 1, 2, 3, 9, 11, 12, 14, 16, 83] [9, 12, 14, 16] [50] [(83, .bool ((!decide (x6.2.Code = 0)) || (!x7)))] (hc (fun (ga0 : (!(!decide (x6.2.Code = 0))) = true) => (R_SameCells_ok x5.1 x6.1 x7 (ite_t h7 ga0))) .nil) ?_
     refine Nif hF (fun hb hF => ?_) (fun hb hF => ?_)
     ·refine NR [] [10] [] [] [(10, .bool false)] .nil ?_
      cases hF
      exact Wk_ret (hfin _ ⟨[], [], [], [], [], [], by kernel_rfl⟩)
     ·obtain ⟨x8, h8, hF⟩ := ob_elim hF
      refine VR [.callE [] [] [] [] (.tup [.row 89 0, .agg (c_Fault x8.2)]) ⟨[], [], [(89, .z 37 5 0 (x8.1.map e_Cell))], [], []⟩] [0, 1, 3, 9, 11, 12, 14, 16, 17] [9, 12, 14, 16] [50, 89] [] [(17, .row 89 0)] [(12, (c_Fault x8.2))] [(89, .z 37 5 0 (x8.1.map e_Cell))] [] (hc (Pe.ren (merge_Compact_ok ([x4.1] : List (List Cell)) since whole x8 h8) ⟨[], [(87, 89)], [], []⟩) .nil) ?_
      obtain ⟨x9, h9, hF⟩ := ob_elim hF
      refine NR [.callB (.bool x9)] [0, 1, 3, 9, 11, 14, 16, 100] [9, 14, 16] [50] [(100, .bool ((!decide (x8.2.Code = 0)) || (!x9)))] (hc (fun (ga0 : (!(!decide (x8.2.Code = 0))) = true) => (R_SameCells_ok x8.1 x4.1 x9 (ite_t h9 ga0))) .nil) ?_
      refine Nif hF (fun hb hF => ?_) (fun hb hF => ?_)
      ·refine NR [] [10] [] [] [(10, .bool false)] .nil ?_
       cases hF
       exact Wk_ret (hfin _ ⟨[], [], [], [], [], [], by kernel_rfl⟩)
      ·refine NR [] [0, 1, 9, 11, 14, 16, 101] [9, 14, 16] [50] [(101, .bool whole)] .nil ?_
       refine Nif hF (fun hb hF => ?_) (fun hb hF => ?_)
       ·refine NR [] [10] [] [] [(10, .bool true)] .nil ?_
        cases hF
        exact Wk_ret (hfin _ ⟨[], [], [], [], [], [], by kernel_rfl⟩)
       ·obtain ⟨x10, h10, hF⟩ := ob_elim hF
        obtain ⟨h11, hF⟩ := asrt_elim hF
        obtain ⟨x11, h12, hF⟩ := ob_elim hF
        refine VD [.callE [] [] [] [] (.row 104 0) ⟨[], [], [(104, .z 22 1 0 (x10.map e_L_Cell))], [], []⟩, .xs ((x10 ++ older).map e_L_Cell), .callE [] [] [] [] (.tup [.row 108 0, .agg (c_Fault x11.2)]) ⟨[], [], [(108, .z 37 5 0 (x11.1.map e_Cell))], [], []⟩] [1, 9, 11, 13, 14, 16] [9, 14, 16] [50, 108] [] [(13, .row 108 0)] [(14, (c_Fault x11.2))] [(108, .z 37 5 0 (x11.1.map e_Cell))] [] (hc (Pe.ren (law_ownLists_ok l x10 h10) ⟨[], [(18, 104)], [], []⟩) (hc (app_ok e_L_Cell x10 older) (hc (appl_ok e_L_Cell h11) (hc (Pe.ren (merge_Scan_ok (x10 ++ older) a0 x11 h12) ⟨[], [(23, 108)], [], []⟩) .nil)))) ?_
        obtain ⟨h13, hF⟩ := asrt_elim hF
        obtain ⟨x12, h14, hF⟩ := ob_elim hF
        refine VD [.xs ((([x4.1] : List (List Cell)) ++ older).map e_L_Cell), .callE [] [] [] [] (.tup [.row 117 0, .agg (c_Fault x12.2)]) ⟨[], [], [(117, .z 37 5 0 (x12.1.map e_Cell))], [], []⟩] [13, 14, 15, 16] [14, 16] [108, 117] [] [(15, .row 117 0)] [(16, (c_Fault x12.2))] [(117, .z 37 5 0 (x12.1.map e_Cell))] [] (hc (app_ok e_L_Cell ([x4.1] : List (List Cell)) older) (hc (appl_ok e_L_Cell h13) (hc (Pe.ren (merge_Scan_ok (([x4.1] : List (List Cell)) ++ older) a0 x12 h14) ⟨[], [(23, 117)], [], []⟩) .nil))) ?_
        obtain ⟨x13, h15, hF⟩ := ob_elim hF
        refine NR [.callB (.bool x13)] [10] [] [] [(10, .bool (((decide (x11.2.Code = 0)) && (decide (x12.2.Code = 0))) && x13))] (hc (fun (ga0 : ((decide (x11.2.Code = 0)) && (decide (x12.2.Code = 0))) = true) => (R_SameCells_ok x11.1 x12.1 x13 (ite_t h15 ga0))) .nil) ?_
        cases hF
        exact Wk_ret (hfin _ ⟨[], [], [], [], [], [], by kernel_rfl⟩)

end G
end Go.Proofs.Ytkbgkkbinnclmaa
