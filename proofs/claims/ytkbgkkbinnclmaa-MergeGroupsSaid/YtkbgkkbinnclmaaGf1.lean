/- The program's functions as plain functions, and that they are these. Written by a program (dec2.py). -/
import Derived.Test.YtkbgkkbinnclmaaGf0
namespace Go.Proofs.Ytkbgkkbinnclmaa
open Go Go.Dm
set_option linter.unusedVariables false
set_option linter.unusedSimpArgs false
set_option maxRecDepth 100000
namespace G
/- tabularylaw.cellsAs -/
noncomputable def law_cellsAs_v2 (l : List Cell) (f : Fault) (w0 : Fault) (box : List Cell) (box1 : Ask) : Option Bool :=
 if (!(decide (f.Code = w0.Code) && (decide (f.At = w0.At) && true))) = true then
  some false
 else
  if (!decide (w0.Code = 0)) = true then
   some (decide ((l.length : Int) = 0))
  else
   ob (law_MergeJoins_2 box box1) fun x =>
   ob (R_SameCells l x) fun x1 =>
   some x1

/- tabularylaw.MergeJoins -/
noncomputable def law_MergeJoins (l : List (List Cell)) (a0 : Ask) : Option Bool :=
 ob (law_mergeBegun) fun x =>
 if (!x) = true then
  some false
 else
  ob (law_vastLists l) fun x1 =>
  if x1 = true then
   some true
  else
   ob (law_ownLists_v1 l) fun x2 =>
   ob (merge_Join_v1 x2) fun x3 =>
   ob (law_ownLists_v1 l) fun x4 =>
   ob (merge_Scan_v1 x4 a0) fun x5 =>
   ob (law_listsFault l) fun x6 =>
   ob (
    if (decide (x6.Code = 0)) = true then
     ob (law_together l) fun x7 =>
     if (decide (1000 < (x7.length : Int))) = true then
      lt (R_F 9 (-1)) fun x8 =>
      some (a0, x3.2, x5.2, x6, x7, x8)
     else
      some (a0, x3.2, x5.2, x6, x7, x6)
    else
     some (a0, x3.2, x5.2, x6, ([] : List Cell), x6)) fun (v : Ask × Fault × Fault × Fault × List Cell × Fault) =>
   ob (law_cellsAs_v1 x3.1 v.2.1 v.2.2.2.2.2 v.2.2.2.2.1) fun x9 =>
   if (!x9) = true then
    some false
   else
    ob (
     if (decide (v.2.2.2.1.Code = 0)) = true then
      lt (R_AskFault v.1) fun x10 =>
      some (v.1, v.2.2.1, x10)
     else
      some (v.1, v.2.2.1, v.2.2.2.1)) fun (v1 : Ask × Fault × Fault) =>
    if ((decide (v1.2.2.Code = 0)) && (decide (300 < (v.2.2.2.2.1.length : Int)))) = true then
     some (decide (v1.2.1.Code = 0))
    else
     ob (law_cellsAs_v2 x5.1 v1.2.1 v1.2.2 v.2.2.2.2.1 v1.1) fun x11 =>
     some x11

/- tabularylaw.MergeSame -/
noncomputable def law_MergeSame (l : List (List Cell)) (older : List (List Cell)) (since : Int) (whole : Bool) (a0 : Ask) : Option Bool :=
 ob (law_mergeBegun) fun x =>
 if (!x) = true then
  some false
 else
  ob (law_vastLists l) fun x1 =>
  ob (if (!x1) = true then (law_vastLists older) else some default) fun x2 =>
  ob (if (!(((x1 || x2) || (decide (19 < (w64 ((l.length : Int) + (older.length : Int)))))) || (decide (a0.Time < since)))) = true then (law_listsFault older) else some default) fun x3 =>
  if ((((x1 || x2) || (decide (19 < (w64 ((l.length : Int) + (older.length : Int)))))) || (decide (a0.Time < since))) || (!decide (x3.Code = 0))) = true then
   some true
  else
   ob (merge_Compact l since whole) fun x4 =>
   if (!decide (x4.2.Code = 0)) = true then
    some true
   else
    ob (merge_Scan l a0) fun x5 =>
    ob (merge_Scan ([x4.1] : List (List Cell)) a0) fun x6 =>
    if (!decide (x5.2.Code = 0)) = true then
     lt ((decide (x5.2.Code = x6.2.Code) && (decide (x5.2.At = x6.2.At) && true))) fun (v : Bool) =>
     some v
    else
     ob (if (!(!decide (x6.2.Code = 0))) = true then (R_SameCells x5.1 x6.1) else some default) fun x7 =>
     if ((!decide (x6.2.Code = 0)) || (!x7)) = true then
      some false
     else
      ob (merge_Compact ([x4.1] : List (List Cell)) since whole) fun x8 =>
      ob (if (!(!decide (x8.2.Code = 0))) = true then (R_SameCells x8.1 x4.1) else some default) fun x9 =>
      if ((!decide (x8.2.Code = 0)) || (!x9)) = true then
       some false
      else
       if whole = true then
        some true
       else
        ob (law_ownLists l) fun x10 =>
        asrt (((x10 ++ older).length : Int) * 24 ≤ 140737488351232) <|
        ob (merge_Scan (x10 ++ older) a0) fun x11 =>
        asrt (((([x4.1] : List (List Cell)) ++ older).length : Int) * 24 ≤ 140737488351232) <|
        ob (merge_Scan (([x4.1] : List (List Cell)) ++ older) a0) fun x12 =>
        ob (if ((decide (x11.2.Code = 0)) && (decide (x12.2.Code = 0))) = true then (R_SameCells x11.1 x12.1) else some default) fun x13 =>
        some (((decide (x11.2.Code = 0)) && (decide (x12.2.Code = 0))) && x13)

end G
end Go.Proofs.Ytkbgkkbinnclmaa
