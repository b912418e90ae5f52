/- The program's functions as plain functions, and that they are these. Written by a program (dec2.py). -/
import Derived.Test.YtdjlninhfndjfaaGf2
namespace Go.Proofs.Ytdjlninhfndjfaa
open Go Go.Dm
set_option linter.unusedVariables false
set_option linter.unusedSimpArgs false
set_option maxRecDepth 100000
namespace G
/- tabularylaw.LocateAsks -/
noncomputable def law_LocateAsks_J1 (x5 : List Known × Known × Int × Fault) (x9 : Slot) (v2 : List Known × Int) : Option Bool :=
 if (!decide (x9.State = 2)) = true then
  lt (R_F 6 0) fun x11 =>
  ob (if (((decide (x5.2.2.2.Code = x11.Code) && (decide (x5.2.2.2.At = x11.At) && true)) && (decide (x5.2.2.1 = v2.2))) && (decide (x5.2.1.Part.From = []) && (decide (x5.2.1.Part.To = []) && (decide (x5.2.1.Part.ID = 0) && (decide (x5.2.1.Host = 0) && (decide (x5.2.1.Turn = 0) && true)))))) = true then (R_SameKnown x5.1 v2.1) else some default) fun x12 =>
  lt ((((decide (x5.2.2.2.Code = x11.Code) && (decide (x5.2.2.2.At = x11.At) && true)) && (decide (x5.2.2.1 = v2.2))) && (decide (x5.2.1.Part.From = []) && (decide (x5.2.1.Part.To = []) && (decide (x5.2.1.Part.ID = 0) && (decide (x5.2.1.Host = 0) && (decide (x5.2.1.Turn = 0) && true)))))) && x12) fun (v3 : Bool) =>
  some v3
 else
  ob (if (((decide (x5.2.2.2.Code = 0)) && (decide (x5.2.2.1 = v2.2))) && (decide (x5.2.1.Part.From = x9.Part.From) && (decide (x5.2.1.Part.To = x9.Part.To) && (decide (x5.2.1.Part.ID = x9.Part.ID) && (decide (x5.2.1.Host = x9.Host) && (decide (x5.2.1.Turn = x9.Turn) && true)))))) = true then (R_Learnt_v1 v2.1 (⟨x9.Part, x9.Host, x9.Turn⟩ : Known)) else some default) fun x13 =>
  ob (if (((decide (x5.2.2.2.Code = 0)) && (decide (x5.2.2.1 = v2.2))) && (decide (x5.2.1.Part.From = x9.Part.From) && (decide (x5.2.1.Part.To = x9.Part.To) && (decide (x5.2.1.Part.ID = x9.Part.ID) && (decide (x5.2.1.Host = x9.Host) && (decide (x5.2.1.Turn = x9.Turn) && true)))))) = true then (R_SameKnown x5.1 x13) else some default) fun x14 =>
  lt ((((decide (x5.2.2.2.Code = 0)) && (decide (x5.2.2.1 = v2.2))) && (decide (x5.2.1.Part.From = x9.Part.From) && (decide (x5.2.1.Part.To = x9.Part.To) && (decide (x5.2.1.Part.ID = x9.Part.ID) && (decide (x5.2.1.Host = x9.Host) && (decide (x5.2.1.Turn = x9.Turn) && true)))))) && x14) fun (v4 : Bool) =>
  some v4
noncomputable def law_LocateAsks_J2 (v5 : List Known × Int × Int) (v6 : List Known × Int) : Option ((List Known × Int × Int) ⊕ Bool) :=
 some (Sum.inl (v6.1, v6.2, w64 (v5.2.2 + 1)))
noncomputable def law_LocateAsks_B1 (l : List Known) (row : List UInt8) (x5 : List Known × Known × Int × Fault) (x9 : Slot) (v5 : List Known × Int × Int) : Option ((List Known × Int × Int) ⊕ Bool) :=
 if (decide (v5.2.2 < (l.length : Int))) = true then
  asrt (0 ≤ v5.2.2 ∧ v5.2.2 < (l.length : Int)) <|
  lt (R_InPart (⟨((lget l v5.2.2).Part).From, ((lget l v5.2.2).Part).To, ((lget l v5.2.2).Part).ID⟩ : Part) row) fun x15 =>
  if (!x15) = true then
   asrt (0 ≤ v5.2.2 ∧ v5.2.2 < (l.length : Int)) <|
   asrt (((v5.1 ++ [(⟨(⟨((lget l v5.2.2).Part).From, ((lget l v5.2.2).Part).To, ((lget l v5.2.2).Part).ID⟩ : Part), (lget l v5.2.2).Host, (lget l v5.2.2).Turn⟩ : Known)]).length : Int) * 56 ≤ 140737488351232) <|
   lt ((v5.1 ++ [(⟨(⟨((lget l v5.2.2).Part).From, ((lget l v5.2.2).Part).To, ((lget l v5.2.2).Part).ID⟩ : Part), (lget l v5.2.2).Host, (lget l v5.2.2).Turn⟩ : Known)])) fun (v7 : List Known) =>
   law_LocateAsks_J2 v5 (v7, v5.2.1)
  else
   asrt ((decide (x9.State = 2)) = true → 0 ≤ v5.2.2 ∧ v5.2.2 < (l.length : Int)) <|
   asrt (((decide (x9.State = 2)) && (decide (((lget l v5.2.2).Host) = x9.Host))) = true → 0 ≤ v5.2.2 ∧ v5.2.2 < (l.length : Int)) <|
   if (((decide (x9.State = 2)) && (decide (((lget l v5.2.2).Host) = x9.Host))) && (decide (((lget l v5.2.2).Turn) = x9.Turn))) = true then
    asrt (((decide (x5.2.2.2.Code = 0)) && (decide (x5.2.2.1 = 1))) = true → 0 ≤ v5.2.2 ∧ v5.2.2 < (l.length : Int)) <|
    ob (if (((decide (x5.2.2.2.Code = 0)) && (decide (x5.2.2.1 = 1))) && (decide (x5.2.1.Part.From = ((lget l v5.2.2).Part).From) && (decide (x5.2.1.Part.To = ((lget l v5.2.2).Part).To) && (decide (x5.2.1.Part.ID = ((lget l v5.2.2).Part).ID) && (decide (x5.2.1.Host = (lget l v5.2.2).Host) && (decide (x5.2.1.Turn = (lget l v5.2.2).Turn) && true)))))) = true then (R_SameKnown x5.1 l) else some default) fun x16 =>
    lt ((((decide (x5.2.2.2.Code = 0)) && (decide (x5.2.2.1 = 1))) && (decide (x5.2.1.Part.From = ((lget l v5.2.2).Part).From) && (decide (x5.2.1.Part.To = ((lget l v5.2.2).Part).To) && (decide (x5.2.1.Part.ID = ((lget l v5.2.2).Part).ID) && (decide (x5.2.1.Host = (lget l v5.2.2).Host) && (decide (x5.2.1.Turn = (lget l v5.2.2).Turn) && true)))))) && x16) fun (v8 : Bool) =>
    some (Sum.inr v8)
   else
    law_LocateAsks_J2 v5 (v5.1, 2)
 else
  inrO (law_LocateAsks_J1 x5 x9 (v5.1, v5.2.1))
noncomputable def law_LocateAsks_L1 (l : List Known) (row : List UInt8) (x5 : List Known × Known × Int × Fault) (x9 : Slot) (v0 : List Known × Int × Int) : Option Bool :=
 loopO (fun y => law_LocateAsks_B1 l row x5 x9 y) v0
noncomputable def law_LocateAsks (b : Board) (l : List Known) (row : List UInt8) (host : Int) (turn : Int) : Option Bool :=
 ob (law_locateBegun) fun x =>
 if (!x) = true then
  some false
 else
  lt (law_vastBoard b) fun x1 =>
  if (x1 || (decide (400 < (l.length : Int)))) = true then
   some true
  else
   ob (R_CopyBoard b) fun x2 =>
   ob (law_ownKnown l) fun x3 =>
   ob (locate_Serves (⟨x2.1, x2.2.1, x2.2.2.1, x2.2.2.2⟩ : Board) host turn row) fun x4 =>
   ob (locate_Find (⟨x2.1, x2.2.1, x2.2.2.1, x2.2.2.2⟩ : Board) x3 row) fun x5 =>
   ob (R_BoardFault b) fun x6 =>
   ob (R_SameBoard (⟨x2.1, x2.2.1, x2.2.2.1, x2.2.2.2⟩ : Board) b) fun x7 =>
   ob (if (!(!x7)) = true then (R_SameKnown x3 l) else some default) fun x8 =>
   if (((!x7) || (!x8)) || (!(decide (x4.2.Code = x6.Code) && (decide (x4.2.At = x6.At) && true)))) = true then
    some false
   else
    ob (R_SlotOf b row) fun x9 =>
    if (!(x4.1 == ((((decide (x6.Code = 0)) && (decide (x9.State = 2))) && (decide (x9.Host = host))) && (decide (x9.Turn = turn))))) = true then
     some false
    else
     ob (
      if (decide (x6.Code = 0)) = true then
       ob (R_KnownFault l) fun x10 =>
       if (!decide (x10.Code = 0)) = true then
        some (⟨x10.Code, w64 (x10.At - 10000)⟩ : Fault)
       else
        some x10
      else
       some x6) fun (v : Fault) =>
     if (!decide (v.Code = 0)) = true then
      lt ((((decide (x5.2.2.2.Code = v.Code) && (decide (x5.2.2.2.At = v.At) && true)) && (decide ((x5.1.length : Int) = 0))) && (decide (x5.2.1.Part.From = []) && (decide (x5.2.1.Part.To = []) && (decide (x5.2.1.Part.ID = 0) && (decide (x5.2.1.Host = 0) && (decide (x5.2.1.Turn = 0) && true)))))) && (decide (x5.2.2.1 = 0))) fun (v1 : Bool) =>
      some v1
     else
      law_LocateAsks_L1 l row x5 x9 (([] : List Known), 1, 0)
theorem law_LocateAsks_ok (b : Board) (l : List Known) (row : List UInt8) (host : Int) (turn : Int) (r : Bool) (hF : law_LocateAsks b l row host turn = some r) : Pe Try.prog 7 S.none [.agg (c_Board b), .sl 5 (l.map e_Known), .str row, .i host, .i turn] (.bool r) S.none := by
 refine Pe_of (N := 241) (res := [.tmp 10]) (ts := [4]) Ty.ok Fn.b7 Try.func7 rfl rfl rfl rfl rfl rfl ?_
 intro Q g hfin
 unfold law_LocateAsks at hF
 refine URs [] [1, 2, 3, 4, 5] [5] [] [] [(5, .ptr 5 0)] [(5, (c_Board b))] [] [] .nil ?_
 refine Wk_seq ?_
 refine Wk_seq ?_
 obtain ⟨x, h0, hF⟩ := ob_elim hF
 refine ZR [.callB (.bool x)] [1, 2, 3, 4, 5, 26] [5] [] [(26, .bool (!x))] (.cons (law_locateBegun_ok  x h0) .nil) ?_
 refine Wk_split rfl (fun hb => ?_) (fun hb => ?_)
 ·have hF := ite_t hF hb
  refine ZRs [] [10] [] [] [(10, .bool false)] .nil ?_
  have hF := some_elim hF
  exact Wk_ret (hfin _ ⟨[], [], [], [], [], [], by first | (rw [← hF]; kernel_rfl) | kernel_rfl⟩)
 ·have hF := ite_f hF hb
  refine Wk_skip ?_
  refine Wk_seq ?_
  refine Wk_seq ?_
  obtain ⟨x1, h1, hF⟩ := lt_split hF
  refine ZR [.callB (.bool x1), .nat (l.length : Int)] [1, 2, 3, 4, 5, 33] [5] [] [(33, .bool (x1 || (decide (400 < (l.length : Int)))))] (.cons (law_vastBoard_ok b x1 h1) (.cons (fun (_ : (!x1) = true) => (len_ok e_Known l)) .nil)) ?_
  refine Wk_split rfl (fun hb => ?_) (fun hb => ?_)
  ·have hF := ite_t hF hb
   refine ZRs [] [10] [] [] [(10, .bool true)] .nil ?_
   have hF := some_elim hF
   exact Wk_ret (hfin _ ⟨[], [], [], [], [], [], by first | (rw [← hF]; kernel_rfl) | kernel_rfl⟩)
  ·have hF := ite_f hF hb
   refine Wk_skip ?_
   refine Wk_seq ?_
   obtain ⟨x2, h2, hF⟩ := ob_elim hF
   refine UR [.callE [] [] [] [] (.agg [.row 35 1, .row 20035 1, .i x2.2.2.1, .i x2.2.2.2]) ⟨[], [], [(35, .z 108 3 1 (x2.1.map e_Host)), (20035, .z 64 6 1 (x2.2.1.map e_Slot))], [], []⟩] [1, 2, 3, 4, 5, 11] [5, 11] [35, 20035] [] [(11, .ptr 11 0)] [(11, [.row 35 1, .row 20035 1, .i x2.2.2.1, .i x2.2.2.2])] [(35, .z 108 3 1 (x2.1.map e_Host)), (20035, .z 64 6 1 (x2.2.1.map e_Slot))] [] (.cons (Pe.ren (R_CopyBoard_ok b x2 h2) ⟨[], [(5, 35), (9, 20035)], [], []⟩) .nil) ?_
   refine Wk_seq ?_
   obtain ⟨x3, h3, hF⟩ := ob_elim hF
   refine UR [.callE [] [] [] [] (.row 37 1) ⟨[], [], [(37, .z 67 5 1 (x3.map e_Known))], [], []⟩] [1, 2, 3, 4, 5, 11, 12] [5, 11] [35, 37, 20035] [] [(12, .row 37 1)] [] [(37, .z 67 5 1 (x3.map e_Known))] [] (.cons (Pe.ren (law_ownKnown_ok l x3 h3) ⟨[], [(4, 37)], [], []⟩) .nil) ?_
   refine Wk_seq ?_
   obtain ⟨x4, h4, hF⟩ := ob_elim hF
   refine UR [.callB (.tup [.bool x4.1, .agg [.i x4.2.Code, .i x4.2.At]])] [1, 2, 3, 4, 5, 11, 12, 13, 14] [5, 11, 14] [35, 37, 20035] [] [(13, .bool x4.1), (14, .ptr 14 0)] [(14, [.i x4.2.Code, .i x4.2.At])] [] [] (.cons (locate_Serves_ok (⟨x2.1, x2.2.1, x2.2.2.1, x2.2.2.2⟩ : Board) host turn row x4 h4) .nil) ?_
   refine Wk_seq ?_
   obtain ⟨x5, h5, hF⟩ := ob_elim hF
   refine UR [.callE [] [] [] [] (.tup [.row 50 0, .agg [.str x5.2.1.Part.From, .str x5.2.1.Part.To, .i x5.2.1.Part.ID, .i x5.2.1.Host, .i x5.2.1.Turn], .i x5.2.2.1, .agg [.i x5.2.2.2.Code, .i x5.2.2.2.At]]) ⟨[], [], [(50, .o 67 5 0 (x5.1.map e_Known))], [], []⟩] [1, 2, 3, 4, 5, 11, 12, 13, 14, 15, 16, 17, 18] [5, 11, 14, 16, 18] [35, 37, 50, 20035] [] [(15, .row 50 0), (16, .ptr 16 0), (17, .i x5.2.2.1), (18, .ptr 18 0)] [(16, [.str x5.2.1.Part.From, .str x5.2.1.Part.To, .i x5.2.1.Part.ID, .i x5.2.1.Host, .i x5.2.1.Turn]), (18, [.i x5.2.2.2.Code, .i x5.2.2.2.At])] [(35, ⟨108, 3, 1, (x2.1.map e_Host).length, 0, true, 0, [], (x2.1.map e_Host)⟩), (37, ⟨67, 5, 1, (x3.map e_Known).length, 0, true, 0, [], (x3.map e_Known)⟩), (50, .o 67 5 0 (x5.1.map e_Known)), (20035, ⟨64, 6, 1, (x2.2.1.map e_Slot).length, 0, true, 0, [], (x2.2.1.map e_Slot)⟩)] [] (.cons (Pe.ren (locate_Find_ok (⟨x2.1, x2.2.1, x2.2.2.1, x2.2.2.2⟩ : Board) x3 row x5 h5) ⟨[], [(36, 50)], [], []⟩) .nil) ?_
   refine Wk_seq ?_
   obtain ⟨x6, h6, hF⟩ := ob_elim hF
   refine UR [.callB (.agg [.i x6.Code, .i x6.At])] [1, 2, 3, 4, 5, 11, 12, 13, 14, 15, 16, 17, 18, 19] [5, 11, 14, 16, 18, 19] [35, 37, 50, 20035] [] [(19, .ptr 19 0)] [(19, [.i x6.Code, .i x6.At])] [] [] (.cons (R_BoardFault_ok b x6 h6) .nil) ?_
   refine Wk_seq ?_
   refine Wk_seq ?_
   obtain ⟨x7, h7, hF⟩ := ob_elim hF
   obtain ⟨x8, h8, hF⟩ := ob_elim hF
   refine ZR [.callB (.bool x7), .callB (.bool x8)] [1, 2, 3, 4, 5, 13, 15, 16, 17, 18, 19, 71] [5, 16, 18, 19] [50] [(71, .bool (((!x7) || (!x8)) || (!(decide (x4.2.Code = x6.Code) && (decide (x4.2.At = x6.At) && true)))))] (.cons (R_SameBoard_ok (⟨x2.1, x2.2.1, x2.2.2.1, x2.2.2.2⟩ : Board) b x7 h7) (.cons (fun (ga0 : (!(!x7)) = true) => (R_SameKnown_ok x3 l x8 (ite_t h8 ga0))) .nil)) ?_
   refine Wk_split rfl (fun hb => ?_) (fun hb => ?_)
   ·have hF := ite_t hF hb
    refine ZRs [] [10] [] [] [(10, .bool false)] .nil ?_
    have hF := some_elim hF
    exact Wk_ret (hfin _ ⟨[], [], [], [], [], [], by first | (rw [← hF]; kernel_rfl) | kernel_rfl⟩)
   ·have hF := ite_f hF hb
    refine Wk_skip ?_
    refine Wk_seq ?_
    obtain ⟨x9, h9, hF⟩ := ob_elim hF
    refine UR [.callB (.agg (c_Slot x9))] [1, 2, 3, 4, 13, 15, 16, 17, 18, 19, 20] [16, 18, 19, 20] [50] [] [(20, .ptr 20 0)] [(20, (c_Slot x9))] [] [] (.cons (R_SlotOf_ok b row x9 h9) .nil) ?_
    refine Wk_seq ?_
    refine ZRs [] [1, 2, 15, 16, 17, 18, 19, 20, 96] [16, 18, 19, 20] [50] [(96, .bool (!(x4.1 == ((((decide (x6.Code = 0)) && (decide (x9.State = 2))) && (decide (x9.Host = host))) && (decide (x9.Turn = turn))))))] .nil ?_
    refine Wk_split rfl (fun hb => ?_) (fun hb => ?_)
    ·have hF := ite_t hF hb
     refine ZRs [] [10] [] [] [(10, .bool false)] .nil ?_
     have hF := some_elim hF
     exact Wk_ret (hfin _ ⟨[], [], [], [], [], [], by first | (rw [← hF]; kernel_rfl) | kernel_rfl⟩)
    ·have hF := ite_f hF hb
     refine Wk_skip ?_
     refine Wk_seq ?_
     refine ZRs [] [1, 2, 15, 16, 17, 18, 19, 20, 99] [16, 18, 19, 20] [50] [(99, .bool (decide (x6.Code = 0)))] .nil ?_
     obtain ⟨v, hv, hF⟩ := ob_elim hF
     refine Wk_meet (⟨[(1, .sl 5 (l.map e_Known)), (2, .str row), (15, .row 50 0), (16, .ptr 16 0), (17, .i x5.2.2.1), (18, .ptr 18 0), (19, .ptr 19 0), (20, .ptr 20 0)], [(16, [.str x5.2.1.Part.From, .str x5.2.1.Part.To, .i x5.2.1.Part.ID, .i x5.2.1.Host, .i x5.2.1.Turn]), (18, [.i x5.2.2.2.Code, .i x5.2.2.2.At]), (19, [.i v.Code, .i v.At]), (20, (c_Slot x9))], [(50, .o 67 5 0 (x5.1.map e_Known))], [], []⟩ : S) ?_ ?_
     ·have hF := hv
      refine Wk_split rfl (fun hb => ?_) (fun hb => ?_)
      ·have hF := ite_t hF hb
       refine Wk_seq ?_
       obtain ⟨x10, h10, hF⟩ := ob_elim hF
       refine UR [.callB (.agg [.i x10.Code, .i x10.At])] [1, 2, 15, 16, 17, 18, 19, 20] [16, 18, 19, 20] [50] [] [] [(19, [.i x10.Code, .i x10.At])] [] [] (.cons (R_KnownFault_ok l x10 h10) .nil) ?_
       refine ZRs [] [1, 2, 15, 16, 17, 18, 19, 20, 104] [16, 18, 19, 20] [50] [(104, .bool (!decide (x10.Code = 0)))] .nil ?_
       refine Wk_split rfl (fun hb => ?_) (fun hb => ?_)
       ·have hF := ite_t hF hb
        refine UR [] [1, 2, 15, 16, 17, 18, 19, 20] [16, 18, 19, 20] [50] [] [] [(19, [.i x10.Code, .i (w64 (x10.At - 10000))])] [] [] .nil ?_
        exact Wk_met (fs := [1, 2, 15, 16, 17, 18, 19, 20]) (bs := [16, 18, 19, 20]) (rs := [50]) (ms := []) (aa := []) (nv := []) (by first | (rw [← some_elim hF]; kernel_rfl) | kernel_rfl)
       ·have hF := ite_f hF hb
        refine Wk_skip ?_
        exact Wk_met (fs := [1, 2, 15, 16, 17, 18, 19, 20]) (bs := [16, 18, 19, 20]) (rs := [50]) (ms := []) (aa := []) (nv := []) (by first | (rw [← some_elim hF]; kernel_rfl) | kernel_rfl)
      ·have hF := ite_f hF hb
       refine Wk_skip ?_
       exact Wk_met (fs := [1, 2, 15, 16, 17, 18, 19, 20]) (bs := [16, 18, 19, 20]) (rs := [50]) (ms := []) (aa := []) (nv := []) (by first | (rw [← some_elim hF]; kernel_rfl) | kernel_rfl)
     ·refine Wk_seq ?_
      refine ZRs [] [1, 2, 15, 16, 17, 18, 19, 20, 111] [16, 18, 19, 20] [50] [(111, .bool (!decide (v.Code = 0)))] .nil ?_
      refine Wk_split rfl (fun hb => ?_) (fun hb => ?_)
      ·have hF := ite_t hF hb
       refine Wk_seq ?_
       refine WRL ((((decide (x5.2.2.2.Code = v.Code) && (decide (x5.2.2.2.At = v.At) && true)) && (decide ((x5.1.length : Int) = 0))) && (decide (x5.2.1.Part.From = []) && (decide (x5.2.1.Part.To = []) && (decide (x5.2.1.Part.ID = 0) && (decide (x5.2.1.Host = 0) && (decide (x5.2.1.Turn = 0) && true)))))) && (decide (x5.2.2.1 = 0))) (fun v1 : Bool => ⟨[(10, .bool v1)], [], [], [], []⟩) [.nat (x5.1.length : Int)] [10] [] [] [] [] [] (.cons (fun (_ : (decide (x5.2.2.2.Code = v.Code) && (decide (x5.2.2.2.At = v.At) && true)) = true) => (len_ok e_Known x5.1)) .nil) (by kernel_rfl) (fun v1 hv => ?_)
       have hF := lt_elim hF hv
       have hF := some_elim hF
       exact Wk_ret (hfin _ ⟨[], [], [], [], [], [], by first | (rw [← hF]; kernel_rfl) | kernel_rfl⟩)
      ·have hF := ite_f hF hb
       refine Wk_skip ?_
       refine ZRs [] [1, 2, 15, 16, 17, 18, 20, 21] [16, 18, 20] [50] [(21, .nils)] .nil ?_
       refine ZRs [] [1, 2, 15, 16, 17, 18, 20, 21, 22] [16, 18, 20] [50] [(22, .i 1)] .nil ?_
       refine Wk_seq ?_
       refine ZRs [] [1, 2, 15, 16, 17, 18, 20, 21, 22, 23] [16, 18, 20] [50] [(23, .i 0)] .nil ?_
       refine Wk_meetP (fun v2 : List Known × Int => (⟨[(15, .row 50 0), (16, .ptr 16 0), (17, .i x5.2.2.1), (18, .ptr 18 0), (20, .ptr 20 0), (21, .row 149 0), (22, .i v2.2)], [(16, [.str x5.2.1.Part.From, .str x5.2.1.Part.To, .i x5.2.1.Part.ID, .i x5.2.1.Host, .i x5.2.1.Turn]), (18, [.i x5.2.2.2.Code, .i x5.2.2.2.At]), (20, (c_Slot x9))], [(50, .o 67 5 0 (x5.1.map e_Known)), (149, .z 67 5 0 (v2.1.map e_Known))], [], []⟩ : S)) (fun v2 => law_LocateAsks_J1 x5 x9 v2 = some r) ?_ ?_
       ·refine Wk_block ?_
        unfold law_LocateAsks_L1 at hF
        refine Wk_nilrow 21 60000 67 5 rfl rfl rfl ?_
        refine Wk_trim (fs := [1, 2, 15, 16, 17, 18, 20, 21, 22, 23]) (bs := [16, 18, 20]) (rs := [50, 60000]) (ms := []) (aa := []) (nv := []) rfl ?_
        refine Wk_ren' ⟨[], [(60000, 149)], [], []⟩ rfl ?_
        refine Wk_trim (fs := [1, 2, 15, 16, 17, 18, 20, 21, 22, 23]) (bs := [16, 18, 20]) (rs := [50, 149]) (ms := []) (aa := []) (nv := []) (t := (fun v5 : List Known × Int × Int => (⟨[(1, .sl 5 (l.map e_Known)), (2, .str row), (15, .row 50 0), (16, .ptr 16 0), (17, .i x5.2.2.1), (18, .ptr 18 0), (20, .ptr 20 0), (21, .row 149 0), (22, .i v5.2.1), (23, .i v5.2.2)], [(16, [.str x5.2.1.Part.From, .str x5.2.1.Part.To, .i x5.2.1.Part.ID, .i x5.2.1.Host, .i x5.2.1.Turn]), (18, [.i x5.2.2.2.Code, .i x5.2.2.2.At]), (20, (c_Slot x9))], [(50, .o 67 5 0 (x5.1.map e_Known)), (149, .z 67 5 0 (v5.1.map e_Known))], [], []⟩ : S)) (([] : List Known), 1, 0)) (by kernel_rfl) ?_
        refine Wk_iter (step := fun y => law_LocateAsks_B1 l row x5 x9 y) (r := r) (fun v5 : List Known × Int × Int => (⟨[(1, .sl 5 (l.map e_Known)), (2, .str row), (15, .row 50 0), (16, .ptr 16 0), (17, .i x5.2.2.1), (18, .ptr 18 0), (20, .ptr 20 0), (21, .row 149 0), (22, .i v5.2.1), (23, .i v5.2.2)], [(16, [.str x5.2.1.Part.From, .str x5.2.1.Part.To, .i x5.2.1.Part.ID, .i x5.2.1.Host, .i x5.2.1.Turn]), (18, [.i x5.2.2.2.Code, .i x5.2.2.2.At]), (20, (c_Slot x9))], [(50, .o 67 5 0 (x5.1.map e_Known)), (149, .z 67 5 0 (v5.1.map e_Known))], [], []⟩ : S)) (([] : List Known), 1, 0) hF ?_
        intro n1 v5 y1 hF ih1 dn1
        have hF : law_LocateAsks_B1 l row x5 x9 v5 = some y1 := hF
        unfold law_LocateAsks_B1 at hF
        refine Wk_seq ?_
        refine ZRs [.nat (l.length : Int)] [1, 2, 15, 16, 17, 18, 20, 21, 22, 23, 132] [16, 18, 20] [50, 149] [(132, .bool (decide (v5.2.2 < (l.length : Int))))] (.cons (len_ok e_Known l) .nil) ?_
        refine Wk_split rfl (fun hb => ?_) (fun hb => ?_)
        ·have hF := ite_t hF hb
         refine Wk_skip ?_
         refine Wk_seq ?_
         refine Wk_meetP (fun v6 : List Known × Int => (⟨[(1, .sl 5 (l.map e_Known)), (2, .str row), (15, .row 50 0), (16, .ptr 16 0), (17, .i x5.2.2.1), (18, .ptr 18 0), (20, .ptr 20 0), (21, .row 149 0), (22, .i v6.2), (23, .i v5.2.2)], [(16, [.str x5.2.1.Part.From, .str x5.2.1.Part.To, .i x5.2.1.Part.ID, .i x5.2.1.Host, .i x5.2.1.Turn]), (18, [.i x5.2.2.2.Code, .i x5.2.2.2.At]), (20, (c_Slot x9))], [(50, .o 67 5 0 (x5.1.map e_Known)), (149, .z 67 5 0 (v6.1.map e_Known))], [], []⟩ : S)) (fun v6 => law_LocateAsks_J2 v5 v6 = some y1) ?_ ?_
         ·refine Wk_block ?_
          refine Wk_seq ?_
          refine Wk_seq ?_
          obtain ⟨h15, hF⟩ := asrt_elim hF
          obtain ⟨x15, h16, hF⟩ := lt_split hF
          refine ZR [.av (e_Known (lget l v5.2.2)), .callB (.bool x15)] [1, 2, 15, 16, 17, 18, 20, 21, 22, 23, 142] [16, 18, 20] [50, 149] [(142, .bool (!x15))] (.cons (idx_ok e_Known h15) (.cons (R_InPart_ok (⟨((lget l v5.2.2).Part).From, ((lget l v5.2.2).Part).To, ((lget l v5.2.2).Part).ID⟩ : Part) row x15 h16) .nil)) ?_
          refine Wk_split rfl (fun hb => ?_) (fun hb => ?_)
          ·have hF := ite_t hF hb
           refine Wk_seq ?_
           obtain ⟨h17, hF⟩ := asrt_elim hF
           obtain ⟨h18, hF⟩ := asrt_elim hF
           refine WRL ((v5.1 ++ [(⟨(⟨((lget l v5.2.2).Part).From, ((lget l v5.2.2).Part).To, ((lget l v5.2.2).Part).ID⟩ : Part), (lget l v5.2.2).Host, (lget l v5.2.2).Turn⟩ : Known)])) (fun v7 : List Known => ⟨[(1, .sl 5 (l.map e_Known)), (2, .str row), (15, .row 50 0), (16, .ptr 16 0), (17, .i x5.2.2.1), (18, .ptr 18 0), (20, .ptr 20 0), (21, .row 149 1), (22, .i v5.2.1), (23, .i v5.2.2)], [(16, [.str x5.2.1.Part.From, .str x5.2.1.Part.To, .i x5.2.1.Part.ID, .i x5.2.1.Host, .i x5.2.1.Turn]), (18, [.i x5.2.2.2.Code, .i x5.2.2.2.At]), (20, (c_Slot x9))], [(50, .o 67 5 0 (x5.1.map e_Known)), (149, .z 67 5 1 (v7.map e_Known))], [], []⟩) [.av (e_Known (lget l v5.2.2)), .sealed, .xs ((v5.1 ++ [(⟨(⟨((lget l v5.2.2).Part).From, ((lget l v5.2.2).Part).To, ((lget l v5.2.2).Part).ID⟩ : Part), (lget l v5.2.2).Host, (lget l v5.2.2).Turn⟩ : Known)]).map e_Known)] [1, 2, 15, 16, 17, 18, 20, 21, 22, 23] [16, 18, 20] [50, 149] [] [] [] (.cons (idx_ok e_Known h17) (.cons (app_ok e_Known v5.1 [(⟨(⟨((lget l v5.2.2).Part).From, ((lget l v5.2.2).Part).To, ((lget l v5.2.2).Part).ID⟩ : Part), (lget l v5.2.2).Host, (lget l v5.2.2).Turn⟩ : Known)]) (.cons (appl_ok e_Known h18) .nil))) (by kernel_rfl) (fun v7 hv => ?_)
           have hF := lt_elim hF hv
           refine Wk_exit rfl ?_
           exact Wk_metP (v7, v5.2.1) [1, 2, 15, 16, 17, 18, 20, 21, 22, 23] [16, 18, 20] [50, 149] [] [] [(149, ⟨0, true, true, false⟩)] hF (by kernel_rfl)
          ·have hF := ite_f hF hb
           refine Wk_skip ?_
           refine Wk_seq ?_
           refine Wk_seq ?_
           obtain ⟨h19, hF⟩ := asrt_elim hF
           obtain ⟨h20, hF⟩ := asrt_elim hF
           refine ZD [.av (e_Known (lget l v5.2.2)), .av (e_Known (lget l v5.2.2))] [1, 2, 15, 16, 17, 18, 20, 21, 23, 172] [16, 18, 20] [50, 149] [(172, .bool (((decide (x9.State = 2)) && (decide (((lget l v5.2.2).Host) = x9.Host))) && (decide (((lget l v5.2.2).Turn) = x9.Turn))))] (.cons (fun (ga0 : (decide (x9.State = 2)) = true) => (idx_ok e_Known (h19 ga0))) (.cons (fun (ga0 : ((decide (x9.State = 2)) && (decide (((lget l v5.2.2).Host) = x9.Host))) = true) => (idx_ok e_Known (h20 ga0))) .nil)) ?_
           refine Wk_split rfl (fun hb => ?_) (fun hb => ?_)
           ·have hF := ite_t hF hb
            refine Wk_seq ?_
            obtain ⟨h21, hF⟩ := asrt_elim hF
            obtain ⟨x16, h22, hF⟩ := ob_elim hF
            refine WDL ((((decide (x5.2.2.2.Code = 0)) && (decide (x5.2.2.1 = 1))) && (decide (x5.2.1.Part.From = ((lget l v5.2.2).Part).From) && (decide (x5.2.1.Part.To = ((lget l v5.2.2).Part).To) && (decide (x5.2.1.Part.ID = ((lget l v5.2.2).Part).ID) && (decide (x5.2.1.Host = (lget l v5.2.2).Host) && (decide (x5.2.1.Turn = (lget l v5.2.2).Turn) && true)))))) && x16) (fun v8 : Bool => ⟨[(10, .bool v8)], [], [], [], []⟩) [.av (e_Known (lget l v5.2.2)), .callB (.bool x16)] [10] [] [] [] [] [] (.cons (fun (ga0 : ((decide (x5.2.2.2.Code = 0)) && (decide (x5.2.2.1 = 1))) = true) => (idx_ok e_Known (h21 ga0))) (.cons (fun (ga0 : (((decide (x5.2.2.2.Code = 0)) && (decide (x5.2.2.1 = 1))) && (decide (x5.2.1.Part.From = ((lget l v5.2.2).Part).From) && (decide (x5.2.1.Part.To = ((lget l v5.2.2).Part).To) && (decide (x5.2.1.Part.ID = ((lget l v5.2.2).Part).ID) && (decide (x5.2.1.Host = (lget l v5.2.2).Host) && (decide (x5.2.1.Turn = (lget l v5.2.2).Turn) && true)))))) = true) => (R_SameKnown_ok x5.1 l x16 (ite_t h22 ga0))) .nil)) (by kernel_rfl) (fun v8 hv => ?_)
            have hF := lt_elim hF hv
            have hF := ret_done hF dn1
            have hF := some_elim hF
            exact Wk_ret (hfin _ ⟨[], [], [], [], [], [], by first | (rw [← hF]; kernel_rfl) | kernel_rfl⟩)
           ·have hF := ite_f hF hb
            refine Wk_skip ?_
            refine ZR [] [1, 2, 15, 16, 17, 18, 20, 21, 22, 23] [16, 18, 20] [50, 149] [(22, .i 2)] .nil ?_
            refine Wk_blk ?_
            exact Wk_metP (v5.1, 2) [1, 2, 15, 16, 17, 18, 20, 21, 22, 23] [16, 18, 20] [50, 149] [] [] [] hF (by kernel_rfl)
         ·intro v6 hF
          have hF : law_LocateAsks_J2 v5 v6 = some y1 := hF
          unfold law_LocateAsks_J2 at hF
          refine ZR [] [1, 2, 15, 16, 17, 18, 20, 21, 22, 23] [16, 18, 20] [50, 149] [(23, .i (w64 (v5.2.2 + 1)))] .nil ?_
          refine Wk_trim (fs := [1, 2, 15, 16, 17, 18, 20, 21, 22, 23]) (bs := [16, 18, 20]) (rs := [50, 149]) (ms := []) (aa := []) (nv := []) ?_ (ih1 _ (some_elim hF).symm)
          kernel_rfl
        ·have hF := ite_f hF hb
         refine Wk_exit rfl ?_
         have hF := inrO_done hF dn1
         exact Wk_metP (v5.1, v5.2.1) [15, 16, 17, 18, 20, 21, 22] [16, 18, 20] [50, 149] [] [] [] hF (by kernel_rfl)
       ·intro v2 hF
        have hF : law_LocateAsks_J1 x5 x9 v2 = some r := hF
        unfold law_LocateAsks_J1 at hF
        refine Wk_seq ?_
        refine ZRs [] [15, 16, 17, 18, 20, 21, 22, 195] [16, 18, 20] [50, 149] [(195, .bool (!decide (x9.State = 2)))] .nil ?_
        refine Wk_split rfl (fun hb => ?_) (fun hb => ?_)
        ·have hF := ite_t hF hb
         refine Wk_seq ?_
         obtain ⟨x11, h11, hF⟩ := lt_split hF
         obtain ⟨x12, h12, hF⟩ := ob_elim hF
         refine WDL ((((decide (x5.2.2.2.Code = x11.Code) && (decide (x5.2.2.2.At = x11.At) && true)) && (decide (x5.2.2.1 = v2.2))) && (decide (x5.2.1.Part.From = []) && (decide (x5.2.1.Part.To = []) && (decide (x5.2.1.Part.ID = 0) && (decide (x5.2.1.Host = 0) && (decide (x5.2.1.Turn = 0) && true)))))) && x12) (fun v3 : Bool => ⟨[(10, .bool v3)], [], [], [], []⟩) [.callB (.agg [.i x11.Code, .i x11.At]), .callB (.bool x12)] [10] [] [] [] [] [] (.cons (R_F_ok 6 0 x11 h11) (.cons (fun (ga0 : (((decide (x5.2.2.2.Code = x11.Code) && (decide (x5.2.2.2.At = x11.At) && true)) && (decide (x5.2.2.1 = v2.2))) && (decide (x5.2.1.Part.From = []) && (decide (x5.2.1.Part.To = []) && (decide (x5.2.1.Part.ID = 0) && (decide (x5.2.1.Host = 0) && (decide (x5.2.1.Turn = 0) && true)))))) = true) => (R_SameKnown_ok x5.1 v2.1 x12 (ite_t h12 ga0))) .nil)) (by kernel_rfl) (fun v3 hv => ?_)
         have hF := lt_elim hF hv
         have hF := some_elim hF
         exact Wk_ret (hfin _ ⟨[], [], [], [], [], [], by first | (rw [← hF]; kernel_rfl) | kernel_rfl⟩)
        ·have hF := ite_f hF hb
         refine Wk_skip ?_
         refine URs [] [15, 16, 17, 18, 21, 22, 24] [16, 18, 24] [50, 149] [] [(24, .ptr 24 0)] [(24, [.str x9.Part.From, .str x9.Part.To, .i x9.Part.ID, .i x9.Host, .i x9.Turn])] [] [] .nil ?_
         refine Wk_seq ?_
         refine Wk_sealX [] 21 rfl rfl ?_
         obtain ⟨x13, h13, hF⟩ := ob_elim hF
         obtain ⟨x14, h14, hF⟩ := ob_elim hF
         refine WRL ((((decide (x5.2.2.2.Code = 0)) && (decide (x5.2.2.1 = v2.2))) && (decide (x5.2.1.Part.From = x9.Part.From) && (decide (x5.2.1.Part.To = x9.Part.To) && (decide (x5.2.1.Part.ID = x9.Part.ID) && (decide (x5.2.1.Host = x9.Host) && (decide (x5.2.1.Turn = x9.Turn) && true)))))) && x14) (fun v4 : Bool => ⟨[(10, .bool v4)], [], [], [], []⟩) [.call (.sl 5 (x13.map e_Known)), .callB (.bool x14)] [10] [] [] [] [] [] (.cons (fun (ga0 : (((decide (x5.2.2.2.Code = 0)) && (decide (x5.2.2.1 = v2.2))) && (decide (x5.2.1.Part.From = x9.Part.From) && (decide (x5.2.1.Part.To = x9.Part.To) && (decide (x5.2.1.Part.ID = x9.Part.ID) && (decide (x5.2.1.Host = x9.Host) && (decide (x5.2.1.Turn = x9.Turn) && true)))))) = true) => (R_Learnt_v1_ok v2.1 (⟨x9.Part, x9.Host, x9.Turn⟩ : Known) x13 (ite_t h13 ga0))) (.cons (fun (ga0 : (((decide (x5.2.2.2.Code = 0)) && (decide (x5.2.2.1 = v2.2))) && (decide (x5.2.1.Part.From = x9.Part.From) && (decide (x5.2.1.Part.To = x9.Part.To) && (decide (x5.2.1.Part.ID = x9.Part.ID) && (decide (x5.2.1.Host = x9.Host) && (decide (x5.2.1.Turn = x9.Turn) && true)))))) = true) => (R_SameKnown_ok x5.1 x13 x14 (ite_t h14 ga0))) .nil)) (by kernel_rfl) (fun v4 hv => ?_)
         have hF := lt_elim hF hv
         have hF := some_elim hF
         exact Wk_ret (hfin _ ⟨[], [], [], [], [], [], by first | (rw [← hF]; kernel_rfl) | kernel_rfl⟩)

/- locate.Look -/
noncomputable def locate_Look (l : List Known) (row : List UInt8) : Option (Int × Bool × Fault) :=
 ob (locate_Check l) fun x =>
 if (!decide (x.Code = 0)) = true then
  some (0, false, x)
 else
  ob (locate_find l row) fun x1 =>
  some ((max x1 0), decide (0 ≤ x1), (⟨0, 0⟩ : Fault))
theorem locate_Look_ok (l : List Known) (row : List UInt8) (r : Int × Bool × Fault) (hF : locate_Look l row = some r) : Pe Try.prog 46 S.none [.sl 5 (l.map e_Known), .str row] (.tup [.i r.1, .bool r.2.1, .agg [.i r.2.2.Code, .i r.2.2.At]]) S.none := by
 refine Pe_of (N := 23) (res := [.tmp 4, .tmp 5, .cell 6 26]) (ts := [3, 4, 26]) Ty.ok Fn.b46 Try.func46 rfl rfl rfl rfl rfl rfl ?_
 intro Q g hfin
 unfold locate_Look at hF
 refine URs [] [0, 1, 6] [6] [] [] [(6, .ptr 6 0)] [(6, [.i 0, .i 0])] [] [] .nil ?_
 refine Wk_seq ?_
 refine Wk_seq ?_
 obtain ⟨x, h0, hF⟩ := ob_elim hF
 refine UR [.callB (.agg [.i x.Code, .i x.At])] [0, 1, 6, 7] [6, 7] [] [] [(7, .ptr 7 0)] [(7, [.i x.Code, .i x.At])] [] [] (.cons (locate_Check_ok l x h0) .nil) ?_
 refine ZRs [] [0, 1, 6, 7, 13] [6, 7] [] [(13, .bool (!decide (x.Code = 0)))] .nil ?_
 refine Wk_split rfl (fun hb => ?_) (fun hb => ?_)
 ·have hF := ite_t hF hb
  refine UDs [] [4, 5, 6] [6] [] [] [(4, .i 0), (5, .bool false)] [(6, [.i x.Code, .i x.At])] [] [] .nil ?_
  have hF := some_elim hF
  exact Wk_ret (hfin _ ⟨[], [], [], [], [], [], by first | (rw [← hF]; kernel_rfl) | kernel_rfl⟩)
 ·have hF := ite_f hF hb
  refine Wk_skip ?_
  refine Wk_seq ?_
  obtain ⟨x1, h1, hF⟩ := ob_elim hF
  refine ZR [.callB (.i x1)] [6, 8] [6] [] [(8, .i x1)] (.cons (locate_find_ok l row x1 h1) .nil) ?_
  refine ZRs [] [4, 5, 6] [6] [] [(4, .i (max x1 0)), (5, .bool (decide (0 ≤ x1)))] .nil ?_
  have hF := some_elim hF
  exact Wk_ret (hfin _ ⟨[], [], [], [], [], [], by first | (rw [← hF]; kernel_rfl) | kernel_rfl⟩)

/- locate.Learn -/
noncomputable def locate_Learn_v1 (l : List Known) (k0 : Known) : Option (List Known × Fault) :=
 ob (locate_Check l) fun x =>
 if (!decide (x.Code = 0)) = true then
  some (([] : List Known), x)
 else
  lt (locate_code k0) fun x1 =>
  if (!decide (x1 = 0)) = true then
   lt (locate_fault x1 (-1)) fun x2 =>
   some (([] : List Known), x2)
  else
   ob (locate_learn l k0) fun x3 =>
   if (decide (200 < (x3.length : Int))) = true then
    lt (locate_fault 2 (-2)) fun x4 =>
    some (([] : List Known), x4)
   else
    some (x3, (⟨0, 0⟩ : Fault))
theorem locate_Learn_v1_ok (l : List Known) (k0 : Known) (r : List Known × Fault) (hF : locate_Learn_v1 l k0 = some r) : Pe Try.prog 47 S.none [.sl 5 (l.map e_Known), .agg (c_Known k0)] (.tup [.sl 5 (r.1.map e_Known), .agg [.i r.2.Code, .i r.2.At]]) S.none := by
 refine Pe_of (N := 30) (res := [.tmp 4, .cell 5 26]) (ts := [58, 26]) Ty.ok Fn.b47 Try.func47 rfl rfl rfl rfl rfl rfl ?_
 intro Q g hfin
 unfold locate_Learn_v1 at hF
 refine URs [] [0, 3, 5] [3, 5] [] [] [(3, .ptr 3 0), (5, .ptr 5 0)] [(3, (c_Known k0)), (5, [.i 0, .i 0])] [] [] .nil ?_
 refine Wk_seq ?_
 refine Wk_seq ?_
 obtain ⟨x, h0, hF⟩ := ob_elim hF
 refine UR [.callB (.agg [.i x.Code, .i x.At])] [0, 3, 5, 6] [3, 5, 6] [] [] [(6, .ptr 6 0)] [(6, [.i x.Code, .i x.At])] [] [] (.cons (locate_Check_ok l x h0) .nil) ?_
 refine ZRs [] [0, 3, 5, 6, 13] [3, 5, 6] [] [(13, .bool (!decide (x.Code = 0)))] .nil ?_
 refine Wk_split rfl (fun hb => ?_) (fun hb => ?_)
 ·have hF := ite_t hF hb
  refine UDs [] [4, 5] [5] [] [] [(4, .nils)] [(5, [.i x.Code, .i x.At])] [] [] .nil ?_
  have hF := some_elim hF
  exact Wk_ret (hfin _ ⟨[], [], [], [], [], [], by first | (rw [← hF]; kernel_rfl) | kernel_rfl⟩)
 ·have hF := ite_f hF hb
  refine Wk_skip ?_
  refine Wk_seq ?_
  refine Wk_seq ?_
  obtain ⟨x1, h1, hF⟩ := lt_split hF
  refine ZR [.callB (.i x1)] [0, 3, 5, 7] [3, 5] [] [(7, .i x1)] (.cons (locate_code_ok k0 x1 h1) .nil) ?_
  refine ZRs [] [0, 3, 5, 7, 18] [3, 5] [] [(18, .bool (!decide (x1 = 0)))] .nil ?_
  refine Wk_split rfl (fun hb => ?_) (fun hb => ?_)
  ·have hF := ite_t hF hb
   refine Wk_seq ?_
   obtain ⟨x2, h2, hF⟩ := lt_split hF
   refine UR [.callB (.agg [.i x2.Code, .i x2.At])] [4, 5] [5] [] [] [(4, .nils)] [(5, [.i x2.Code, .i x2.At])] [] [] (.cons (locate_fault_ok x1 (-1) x2 h2) .nil) ?_
   have hF := some_elim hF
   exact Wk_ret (hfin _ ⟨[], [], [], [], [], [], by first | (rw [← hF]; kernel_rfl) | kernel_rfl⟩)
  ·have hF := ite_f hF hb
   refine Wk_skip ?_
   refine Wk_seq ?_
   obtain ⟨x3, h3, hF⟩ := ob_elim hF
   refine UR [.callE [] [] [] [] (.row 23 2) ⟨[], [], [(23, .o 67 5 2 (x3.map e_Known))], [], []⟩] [5, 8] [5] [23] [] [(8, .row 23 2)] [] [(23, .o 67 5 2 (x3.map e_Known))] [] (.cons (Pe.ren (locate_learn_ok l k0 x3 h3) ⟨[], [(7, 23)], [], []⟩) .nil) ?_
   refine Wk_seq ?_
   refine ZRs [.nat (x3.length : Int)] [5, 8, 26] [5] [23] [(26, .bool (decide (200 < (x3.length : Int))))] (.cons (len_ok e_Known x3) .nil) ?_
   refine Wk_split rfl (fun hb => ?_) (fun hb => ?_)
   ·have hF := ite_t hF hb
    refine Wk_seq ?_
    obtain ⟨x4, h4, hF⟩ := lt_split hF
    refine UR [.callB (.agg [.i x4.Code, .i x4.At])] [4, 5] [5] [] [] [(4, .nils)] [(5, [.i x4.Code, .i x4.At])] [] [] (.cons (locate_fault_ok 2 (-2) x4 h4) .nil) ?_
    have hF := some_elim hF
    exact Wk_ret (hfin _ ⟨[], [], [], [], [], [], by first | (rw [← hF]; kernel_rfl) | kernel_rfl⟩)
   ·have hF := ite_f hF hb
    refine Wk_skip ?_
    refine ZRs [] [4, 5] [5] [23] [(4, .row 23 2)] .nil ?_
    have hF := some_elim hF
    exact Wk_ret (hfin _ ⟨[], [], [], [], [], [], by first | (rw [← hF]; kernel_rfl) | kernel_rfl⟩)

/- tabularylaw.LocateDoes$1 -/
noncomputable def law_LocateDoes_1 (box : List Known) (box1 : Known) : Option (List Known) :=
 ob (R_Learnt_v1 box box1) fun x =>
 some x
theorem law_LocateDoes_1_ok (box : List Known) (box1 : Known) (r : List Known) (hF : law_LocateDoes_1 box box1 = some r) : Pe Try.prog 50 ⟨[], [(100000, [.sl 5 (box.map e_Known)]), (100001, (c_Known box1))], [], [], []⟩ [.ptr 100000 0, .ptr 100001 0] (.sl 5 (r.map e_Known)) ⟨[], [(100000, [.sl 5 (box.map e_Known)]), (100001, (c_Known box1))], [], [], []⟩ := by
 refine Pe_of (N := 6) (res := [.tmp 2]) (ts := [58]) Ty.ok Fn.b50 Try.func50 rfl rfl rfl rfl rfl rfl ?_
 intro Q g hfin
 unfold law_LocateDoes_1 at hF
 refine ZRs [] [0, 1] [100000, 100001] [] [] .nil ?_
 refine Wk_seq ?_
 obtain ⟨x, h0, hF⟩ := ob_elim hF
 refine ZR [.call (.sl 5 (x.map e_Known))] [2] [100000, 100001] [] [(2, .sl 5 (x.map e_Known))] (.cons (R_Learnt_v1_ok box box1 x h0) .nil) ?_
 have hF := some_elim hF
 exact Wk_ret (hfin _ ⟨[], [100000, 100001], [], [], [], [], by first | (rw [← hF]; kernel_rfl) | kernel_rfl⟩)

/- tabularylaw.knownAs -/
noncomputable def law_knownAs (l : List Known) (f : Fault) (w0 : Fault) (box : List Known) (box1 : Known) : Option Bool :=
 if (!(decide (f.Code = w0.Code) && (decide (f.At = w0.At) && true))) = true then
  some false
 else
  if (!decide (w0.Code = 0)) = true then
   some (decide ((l.length : Int) = 0))
  else
   ob (law_LocateDoes_1 box box1) fun x =>
   ob (R_SameKnown l x) fun x1 =>
   some x1
theorem law_knownAs_ok (l : List Known) (f : Fault) (w0 : Fault) (box : List Known) (box1 : Known) (r : Bool) (hF : law_knownAs l f w0 box box1 = some r) : Pe Try.prog 49 ⟨[], [(100000, [.sl 5 (box.map e_Known)]), (100001, (c_Known box1))], [], [], []⟩ [.sl 5 (l.map e_Known), .agg [.i f.Code, .i f.At], .agg [.i w0.Code, .i w0.At], .fn 50 [.ptr 100000 0, .ptr 100001 0]] (.bool r) ⟨[], [(100000, [.sl 5 (box.map e_Known)]), (100001, (c_Known box1))], [], [], []⟩ := by
 refine Pe_of (N := 22) (res := [.tmp 8]) (ts := [4]) Ty.ok Fn.b49 Try.func49 rfl rfl rfl rfl rfl rfl ?_
 intro Q g hfin
 unfold law_knownAs at hF
 refine URs [] [0, 3, 5, 6] [5, 6, 100000, 100001] [] [] [(5, .ptr 5 0), (6, .ptr 6 0)] [(5, [.i f.Code, .i f.At]), (6, [.i w0.Code, .i w0.At])] [] [] .nil ?_
 refine Wk_seq ?_
 refine ZRs [] [0, 3, 6, 11] [6, 100000, 100001] [] [(11, .bool (!(decide (f.Code = w0.Code) && (decide (f.At = w0.At) && true))))] .nil ?_
 refine Wk_split rfl (fun hb => ?_) (fun hb => ?_)
 ·have hF := ite_t hF hb
  refine ZRs [] [8] [100000, 100001] [] [(8, .bool false)] .nil ?_
  have hF := some_elim hF
  exact Wk_ret (hfin _ ⟨[], [100000, 100001], [], [], [], [], by first | (rw [← hF]; kernel_rfl) | kernel_rfl⟩)
 ·have hF := ite_f hF hb
  refine Wk_skip ?_
  refine Wk_seq ?_
  refine ZRs [] [0, 3, 14] [100000, 100001] [] [(14, .bool (!decide (w0.Code = 0)))] .nil ?_
  refine Wk_split rfl (fun hb => ?_) (fun hb => ?_)
  ·have hF := ite_t hF hb
   refine ZRs [.nat (l.length : Int)] [8] [100000, 100001] [] [(8, .bool (decide ((l.length : Int) = 0)))] (.cons (len_ok e_Known l) .nil) ?_
   have hF := some_elim hF
   exact Wk_ret (hfin _ ⟨[], [100000, 100001], [], [], [], [], by first | (rw [← hF]; kernel_rfl) | kernel_rfl⟩)
  ·have hF := ite_f hF hb
   refine Wk_skip ?_
   refine Wk_seq ?_
   obtain ⟨x, h0, hF⟩ := ob_elim hF
   obtain ⟨x1, h1, hF⟩ := ob_elim hF
   refine ZR [.callR [100000, 100001] [] [] [] (.sl 5 (x.map e_Known)), .callB (.bool x1)] [8] [100000, 100001] [] [(8, .bool x1)] (.cons (Pe.ren (law_LocateDoes_1_ok box box1 x h0) ⟨[], [], [], []⟩) (.cons (R_SameKnown_ok l x x1 h1) .nil)) ?_
   have hF := some_elim hF
   exact Wk_ret (hfin _ ⟨[], [100000, 100001], [], [], [], [], by first | (rw [← hF]; kernel_rfl) | kernel_rfl⟩)

/- tabularylaw.LocateDoes -/
noncomputable def law_LocateDoes_J1 (l : List Known) (k0 : Known) (x3 : Int × Bool × Fault) (x4 : List Known × Fault) (x5 : Fault) (v : Int × Bool) : Option Bool :=
 if ((!decide (x3.1 = v.1)) || (!(x3.2.1 == v.2))) = true then
  some false
 else
  lt (R_KnownCode k0) fun x7 =>
  ob (
   if ((decide (x5.Code = 0)) && (!decide (x7 = 0))) = true then
    lt (R_KnownCode k0) fun x8 =>
    lt (R_F x8 (-1)) fun x9 =>
    some x9
   else
    some x5) fun (v1 : Fault) =>
  ob (if (decide (v1.Code = 0)) = true then (R_Learnt_v1 l k0) else some default) fun x10 =>
  ob (
   if ((decide (v1.Code = 0)) && (decide (200 < (x10.length : Int)))) = true then
    lt (R_F 2 (-2)) fun x11 =>
    some x11
   else
    some v1) fun (v2 : Fault) =>
  ob (law_knownAs x4.1 x4.2 v2 l k0) fun x12 =>
  some x12
noncomputable def law_LocateDoes_B1 (l : List Known) (row : List UInt8) (k0 : Known) (x3 : Int × Bool × Fault) (x4 : List Known × Fault) (x5 : Fault) (v3 : Int × Bool × Int) : Option ((Int × Bool × Int) ⊕ Bool) :=
 if ((decide (v3.2.2 < (l.length : Int))) && (decide (x5.Code = 0))) = true then
  asrt (0 ≤ v3.2.2 ∧ v3.2.2 < (l.length : Int)) <|
  lt (R_InPart (⟨((lget l v3.2.2).Part).From, ((lget l v3.2.2).Part).To, ((lget l v3.2.2).Part).ID⟩ : Part) row) fun x13 =>
  ob (
   if x13 = true then
    some (v3.2.2, true)
   else
    some (v3.1, v3.2.1)) fun (v4 : Int × Bool) =>
  some (Sum.inl (v4.1, v4.2, w64 (v3.2.2 + 1)))
 else
  inrO (law_LocateDoes_J1 l k0 x3 x4 x5 (v3.1, v3.2.1))
noncomputable def law_LocateDoes_L1 (l : List Known) (row : List UInt8) (k0 : Known) (x3 : Int × Bool × Fault) (x4 : List Known × Fault) (x5 : Fault) (v0 : Int × Bool × Int) : Option Bool :=
 loopO (fun y => law_LocateDoes_B1 l row k0 x3 x4 x5 y) v0
noncomputable def law_LocateDoes (l : List Known) (row : List UInt8) (k0 : Known) : Option Bool :=
 ob (law_locateBegun) fun x =>
 if (!x) = true then
  some false
 else
  if (decide (400 < (l.length : Int))) = true then
   some true
  else
   ob (law_ownKnown_v1 l) fun x1 =>
   ob (locate_Check x1) fun x2 =>
   ob (locate_Look x1 row) fun x3 =>
   ob (locate_Learn_v1 x1 k0) fun x4 =>
   ob (R_KnownFault l) fun x5 =>
   ob (R_SameKnown x1 l) fun x6 =>
   if (((!x6) || (!(decide (x2.Code = x5.Code) && (decide (x2.At = x5.At) && true)))) || (!(decide (x3.2.2.Code = x5.Code) && (decide (x3.2.2.At = x5.At) && true)))) = true then
    some false
   else
    law_LocateDoes_L1 l row k0 x3 x4 x5 (0, false, 0)
theorem law_LocateDoes_ok (l : List Known) (row : List UInt8) (k0 : Known) (r : Bool) (hF : law_LocateDoes l row k0 = some r) : Pe Try.prog 8 S.none [.sl 5 (l.map e_Known), .str row, .agg (c_Known k0)] (.bool r) S.none := by
 refine Pe_of (N := 110) (res := [.tmp 6]) (ts := [4]) Ty.ok Fn.b8 Try.func8 rfl rfl rfl rfl rfl rfl ?_
 intro Q g hfin
 unfold law_LocateDoes at hF
 refine URs [] [1, 3, 5] [3, 5] [] [] [(3, .ptr 3 0), (5, .ptr 5 0)] [(3, [.sl 5 (l.map e_Known)]), (5, (c_Known k0))] [] [] .nil ?_
 refine Wk_seq ?_
 refine Wk_seq ?_
 obtain ⟨x, h0, hF⟩ := ob_elim hF
 refine ZR [.callB (.bool x)] [1, 3, 5, 19] [3, 5] [] [(19, .bool (!x))] (.cons (law_locateBegun_ok  x h0) .nil) ?_
 refine Wk_split rfl (fun hb => ?_) (fun hb => ?_)
 ·have hF := ite_t hF hb
  refine ZRs [] [6] [] [] [(6, .bool false)] .nil ?_
  have hF := some_elim hF
  exact Wk_ret (hfin _ ⟨[], [], [], [], [], [], by first | (rw [← hF]; kernel_rfl) | kernel_rfl⟩)
 ·have hF := ite_f hF hb
  refine Wk_skip ?_
  refine Wk_seq ?_
  refine ZRs [.nat (l.length : Int)] [1, 3, 5, 22] [3, 5] [] [(22, .bool (decide (400 < (l.length : Int))))] (.cons (len_ok e_Known l) .nil) ?_
  refine Wk_split rfl (fun hb => ?_) (fun hb => ?_)
  ·have hF := ite_t hF hb
   refine ZRs [] [6] [] [] [(6, .bool true)] .nil ?_
   have hF := some_elim hF
   exact Wk_ret (hfin _ ⟨[], [], [], [], [], [], by first | (rw [← hF]; kernel_rfl) | kernel_rfl⟩)
  ·have hF := ite_f hF hb
   refine Wk_skip ?_
   refine Wk_seq ?_
   obtain ⟨x1, h1, hF⟩ := ob_elim hF
   refine ZR [.call (.sl 5 (x1.map e_Known))] [1, 3, 5, 7] [3, 5] [] [(7, .sl 5 (x1.map e_Known))] (.cons (law_ownKnown_v1_ok l x1 h1) .nil) ?_
   refine Wk_seq ?_
   obtain ⟨x2, h2, hF⟩ := ob_elim hF
   refine UR [.callB (.agg [.i x2.Code, .i x2.At])] [1, 3, 5, 7, 8] [3, 5, 8] [] [] [(8, .ptr 8 0)] [(8, [.i x2.Code, .i x2.At])] [] [] (.cons (locate_Check_ok x1 x2 h2) .nil) ?_
   refine Wk_seq ?_
   obtain ⟨x3, h3, hF⟩ := ob_elim hF
   refine UR [.callB (.tup [.i x3.1, .bool x3.2.1, .agg [.i x3.2.2.Code, .i x3.2.2.At]])] [1, 3, 5, 7, 8, 9, 10, 11] [3, 5, 8, 11] [] [] [(9, .i x3.1), (10, .bool x3.2.1), (11, .ptr 11 0)] [(11, [.i x3.2.2.Code, .i x3.2.2.At])] [] [] (.cons (locate_Look_ok x1 row x3 h3) .nil) ?_
   refine Wk_seq ?_
   obtain ⟨x4, h4, hF⟩ := ob_elim hF
   refine UR [.call (.tup [.sl 5 (x4.1.map e_Known), .agg [.i x4.2.Code, .i x4.2.At]])] [1, 3, 5, 7, 8, 9, 10, 11, 12, 13] [3, 5, 8, 11, 13] [] [] [(12, .sl 5 (x4.1.map e_Known)), (13, .ptr 13 0)] [(13, [.i x4.2.Code, .i x4.2.At])] [] [] (.cons (locate_Learn_v1_ok x1 k0 x4 h4) .nil) ?_
   refine Wk_seq ?_
   obtain ⟨x5, h5, hF⟩ := ob_elim hF
   refine UR [.callB (.agg [.i x5.Code, .i x5.At])] [1, 3, 5, 7, 8, 9, 10, 11, 12, 13, 14] [3, 5, 8, 11, 13, 14] [] [] [(14, .ptr 14 0)] [(14, [.i x5.Code, .i x5.At])] [] [] (.cons (R_KnownFault_ok l x5 h5) .nil) ?_
   refine Wk_seq ?_
   refine Wk_seq ?_
   obtain ⟨x6, h6, hF⟩ := ob_elim hF
   refine ZR [.callB (.bool x6)] [1, 3, 5, 9, 10, 12, 13, 14, 55] [3, 5, 13, 14] [] [(55, .bool (((!x6) || (!(decide (x2.Code = x5.Code) && (decide (x2.At = x5.At) && true)))) || (!(decide (x3.2.2.Code = x5.Code) && (decide (x3.2.2.At = x5.At) && true)))))] (.cons (R_SameKnown_ok x1 l x6 h6) .nil) ?_
   refine Wk_split rfl (fun hb => ?_) (fun hb => ?_)
   ·have hF := ite_t hF hb
    refine ZRs [] [6] [] [] [(6, .bool false)] .nil ?_
    have hF := some_elim hF
    exact Wk_ret (hfin _ ⟨[], [], [], [], [], [], by first | (rw [← hF]; kernel_rfl) | kernel_rfl⟩)
   ·have hF := ite_f hF hb
    refine Wk_skip ?_
    refine ZRs [] [1, 3, 5, 9, 10, 12, 13, 14, 15, 16] [3, 5, 13, 14] [] [(15, .i 0), (16, .bool false)] .nil ?_
    refine Wk_seq ?_
    refine ZRs [] [1, 3, 5, 9, 10, 12, 13, 14, 15, 16, 17] [3, 5, 13, 14] [] [(17, .i 0)] .nil ?_
    refine Wk_meetP (fun v : Int × Bool => (⟨[(3, .ptr 3 0), (5, .ptr 5 0), (9, .i x3.1), (10, .bool x3.2.1), (12, .sl 5 (x4.1.map e_Known)), (13, .ptr 13 0), (14, .ptr 14 0), (15, .i v.1), (16, .bool v.2)], [(3, [.sl 5 (l.map e_Known)]), (5, (c_Known k0)), (13, [.i x4.2.Code, .i x4.2.At]), (14, [.i x5.Code, .i x5.At])], [], [], []⟩ : S)) (fun v => law_LocateDoes_J1 l k0 x3 x4 x5 v = some r) ?_ ?_
    ·refine Wk_block ?_
     unfold law_LocateDoes_L1 at hF
     refine Wk_trim (fs := [1, 3, 5, 9, 10, 12, 13, 14, 15, 16, 17]) (bs := [3, 5, 13, 14]) (rs := []) (ms := []) (aa := []) (nv := []) (t := (fun v3 : Int × Bool × Int => (⟨[(1, .str row), (3, .ptr 3 0), (5, .ptr 5 0), (9, .i x3.1), (10, .bool x3.2.1), (12, .sl 5 (x4.1.map e_Known)), (13, .ptr 13 0), (14, .ptr 14 0), (15, .i v3.1), (16, .bool v3.2.1), (17, .i v3.2.2)], [(3, [.sl 5 (l.map e_Known)]), (5, (c_Known k0)), (13, [.i x4.2.Code, .i x4.2.At]), (14, [.i x5.Code, .i x5.At])], [], [], []⟩ : S)) (0, false, 0)) (by kernel_rfl) ?_
     refine Wk_iter (step := fun y => law_LocateDoes_B1 l row k0 x3 x4 x5 y) (r := r) (fun v3 : Int × Bool × Int => (⟨[(1, .str row), (3, .ptr 3 0), (5, .ptr 5 0), (9, .i x3.1), (10, .bool x3.2.1), (12, .sl 5 (x4.1.map e_Known)), (13, .ptr 13 0), (14, .ptr 14 0), (15, .i v3.1), (16, .bool v3.2.1), (17, .i v3.2.2)], [(3, [.sl 5 (l.map e_Known)]), (5, (c_Known k0)), (13, [.i x4.2.Code, .i x4.2.At]), (14, [.i x5.Code, .i x5.At])], [], [], []⟩ : S)) (0, false, 0) hF ?_
     intro n1 v3 y1 hF ih1 dn1
     have hF : law_LocateDoes_B1 l row k0 x3 x4 x5 v3 = some y1 := hF
     unfold law_LocateDoes_B1 at hF
     refine Wk_seq ?_
     refine ZRs [.nat (l.length : Int)] [1, 3, 5, 9, 10, 12, 13, 14, 15, 16, 17, 64] [3, 5, 13, 14] [] [(64, .bool ((decide (v3.2.2 < (l.length : Int))) && (decide (x5.Code = 0))))] (.cons (len_ok e_Known l) .nil) ?_
     refine Wk_split rfl (fun hb => ?_) (fun hb => ?_)
     ·have hF := ite_t hF hb
      refine Wk_skip ?_
      refine Wk_seq ?_
      refine Wk_block ?_
      refine Wk_seq ?_
      obtain ⟨h13, hF⟩ := asrt_elim hF
      obtain ⟨x13, h14, hF⟩ := lt_split hF
      refine ZR [.av (e_Known (lget l v3.2.2)), .callB (.bool x13)] [1, 3, 5, 9, 10, 12, 13, 14, 15, 16, 17, 73] [3, 5, 13, 14] [] [(73, .bool x13)] (.cons (idx_ok e_Known h13) (.cons (R_InPart_ok (⟨((lget l v3.2.2).Part).From, ((lget l v3.2.2).Part).To, ((lget l v3.2.2).Part).ID⟩ : Part) row x13 h14) .nil)) ?_
      obtain ⟨v4, hv, hF⟩ := ob_elim hF
      refine Wk_meet (⟨[(1, .str row), (3, .ptr 3 0), (5, .ptr 5 0), (9, .i x3.1), (10, .bool x3.2.1), (12, .sl 5 (x4.1.map e_Known)), (13, .ptr 13 0), (14, .ptr 14 0), (15, .i v4.1), (16, .bool v4.2), (17, .i v3.2.2)], [(3, [.sl 5 (l.map e_Known)]), (5, (c_Known k0)), (13, [.i x4.2.Code, .i x4.2.At]), (14, [.i x5.Code, .i x5.At])], [], [], []⟩ : S) ?_ ?_
      ·have hF := hv
       refine Wk_split rfl (fun hb => ?_) (fun hb => ?_)
       ·have hF := ite_t hF hb
        refine ZR [] [1, 3, 5, 9, 10, 12, 13, 14, 15, 16, 17] [3, 5, 13, 14] [] [(15, .i v3.2.2), (16, .bool true)] .nil ?_
        exact Wk_met (fs := [1, 3, 5, 9, 10, 12, 13, 14, 15, 16, 17]) (bs := [3, 5, 13, 14]) (rs := []) (ms := []) (aa := []) (nv := []) (by first | (rw [← some_elim hF]; kernel_rfl) | kernel_rfl)
       ·have hF := ite_f hF hb
        refine Wk_skip ?_
        exact Wk_met (fs := [1, 3, 5, 9, 10, 12, 13, 14, 15, 16, 17]) (bs := [3, 5, 13, 14]) (rs := []) (ms := []) (aa := []) (nv := []) (by first | (rw [← some_elim hF]; kernel_rfl) | kernel_rfl)
      ·refine Wk_blk ?_
       refine ZR [] [1, 3, 5, 9, 10, 12, 13, 14, 15, 16, 17] [3, 5, 13, 14] [] [(17, .i (w64 (v3.2.2 + 1)))] .nil ?_
       refine Wk_trim (fs := [1, 3, 5, 9, 10, 12, 13, 14, 15, 16, 17]) (bs := [3, 5, 13, 14]) (rs := []) (ms := []) (aa := []) (nv := []) ?_ (ih1 _ (some_elim hF).symm)
       kernel_rfl
     ·have hF := ite_f hF hb
      refine Wk_exit rfl ?_
      have hF := inrO_done hF dn1
      exact Wk_metP (v3.1, v3.2.1) [3, 5, 9, 10, 12, 13, 14, 15, 16] [3, 5, 13, 14] [] [] [] [] hF (by kernel_rfl)
    ·intro v hF
     have hF : law_LocateDoes_J1 l k0 x3 x4 x5 v = some r := hF
     unfold law_LocateDoes_J1 at hF
     refine Wk_seq ?_
     refine ZRs [] [3, 5, 12, 13, 14, 82] [3, 5, 13, 14] [] [(82, .bool ((!decide (x3.1 = v.1)) || (!(x3.2.1 == v.2))))] .nil ?_
     refine Wk_split rfl (fun hb => ?_) (fun hb => ?_)
     ·have hF := ite_t hF hb
      refine ZRs [] [6] [] [] [(6, .bool false)] .nil ?_
      have hF := some_elim hF
      exact Wk_ret (hfin _ ⟨[], [], [], [], [], [], by first | (rw [← hF]; kernel_rfl) | kernel_rfl⟩)
     ·have hF := ite_f hF hb
      refine Wk_skip ?_
      refine Wk_seq ?_
      refine Wk_seq ?_
      obtain ⟨x7, h7, hF⟩ := lt_split hF
      refine ZR [.callB (.i x7)] [3, 5, 12, 13, 14, 90] [3, 5, 13, 14] [] [(90, .bool ((decide (x5.Code = 0)) && (!decide (x7 = 0))))] (.cons (fun (ga0 : (decide (x5.Code = 0)) = true) => (R_KnownCode_ok k0 x7 h7)) .nil) ?_
      obtain ⟨v1, hv, hF⟩ := ob_elim hF
      refine Wk_meet (⟨[(3, .ptr 3 0), (5, .ptr 5 0), (12, .sl 5 (x4.1.map e_Known)), (13, .ptr 13 0), (14, .ptr 14 0)], [(3, [.sl 5 (l.map e_Known)]), (5, (c_Known k0)), (13, [.i x4.2.Code, .i x4.2.At]), (14, [.i v1.Code, .i v1.At])], [], [], []⟩ : S) ?_ ?_
      ·have hF := hv
       refine Wk_split rfl (fun hb => ?_) (fun hb => ?_)
       ·have hF := ite_t hF hb
        obtain ⟨x8, h8, hF⟩ := lt_split hF
        obtain ⟨x9, h9, hF⟩ := lt_split hF
        refine UR [.callB (.i x8), .callB (.agg [.i x9.Code, .i x9.At])] [3, 5, 12, 13, 14] [3, 5, 13, 14] [] [] [] [(14, [.i x9.Code, .i x9.At])] [] [] (.cons (R_KnownCode_ok k0 x8 h8) (.cons (R_F_ok x8 (-1) x9 h9) .nil)) ?_
        exact Wk_met (fs := [3, 5, 12, 13, 14]) (bs := [3, 5, 13, 14]) (rs := []) (ms := []) (aa := []) (nv := []) (by first | (rw [← some_elim hF]; kernel_rfl) | kernel_rfl)
       ·have hF := ite_f hF hb
        refine Wk_skip ?_
        exact Wk_met (fs := [3, 5, 12, 13, 14]) (bs := [3, 5, 13, 14]) (rs := []) (ms := []) (aa := []) (nv := []) (by first | (rw [← some_elim hF]; kernel_rfl) | kernel_rfl)
      ·refine Wk_seq ?_
       refine Wk_seq ?_
       obtain ⟨x10, h10, hF⟩ := ob_elim hF
       refine ZR [.call (.sl 5 (x10.map e_Known)), .nat (x10.length : Int)] [3, 5, 12, 13, 14, 103] [3, 5, 13, 14] [] [(103, .bool ((decide (v1.Code = 0)) && (decide (200 < (x10.length : Int)))))] (.cons (fun (ga0 : (decide (v1.Code = 0)) = true) => (R_Learnt_v1_ok l k0 x10 (ite_t h10 ga0))) (.cons (fun (_ : (decide (v1.Code = 0)) = true) => (len_ok e_Known x10)) .nil)) ?_
       obtain ⟨v2, hv, hF⟩ := ob_elim hF
       refine Wk_meet (⟨[(3, .ptr 3 0), (5, .ptr 5 0), (12, .sl 5 (x4.1.map e_Known)), (13, .ptr 13 0), (14, .ptr 14 0)], [(3, [.sl 5 (l.map e_Known)]), (5, (c_Known k0)), (13, [.i x4.2.Code, .i x4.2.At]), (14, [.i v2.Code, .i v2.At])], [], [], []⟩ : S) ?_ ?_
       ·have hF := hv
        refine Wk_split rfl (fun hb => ?_) (fun hb => ?_)
        ·have hF := ite_t hF hb
         obtain ⟨x11, h11, hF⟩ := lt_split hF
         refine UR [.callB (.agg [.i x11.Code, .i x11.At])] [3, 5, 12, 13, 14] [3, 5, 13, 14] [] [] [] [(14, [.i x11.Code, .i x11.At])] [] [] (.cons (R_F_ok 2 (-2) x11 h11) .nil) ?_
         exact Wk_met (fs := [3, 5, 12, 13, 14]) (bs := [3, 5, 13, 14]) (rs := []) (ms := []) (aa := []) (nv := []) (by first | (rw [← some_elim hF]; kernel_rfl) | kernel_rfl)
        ·have hF := ite_f hF hb
         refine Wk_skip ?_
         exact Wk_met (fs := [3, 5, 12, 13, 14]) (bs := [3, 5, 13, 14]) (rs := []) (ms := []) (aa := []) (nv := []) (by first | (rw [← some_elim hF]; kernel_rfl) | kernel_rfl)
       ·refine Wk_seq ?_
        obtain ⟨x12, h12, hF⟩ := ob_elim hF
        refine ZR [.callR [3, 5] [] [] [] (.bool x12)] [6] [] [] [(6, .bool x12)] (.cons (Pe.ren (law_knownAs_ok x4.1 x4.2 v2 l k0 x12 h12) ⟨[(100000, 3), (100001, 5)], [], [], []⟩) .nil) ?_
        have hF := some_elim hF
        exact Wk_ret (hfin _ ⟨[], [], [], [], [], [], by first | (rw [← hF]; kernel_rfl) | kernel_rfl⟩)

end G
end Go.Proofs.Ytdjlninhfndjfaa
