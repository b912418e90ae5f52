/- The program's functions as plain functions, and that they are these. Written by a program (dec2.py). -/
import Derived.Test.YtdjlninhfndjfaaGf2
namespace Go.Proofs.Ytdjlninhfndjfaa
open Go Go.Dm
set_option linter.unusedVariables false
set_option linter.unusedSimpArgs false
set_option maxRecDepth 100000
namespace G
/- tabularylaw.AssignKeeps -/
noncomputable def law_AssignKeeps_J1 (v : Unit) : Option Bool :=
 some true
noncomputable def law_AssignKeeps_J2 (v1 : (List (Int × Int)) × (List (Int × Int)) × Board × Int) (v2 : (List (Int × Int)) × (List (Int × Int)) × Board) : Option (((List (Int × Int)) × (List (Int × Int)) × Board × Int) ⊕ Bool) :=
 some (Sum.inl (v2.1, v2.2.1, v2.2.2, w64 (v1.2.2.2 + 1)))
noncomputable def law_AssignKeeps_J3 (v1 : (List (Int × Int)) × (List (Int × Int)) × Board × Int) (x2 : Board × Fault) (v3 : (List (Int × Int)) × (List (Int × Int)) × Int) : Option (((List (Int × Int)) × (List (Int × Int)) × Board × Int) ⊕ Bool) :=
 if (!decide (v3.2.2 = 1)) = true then
  some (Sum.inr false)
 else
  law_AssignKeeps_J2 v1 (v3.1, v3.2.1, x2.1)
noncomputable def law_AssignKeeps_J4 (v4 : (List (Int × Int)) × (List (Int × Int)) × Int × Int) (v5 : (List (Int × Int)) × (List (Int × Int)) × Int) : Option (((List (Int × Int)) × (List (Int × Int)) × Int × Int) ⊕ (((List (Int × Int)) × (List (Int × Int)) × Board × Int) ⊕ Bool)) :=
 some (Sum.inl (v5.1, v5.2.1, v5.2.2, w64 (v4.2.2.2 + 1)))
noncomputable def law_AssignKeeps_B2 (row : List UInt8) (v1 : (List (Int × Int)) × (List (Int × Int)) × Board × Int) (x2 : Board × Fault) (v4 : (List (Int × Int)) × (List (Int × Int)) × Int × Int) : Option (((List (Int × Int)) × (List (Int × Int)) × Int × Int) ⊕ (((List (Int × Int)) × (List (Int × Int)) × Board × Int) ⊕ Bool)) :=
 if (decide (v4.2.2.2 < (x2.1.Slots.length : Int))) = true then
  asrt (0 ≤ v4.2.2.2 ∧ v4.2.2.2 < (x2.1.Slots.length : Int)) <|
  lt (R_InPart (⟨((lget x2.1.Slots v4.2.2.2).Part).From, ((lget x2.1.Slots v4.2.2.2).Part).To, ((lget x2.1.Slots v4.2.2.2).Part).ID⟩ : Part) row) fun x5 =>
  ob (
   if x5 = true then
    some (w64 (v4.2.2.1 + 1))
   else
    some v4.2.2.1) fun (v6 : Int) =>
  if (decide (((lget x2.1.Slots v4.2.2.2).State) = 0)) = true then
   law_AssignKeeps_J4 v4 (v4.1, v4.2.1, v6)
  else
   ob (if (!(((mget v4.1 ((lget x2.1.Slots v4.2.2.2).Turn)).isSome) && ((!decide (((mget v4.1 ((lget x2.1.Slots v4.2.2.2).Turn)).getD (0 : Int)) = ((lget x2.1.Slots v4.2.2.2).Host))) || (!decide (((mget v4.2.1 ((lget x2.1.Slots v4.2.2.2).Turn)).getD (0 : Int)) = (((lget x2.1.Slots v4.2.2.2).Part).ID)))))) = true then (R_HostIn x2.1 ((lget x2.1.Slots v4.2.2.2).Host) true) else some default) fun x6 =>
   if ((((mget v4.1 ((lget x2.1.Slots v4.2.2.2).Turn)).isSome) && ((!decide (((mget v4.1 ((lget x2.1.Slots v4.2.2.2).Turn)).getD (0 : Int)) = ((lget x2.1.Slots v4.2.2.2).Host))) || (!decide (((mget v4.2.1 ((lget x2.1.Slots v4.2.2.2).Turn)).getD (0 : Int)) = (((lget x2.1.Slots v4.2.2.2).Part).ID))))) || (decide (x6 < 0))) = true then
    some (Sum.inr (Sum.inr false))
   else
    lt ((mput v4.1 ((lget x2.1.Slots v4.2.2.2).Turn) ((lget x2.1.Slots v4.2.2.2).Host : Int))) fun (v7 : (List (Int × Int))) =>
    lt ((mput v4.2.1 ((lget x2.1.Slots v4.2.2.2).Turn) (((lget x2.1.Slots v4.2.2.2).Part).ID : Int))) fun (v8 : (List (Int × Int))) =>
    law_AssignKeeps_J4 v4 (v7, v8, v6)
 else
  inrO (law_AssignKeeps_J3 v1 x2 (v4.1, v4.2.1, v4.2.2.1))
noncomputable def law_AssignKeeps_L2 (row : List UInt8) (v1 : (List (Int × Int)) × (List (Int × Int)) × Board × Int) (x2 : Board × Fault) (v0 : (List (Int × Int)) × (List (Int × Int)) × Int × Int) : Option (((List (Int × Int)) × (List (Int × Int)) × Board × Int) ⊕ Bool) :=
 loopO (fun y => law_AssignKeeps_B2 row v1 x2 y) v0
noncomputable def law_AssignKeeps_B1 (orders : List Order) (row : List UInt8) (v1 : (List (Int × Int)) × (List (Int × Int)) × Board × Int) : Option (((List (Int × Int)) × (List (Int × Int)) × Board × Int) ⊕ Bool) :=
 if (decide (v1.2.2.2 < (orders.length : Int))) = true then
  asrt (0 ≤ v1.2.2.2 ∧ v1.2.2.2 < (orders.length : Int)) <|
  ob (assign_Do_v1 v1.2.2.1 (⟨(lget orders v1.2.2.2).Kind, (lget orders v1.2.2.2).ID, (lget orders v1.2.2.2).Host, (lget orders v1.2.2.2).Turn, (lget orders v1.2.2.2).Row⟩ : Order)) fun x2 =>
  if (!decide (x2.2.Code = 0)) = true then
   law_AssignKeeps_J2 v1 (v1.1, v1.2.1, v1.2.2.1)
  else
   asrt (0 ≤ v1.2.2.2 ∧ v1.2.2.2 < (orders.length : Int)) <|
   ob (assign_Do_v1 x2.1 (⟨(lget orders v1.2.2.2).Kind, (lget orders v1.2.2.2).ID, (lget orders v1.2.2.2).Host, (lget orders v1.2.2.2).Turn, (lget orders v1.2.2.2).Row⟩ : Order)) fun x3 =>
   ob (if (!(((decide (x3.2.Code = 0)) || (decide (x2.1.Turn < v1.2.2.1.Turn))) || (decide (x2.1.Next < v1.2.2.1.Next)))) = true then (R_BoardFault x2.1) else some default) fun x4 =>
   if ((((decide (x3.2.Code = 0)) || (decide (x2.1.Turn < v1.2.2.1.Turn))) || (decide (x2.1.Next < v1.2.2.1.Next))) || (!decide (x4.Code = 0))) = true then
    some (Sum.inr false)
   else
    law_AssignKeeps_L2 row v1 x2 (v1.1, v1.2.1, 0, 0)
 else
  inrO (law_AssignKeeps_J1 ())
noncomputable def law_AssignKeeps_L1 (orders : List Order) (row : List UInt8) (v0 : (List (Int × Int)) × (List (Int × Int)) × Board × Int) : Option Bool :=
 loopO (fun y => law_AssignKeeps_B1 orders row y) v0
noncomputable def law_AssignKeeps (orders : List Order) (row : List UInt8) : Option Bool :=
 ob (law_assignBegun) fun x =>
 if (!x) = true then
  some false
 else
  if (decide (150 < (orders.length : Int))) = true then
   some true
  else
   lt (assign_New_v1) fun x1 =>
   law_AssignKeeps_L1 orders row (([] : List (Int × Int)), ([] : List (Int × Int)), x1, 0)
theorem law_AssignKeeps_ok (orders : List Order) (row : List UInt8) (r : Bool) (hF : law_AssignKeeps orders row = some r) : Pe Try.prog 10 S.none [.sl 5 (orders.map e_Order), .str row] (.bool r) S.none := by
 refine Pe_of (N := 142) (res := [.tmp 4]) (ts := [4]) Ty.ok Fn.b10 Try.func10 rfl rfl rfl rfl rfl rfl ?_
 intro Q g hfin
 unfold law_AssignKeeps at hF
 refine ZRs [] [0, 1] [] [] [] .nil ?_
 refine Wk_seq ?_
 refine Wk_seq ?_
 obtain ⟨x, h0, hF⟩ := ob_elim hF
 refine ZR [.callB (.bool x)] [0, 1, 19] [] [] [(19, .bool (!x))] (.cons (law_assignBegun_ok  x h0) .nil) ?_
 refine Wk_split rfl (fun hb => ?_) (fun hb => ?_)
 ·have hF := ite_t hF hb
  refine ZRs [] [4] [] [] [(4, .bool false)] .nil ?_
  have hF := some_elim hF
  exact Wk_ret (hfin _ ⟨[], [], [], [], [], [], by first | (rw [← hF]; kernel_rfl) | kernel_rfl⟩)
 ·have hF := ite_f hF hb
  refine Wk_skip ?_
  refine Wk_seq ?_
  refine ZRs [.nat (orders.length : Int)] [0, 1, 22] [] [] [(22, .bool (decide (150 < (orders.length : Int))))] (.cons (len_ok e_Order orders) .nil) ?_
  refine Wk_split rfl (fun hb => ?_) (fun hb => ?_)
  ·have hF := ite_t hF hb
   refine ZRs [] [4] [] [] [(4, .bool true)] .nil ?_
   have hF := some_elim hF
   exact Wk_ret (hfin _ ⟨[], [], [], [], [], [], by first | (rw [← hF]; kernel_rfl) | kernel_rfl⟩)
  ·have hF := ite_f hF hb
   refine Wk_skip ?_
   refine URs [] [0, 1, 5] [] [] [23] [(5, .mp 23)] [] [] [(23, (([] : List (Int × Int)).map (fun p => (e_i64 p.1, e_i64 p.2))))] .nil ?_
   refine URs [] [0, 1, 5, 6] [] [] [23, 24] [(6, .mp 24)] [] [] [(24, (([] : List (Int × Int)).map (fun p => (e_i64 p.1, e_i64 p.2))))] .nil ?_
   refine Wk_seq ?_
   obtain ⟨x1, h1, hF⟩ := lt_split hF
   refine UR [.call (.agg (c_Board x1))] [0, 1, 5, 6, 7] [7] [] [23, 24] [(7, .ptr 7 0)] [(7, (c_Board x1))] [] [] (.cons (assign_New_v1_ok  x1 h1) .nil) ?_
   refine Wk_seq ?_
   refine URs [] [0, 1, 5, 6, 7, 8] [7] [] [23, 24] [(8, .i 0)] [] [] [] .nil ?_
   refine Wk_meetP (fun v : Unit => (⟨[], [], [], [], []⟩ : S)) (fun v => law_AssignKeeps_J1 v = some r) ?_ ?_
   ·refine Wk_block ?_
    unfold law_AssignKeeps_L1 at hF
    refine Wk_trim (fs := [0, 1, 5, 6, 7, 8]) (bs := [7]) (rs := []) (ms := [23, 24]) (aa := []) (nv := []) (t := (fun v1 : (List (Int × Int)) × (List (Int × Int)) × Board × Int => (⟨[(0, .sl 5 (orders.map e_Order)), (1, .str row), (5, .mp 23), (6, .mp 24), (7, .ptr 7 0), (8, .i v1.2.2.2)], [(7, (c_Board v1.2.2.1))], [], [(23, (v1.1.map (fun p => (e_i64 p.1, e_i64 p.2)))), (24, (v1.2.1.map (fun p => (e_i64 p.1, e_i64 p.2))))], []⟩ : S)) (([] : List (Int × Int)), ([] : List (Int × Int)), x1, 0)) (by kernel_rfl) ?_
    refine Wk_iter (step := fun y => law_AssignKeeps_B1 orders row y) (r := r) (fun v1 : (List (Int × Int)) × (List (Int × Int)) × Board × Int => (⟨[(0, .sl 5 (orders.map e_Order)), (1, .str row), (5, .mp 23), (6, .mp 24), (7, .ptr 7 0), (8, .i v1.2.2.2)], [(7, (c_Board v1.2.2.1))], [], [(23, (v1.1.map (fun p => (e_i64 p.1, e_i64 p.2)))), (24, (v1.2.1.map (fun p => (e_i64 p.1, e_i64 p.2))))], []⟩ : S)) (([] : List (Int × Int)), ([] : List (Int × Int)), x1, 0) hF ?_
    intro n1 v1 y1 hF ih1 dn1
    have hF : law_AssignKeeps_B1 orders row v1 = some y1 := hF
    unfold law_AssignKeeps_B1 at hF
    refine Wk_seq ?_
    refine URs [.nat (orders.length : Int)] [0, 1, 5, 6, 7, 8, 29] [7] [] [23, 24] [(29, .bool (decide (v1.2.2.2 < (orders.length : Int))))] [] [] [] (.cons (len_ok e_Order orders) .nil) ?_
    refine Wk_split rfl (fun hb => ?_) (fun hb => ?_)
    ·have hF := ite_t hF hb
     refine Wk_skip ?_
     refine Wk_seq ?_
     refine Wk_meetP (fun v2 : (List (Int × Int)) × (List (Int × Int)) × Board => (⟨[(0, .sl 5 (orders.map e_Order)), (1, .str row), (5, .mp 23), (6, .mp 24), (7, .ptr 7 0), (8, .i v1.2.2.2)], [(7, (c_Board v2.2.2))], [], [(23, (v2.1.map (fun p => (e_i64 p.1, e_i64 p.2)))), (24, (v2.2.1.map (fun p => (e_i64 p.1, e_i64 p.2))))], []⟩ : S)) (fun v2 => law_AssignKeeps_J2 v1 v2 = some y1) ?_ ?_
     ·refine Wk_block ?_
      refine Wk_seq ?_
      obtain ⟨h2, hF⟩ := asrt_elim hF
      obtain ⟨x2, h3, hF⟩ := ob_elim hF
      refine UD [.av (e_Order (lget orders v1.2.2.2)), .call (.tup [.agg (c_Board x2.1), .agg [.i x2.2.Code, .i x2.2.At]])] [0, 1, 5, 6, 7, 8, 9, 10] [7, 9, 10] [] [23, 24] [(9, .ptr 9 0), (10, .ptr 10 0)] [(9, (c_Board x2.1)), (10, [.i x2.2.Code, .i x2.2.At])] [] [] (.cons (idx_ok e_Order h2) (.cons (assign_Do_v1_ok v1.2.2.1 (⟨(lget orders v1.2.2.2).Kind, (lget orders v1.2.2.2).ID, (lget orders v1.2.2.2).Host, (lget orders v1.2.2.2).Turn, (lget orders v1.2.2.2).Row⟩ : Order) x2 h3) .nil)) ?_
      refine Wk_seq ?_
      refine URs [] [0, 1, 5, 6, 7, 8, 9, 43] [7, 9] [] [23, 24] [(43, .bool (!decide (x2.2.Code = 0)))] [] [] [] .nil ?_
      refine Wk_split rfl (fun hb => ?_) (fun hb => ?_)
      ·have hF := ite_t hF hb
       refine Wk_exit rfl ?_
       exact Wk_metP (v1.1, v1.2.1, v1.2.2.1) [0, 1, 5, 6, 7, 8] [7] [] [23, 24] [] [] hF (by kernel_rfl)
      ·have hF := ite_f hF hb
       refine Wk_skip ?_
       refine Wk_seq ?_
       obtain ⟨h4, hF⟩ := asrt_elim hF
       obtain ⟨x3, h5, hF⟩ := ob_elim hF
       refine UD [.av (e_Order (lget orders v1.2.2.2)), .call (.tup [.agg (c_Board x3.1), .agg [.i x3.2.Code, .i x3.2.At]])] [0, 1, 5, 6, 7, 8, 9, 12] [7, 9, 12] [] [23, 24] [(12, .ptr 12 0)] [(12, [.i x3.2.Code, .i x3.2.At])] [] [] (.cons (idx_ok e_Order h4) (.cons (assign_Do_v1_ok x2.1 (⟨(lget orders v1.2.2.2).Kind, (lget orders v1.2.2.2).ID, (lget orders v1.2.2.2).Host, (lget orders v1.2.2.2).Turn, (lget orders v1.2.2.2).Row⟩ : Order) x3 h5) .nil)) ?_
       refine Wk_seq ?_
       refine Wk_seq ?_
       obtain ⟨x4, h6, hF⟩ := ob_elim hF
       refine UR [.callB (.agg [.i x4.Code, .i x4.At])] [0, 1, 5, 6, 7, 8, 9, 75] [7, 9] [] [23, 24] [(75, .bool ((((decide (x3.2.Code = 0)) || (decide (x2.1.Turn < v1.2.2.1.Turn))) || (decide (x2.1.Next < v1.2.2.1.Next))) || (!decide (x4.Code = 0))))] [] [] [] (.cons (fun (ga0 : (!(((decide (x3.2.Code = 0)) || (decide (x2.1.Turn < v1.2.2.1.Turn))) || (decide (x2.1.Next < v1.2.2.1.Next)))) = true) => (R_BoardFault_ok x2.1 x4 (ite_t h6 ga0))) .nil) ?_
       refine Wk_split rfl (fun hb => ?_) (fun hb => ?_)
       ·have hF := ite_t hF hb
        refine ZRs [] [4] [] [] [(4, .bool false)] .nil ?_
        have hF := ret_done hF dn1
        have hF := some_elim hF
        exact Wk_ret (hfin _ ⟨[], [], [], [], [], [], by first | (rw [← hF]; kernel_rfl) | kernel_rfl⟩)
       ·have hF := ite_f hF hb
        refine Wk_skip ?_
        refine URs [] [0, 1, 5, 6, 7, 8] [7] [] [23, 24] [] [(7, (c_Board x2.1))] [] [] .nil ?_
        refine URs [] [0, 1, 5, 6, 7, 8, 13] [7] [] [23, 24] [(13, .i 0)] [] [] [] .nil ?_
        refine Wk_seq ?_
        refine URs [] [0, 1, 5, 6, 7, 8, 13, 14] [7] [] [23, 24] [(14, .i 0)] [] [] [] .nil ?_
        refine Wk_meetP (fun v3 : (List (Int × Int)) × (List (Int × Int)) × Int => (⟨[(0, .sl 5 (orders.map e_Order)), (1, .str row), (5, .mp 23), (6, .mp 24), (7, .ptr 7 0), (8, .i v1.2.2.2), (13, .i v3.2.2)], [(7, (c_Board x2.1))], [], [(23, (v3.1.map (fun p => (e_i64 p.1, e_i64 p.2)))), (24, (v3.2.1.map (fun p => (e_i64 p.1, e_i64 p.2))))], []⟩ : S)) (fun v3 => law_AssignKeeps_J3 v1 x2 v3 = some y1) ?_ ?_
        ·refine Wk_block ?_
         unfold law_AssignKeeps_L2 at hF
         refine Wk_trim (fs := [0, 1, 5, 6, 7, 8, 13, 14]) (bs := [7]) (rs := []) (ms := [23, 24]) (aa := []) (nv := []) (t := (fun v4 : (List (Int × Int)) × (List (Int × Int)) × Int × Int => (⟨[(0, .sl 5 (orders.map e_Order)), (1, .str row), (5, .mp 23), (6, .mp 24), (7, .ptr 7 0), (8, .i v1.2.2.2), (13, .i v4.2.2.1), (14, .i v4.2.2.2)], [(7, (c_Board x2.1))], [], [(23, (v4.1.map (fun p => (e_i64 p.1, e_i64 p.2)))), (24, (v4.2.1.map (fun p => (e_i64 p.1, e_i64 p.2))))], []⟩ : S)) (v1.1, v1.2.1, 0, 0)) (by kernel_rfl) ?_
         refine Wk_iter (step := fun y => law_AssignKeeps_B2 row v1 x2 y) (r := y1) (fun v4 : (List (Int × Int)) × (List (Int × Int)) × Int × Int => (⟨[(0, .sl 5 (orders.map e_Order)), (1, .str row), (5, .mp 23), (6, .mp 24), (7, .ptr 7 0), (8, .i v1.2.2.2), (13, .i v4.2.2.1), (14, .i v4.2.2.2)], [(7, (c_Board x2.1))], [], [(23, (v4.1.map (fun p => (e_i64 p.1, e_i64 p.2)))), (24, (v4.2.1.map (fun p => (e_i64 p.1, e_i64 p.2))))], []⟩ : S)) (v1.1, v1.2.1, 0, 0) hF ?_
         intro n2 v4 y2 hF ih2 dn2
         have hF : law_AssignKeeps_B2 row v1 x2 v4 = some y2 := hF
         unfold law_AssignKeeps_B2 at hF
         refine Wk_seq ?_
         refine URs [.nat (x2.1.Slots.length : Int)] [0, 1, 5, 6, 7, 8, 13, 14, 81] [7] [] [23, 24] [(81, .bool (decide (v4.2.2.2 < (x2.1.Slots.length : Int))))] [] [] [] (.cons (len_ok e_Slot x2.1.Slots) .nil) ?_
         refine Wk_split rfl (fun hb => ?_) (fun hb => ?_)
         ·have hF := ite_t hF hb
          refine Wk_skip ?_
          refine Wk_seq ?_
          refine Wk_meetP (fun v5 : (List (Int × Int)) × (List (Int × Int)) × Int => (⟨[(0, .sl 5 (orders.map e_Order)), (1, .str row), (5, .mp 23), (6, .mp 24), (7, .ptr 7 0), (8, .i v1.2.2.2), (13, .i v5.2.2), (14, .i v4.2.2.2)], [(7, (c_Board x2.1))], [], [(23, (v5.1.map (fun p => (e_i64 p.1, e_i64 p.2)))), (24, (v5.2.1.map (fun p => (e_i64 p.1, e_i64 p.2))))], []⟩ : S)) (fun v5 => law_AssignKeeps_J4 v4 v5 = some y2) ?_ ?_
          ·refine Wk_block ?_
           refine Wk_seq ?_
           obtain ⟨h7, hF⟩ := asrt_elim hF
           refine UR [.av (e_Slot (lget x2.1.Slots v4.2.2.2))] [0, 1, 5, 6, 7, 8, 13, 14, 15] [7, 15] [] [23, 24] [(15, .ptr 15 0)] [(15, [.str (((lget x2.1.Slots v4.2.2.2).Part).From), .str (((lget x2.1.Slots v4.2.2.2).Part).To), .i (((lget x2.1.Slots v4.2.2.2).Part).ID), .i ((lget x2.1.Slots v4.2.2.2).State), .i ((lget x2.1.Slots v4.2.2.2).Host), .i ((lget x2.1.Slots v4.2.2.2).Turn)])] [] [] (.cons (idx_ok e_Slot h7) .nil) ?_
           refine Wk_seq ?_
           refine Wk_seq ?_
           obtain ⟨x5, h8, hF⟩ := lt_split hF
           refine UR [.callB (.bool x5)] [0, 1, 5, 6, 7, 8, 13, 14, 15, 92] [7, 15] [] [23, 24] [(92, .bool x5)] [] [] [] (.cons (R_InPart_ok (⟨((lget x2.1.Slots v4.2.2.2).Part).From, ((lget x2.1.Slots v4.2.2.2).Part).To, ((lget x2.1.Slots v4.2.2.2).Part).ID⟩ : Part) row x5 h8) .nil) ?_
           obtain ⟨v6, hv, hF⟩ := ob_elim hF
           refine Wk_meet (⟨[(0, .sl 5 (orders.map e_Order)), (1, .str row), (5, .mp 23), (6, .mp 24), (7, .ptr 7 0), (8, .i v1.2.2.2), (13, .i v6), (14, .i v4.2.2.2), (15, .ptr 15 0)], [(7, (c_Board x2.1)), (15, [.str (((lget x2.1.Slots v4.2.2.2).Part).From), .str (((lget x2.1.Slots v4.2.2.2).Part).To), .i (((lget x2.1.Slots v4.2.2.2).Part).ID), .i ((lget x2.1.Slots v4.2.2.2).State), .i ((lget x2.1.Slots v4.2.2.2).Host), .i ((lget x2.1.Slots v4.2.2.2).Turn)])], [], [(23, (v4.1.map (fun p => (e_i64 p.1, e_i64 p.2)))), (24, (v4.2.1.map (fun p => (e_i64 p.1, e_i64 p.2))))], []⟩ : S) ?_ ?_
           ·have hF := hv
            refine Wk_split rfl (fun hb => ?_) (fun hb => ?_)
            ·have hF := ite_t hF hb
             refine UR [] [0, 1, 5, 6, 7, 8, 13, 14, 15] [7, 15] [] [23, 24] [(13, .i (w64 (v4.2.2.1 + 1)))] [] [] [] .nil ?_
             exact Wk_met (fs := [0, 1, 5, 6, 7, 8, 13, 14, 15]) (bs := [7, 15]) (rs := []) (ms := [23, 24]) (aa := []) (nv := []) (by first | (rw [← some_elim hF]; kernel_rfl) | kernel_rfl)
            ·have hF := ite_f hF hb
             refine Wk_skip ?_
             exact Wk_met (fs := [0, 1, 5, 6, 7, 8, 13, 14, 15]) (bs := [7, 15]) (rs := []) (ms := [23, 24]) (aa := []) (nv := []) (by first | (rw [← some_elim hF]; kernel_rfl) | kernel_rfl)
           ·refine Wk_seq ?_
            refine URs [] [0, 1, 5, 6, 7, 8, 13, 14, 15, 97] [7, 15] [] [23, 24] [(97, .bool (decide (((lget x2.1.Slots v4.2.2.2).State) = 0)))] [] [] [] .nil ?_
            refine Wk_split rfl (fun hb => ?_) (fun hb => ?_)
            ·have hF := ite_t hF hb
             refine Wk_exit rfl ?_
             exact Wk_metP (v4.1, v4.2.1, v6) [0, 1, 5, 6, 7, 8, 13, 14] [7] [] [23, 24] [] [] hF (by kernel_rfl)
            ·have hF := ite_f hF hb
             refine Wk_skip ?_
             refine URs [.av (e_i64 ((mget v4.1 ((lget x2.1.Slots v4.2.2.2).Turn)).getD (0 : Int))), .bo ((mget v4.1 ((lget x2.1.Slots v4.2.2.2).Turn)).isSome)] [0, 1, 5, 6, 7, 8, 13, 14, 15, 16, 17] [7, 15] [] [23, 24] [(16, .i ((mget v4.1 ((lget x2.1.Slots v4.2.2.2).Turn)).getD (0 : Int))), (17, .bool ((mget v4.1 ((lget x2.1.Slots v4.2.2.2).Turn)).isSome))] [] [] [] (.cons (mkeys_ok (kenc_i64 : KEnc _ e_i64) e_i64 v4.1) (.cons (mlook_ok (kenc_i64 : KEnc _ e_i64) e_i64 v4.1 ((lget x2.1.Slots v4.2.2.2).Turn) (0 : Int)) (.cons (msome_ok (kenc_i64 : KEnc _ e_i64) e_i64 v4.1 ((lget x2.1.Slots v4.2.2.2).Turn)) .nil))) ?_
             refine Wk_seq ?_
             refine Wk_seq ?_
             obtain ⟨x6, h9, hF⟩ := ob_elim hF
             refine UR [.av (e_i64 ((mget v4.2.1 ((lget x2.1.Slots v4.2.2.2).Turn)).getD (0 : Int))), .bo ((mget v4.2.1 ((lget x2.1.Slots v4.2.2.2).Turn)).isSome), .callB (.i x6)] [0, 1, 5, 6, 7, 8, 13, 14, 15, 128] [7, 15] [] [23, 24] [(128, .bool ((((mget v4.1 ((lget x2.1.Slots v4.2.2.2).Turn)).isSome) && ((!decide (((mget v4.1 ((lget x2.1.Slots v4.2.2.2).Turn)).getD (0 : Int)) = ((lget x2.1.Slots v4.2.2.2).Host))) || (!decide (((mget v4.2.1 ((lget x2.1.Slots v4.2.2.2).Turn)).getD (0 : Int)) = (((lget x2.1.Slots v4.2.2.2).Part).ID))))) || (decide (x6 < 0))))] [] [] [] (.cons (fun (_ : (!(!decide (((mget v4.1 ((lget x2.1.Slots v4.2.2.2).Turn)).getD (0 : Int)) = ((lget x2.1.Slots v4.2.2.2).Host)))) = true) (_ : ((mget v4.1 ((lget x2.1.Slots v4.2.2.2).Turn)).isSome) = true) => (mkeys_ok (kenc_i64 : KEnc _ e_i64) e_i64 v4.2.1)) (.cons (fun (_ : (!(!decide (((mget v4.1 ((lget x2.1.Slots v4.2.2.2).Turn)).getD (0 : Int)) = ((lget x2.1.Slots v4.2.2.2).Host)))) = true) (_ : ((mget v4.1 ((lget x2.1.Slots v4.2.2.2).Turn)).isSome) = true) => (mlook_ok (kenc_i64 : KEnc _ e_i64) e_i64 v4.2.1 ((lget x2.1.Slots v4.2.2.2).Turn) (0 : Int))) (.cons (fun (_ : (!(!decide (((mget v4.1 ((lget x2.1.Slots v4.2.2.2).Turn)).getD (0 : Int)) = ((lget x2.1.Slots v4.2.2.2).Host)))) = true) (_ : ((mget v4.1 ((lget x2.1.Slots v4.2.2.2).Turn)).isSome) = true) => (msome_ok (kenc_i64 : KEnc _ e_i64) e_i64 v4.2.1 ((lget x2.1.Slots v4.2.2.2).Turn))) (.cons (fun (ga0 : (!(((mget v4.1 ((lget x2.1.Slots v4.2.2.2).Turn)).isSome) && ((!decide (((mget v4.1 ((lget x2.1.Slots v4.2.2.2).Turn)).getD (0 : Int)) = ((lget x2.1.Slots v4.2.2.2).Host))) || (!decide (((mget v4.2.1 ((lget x2.1.Slots v4.2.2.2).Turn)).getD (0 : Int)) = (((lget x2.1.Slots v4.2.2.2).Part).ID)))))) = true) => (R_HostIn_ok x2.1 ((lget x2.1.Slots v4.2.2.2).Host) true x6 (ite_t h9 ga0))) .nil)))) ?_
             refine Wk_split rfl (fun hb => ?_) (fun hb => ?_)
             ·have hF := ite_t hF hb
              refine ZRs [] [4] [] [] [(4, .bool false)] .nil ?_
              have hF := ret_done hF dn2
              have hF := ret_done hF dn1
              have hF := some_elim hF
              exact Wk_ret (hfin _ ⟨[], [], [], [], [], [], by first | (rw [← hF]; kernel_rfl) | kernel_rfl⟩)
             ·have hF := ite_f hF hb
              refine Wk_skip ?_
              refine Wk_seq ?_
              refine WRL ((mput v4.1 ((lget x2.1.Slots v4.2.2.2).Turn) ((lget x2.1.Slots v4.2.2.2).Host : Int))) (fun v7 : (List (Int × Int)) => ⟨[(0, .sl 5 (orders.map e_Order)), (1, .str row), (5, .mp 23), (6, .mp 24), (7, .ptr 7 0), (8, .i v1.2.2.2), (13, .i v6), (14, .i v4.2.2.2), (15, .ptr 15 0)], [(7, (c_Board x2.1)), (15, [.str (((lget x2.1.Slots v4.2.2.2).Part).From), .str (((lget x2.1.Slots v4.2.2.2).Part).To), .i (((lget x2.1.Slots v4.2.2.2).Part).ID), .i ((lget x2.1.Slots v4.2.2.2).State), .i ((lget x2.1.Slots v4.2.2.2).Host), .i ((lget x2.1.Slots v4.2.2.2).Turn)])], [], [(23, (v7.map (fun p => (e_i64 p.1, e_i64 p.2)))), (24, (v4.2.1.map (fun p => (e_i64 p.1, e_i64 p.2))))], []⟩) [.ms ((mput v4.1 ((lget x2.1.Slots v4.2.2.2).Turn) ((lget x2.1.Slots v4.2.2.2).Host : Int)).map (fun p => (e_i64 p.1, e_i64 p.2)))] [0, 1, 5, 6, 7, 8, 13, 14, 15] [7, 15] [] [23, 24] [] [] (.cons (mkeys_ok (kenc_i64 : KEnc _ e_i64) e_i64 v4.1) (.cons (mput_ok (kenc_i64 : KEnc _ e_i64) e_i64 v4.1 ((lget x2.1.Slots v4.2.2.2).Turn) ((lget x2.1.Slots v4.2.2.2).Host : Int)) .nil)) (by kernel_rfl) (fun v7 hv => ?_)
              have hF := lt_elim hF hv
              refine WRL ((mput v4.2.1 ((lget x2.1.Slots v4.2.2.2).Turn) (((lget x2.1.Slots v4.2.2.2).Part).ID : Int))) (fun v8 : (List (Int × Int)) => ⟨[(0, .sl 5 (orders.map e_Order)), (1, .str row), (5, .mp 23), (6, .mp 24), (7, .ptr 7 0), (8, .i v1.2.2.2), (13, .i v6), (14, .i v4.2.2.2)], [(7, (c_Board x2.1))], [], [(23, (v7.map (fun p => (e_i64 p.1, e_i64 p.2)))), (24, (v8.map (fun p => (e_i64 p.1, e_i64 p.2))))], []⟩) [.ms ((mput v4.2.1 ((lget x2.1.Slots v4.2.2.2).Turn) (((lget x2.1.Slots v4.2.2.2).Part).ID : Int)).map (fun p => (e_i64 p.1, e_i64 p.2)))] [0, 1, 5, 6, 7, 8, 13, 14] [7] [] [23, 24] [] [] (.cons (mkeys_ok (kenc_i64 : KEnc _ e_i64) e_i64 v4.2.1) (.cons (mput_ok (kenc_i64 : KEnc _ e_i64) e_i64 v4.2.1 ((lget x2.1.Slots v4.2.2.2).Turn) (((lget x2.1.Slots v4.2.2.2).Part).ID : Int)) .nil)) (by kernel_rfl) (fun v8 hv => ?_)
              have hF := lt_elim hF hv
              refine Wk_blk ?_
              exact Wk_metP (v7, v8, v6) [0, 1, 5, 6, 7, 8, 13, 14] [7] [] [23, 24] [] [] hF (by kernel_rfl)
          ·intro v5 hF
           have hF : law_AssignKeeps_J4 v4 v5 = some y2 := hF
           unfold law_AssignKeeps_J4 at hF
           refine UR [] [0, 1, 5, 6, 7, 8, 13, 14] [7] [] [23, 24] [(14, .i (w64 (v4.2.2.2 + 1)))] [] [] [] .nil ?_
           refine Wk_trim (fs := [0, 1, 5, 6, 7, 8, 13, 14]) (bs := [7]) (rs := []) (ms := [23, 24]) (aa := []) (nv := []) ?_ (ih2 _ (some_elim hF).symm)
           kernel_rfl
         ·have hF := ite_f hF hb
          refine Wk_exit rfl ?_
          have hF := inrO_done hF dn2
          exact Wk_metP (v4.1, v4.2.1, v4.2.2.1) [0, 1, 5, 6, 7, 8, 13] [7] [] [23, 24] [] [] hF (by kernel_rfl)
        ·intro v3 hF
         have hF : law_AssignKeeps_J3 v1 x2 v3 = some y1 := hF
         unfold law_AssignKeeps_J3 at hF
         refine URs [] [0, 1, 5, 6, 7, 8, 141] [7] [] [23, 24] [(141, .bool (!decide (v3.2.2 = 1)))] [] [] [] .nil ?_
         refine Wk_split rfl (fun hb => ?_) (fun hb => ?_)
         ·have hF := ite_t hF hb
          refine ZRs [] [4] [] [] [(4, .bool false)] .nil ?_
          have hF := ret_done hF dn1
          have hF := some_elim hF
          exact Wk_ret (hfin _ ⟨[], [], [], [], [], [], by first | (rw [← hF]; kernel_rfl) | kernel_rfl⟩)
         ·have hF := ite_f hF hb
          refine Wk_skip ?_
          refine Wk_blk ?_
          exact Wk_metP (v3.1, v3.2.1, x2.1) [0, 1, 5, 6, 7, 8] [7] [] [23, 24] [] [] hF (by kernel_rfl)
     ·intro v2 hF
      have hF : law_AssignKeeps_J2 v1 v2 = some y1 := hF
      unfold law_AssignKeeps_J2 at hF
      refine UR [] [0, 1, 5, 6, 7, 8] [7] [] [23, 24] [(8, .i (w64 (v1.2.2.2 + 1)))] [] [] [] .nil ?_
      refine Wk_trim (fs := [0, 1, 5, 6, 7, 8]) (bs := [7]) (rs := []) (ms := [23, 24]) (aa := []) (nv := []) ?_ (ih1 _ (some_elim hF).symm)
      kernel_rfl
    ·have hF := ite_f hF hb
     refine Wk_exit rfl ?_
     have hF := inrO_done hF dn1
     exact Wk_metP () [] [] [] [] [] [] hF (by kernel_rfl)
   ·intro v hF
    have hF : law_AssignKeeps_J1 v = some r := hF
    unfold law_AssignKeeps_J1 at hF
    refine ZRs [] [4] [] [] [(4, .bool true)] .nil ?_
    have hF := some_elim hF
    exact Wk_ret (hfin _ ⟨[], [], [], [], [], [], by first | (rw [← hF]; kernel_rfl) | kernel_rfl⟩)

/- assign.Play -/
noncomputable def assign_Play_v1_J1 (v : List Host × List Slot × Int × Int × List Fault) : Option (Board × List Fault × Fault) :=
 some ((⟨v.1, v.2.1, v.2.2.1, v.2.2.2.1⟩ : Board), v.2.2.2.2, (⟨0, 0⟩ : Fault))
noncomputable def assign_Play_v1_B1 (orders : List Order) (v1 : List Host × List Slot × Int × Int × List Fault × Int) : Option ((List Host × List Slot × Int × Int × List Fault × Int) ⊕ (Board × List Fault × Fault)) :=
 if (decide (v1.2.2.2.2.2 < (orders.length : Int))) = true then
  asrt (0 ≤ v1.2.2.2.2.2 ∧ v1.2.2.2.2.2 < (orders.length : Int)) <|
  ob (assign_Do (⟨v1.1, v1.2.1, v1.2.2.1, v1.2.2.2.1⟩ : Board) (⟨(lget orders v1.2.2.2.2.2).Kind, (lget orders v1.2.2.2.2.2).ID, (lget orders v1.2.2.2.2.2).Host, (lget orders v1.2.2.2.2.2).Turn, (lget orders v1.2.2.2.2.2).Row⟩ : Order)) fun x2 =>
  ob (
   if (decide (x2.2.2.2.2.Code = 0)) = true then
    some (x2.1, x2.2.1, x2.2.2.1, x2.2.2.2.1)
   else
    some (v1.1, v1.2.1, v1.2.2.1, v1.2.2.2.1)) fun (v2 : List Host × List Slot × Int × Int) =>
  asrt (((v1.2.2.2.2.1 ++ [x2.2.2.2.2]).length : Int) * 16 ≤ 140737488351232) <|
  some (Sum.inl (v2.1, v2.2.1, v2.2.2.1, v2.2.2.2, (v1.2.2.2.2.1 ++ [x2.2.2.2.2]), w64 (v1.2.2.2.2.2 + 1)))
 else
  inrO (assign_Play_v1_J1 (v1.1, v1.2.1, v1.2.2.1, v1.2.2.2.1, v1.2.2.2.2.1))
noncomputable def assign_Play_v1_L1 (orders : List Order) (v0 : List Host × List Slot × Int × Int × List Fault × Int) : Option (Board × List Fault × Fault) :=
 loopO (fun y => assign_Play_v1_B1 orders y) v0
noncomputable def assign_Play_v1 (orders : List Order) : Option (Board × List Fault × Fault) :=
 if (decide (2000 < (orders.length : Int))) = true then
  lt (assign_fault 2 (-1)) fun x =>
  some ((⟨([] : List Host), ([] : List Slot), 0, 0⟩ : Board), ([] : List Fault), x)
 else
  lt (assign_New) fun x1 =>
  assign_Play_v1_L1 orders (([] : List Host), x1.1, x1.2.1, x1.2.2, ([] : List Fault), 0)

/- tabularyref.Boards -/
noncomputable def R_Boards_v1_J1 (v1 : List Board × List Fault) : Option (List Board × List Fault) :=
 some (v1.1, v1.2)
noncomputable def R_Boards_v1_B1 (orders : List Order) (v2 : List Board × List Fault × Int) : Option ((List Board × List Fault × Int) ⊕ (List Board × List Fault)) :=
 if (decide (v2.2.2 < (orders.length : Int))) = true then
  asrt (0 ≤ v2.2.2 ∧ v2.2.2 < (v2.1.length : Int)) <|
  asrt (0 ≤ v2.2.2 ∧ v2.2.2 < (v2.1.length : Int)) <|
  asrt (0 ≤ v2.2.2 ∧ v2.2.2 < (orders.length : Int)) <|
  ob (R_Ordered (⟨(lget v2.1 v2.2.2).Hosts, (lget v2.1 v2.2.2).Slots, (lget v2.1 v2.2.2).Turn, (lget v2.1 v2.2.2).Next⟩ : Board) (⟨(lget orders v2.2.2).Kind, (lget orders v2.2.2).ID, (lget orders v2.2.2).Host, (lget orders v2.2.2).Turn, (lget orders v2.2.2).Row⟩ : Order)) fun x =>
  asrt (((v2.2.1 ++ [x.2.2.2.2]).length : Int) * 16 ≤ 140737488351232) <|
  ob (
   if (!decide (x.2.2.2.2.Code = 0)) = true then
    asrt (0 ≤ v2.2.2 ∧ v2.2.2 < (v2.1.length : Int)) <|
    asrt (0 ≤ v2.2.2 ∧ v2.2.2 < (v2.1.length : Int)) <|
    some ((lget v2.1 v2.2.2).Hosts, (lget v2.1 v2.2.2).Slots, (lget v2.1 v2.2.2).Turn, (lget v2.1 v2.2.2).Next)
   else
    some (x.1, x.2.1, x.2.2.1, x.2.2.2.1)) fun (v3 : List Host × List Slot × Int × Int) =>
  asrt (((v2.1 ++ [(⟨v3.1, v3.2.1, v3.2.2.1, v3.2.2.2⟩ : Board)]).length : Int) * 64 ≤ 140737488351232) <|
  some (Sum.inl ((v2.1 ++ [(⟨v3.1, v3.2.1, v3.2.2.1, v3.2.2.2⟩ : Board)]), (v2.2.1 ++ [x.2.2.2.2]), w64 (v2.2.2 + 1)))
 else
  inrO (R_Boards_v1_J1 (v2.1, v2.2.1))
noncomputable def R_Boards_v1_L1 (orders : List Order) (v0 : List Board × List Fault × Int) : Option (List Board × List Fault) :=
 loopO (fun y => R_Boards_v1_B1 orders y) v0
noncomputable def R_Boards_v1 (orders : List Order) : Option (List Board × List Fault) :=
 lt ([(⟨([] : List Host), [(⟨(⟨([] : List UInt8), ([] : List UInt8), 1⟩ : Part), 0, 0, 0⟩ : Slot)], 0, 2⟩ : Board)]) fun (v : List Board) =>
 R_Boards_v1_L1 orders (v, ([] : List Fault), 0)

/- tabularylaw.AssignPlays -/
noncomputable def law_AssignPlays_J1 (v1 : Unit) : Option Bool :=
 some true
noncomputable def law_AssignPlays_B1 (x1 : Board × List Fault × Fault) (x5 : List Board × List Fault) (v2 : Int) : Option (Int ⊕ Bool) :=
 if (decide (v2 < (x5.2.length : Int))) = true then
  asrt (0 ≤ v2 ∧ v2 < (x1.2.1.length : Int)) <|
  asrt (0 ≤ v2 ∧ v2 < (x5.2.length : Int)) <|
  if (!(decide ((lget x1.2.1 v2).Code = (lget x5.2 v2).Code) && (decide ((lget x1.2.1 v2).At = (lget x5.2 v2).At) && true))) = true then
   some (Sum.inr false)
  else
   some (Sum.inl (w64 (v2 + 1)))
 else
  inrO (law_AssignPlays_J1 ())
noncomputable def law_AssignPlays_L1 (x1 : Board × List Fault × Fault) (x5 : List Board × List Fault) (v0 : Int) : Option Bool :=
 loopO (fun y => law_AssignPlays_B1 x1 x5 y) v0
noncomputable def law_AssignPlays (orders : List Order) : Option Bool :=
 ob (law_assignBegun) fun x =>
 if (!x) = true then
  some false
 else
  if (((decide (300 < (orders.length : Int))) && (decide ((orders.length : Int) < 2001))) || (decide (3000 < (orders.length : Int)))) = true then
   some true
  else
   asrt ((orders.length : Int) * 48 ≤ 140737488351232) <|
   ob (assign_Play_v1 orders) fun x1 =>
   ob (R_SameOrders orders orders) fun x2 =>
   if (!x2) = true then
    some false
   else
    if (decide (2000 < (orders.length : Int))) = true then
     lt (R_F 2 (-1)) fun x3 =>
     ob (if ((decide (x1.2.2.Code = x3.Code) && (decide (x1.2.2.At = x3.At) && true)) && (decide ((x1.2.1.length : Int) = 0))) = true then (R_SameBoard x1.1 (⟨([] : List Host), ([] : List Slot), 0, 0⟩ : Board)) else some default) fun x4 =>
     lt (((decide (x1.2.2.Code = x3.Code) && (decide (x1.2.2.At = x3.At) && true)) && (decide ((x1.2.1.length : Int) = 0))) && x4) fun (v : Bool) =>
     some v
    else
     ob (R_Boards_v1 orders) fun x5 =>
     asrt ((!((!decide (x1.2.2.Code = 0)) || (!decide ((x1.2.1.length : Int) = (x5.2.length : Int))))) = true → 0 ≤ w64 ((x5.1.length : Int) - 1) ∧ w64 ((x5.1.length : Int) - 1) < (x5.1.length : Int)) <|
     ob (if (!((!decide (x1.2.2.Code = 0)) || (!decide ((x1.2.1.length : Int) = (x5.2.length : Int))))) = true then (R_SameBoard x1.1 (⟨(lget x5.1 (w64 ((x5.1.length : Int) - 1))).Hosts, (lget x5.1 (w64 ((x5.1.length : Int) - 1))).Slots, (lget x5.1 (w64 ((x5.1.length : Int) - 1))).Turn, (lget x5.1 (w64 ((x5.1.length : Int) - 1))).Next⟩ : Board)) else some default) fun x6 =>
     lt (assign_New_v1) fun x7 =>
     asrt ((!(((!decide (x1.2.2.Code = 0)) || (!decide ((x1.2.1.length : Int) = (x5.2.length : Int)))) || (!x6))) = true → 0 ≤ (0 : Int) ∧ 0 < (x5.1.length : Int)) <|
     ob (if (!(((!decide (x1.2.2.Code = 0)) || (!decide ((x1.2.1.length : Int) = (x5.2.length : Int)))) || (!x6))) = true then (R_SameBoard x7 (⟨(lget x5.1 0).Hosts, (lget x5.1 0).Slots, (lget x5.1 0).Turn, (lget x5.1 0).Next⟩ : Board)) else some default) fun x8 =>
     if ((((!decide (x1.2.2.Code = 0)) || (!decide ((x1.2.1.length : Int) = (x5.2.length : Int)))) || (!x6)) || (!x8)) = true then
      some false
     else
      law_AssignPlays_L1 x1 x5 0

/- tabularylaw.AssignHeals -/
noncomputable def law_AssignHeals_J3 (v1 : Board) (v2 : Unit) : Option Bool :=
 some (decide (0 < (v1.Slots.length : Int)))
noncomputable def law_AssignHeals_B1 (v : Bool) (v1 : Board) (v3 : Int) : Option (Int ⊕ Bool) :=
 if (decide (v3 < (v1.Slots.length : Int))) = true then
  asrt (0 ≤ v3 ∧ v3 < (v1.Slots.length : Int)) <|
  if (!((decide (((lget v1.Slots v3).State) = 2)) == v)) = true then
   some (Sum.inr false)
  else
   some (Sum.inl (w64 (v3 + 1)))
 else
  inrO (law_AssignHeals_J3 v1 ())
noncomputable def law_AssignHeals_L1 (v : Bool) (v1 : Board) (v0 : Int) : Option Bool :=
 loopO (fun y => law_AssignHeals_B1 v v1 y) v0
noncomputable def law_AssignHeals_J2 (v : Bool) (v1 : Board) : Option Bool :=
 law_AssignHeals_L1 v v1 0
noncomputable def law_AssignHeals_J5 (v4 : Board × Int) (v6 : Board) : Option ((Board × Int) ⊕ Bool) :=
 some (Sum.inl (v6, w64 (v4.2 + 1)))
noncomputable def law_AssignHeals_B3 (v4 : Board × Int) (x2 : List Order × Fault) (v7 : Board × Int) : Option ((Board × Int) ⊕ ((Board × Int) ⊕ Bool)) :=
 if (decide (v7.2 < (x2.1.length : Int))) = true then
  asrt (0 ≤ v7.2 ∧ v7.2 < (x2.1.length : Int)) <|
  ob (assign_Do_v1 v7.1 (⟨(lget x2.1 v7.2).Kind, (lget x2.1 v7.2).ID, (lget x2.1 v7.2).Host, (lget x2.1 v7.2).Turn, (lget x2.1 v7.2).Row⟩ : Order)) fun x3 =>
  if (!decide (x3.2.Code = 0)) = true then
   some (Sum.inr (Sum.inr false))
  else
   some (Sum.inl (x3.1, w64 (v7.2 + 1)))
 else
  inrO (law_AssignHeals_J5 v4 v7.1)
noncomputable def law_AssignHeals_L3 (v4 : Board × Int) (x2 : List Order × Fault) (v0 : Board × Int) : Option ((Board × Int) ⊕ Bool) :=
 loopO (fun y => law_AssignHeals_B3 v4 x2 y) v0
noncomputable def law_AssignHeals_J4 (v4 : Board × Int) (v5 : Board) : Option ((Board × Int) ⊕ Bool) :=
 ob (assign_Due_v1 v5) fun x2 =>
 if ((!decide (x2.2.Code = 0)) || ((decide (v4.2 = 1)) && (decide (0 < (x2.1.length : Int))))) = true then
  some (Sum.inr false)
 else
  law_AssignHeals_L3 v4 x2 (v5, 0)
noncomputable def law_AssignHeals_J6 (v8 : Board × Int) (v11 : Board) : Option ((Board × Int) ⊕ ((Board × Int) ⊕ Bool)) :=
 some (Sum.inl (v11, w64 (v8.2 + 1)))
noncomputable def law_AssignHeals_B4 (v4 : Board × Int) (v8 : Board × Int) : Option ((Board × Int) ⊕ ((Board × Int) ⊕ Bool)) :=
 if (decide (v8.2 < (v8.1.Slots.length : Int))) = true then
  asrt (0 ≤ v8.2 ∧ v8.2 < (v8.1.Slots.length : Int)) <|
  ob (
   if (decide (((lget v8.1.Slots v8.2).State) = 1)) = true then
    some 4
   else
    some 0) fun (v9 : Int) =>
  ob (
   if (decide (((lget v8.1.Slots v8.2).State) = 3)) = true then
    some 6
   else
    some v9) fun (v10 : Int) =>
  if (decide (0 < v10)) = true then
   ob (assign_Do_v1 v8.1 (⟨v10, ((lget v8.1.Slots v8.2).Part).ID, (lget v8.1.Slots v8.2).Host, (lget v8.1.Slots v8.2).Turn, ([] : List UInt8)⟩ : Order)) fun x4 =>
   if ((!decide (x4.2.Code = 0)) || (!decide ((x4.1.Slots.length : Int) = (v8.1.Slots.length : Int)))) = true then
    some (Sum.inr (Sum.inr false))
   else
    law_AssignHeals_J6 v8 x4.1
  else
   law_AssignHeals_J6 v8 v8.1
 else
  inrO (law_AssignHeals_J4 v4 v8.1)
noncomputable def law_AssignHeals_L4 (v4 : Board × Int) (v0 : Board × Int) : Option ((Board × Int) ⊕ Bool) :=
 loopO (fun y => law_AssignHeals_B4 v4 y) v0
noncomputable def law_AssignHeals_B2 (v : Bool) (v4 : Board × Int) : Option ((Board × Int) ⊕ Bool) :=
 if (decide (v4.2 < 2)) = true then
  law_AssignHeals_L4 v4 (v4.1, 0)
 else
  inrO (law_AssignHeals_J2 v v4.1)
noncomputable def law_AssignHeals_L2 (v : Bool) (v0 : Board × Int) : Option Bool :=
 loopO (fun y => law_AssignHeals_B2 v y) v0
noncomputable def law_AssignHeals_J1 (x1 : Board × List Fault × Fault) (v : Bool) : Option Bool :=
 law_AssignHeals_L2 v (x1.1, 0)
noncomputable def law_AssignHeals_B5 (x1 : Board × List Fault × Fault) (v12 : Bool × Int) : Option ((Bool × Int) ⊕ Bool) :=
 if (decide (v12.2 < (x1.1.Hosts.length : Int))) = true then
  asrt ((!v12.1) = true → 0 ≤ v12.2 ∧ v12.2 < (x1.1.Hosts.length : Int)) <|
  some (Sum.inl (v12.1 || ((lget x1.1.Hosts v12.2).Alive), w64 (v12.2 + 1)))
 else
  inrO (law_AssignHeals_J1 x1 v12.1)
noncomputable def law_AssignHeals_L5 (x1 : Board × List Fault × Fault) (v0 : Bool × Int) : Option Bool :=
 loopO (fun y => law_AssignHeals_B5 x1 y) v0
noncomputable def law_AssignHeals (orders : List Order) : Option Bool :=
 ob (law_assignBegun) fun x =>
 if (!x) = true then
  some false
 else
  if (decide (200 < (orders.length : Int))) = true then
   some true
  else
   ob (assign_Play_v1 orders) fun x1 =>
   if (((!decide (x1.2.2.Code = 0)) || (decide (900000000 < x1.1.Turn))) || (decide (900000000 < x1.1.Next))) = true then
    some false
   else
    law_AssignHeals_L5 x1 (false, 0)

end G
end Go.Proofs.Ytdjlninhfndjfaa
