/- The program's functions as plain functions, and that they are these. Written by a program (dec2.py). -/
import Derived.Test.YtdjlninhfndjfaaGf1
namespace Go.Proofs.Ytdjlninhfndjfaa
open Go Go.Dm
set_option linter.unusedVariables false
set_option linter.unusedSimpArgs false
set_option maxRecDepth 100000
namespace G
/- assign.Do -/
noncomputable def assign_Do (b : Board) (o : Order) : Option (List Host × List Slot × Int × Int × Fault) :=
 ob (assign_Check b) fun x =>
 ob (assign_own b) fun x1 =>
 ob (
  if (!decide (x.Code = 0)) = true then
   some (x1.1, x1.2.1, x1.2.2.1, x1.2.2.2, x)
  else
   if (decide (o.Kind = 1)) = true then
    ob (assign_come o.ID x1.2.2.1 x1.2.2.2 x1.1 x1.2.1) fun x2 =>
    some (x2.2.1, x1.2.1, x2.2.2.1, x2.2.2.2, x2.1)
   else
    if (decide (o.Kind = 2)) = true then
     ob (assign_lost o.ID x1.2.2.1 x1.2.2.2 x1.1 x1.2.1) fun x3 =>
     some (x3.2.1, x3.2.2, x1.2.2.1, x1.2.2.2, x3.1)
    else
     if ((decide (o.Kind < 1)) || (decide (8 < o.Kind))) = true then
      lt (assign_fault 4 0) fun x4 =>
      some (x1.1, x1.2.1, x1.2.2.1, x1.2.2.2, x4)
     else
      ob (assign_SlotAt (⟨x1.1, x1.2.1, x1.2.2.1, x1.2.2.2⟩ : Board) o.ID) fun x5 =>
      lt (assign_fault 6 (-1)) fun x6 =>
      if (decide (0 ≤ x5)) = true then
       ob (assign_does x5 o x1.2.2.1 x1.2.2.2 x1.1 x1.2.1) fun x7 =>
       some (x7.2.1, x7.2.2.1, x7.2.2.2.1, x7.2.2.2.2, x7.1)
      else
       some (x1.1, x1.2.1, x1.2.2.1, x1.2.2.2, x6)) fun (v : List Host × List Slot × Int × Int × Fault) =>
 if (!decide (v.2.2.2.2.Code = 0)) = true then
  some (([] : List Host), ([] : List Slot), 0, 0, v.2.2.2.2)
 else
  some (v.1, v.2.1, v.2.2.1, v.2.2.2.1, v.2.2.2.2)
theorem assign_Do_ok (b : Board) (o : Order) (r : List Host × List Slot × Int × Int × Fault) (hF : assign_Do b o = some r) : Pe Try.prog 53 ⟨[], [], [], [], []⟩ [.agg (c_Board b), .agg (c_Order o)] (.tup [.agg [.row 11 0, .row 20011 0, .i r.2.2.1, .i r.2.2.2.1], .agg [.i r.2.2.2.2.Code, .i r.2.2.2.2.At]]) ⟨[], [], [(11, ⟨108, 3, 0, (r.1.map e_Host).length, 0, false, 0, [], (r.1.map e_Host)⟩), (20011, ⟨64, 6, 0, (r.2.1.map e_Slot).length, 0, false, 0, [], (r.2.1.map e_Slot)⟩)], [], []⟩ := by
 refine Pe_of (N := 57) (res := [.cell 4 62, .cell 5 26]) (ts := [62, 26]) Ty.ok Fn.b53 Try.func53 rfl rfl rfl rfl rfl rfl ?_
 intro Q g hfin
 unfold assign_Do at hF
 refine URs [] [2, 3, 4, 5] [2, 3, 4, 5] [] [] [(2, .ptr 2 0), (3, .ptr 3 0), (4, .ptr 4 0), (5, .ptr 5 0)] [(2, (c_Board b)), (3, (c_Order o)), (4, [.nils, .nils, .i 0, .i 0]), (5, [.i 0, .i 0])] [] [] .nil ?_
 refine Wk_seq ?_
 obtain ⟨x, h0, hF⟩ := ob_elim hF
 refine UR [.callB (.agg [.i x.Code, .i x.At])] [2, 3, 4, 5, 6] [2, 3, 4, 5, 6] [] [] [(6, .ptr 6 0)] [(6, [.i x.Code, .i x.At])] [] [] (.cons (assign_Check_ok b x h0) .nil) ?_
 refine Wk_seq ?_
 obtain ⟨x1, h1, hF⟩ := ob_elim hF
 refine UR [.callE [] [] [] [] (.agg [.row 11 0, .row 20011 0, .i x1.2.2.1, .i x1.2.2.2]) ⟨[], [], [(11, .o 108 3 0 (x1.1.map e_Host)), (20011, .o 64 6 0 (x1.2.1.map e_Slot))], [], []⟩] [2, 3, 4, 5, 6] [2, 3, 4, 5, 6] [11, 20011] [] [] [(2, [.row 11 0, .row 20011 0, .i x1.2.2.1, .i x1.2.2.2])] [(11, .o 108 3 0 (x1.1.map e_Host)), (20011, .o 64 6 0 (x1.2.1.map e_Slot))] [] (.cons (Pe.ren (assign_own_ok b x1 h1) ⟨[], [(5, 11), (8, 20011)], [], []⟩) .nil) ?_
 refine Wk_seq ?_
 refine Wk_block ?_
 refine ZRs [] [2, 3, 4, 5, 6, 22] [2, 3, 4, 5, 6] [11, 20011] [(22, .bool (!decide (x.Code = 0)))] .nil ?_
 obtain ⟨v, hv, hF⟩ := ob_elim hF
 refine Wk_meet (⟨[(2, .ptr 2 0), (4, .ptr 4 0), (5, .ptr 5 0), (6, .ptr 6 0)], [(2, [.row 11 0, .row 20011 0, .i v.2.2.1, .i v.2.2.2.1]), (4, [.nils, .nils, .i 0, .i 0]), (5, [.i 0, .i 0]), (6, [.i v.2.2.2.2.Code, .i v.2.2.2.2.At])], [(11, ⟨108, 3, 0, (v.1.map e_Host).length, 0, false, 0, [], (v.1.map e_Host)⟩), (20011, ⟨64, 6, 0, (v.2.1.map e_Slot).length, 0, false, 0, [], (v.2.1.map e_Slot)⟩)], [], []⟩ : S) ?_ ?_
 ·have hF := hv
  refine Wk_split rfl (fun hb => ?_) (fun hb => ?_)
  ·have hF := ite_t hF hb
   refine Wk_skip ?_
   exact Wk_met (fs := [2, 4, 5, 6]) (bs := [2, 4, 5, 6]) (rs := [11, 20011]) (ms := []) (aa := []) (nv := [(11, ⟨0, true, true, true⟩), (20011, ⟨0, true, true, true⟩)]) (by first | (rw [← some_elim hF]; kernel_rfl) | kernel_rfl)
  ·have hF := ite_f hF hb
   refine ZRs [] [2, 3, 4, 5, 6, 26] [2, 3, 4, 5, 6] [11, 20011] [(26, .bool (decide (o.Kind = 1)))] .nil ?_
   refine Wk_split rfl (fun hb => ?_) (fun hb => ?_)
   ·have hF := ite_t hF hb
    obtain ⟨x2, h2, hF⟩ := ob_elim hF
    refine UR [.callE [2] [11, 20011] [] [] (.agg [.i x2.1.Code, .i x2.1.At]) ⟨[], [(2, [.row 11 1, .row 20011 0, .i x2.2.2.1, .i x2.2.2.2])], [(11, .o 108 3 1 (x2.2.1.map e_Host)), (20011, .o 64 6 0 (x1.2.1.map e_Slot))], [], []⟩] [2, 4, 5, 6] [2, 4, 5, 6] [11, 20011] [] [] [(2, [.row 11 1, .row 20011 0, .i x2.2.2.1, .i x2.2.2.2]), (6, [.i x2.1.Code, .i x2.1.At])] [(11, .o 108 3 1 (x2.2.1.map e_Host))] [] (.cons (Pe.ren (assign_come_ok o.ID x1.2.2.1 x1.2.2.2 x1.1 x1.2.1 0 0 false 0 0 false x2 h2) ⟨[(100000, 2)], [(100000, 11), (100001, 20011)], [], []⟩) .nil) ?_
    exact Wk_met (fs := [2, 4, 5, 6]) (bs := [2, 4, 5, 6]) (rs := [11, 20011]) (ms := []) (aa := []) (nv := [(11, ⟨0, true, true, true⟩), (20011, ⟨0, true, true, true⟩)]) (by first | (rw [← some_elim hF]; kernel_rfl) | kernel_rfl)
   ·have hF := ite_f hF hb
    refine ZRs [] [2, 3, 4, 5, 6, 33] [2, 3, 4, 5, 6] [11, 20011] [(33, .bool (decide (o.Kind = 2)))] .nil ?_
    refine Wk_split rfl (fun hb => ?_) (fun hb => ?_)
    ·have hF := ite_t hF hb
     obtain ⟨x3, h3, hF⟩ := ob_elim hF
     refine UR [.callE [2] [11, 20011] [] [] (.agg [.i x3.1.Code, .i x3.1.At]) ⟨[], [(2, [.row 11 0, .row 20011 0, .i x1.2.2.1, .i x1.2.2.2])], [(11, .o 108 3 0 (x3.2.1.map e_Host)), (20011, .o 64 6 0 (x3.2.2.map e_Slot))], [], []⟩] [2, 4, 5, 6] [2, 4, 5, 6] [11, 20011] [] [] [(6, [.i x3.1.Code, .i x3.1.At])] [(11, .o 108 3 0 (x3.2.1.map e_Host)), (20011, .o 64 6 0 (x3.2.2.map e_Slot))] [] (.cons (Pe.ren (assign_lost_ok o.ID x1.2.2.1 x1.2.2.2 x1.1 x1.2.1 0 0 false 0 0 false x3 h3) ⟨[(100000, 2)], [(100000, 11), (100001, 20011)], [], []⟩) .nil) ?_
     exact Wk_met (fs := [2, 4, 5, 6]) (bs := [2, 4, 5, 6]) (rs := [11, 20011]) (ms := []) (aa := []) (nv := [(11, ⟨0, true, true, true⟩), (20011, ⟨0, true, true, true⟩)]) (by first | (rw [← some_elim hF]; kernel_rfl) | kernel_rfl)
    ·have hF := ite_f hF hb
     refine ZRs [] [2, 3, 4, 5, 6, 40] [2, 3, 4, 5, 6] [11, 20011] [(40, .bool ((decide (o.Kind < 1)) || (decide (8 < o.Kind))))] .nil ?_
     refine Wk_split rfl (fun hb => ?_) (fun hb => ?_)
     ·have hF := ite_t hF hb
      obtain ⟨x4, h4, hF⟩ := lt_split hF
      refine UR [.callB (.agg [.i x4.Code, .i x4.At])] [2, 4, 5, 6] [2, 4, 5, 6] [11, 20011] [] [] [(6, [.i x4.Code, .i x4.At])] [] [] (.cons (assign_fault_ok 4 0 x4 h4) .nil) ?_
      exact Wk_met (fs := [2, 4, 5, 6]) (bs := [2, 4, 5, 6]) (rs := [11, 20011]) (ms := []) (aa := []) (nv := [(11, ⟨0, true, true, true⟩), (20011, ⟨0, true, true, true⟩)]) (by first | (rw [← some_elim hF]; kernel_rfl) | kernel_rfl)
     ·have hF := ite_f hF hb
      refine Wk_seq ?_
      obtain ⟨x5, h5, hF⟩ := ob_elim hF
      refine ZR [.callB (.i x5)] [2, 3, 4, 5, 6, 7] [2, 3, 4, 5, 6] [11, 20011] [(7, .i x5)] (.cons (assign_SlotAt_ok (⟨x1.1, x1.2.1, x1.2.2.1, x1.2.2.2⟩ : Board) o.ID x5 h5) .nil) ?_
      refine Wk_seq ?_
      obtain ⟨x6, h6, hF⟩ := lt_split hF
      refine UR [.callB (.agg [.i x6.Code, .i x6.At])] [2, 3, 4, 5, 6, 7] [2, 3, 4, 5, 6] [11, 20011] [] [] [(6, [.i x6.Code, .i x6.At])] [] [] (.cons (assign_fault_ok 6 (-1) x6 h6) .nil) ?_
      refine ZRs [] [2, 3, 4, 5, 6, 7, 18] [2, 3, 4, 5, 6] [11, 20011] [(18, .bool (decide (0 ≤ x5)))] .nil ?_
      refine Wk_split rfl (fun hb => ?_) (fun hb => ?_)
      ·have hF := ite_t hF hb
       obtain ⟨x7, h7, hF⟩ := ob_elim hF
       refine UR [.callE [2] [11, 20011] [] [] (.agg [.i x7.1.Code, .i x7.1.At]) ⟨[], [(2, [.row 11 0, .row 20011 1, .i x7.2.2.2.1, .i x7.2.2.2.2])], [(11, ⟨108, 3, 0, (x7.2.1.map e_Host).length, 0, false, 0, [], (x7.2.1.map e_Host)⟩), (20011, ⟨64, 6, 1, (x7.2.2.1.map e_Slot).length, 0, false, 0, [], (x7.2.2.1.map e_Slot)⟩)], [], []⟩] [2, 4, 5, 6] [2, 4, 5, 6] [11, 20011] [] [] [(2, [.row 11 0, .row 20011 1, .i x7.2.2.2.1, .i x7.2.2.2.2]), (6, [.i x7.1.Code, .i x7.1.At])] [(11, ⟨108, 3, 0, (x7.2.1.map e_Host).length, 0, false, 0, [], (x7.2.1.map e_Host)⟩), (20011, ⟨64, 6, 1, (x7.2.2.1.map e_Slot).length, 0, false, 0, [], (x7.2.2.1.map e_Slot)⟩)] [] (.cons (Pe.ren (assign_does_ok x5 o x1.2.2.1 x1.2.2.2 x1.1 x1.2.1 0 0 false 0 0 false x7 h7) ⟨[(100000, 2)], [(100000, 11), (100001, 20011)], [], []⟩) .nil) ?_
       exact Wk_met (fs := [2, 4, 5, 6]) (bs := [2, 4, 5, 6]) (rs := [11, 20011]) (ms := []) (aa := []) (nv := [(20011, ⟨0, true, true, true⟩)]) (by first | (rw [← some_elim hF]; kernel_rfl) | kernel_rfl)
      ·have hF := ite_f hF hb
       refine Wk_skip ?_
       exact Wk_met (fs := [2, 4, 5, 6]) (bs := [2, 4, 5, 6]) (rs := [11, 20011]) (ms := []) (aa := []) (nv := [(11, ⟨0, true, true, true⟩), (20011, ⟨0, true, true, true⟩)]) (by first | (rw [← some_elim hF]; kernel_rfl) | kernel_rfl)
 ·refine Wk_blk ?_
  refine Wk_seq ?_
  refine ZRs [] [2, 4, 5, 6, 52] [2, 4, 5, 6] [11, 20011] [(52, .bool (!decide (v.2.2.2.2.Code = 0)))] .nil ?_
  refine Wk_split rfl (fun hb => ?_) (fun hb => ?_)
  ·have hF := ite_t hF hb
   refine UDs [] [4, 5] [4, 5] [] [] [] [(5, [.i v.2.2.2.2.Code, .i v.2.2.2.2.At])] [] [] .nil ?_
   have hF := some_elim hF
   refine Wk_nilrowB 4 0 60000 108 3 rfl rfl rfl rfl rfl ?_
   refine Wk_nilrowB 4 1 60001 64 6 rfl rfl rfl rfl rfl ?_
   refine Wk_ren' ⟨[], [(60000, 11), (60001, 20011)], [], []⟩ rfl ?_
   exact Wk_ret (hfin _ ⟨[11, 20011], [], [11, 20011], [], [], [(11, ⟨0, true, false, true⟩), (20011, ⟨0, true, false, true⟩)], by first | (rw [← hF]; kernel_rfl) | kernel_rfl⟩)
  ·have hF := ite_f hF hb
   refine Wk_skip ?_
   refine UDs [] [4, 5] [4, 5] [11, 20011] [] [] [(4, [.row 11 0, .row 20011 0, .i v.2.2.1, .i v.2.2.2.1]), (5, [.i v.2.2.2.2.Code, .i v.2.2.2.2.At])] [] [] .nil ?_
   have hF := some_elim hF
   exact Wk_ret (hfin _ ⟨[11, 20011], [], [11, 20011], [], [], [], by first | (rw [← hF]; kernel_rfl) | kernel_rfl⟩)

/- assign.Do -/
noncomputable def assign_Do_v1 (b : Board) (o : Order) : Option (Board × Fault) :=
 ob (assign_Check b) fun x =>
 ob (assign_own b) fun x1 =>
 ob (
  if (!decide (x.Code = 0)) = true then
   some (x1.1, x1.2.1, x1.2.2.1, x1.2.2.2, x)
  else
   if (decide (o.Kind = 1)) = true then
    ob (assign_come o.ID x1.2.2.1 x1.2.2.2 x1.1 x1.2.1) fun x2 =>
    some (x2.2.1, x1.2.1, x2.2.2.1, x2.2.2.2, x2.1)
   else
    if (decide (o.Kind = 2)) = true then
     ob (assign_lost o.ID x1.2.2.1 x1.2.2.2 x1.1 x1.2.1) fun x3 =>
     some (x3.2.1, x3.2.2, x1.2.2.1, x1.2.2.2, x3.1)
    else
     if ((decide (o.Kind < 1)) || (decide (8 < o.Kind))) = true then
      lt (assign_fault 4 0) fun x4 =>
      some (x1.1, x1.2.1, x1.2.2.1, x1.2.2.2, x4)
     else
      ob (assign_SlotAt (⟨x1.1, x1.2.1, x1.2.2.1, x1.2.2.2⟩ : Board) o.ID) fun x5 =>
      lt (assign_fault 6 (-1)) fun x6 =>
      if (decide (0 ≤ x5)) = true then
       ob (assign_does x5 o x1.2.2.1 x1.2.2.2 x1.1 x1.2.1) fun x7 =>
       some (x7.2.1, x7.2.2.1, x7.2.2.2.1, x7.2.2.2.2, x7.1)
      else
       some (x1.1, x1.2.1, x1.2.2.1, x1.2.2.2, x6)) fun (v : List Host × List Slot × Int × Int × Fault) =>
 if (!decide (v.2.2.2.2.Code = 0)) = true then
  some ((⟨([] : List Host), ([] : List Slot), 0, 0⟩ : Board), v.2.2.2.2)
 else
  some ((⟨v.1, v.2.1, v.2.2.1, v.2.2.2.1⟩ : Board), v.2.2.2.2)
theorem assign_Do_v1_ok (b : Board) (o : Order) (r : Board × Fault) (hF : assign_Do_v1 b o = some r) : Pe Try.prog 53 S.none [.agg (c_Board b), .agg (c_Order o)] (.tup [.agg (c_Board r.1), .agg [.i r.2.Code, .i r.2.At]]) S.none := by
 refine Pe_of (N := 57) (res := [.cell 4 62, .cell 5 26]) (ts := [62, 26]) Ty.ok Fn.b53 Try.func53 rfl rfl rfl rfl rfl rfl ?_
 intro Q g hfin
 unfold assign_Do_v1 at hF
 refine URs [] [2, 3, 4, 5] [2, 3, 4, 5] [] [] [(2, .ptr 2 0), (3, .ptr 3 0), (4, .ptr 4 0), (5, .ptr 5 0)] [(2, (c_Board b)), (3, (c_Order o)), (4, [.nils, .nils, .i 0, .i 0]), (5, [.i 0, .i 0])] [] [] .nil ?_
 refine Wk_seq ?_
 obtain ⟨x, h0, hF⟩ := ob_elim hF
 refine UR [.callB (.agg [.i x.Code, .i x.At])] [2, 3, 4, 5, 6] [2, 3, 4, 5, 6] [] [] [(6, .ptr 6 0)] [(6, [.i x.Code, .i x.At])] [] [] (.cons (assign_Check_ok b x h0) .nil) ?_
 refine Wk_seq ?_
 obtain ⟨x1, h1, hF⟩ := ob_elim hF
 refine UR [.callE [] [] [] [] (.agg [.row 11 0, .row 20011 0, .i x1.2.2.1, .i x1.2.2.2]) ⟨[], [], [(11, .o 108 3 0 (x1.1.map e_Host)), (20011, .o 64 6 0 (x1.2.1.map e_Slot))], [], []⟩] [2, 3, 4, 5, 6] [2, 3, 4, 5, 6] [11, 20011] [] [] [(2, [.row 11 0, .row 20011 0, .i x1.2.2.1, .i x1.2.2.2])] [(11, .o 108 3 0 (x1.1.map e_Host)), (20011, .o 64 6 0 (x1.2.1.map e_Slot))] [] (.cons (Pe.ren (assign_own_ok b x1 h1) ⟨[], [(5, 11), (8, 20011)], [], []⟩) .nil) ?_
 refine Wk_seq ?_
 refine Wk_block ?_
 refine ZRs [] [2, 3, 4, 5, 6, 22] [2, 3, 4, 5, 6] [11, 20011] [(22, .bool (!decide (x.Code = 0)))] .nil ?_
 obtain ⟨v, hv, hF⟩ := ob_elim hF
 refine Wk_meet (⟨[(2, .ptr 2 0), (4, .ptr 4 0), (5, .ptr 5 0), (6, .ptr 6 0)], [(2, [.row 11 0, .row 20011 0, .i v.2.2.1, .i v.2.2.2.1]), (4, [.nils, .nils, .i 0, .i 0]), (5, [.i 0, .i 0]), (6, [.i v.2.2.2.2.Code, .i v.2.2.2.2.At])], [(11, ⟨108, 3, 0, (v.1.map e_Host).length, 0, false, 0, [], (v.1.map e_Host)⟩), (20011, ⟨64, 6, 0, (v.2.1.map e_Slot).length, 0, false, 0, [], (v.2.1.map e_Slot)⟩)], [], []⟩ : S) ?_ ?_
 ·have hF := hv
  refine Wk_split rfl (fun hb => ?_) (fun hb => ?_)
  ·have hF := ite_t hF hb
   refine Wk_skip ?_
   exact Wk_met (fs := [2, 4, 5, 6]) (bs := [2, 4, 5, 6]) (rs := [11, 20011]) (ms := []) (aa := []) (nv := [(11, ⟨0, true, true, true⟩), (20011, ⟨0, true, true, true⟩)]) (by first | (rw [← some_elim hF]; kernel_rfl) | kernel_rfl)
  ·have hF := ite_f hF hb
   refine ZRs [] [2, 3, 4, 5, 6, 26] [2, 3, 4, 5, 6] [11, 20011] [(26, .bool (decide (o.Kind = 1)))] .nil ?_
   refine Wk_split rfl (fun hb => ?_) (fun hb => ?_)
   ·have hF := ite_t hF hb
    obtain ⟨x2, h2, hF⟩ := ob_elim hF
    refine UR [.callE [2] [11, 20011] [] [] (.agg [.i x2.1.Code, .i x2.1.At]) ⟨[], [(2, [.row 11 1, .row 20011 0, .i x2.2.2.1, .i x2.2.2.2])], [(11, .o 108 3 1 (x2.2.1.map e_Host)), (20011, .o 64 6 0 (x1.2.1.map e_Slot))], [], []⟩] [2, 4, 5, 6] [2, 4, 5, 6] [11, 20011] [] [] [(2, [.row 11 1, .row 20011 0, .i x2.2.2.1, .i x2.2.2.2]), (6, [.i x2.1.Code, .i x2.1.At])] [(11, .o 108 3 1 (x2.2.1.map e_Host))] [] (.cons (Pe.ren (assign_come_ok o.ID x1.2.2.1 x1.2.2.2 x1.1 x1.2.1 0 0 false 0 0 false x2 h2) ⟨[(100000, 2)], [(100000, 11), (100001, 20011)], [], []⟩) .nil) ?_
    exact Wk_met (fs := [2, 4, 5, 6]) (bs := [2, 4, 5, 6]) (rs := [11, 20011]) (ms := []) (aa := []) (nv := [(11, ⟨0, true, true, true⟩), (20011, ⟨0, true, true, true⟩)]) (by first | (rw [← some_elim hF]; kernel_rfl) | kernel_rfl)
   ·have hF := ite_f hF hb
    refine ZRs [] [2, 3, 4, 5, 6, 33] [2, 3, 4, 5, 6] [11, 20011] [(33, .bool (decide (o.Kind = 2)))] .nil ?_
    refine Wk_split rfl (fun hb => ?_) (fun hb => ?_)
    ·have hF := ite_t hF hb
     obtain ⟨x3, h3, hF⟩ := ob_elim hF
     refine UR [.callE [2] [11, 20011] [] [] (.agg [.i x3.1.Code, .i x3.1.At]) ⟨[], [(2, [.row 11 0, .row 20011 0, .i x1.2.2.1, .i x1.2.2.2])], [(11, .o 108 3 0 (x3.2.1.map e_Host)), (20011, .o 64 6 0 (x3.2.2.map e_Slot))], [], []⟩] [2, 4, 5, 6] [2, 4, 5, 6] [11, 20011] [] [] [(6, [.i x3.1.Code, .i x3.1.At])] [(11, .o 108 3 0 (x3.2.1.map e_Host)), (20011, .o 64 6 0 (x3.2.2.map e_Slot))] [] (.cons (Pe.ren (assign_lost_ok o.ID x1.2.2.1 x1.2.2.2 x1.1 x1.2.1 0 0 false 0 0 false x3 h3) ⟨[(100000, 2)], [(100000, 11), (100001, 20011)], [], []⟩) .nil) ?_
     exact Wk_met (fs := [2, 4, 5, 6]) (bs := [2, 4, 5, 6]) (rs := [11, 20011]) (ms := []) (aa := []) (nv := [(11, ⟨0, true, true, true⟩), (20011, ⟨0, true, true, true⟩)]) (by first | (rw [← some_elim hF]; kernel_rfl) | kernel_rfl)
    ·have hF := ite_f hF hb
     refine ZRs [] [2, 3, 4, 5, 6, 40] [2, 3, 4, 5, 6] [11, 20011] [(40, .bool ((decide (o.Kind < 1)) || (decide (8 < o.Kind))))] .nil ?_
     refine Wk_split rfl (fun hb => ?_) (fun hb => ?_)
     ·have hF := ite_t hF hb
      obtain ⟨x4, h4, hF⟩ := lt_split hF
      refine UR [.callB (.agg [.i x4.Code, .i x4.At])] [2, 4, 5, 6] [2, 4, 5, 6] [11, 20011] [] [] [(6, [.i x4.Code, .i x4.At])] [] [] (.cons (assign_fault_ok 4 0 x4 h4) .nil) ?_
      exact Wk_met (fs := [2, 4, 5, 6]) (bs := [2, 4, 5, 6]) (rs := [11, 20011]) (ms := []) (aa := []) (nv := [(11, ⟨0, true, true, true⟩), (20011, ⟨0, true, true, true⟩)]) (by first | (rw [← some_elim hF]; kernel_rfl) | kernel_rfl)
     ·have hF := ite_f hF hb
      refine Wk_seq ?_
      obtain ⟨x5, h5, hF⟩ := ob_elim hF
      refine ZR [.callB (.i x5)] [2, 3, 4, 5, 6, 7] [2, 3, 4, 5, 6] [11, 20011] [(7, .i x5)] (.cons (assign_SlotAt_ok (⟨x1.1, x1.2.1, x1.2.2.1, x1.2.2.2⟩ : Board) o.ID x5 h5) .nil) ?_
      refine Wk_seq ?_
      obtain ⟨x6, h6, hF⟩ := lt_split hF
      refine UR [.callB (.agg [.i x6.Code, .i x6.At])] [2, 3, 4, 5, 6, 7] [2, 3, 4, 5, 6] [11, 20011] [] [] [(6, [.i x6.Code, .i x6.At])] [] [] (.cons (assign_fault_ok 6 (-1) x6 h6) .nil) ?_
      refine ZRs [] [2, 3, 4, 5, 6, 7, 18] [2, 3, 4, 5, 6] [11, 20011] [(18, .bool (decide (0 ≤ x5)))] .nil ?_
      refine Wk_split rfl (fun hb => ?_) (fun hb => ?_)
      ·have hF := ite_t hF hb
       obtain ⟨x7, h7, hF⟩ := ob_elim hF
       refine UR [.callE [2] [11, 20011] [] [] (.agg [.i x7.1.Code, .i x7.1.At]) ⟨[], [(2, [.row 11 0, .row 20011 1, .i x7.2.2.2.1, .i x7.2.2.2.2])], [(11, ⟨108, 3, 0, (x7.2.1.map e_Host).length, 0, false, 0, [], (x7.2.1.map e_Host)⟩), (20011, ⟨64, 6, 1, (x7.2.2.1.map e_Slot).length, 0, false, 0, [], (x7.2.2.1.map e_Slot)⟩)], [], []⟩] [2, 4, 5, 6] [2, 4, 5, 6] [11, 20011] [] [] [(2, [.row 11 0, .row 20011 1, .i x7.2.2.2.1, .i x7.2.2.2.2]), (6, [.i x7.1.Code, .i x7.1.At])] [(11, ⟨108, 3, 0, (x7.2.1.map e_Host).length, 0, false, 0, [], (x7.2.1.map e_Host)⟩), (20011, ⟨64, 6, 1, (x7.2.2.1.map e_Slot).length, 0, false, 0, [], (x7.2.2.1.map e_Slot)⟩)] [] (.cons (Pe.ren (assign_does_ok x5 o x1.2.2.1 x1.2.2.2 x1.1 x1.2.1 0 0 false 0 0 false x7 h7) ⟨[(100000, 2)], [(100000, 11), (100001, 20011)], [], []⟩) .nil) ?_
       exact Wk_met (fs := [2, 4, 5, 6]) (bs := [2, 4, 5, 6]) (rs := [11, 20011]) (ms := []) (aa := []) (nv := [(20011, ⟨0, true, true, true⟩)]) (by first | (rw [← some_elim hF]; kernel_rfl) | kernel_rfl)
      ·have hF := ite_f hF hb
       refine Wk_skip ?_
       exact Wk_met (fs := [2, 4, 5, 6]) (bs := [2, 4, 5, 6]) (rs := [11, 20011]) (ms := []) (aa := []) (nv := [(11, ⟨0, true, true, true⟩), (20011, ⟨0, true, true, true⟩)]) (by first | (rw [← some_elim hF]; kernel_rfl) | kernel_rfl)
 ·refine Wk_blk ?_
  refine Wk_seq ?_
  refine ZRs [] [2, 4, 5, 6, 52] [2, 4, 5, 6] [11, 20011] [(52, .bool (!decide (v.2.2.2.2.Code = 0)))] .nil ?_
  refine Wk_split rfl (fun hb => ?_) (fun hb => ?_)
  ·have hF := ite_t hF hb
   refine UDs [] [4, 5] [4, 5] [] [] [] [(5, [.i v.2.2.2.2.Code, .i v.2.2.2.2.At])] [] [] .nil ?_
   have hF := some_elim hF
   exact Wk_ret (hfin _ ⟨[], [], [], [], [], [], by first | (rw [← hF]; kernel_rfl) | kernel_rfl⟩)
  ·have hF := ite_f hF hb
   refine Wk_skip ?_
   refine UDs [] [4, 5] [4, 5] [11, 20011] [] [] [(4, [.row 11 0, .row 20011 0, .i v.2.2.1, .i v.2.2.2.1]), (5, [.i v.2.2.2.2.Code, .i v.2.2.2.2.At])] [] [] .nil ?_
   have hF := some_elim hF
   exact Wk_ret (hfin _ ⟨[], [], [], [], [], [], by first | (rw [← hF]; kernel_rfl) | kernel_rfl⟩)

/- assign.Loads -/
noncomputable def assign_Loads_J1 (v : List Int) : Option (List Int) :=
 some v
noncomputable def assign_Loads_B1 (b : Board) (v1 : List Int × Int) : Option ((List Int × Int) ⊕ (List Int)) :=
 if (decide (v1.2 < (b.Slots.length : Int))) = true then
  asrt (0 ≤ v1.2 ∧ v1.2 < (b.Slots.length : Int)) <|
  ob (assign_HostAt b ((lget b.Slots v1.2).Host)) fun x =>
  ob (
   if (decide (0 ≤ x)) = true then
    asrt (0 ≤ x ∧ x < (v1.1.length : Int)) <|
    asrt (0 ≤ x ∧ x < (v1.1.length : Int)) <|
    asrt (0 ≤ x ∧ x < (v1.1.length : Int)) <|
    asrt (0 ≤ x ∧ x < (v1.1.length : Int)) <|
    some (lset v1.1 x (w64 ((lget v1.1 x) + 1)))
   else
    some v1.1) fun (v2 : List Int) =>
  some (Sum.inl (v2, w64 (v1.2 + 1)))
 else
  inrO (assign_Loads_J1 v1.1)
noncomputable def assign_Loads_L1 (b : Board) (v0 : List Int × Int) : Option (List Int) :=
 loopO (fun y => assign_Loads_B1 b y) v0
noncomputable def assign_Loads (b : Board) : Option (List Int) :=
 asrt (0 ≤ ((b.Hosts.length : Int) : Int) ∧ (b.Hosts.length : Int) ≤ (b.Hosts.length : Int) ∧ (b.Hosts.length : Int) * 8 ≤ 140737488351232) <|
 assign_Loads_L1 b ((List.replicate (b.Hosts.length : Int).toNat (0 : Int)), 0)
theorem assign_Loads_ok (b : Board) (r : List Int) (hF : assign_Loads b = some r) : Pe Try.prog 97 ⟨[], [], [], [], []⟩ [.agg (c_Board b)] (.row 10 0) ⟨[], [], [(10, .o 3 1 0 (r.map e_i64))], [], []⟩ := by
 refine Pe_of (N := 32) (res := [.tmp 2]) (ts := [109]) Ty.ok Fn.b97 Try.func97 rfl rfl rfl rfl rfl rfl ?_
 intro Q g hfin
 unfold assign_Loads at hF
 refine URs [] [1] [1] [] [] [(1, .ptr 1 0)] [(1, (c_Board b))] [] [] .nil ?_
 refine Wk_seq ?_
 obtain ⟨h0, hF⟩ := asrt_elim hF
 refine UR [.nat (b.Hosts.length : Int), .xs ((List.replicate (b.Hosts.length : Int).toNat (0 : Int)).map e_i64)] [1, 3] [1] [10] [] [(3, .row 10 0)] [] [(10, .o 3 1 0 ((List.replicate (b.Hosts.length : Int).toNat (0 : Int)).map e_i64))] [] (.cons (len_ok e_Host b.Hosts) (.cons (mk_ok h0) (.cons (rep_ok e_i64 (b.Hosts.length : Int) (0 : Int)) .nil))) ?_
 refine Wk_seq ?_
 refine ZRs [.nat (b.Slots.length : Int)] [1, 3, 12, 13, 14] [1] [10] [(12, .sl 6 (b.Slots.map e_Slot)), (13, .i (b.Slots.length : Int)), (14, .i 0)] (.cons (len_ok e_Slot b.Slots) .nil) ?_
 refine Wk_meetP (fun v : List Int => (⟨[(3, .row 10 0)], [], [(10, .o 3 1 0 (v.map e_i64))], [], []⟩ : S)) (fun v => assign_Loads_J1 v = some r) ?_ ?_
 ·refine Wk_block ?_
  unfold assign_Loads_L1 at hF
  refine Wk_trim (fs := [1, 3, 12, 13, 14]) (bs := [1]) (rs := [10]) (ms := []) (aa := []) (nv := []) (t := (fun v1 : List Int × Int => (⟨[(1, .ptr 1 0), (3, .row 10 0), (12, .sl 6 (b.Slots.map e_Slot)), (13, .i (b.Slots.length : Int)), (14, .i v1.2)], [(1, (c_Board b))], [(10, .o 3 1 0 (v1.1.map e_i64))], [], []⟩ : S)) ((List.replicate (b.Hosts.length : Int).toNat (0 : Int)), 0)) (by kernel_rfl) ?_
  refine Wk_iter (step := fun y => assign_Loads_B1 b y) (r := r) (fun v1 : List Int × Int => (⟨[(1, .ptr 1 0), (3, .row 10 0), (12, .sl 6 (b.Slots.map e_Slot)), (13, .i (b.Slots.length : Int)), (14, .i v1.2)], [(1, (c_Board b))], [(10, .o 3 1 0 (v1.1.map e_i64))], [], []⟩ : S)) ((List.replicate (b.Hosts.length : Int).toNat (0 : Int)), 0) hF ?_
  intro n1 v1 y1 hF ih1 dn1
  have hF : assign_Loads_B1 b v1 = some y1 := hF
  unfold assign_Loads_B1 at hF
  refine ZRs [] [1, 3, 12, 13, 14, 15] [1] [10] [(15, .bool (decide (v1.2 < (b.Slots.length : Int))))] .nil ?_
  refine Wk_seq ?_
  refine Wk_split rfl (fun hb => ?_) (fun hb => ?_)
  ·have hF := ite_t hF hb
   refine Wk_skip ?_
   refine Wk_seq ?_
   refine Wk_block ?_
   refine Wk_seq ?_
   obtain ⟨h1, hF⟩ := asrt_elim hF
   refine UR [.av (e_Slot (lget b.Slots v1.2))] [1, 3, 5, 12, 13, 14] [1, 5] [10] [] [(5, .ptr 5 0)] [(5, [.str (((lget b.Slots v1.2).Part).From), .str (((lget b.Slots v1.2).Part).To), .i (((lget b.Slots v1.2).Part).ID), .i ((lget b.Slots v1.2).State), .i ((lget b.Slots v1.2).Host), .i ((lget b.Slots v1.2).Turn)])] [] [] (.cons (idx_ok e_Slot h1) .nil) ?_
   refine Wk_seq ?_
   obtain ⟨x, h2, hF⟩ := ob_elim hF
   refine ZR [.callB (.i x)] [1, 3, 6, 12, 13, 14] [1] [10] [(6, .i x)] (.cons (assign_HostAt_ok b ((lget b.Slots v1.2).Host) x h2) .nil) ?_
   refine ZRs [] [1, 3, 6, 12, 13, 14, 23] [1] [10] [(23, .bool (decide (0 ≤ x)))] .nil ?_
   obtain ⟨v2, hv, hF⟩ := ob_elim hF
   refine Wk_meet (⟨[(1, .ptr 1 0), (3, .row 10 0), (12, .sl 6 (b.Slots.map e_Slot)), (13, .i (b.Slots.length : Int)), (14, .i v1.2)], [(1, (c_Board b))], [(10, .o 3 1 0 (v2.map e_i64))], [], []⟩ : S) ?_ ?_
   ·have hF := hv
    refine Wk_split rfl (fun hb => ?_) (fun hb => ?_)
    ·have hF := ite_t hF hb
     obtain ⟨h3, hF⟩ := asrt_elim hF
     obtain ⟨h4, hF⟩ := asrt_elim hF
     obtain ⟨h5, hF⟩ := asrt_elim hF
     obtain ⟨h6, hF⟩ := asrt_elim hF
     refine UR [.av (e_i64 (lget v1.1 x)), .av (e_i64 (lget v1.1 x)), .xs ((lset v1.1 x (w64 ((lget v1.1 x) + 1))).map e_i64)] [1, 3, 12, 13, 14] [1] [10] [] [] [] [(10, .o 3 1 0 ((lset v1.1 x (w64 ((lget v1.1 x) + 1))).map e_i64))] [] (.cons (ixr_ok e_i64 h3) (.cons (ldr_ok e_i64 h4) (.cons (ixr_ok e_i64 h5) (.cons (ldr_ok e_i64 h6) (.cons (set_ok e_i64 v1.1 x (w64 ((lget v1.1 x) + 1))) (.cons (Nat.zero_le x.toNat) .nil)))))) ?_
     exact Wk_met (fs := [1, 3, 12, 13, 14]) (bs := [1]) (rs := [10]) (ms := []) (aa := []) (nv := []) (by first | (rw [← some_elim hF]; kernel_rfl) | kernel_rfl)
    ·have hF := ite_f hF hb
     refine Wk_skip ?_
     exact Wk_met (fs := [1, 3, 12, 13, 14]) (bs := [1]) (rs := [10]) (ms := []) (aa := []) (nv := []) (by first | (rw [← some_elim hF]; kernel_rfl) | kernel_rfl)
   ·refine Wk_blk ?_
    refine ZR [] [1, 3, 12, 13, 14] [1] [10] [(14, .i (w64 (v1.2 + 1)))] .nil ?_
    refine Wk_trim (fs := [1, 3, 12, 13, 14]) (bs := [1]) (rs := [10]) (ms := []) (aa := []) (nv := []) ?_ (ih1 _ (some_elim hF).symm)
    kernel_rfl
  ·have hF := ite_f hF hb
   refine Wk_exit rfl ?_
   have hF := inrO_done hF dn1
   exact Wk_metP v1.1 [3] [] [10] [] [] [] hF (by kernel_rfl)
 ·intro v hF
  have hF : assign_Loads_J1 v = some r := hF
  unfold assign_Loads_J1 at hF
  refine ZRs [] [2] [] [10] [(2, .row 10 0)] .nil ?_
  have hF := some_elim hF
  exact Wk_ret (hfin _ ⟨[10], [], [10], [], [], [], by first | (rw [← hF]; kernel_rfl) | kernel_rfl⟩)

/- assign.Due -/
noncomputable def assign_Due_v1_J1 (v : List Order) : Option (List Order × Fault) :=
 some (v, (⟨0, 0⟩ : Fault))
noncomputable def assign_Due_v1_J2 (b : Board) (v1 : List Int × List Order × Int) (v2 : Int) : Option ((List Int × List Order × Int) ⊕ (List Order × Fault)) :=
 ob (
  if (decide (0 ≤ v2)) = true then
   asrt (0 ≤ v2 ∧ v2 < (v1.1.length : Int)) <|
   asrt (0 ≤ v2 ∧ v2 < (v1.1.length : Int)) <|
   asrt (0 ≤ v2 ∧ v2 < (v1.1.length : Int)) <|
   asrt (0 ≤ v2 ∧ v2 < (v1.1.length : Int)) <|
   asrt (0 ≤ v2 ∧ v2 < (b.Hosts.length : Int)) <|
   asrt (((v1.2.1 ++ [(⟨3, ((lget b.Slots v1.2.2).Part).ID, (lget b.Hosts v2).ID, 0, ([] : List UInt8)⟩ : Order)]).length : Int) * 48 ≤ 140737488351232) <|
   lt ((v1.2.1 ++ [(⟨3, ((lget b.Slots v1.2.2).Part).ID, (lget b.Hosts v2).ID, 0, ([] : List UInt8)⟩ : Order)])) fun (v4 : List Order) =>
   some ((lset v1.1 v2 (w64 ((lget v1.1 v2) + 1))), v4)
  else
   some (v1.1, v1.2.1)) fun (v3 : List Int × List Order) =>
 some (Sum.inl (v3.1, v3.2, w64 (v1.2.2 + 1)))
noncomputable def assign_Due_v1_B2 (b : Board) (v1 : List Int × List Order × Int) (v5 : Int × Int) : Option ((Int × Int) ⊕ ((List Int × List Order × Int) ⊕ (List Order × Fault))) :=
 if (decide (v5.2 < (b.Hosts.length : Int))) = true then
  asrt (0 ≤ v5.2 ∧ v5.2 < (b.Hosts.length : Int)) <|
  asrt ((!(decide (v5.1 < 0))) = true → ((decide (((lget b.Slots v1.2.2).State) = 0)) && ((lget b.Hosts v5.2).Alive)) = true → 0 ≤ v5.2 ∧ v5.2 < (v1.1.length : Int)) <|
  asrt ((!(decide (v5.1 < 0))) = true → ((decide (((lget b.Slots v1.2.2).State) = 0)) && ((lget b.Hosts v5.2).Alive)) = true → 0 ≤ v5.2 ∧ v5.2 < (v1.1.length : Int)) <|
  asrt ((!(decide (v5.1 < 0))) = true → ((decide (((lget b.Slots v1.2.2).State) = 0)) && ((lget b.Hosts v5.2).Alive)) = true → 0 ≤ v5.1 ∧ v5.1 < (v1.1.length : Int)) <|
  asrt ((!(decide (v5.1 < 0))) = true → ((decide (((lget b.Slots v1.2.2).State) = 0)) && ((lget b.Hosts v5.2).Alive)) = true → 0 ≤ v5.1 ∧ v5.1 < (v1.1.length : Int)) <|
  asrt ((!((decide (v5.1 < 0)) || (decide ((lget v1.1 v5.2) < (lget v1.1 v5.1))))) = true → ((decide (((lget b.Slots v1.2.2).State) = 0)) && ((lget b.Hosts v5.2).Alive)) = true → 0 ≤ v5.2 ∧ v5.2 < (v1.1.length : Int)) <|
  asrt ((!((decide (v5.1 < 0)) || (decide ((lget v1.1 v5.2) < (lget v1.1 v5.1))))) = true → ((decide (((lget b.Slots v1.2.2).State) = 0)) && ((lget b.Hosts v5.2).Alive)) = true → 0 ≤ v5.2 ∧ v5.2 < (v1.1.length : Int)) <|
  asrt ((!((decide (v5.1 < 0)) || (decide ((lget v1.1 v5.2) < (lget v1.1 v5.1))))) = true → ((decide (((lget b.Slots v1.2.2).State) = 0)) && ((lget b.Hosts v5.2).Alive)) = true → 0 ≤ v5.1 ∧ v5.1 < (v1.1.length : Int)) <|
  asrt ((!((decide (v5.1 < 0)) || (decide ((lget v1.1 v5.2) < (lget v1.1 v5.1))))) = true → ((decide (((lget b.Slots v1.2.2).State) = 0)) && ((lget b.Hosts v5.2).Alive)) = true → 0 ≤ v5.1 ∧ v5.1 < (v1.1.length : Int)) <|
  asrt ((decide ((lget v1.1 v5.2) = (lget v1.1 v5.1))) = true → (!((decide (v5.1 < 0)) || (decide ((lget v1.1 v5.2) < (lget v1.1 v5.1))))) = true → ((decide (((lget b.Slots v1.2.2).State) = 0)) && ((lget b.Hosts v5.2).Alive)) = true → 0 ≤ v5.1 ∧ v5.1 < (b.Hosts.length : Int)) <|
  ob (
   if (((decide (((lget b.Slots v1.2.2).State) = 0)) && ((lget b.Hosts v5.2).Alive)) && (((decide (v5.1 < 0)) || (decide ((lget v1.1 v5.2) < (lget v1.1 v5.1)))) || ((decide ((lget v1.1 v5.2) = (lget v1.1 v5.1))) && (decide (((lget b.Hosts v5.2).ID) < ((lget b.Hosts v5.1).ID)))))) = true then
    some v5.2
   else
    some v5.1) fun (v6 : Int) =>
  some (Sum.inl (v6, w64 (v5.2 + 1)))
 else
  inrO (assign_Due_v1_J2 b v1 v5.1)
noncomputable def assign_Due_v1_L2 (b : Board) (v1 : List Int × List Order × Int) (v0 : Int × Int) : Option ((List Int × List Order × Int) ⊕ (List Order × Fault)) :=
 loopO (fun y => assign_Due_v1_B2 b v1 y) v0
noncomputable def assign_Due_v1_B1 (b : Board) (v1 : List Int × List Order × Int) : Option ((List Int × List Order × Int) ⊕ (List Order × Fault)) :=
 if (decide (v1.2.2 < (b.Slots.length : Int))) = true then
  asrt (0 ≤ v1.2.2 ∧ v1.2.2 < (b.Slots.length : Int)) <|
  assign_Due_v1_L2 b v1 ((-1), 0)
 else
  inrO (assign_Due_v1_J1 v1.2.1)
noncomputable def assign_Due_v1_L1 (b : Board) (v0 : List Int × List Order × Int) : Option (List Order × Fault) :=
 loopO (fun y => assign_Due_v1_B1 b y) v0
noncomputable def assign_Due_v1 (b : Board) : Option (List Order × Fault) :=
 ob (assign_Check b) fun x =>
 if (!decide (x.Code = 0)) = true then
  some (([] : List Order), x)
 else
  ob (assign_Loads b) fun x1 =>
  assign_Due_v1_L1 b (x1, ([] : List Order), 0)
theorem assign_Due_v1_ok (b : Board) (r : List Order × Fault) (hF : assign_Due_v1 b = some r) : Pe Try.prog 54 S.none [.agg (c_Board b)] (.tup [.sl 5 (r.1.map e_Order), .agg [.i r.2.Code, .i r.2.At]]) S.none := by
 refine Pe_of (N := 105) (res := [.tmp 2, .cell 3 26]) (ts := [53, 26]) Ty.ok Fn.b54 Try.func54 rfl rfl rfl rfl rfl rfl ?_
 intro Q g hfin
 unfold assign_Due_v1 at hF
 refine URs [] [1, 3] [1, 3] [] [] [(1, .ptr 1 0), (3, .ptr 3 0)] [(1, (c_Board b)), (3, [.i 0, .i 0])] [] [] .nil ?_
 refine Wk_seq ?_
 refine Wk_seq ?_
 obtain ⟨x, h0, hF⟩ := ob_elim hF
 refine UR [.callB (.agg [.i x.Code, .i x.At])] [1, 3, 4] [1, 3, 4] [] [] [(4, .ptr 4 0)] [(4, [.i x.Code, .i x.At])] [] [] (.cons (assign_Check_ok b x h0) .nil) ?_
 refine ZRs [] [1, 3, 4, 16] [1, 3, 4] [] [(16, .bool (!decide (x.Code = 0)))] .nil ?_
 refine Wk_split rfl (fun hb => ?_) (fun hb => ?_)
 ·have hF := ite_t hF hb
  refine UDs [] [2, 3] [3] [] [] [(2, .nils)] [(3, [.i x.Code, .i x.At])] [] [] .nil ?_
  have hF := some_elim hF
  exact Wk_ret (hfin _ ⟨[], [], [], [], [], [], by first | (rw [← hF]; kernel_rfl) | kernel_rfl⟩)
 ·have hF := ite_f hF hb
  refine Wk_skip ?_
  refine Wk_seq ?_
  obtain ⟨x1, h1, hF⟩ := ob_elim hF
  refine UR [.callE [] [] [] [] (.row 19 0) ⟨[], [], [(19, .o 3 1 0 (x1.map e_i64))], [], []⟩] [1, 3, 5] [1, 3] [19] [] [(5, .row 19 0)] [] [(19, .o 3 1 0 (x1.map e_i64))] [] (.cons (Pe.ren (assign_Loads_ok b x1 h1) ⟨[], [(10, 19)], [], []⟩) .nil) ?_
  refine ZRs [] [1, 3, 5, 6] [1, 3] [19] [(6, .nils)] .nil ?_
  refine Wk_seq ?_
  refine ZRs [.nat (b.Slots.length : Int)] [1, 3, 5, 6, 21, 22, 23] [1, 3] [19] [(21, .sl 6 (b.Slots.map e_Slot)), (22, .i (b.Slots.length : Int)), (23, .i 0)] (.cons (len_ok e_Slot b.Slots) .nil) ?_
  refine Wk_meetP (fun v : List Order => (⟨[(3, .ptr 3 0), (6, .row 101 0)], [(3, [.i 0, .i 0])], [(101, .z 91 5 0 (v.map e_Order))], [], []⟩ : S)) (fun v => assign_Due_v1_J1 v = some r) ?_ ?_
  ·refine Wk_block ?_
   unfold assign_Due_v1_L1 at hF
   refine Wk_nilrow 6 60000 91 5 rfl rfl rfl ?_
   refine Wk_trim (fs := [1, 3, 5, 6, 21, 22, 23]) (bs := [1, 3]) (rs := [19, 60000]) (ms := []) (aa := []) (nv := []) rfl ?_
   refine Wk_ren' ⟨[], [(60000, 101)], [], []⟩ rfl ?_
   refine Wk_trim (fs := [1, 3, 5, 6, 21, 22, 23]) (bs := [1, 3]) (rs := [19, 101]) (ms := []) (aa := []) (nv := []) (t := (fun v1 : List Int × List Order × Int => (⟨[(1, .ptr 1 0), (3, .ptr 3 0), (5, .row 19 0), (6, .row 101 0), (21, .sl 6 (b.Slots.map e_Slot)), (22, .i (b.Slots.length : Int)), (23, .i v1.2.2)], [(1, (c_Board b)), (3, [.i 0, .i 0])], [(19, .o 3 1 0 (v1.1.map e_i64)), (101, .z 91 5 0 (v1.2.1.map e_Order))], [], []⟩ : S)) (x1, ([] : List Order), 0)) (by kernel_rfl) ?_
   refine Wk_iter (step := fun y => assign_Due_v1_B1 b y) (r := r) (fun v1 : List Int × List Order × Int => (⟨[(1, .ptr 1 0), (3, .ptr 3 0), (5, .row 19 0), (6, .row 101 0), (21, .sl 6 (b.Slots.map e_Slot)), (22, .i (b.Slots.length : Int)), (23, .i v1.2.2)], [(1, (c_Board b)), (3, [.i 0, .i 0])], [(19, .o 3 1 0 (v1.1.map e_i64)), (101, .z 91 5 0 (v1.2.1.map e_Order))], [], []⟩ : S)) (x1, ([] : List Order), 0) hF ?_
   intro n1 v1 y1 hF ih1 dn1
   have hF : assign_Due_v1_B1 b v1 = some y1 := hF
   unfold assign_Due_v1_B1 at hF
   refine ZRs [] [1, 3, 5, 6, 21, 22, 23, 24] [1, 3] [19, 101] [(24, .bool (decide (v1.2.2 < (b.Slots.length : Int))))] .nil ?_
   refine Wk_seq ?_
   refine Wk_split rfl (fun hb => ?_) (fun hb => ?_)
   ·have hF := ite_t hF hb
    refine Wk_skip ?_
    refine Wk_seq ?_
    refine Wk_block ?_
    refine Wk_seq ?_
    obtain ⟨h2, hF⟩ := asrt_elim hF
    refine UR [.av (e_Slot (lget b.Slots v1.2.2))] [1, 3, 5, 6, 8, 21, 22, 23] [1, 3, 8] [19, 101] [] [(8, .ptr 8 0)] [(8, [.str (((lget b.Slots v1.2.2).Part).From), .str (((lget b.Slots v1.2.2).Part).To), .i (((lget b.Slots v1.2.2).Part).ID), .i ((lget b.Slots v1.2.2).State), .i ((lget b.Slots v1.2.2).Host), .i ((lget b.Slots v1.2.2).Turn)])] [] [] (.cons (idx_ok e_Slot h2) .nil) ?_
    refine ZRs [] [1, 3, 5, 6, 8, 9, 21, 22, 23] [1, 3, 8] [19, 101] [(9, .i (-1))] .nil ?_
    refine Wk_seq ?_
    refine ZRs [.nat (b.Hosts.length : Int)] [1, 3, 5, 6, 8, 9, 21, 22, 23, 28, 29, 30] [1, 3, 8] [19, 101] [(28, .sl 3 (b.Hosts.map e_Host)), (29, .i (b.Hosts.length : Int)), (30, .i 0)] (.cons (len_ok e_Host b.Hosts) .nil) ?_
    refine Wk_meetP (fun v2 : Int => (⟨[(1, .ptr 1 0), (3, .ptr 3 0), (5, .row 19 0), (6, .row 101 0), (8, .ptr 8 0), (9, .i v2), (21, .sl 6 (b.Slots.map e_Slot)), (22, .i (b.Slots.length : Int)), (23, .i v1.2.2)], [(1, (c_Board b)), (3, [.i 0, .i 0]), (8, [.str (((lget b.Slots v1.2.2).Part).From), .str (((lget b.Slots v1.2.2).Part).To), .i (((lget b.Slots v1.2.2).Part).ID), .i ((lget b.Slots v1.2.2).State), .i ((lget b.Slots v1.2.2).Host), .i ((lget b.Slots v1.2.2).Turn)])], [(19, .o 3 1 0 (v1.1.map e_i64)), (101, .z 91 5 0 (v1.2.1.map e_Order))], [], []⟩ : S)) (fun v2 => assign_Due_v1_J2 b v1 v2 = some y1) ?_ ?_
    ·refine Wk_block ?_
     unfold assign_Due_v1_L2 at hF
     refine Wk_trim (fs := [1, 3, 5, 6, 8, 9, 21, 22, 23, 28, 29, 30]) (bs := [1, 3, 8]) (rs := [19, 101]) (ms := []) (aa := []) (nv := []) (t := (fun v5 : Int × Int => (⟨[(1, .ptr 1 0), (3, .ptr 3 0), (5, .row 19 0), (6, .row 101 0), (8, .ptr 8 0), (9, .i v5.1), (21, .sl 6 (b.Slots.map e_Slot)), (22, .i (b.Slots.length : Int)), (23, .i v1.2.2), (28, .sl 3 (b.Hosts.map e_Host)), (29, .i (b.Hosts.length : Int)), (30, .i v5.2)], [(1, (c_Board b)), (3, [.i 0, .i 0]), (8, [.str (((lget b.Slots v1.2.2).Part).From), .str (((lget b.Slots v1.2.2).Part).To), .i (((lget b.Slots v1.2.2).Part).ID), .i ((lget b.Slots v1.2.2).State), .i ((lget b.Slots v1.2.2).Host), .i ((lget b.Slots v1.2.2).Turn)])], [(19, .o 3 1 0 (v1.1.map e_i64)), (101, .z 91 5 0 (v1.2.1.map e_Order))], [], []⟩ : S)) ((-1), 0)) (by kernel_rfl) ?_
     refine Wk_iter (step := fun y => assign_Due_v1_B2 b v1 y) (r := y1) (fun v5 : Int × Int => (⟨[(1, .ptr 1 0), (3, .ptr 3 0), (5, .row 19 0), (6, .row 101 0), (8, .ptr 8 0), (9, .i v5.1), (21, .sl 6 (b.Slots.map e_Slot)), (22, .i (b.Slots.length : Int)), (23, .i v1.2.2), (28, .sl 3 (b.Hosts.map e_Host)), (29, .i (b.Hosts.length : Int)), (30, .i v5.2)], [(1, (c_Board b)), (3, [.i 0, .i 0]), (8, [.str (((lget b.Slots v1.2.2).Part).From), .str (((lget b.Slots v1.2.2).Part).To), .i (((lget b.Slots v1.2.2).Part).ID), .i ((lget b.Slots v1.2.2).State), .i ((lget b.Slots v1.2.2).Host), .i ((lget b.Slots v1.2.2).Turn)])], [(19, .o 3 1 0 (v1.1.map e_i64)), (101, .z 91 5 0 (v1.2.1.map e_Order))], [], []⟩ : S)) ((-1), 0) hF ?_
     intro n2 v5 y2 hF ih2 dn2
     have hF : assign_Due_v1_B2 b v1 v5 = some y2 := hF
     unfold assign_Due_v1_B2 at hF
     refine ZRs [] [1, 3, 5, 6, 8, 9, 21, 22, 23, 28, 29, 30, 31] [1, 3, 8] [19, 101] [(31, .bool (decide (v5.2 < (b.Hosts.length : Int))))] .nil ?_
     refine Wk_seq ?_
     refine Wk_split rfl (fun hb => ?_) (fun hb => ?_)
     ·have hF := ite_t hF hb
      refine Wk_skip ?_
      refine Wk_seq ?_
      refine Wk_block ?_
      refine Wk_seq ?_
      obtain ⟨h9, hF⟩ := asrt_elim hF
      refine UR [.av (e_Host (lget b.Hosts v5.2))] [1, 3, 5, 6, 8, 9, 10, 11, 21, 22, 23, 28, 29, 30] [1, 3, 8, 11] [19, 101] [] [(10, .i v5.2), (11, .ptr 11 0)] [(11, (c_Host (lget b.Hosts v5.2)))] [] [] (.cons (idx_ok e_Host h9) .nil) ?_
      refine Wk_seq ?_
      obtain ⟨h10, hF⟩ := asrt_elim hF
      obtain ⟨h11, hF⟩ := asrt_elim hF
      obtain ⟨h12, hF⟩ := asrt_elim hF
      obtain ⟨h13, hF⟩ := asrt_elim hF
      obtain ⟨h14, hF⟩ := asrt_elim hF
      obtain ⟨h15, hF⟩ := asrt_elim hF
      obtain ⟨h16, hF⟩ := asrt_elim hF
      obtain ⟨h17, hF⟩ := asrt_elim hF
      obtain ⟨h18, hF⟩ := asrt_elim hF
      refine ZD [.av (e_i64 (lget v1.1 v5.2)), .av (e_i64 (lget v1.1 v5.1)), .av (e_i64 (lget v1.1 v5.2)), .av (e_i64 (lget v1.1 v5.1)), .av (e_Host (lget b.Hosts v5.1))] [1, 3, 5, 6, 8, 9, 10, 21, 22, 23, 28, 29, 30, 78] [1, 3, 8] [19, 101] [(78, .bool (((decide (((lget b.Slots v1.2.2).State) = 0)) && ((lget b.Hosts v5.2).Alive)) && (((decide (v5.1 < 0)) || (decide ((lget v1.1 v5.2) < (lget v1.1 v5.1)))) || ((decide ((lget v1.1 v5.2) = (lget v1.1 v5.1))) && (decide (((lget b.Hosts v5.2).ID) < ((lget b.Hosts v5.1).ID)))))))] (.cons (fun (ga0 : (!(decide (v5.1 < 0))) = true) (ga1 : ((decide (((lget b.Slots v1.2.2).State) = 0)) && ((lget b.Hosts v5.2).Alive)) = true) => (ixr_ok e_i64 (h10 ga0 ga1))) (.cons (fun (ga0 : (!(decide (v5.1 < 0))) = true) (ga1 : ((decide (((lget b.Slots v1.2.2).State) = 0)) && ((lget b.Hosts v5.2).Alive)) = true) => (ldr_ok e_i64 (h11 ga0 ga1))) (.cons (fun (ga0 : (!(decide (v5.1 < 0))) = true) (ga1 : ((decide (((lget b.Slots v1.2.2).State) = 0)) && ((lget b.Hosts v5.2).Alive)) = true) => (ixr_ok e_i64 (h12 ga0 ga1))) (.cons (fun (ga0 : (!(decide (v5.1 < 0))) = true) (ga1 : ((decide (((lget b.Slots v1.2.2).State) = 0)) && ((lget b.Hosts v5.2).Alive)) = true) => (ldr_ok e_i64 (h13 ga0 ga1))) (.cons (fun (ga0 : (!((decide (v5.1 < 0)) || (decide ((lget v1.1 v5.2) < (lget v1.1 v5.1))))) = true) (ga1 : ((decide (((lget b.Slots v1.2.2).State) = 0)) && ((lget b.Hosts v5.2).Alive)) = true) => (ixr_ok e_i64 (h14 ga0 ga1))) (.cons (fun (ga0 : (!((decide (v5.1 < 0)) || (decide ((lget v1.1 v5.2) < (lget v1.1 v5.1))))) = true) (ga1 : ((decide (((lget b.Slots v1.2.2).State) = 0)) && ((lget b.Hosts v5.2).Alive)) = true) => (ldr_ok e_i64 (h15 ga0 ga1))) (.cons (fun (ga0 : (!((decide (v5.1 < 0)) || (decide ((lget v1.1 v5.2) < (lget v1.1 v5.1))))) = true) (ga1 : ((decide (((lget b.Slots v1.2.2).State) = 0)) && ((lget b.Hosts v5.2).Alive)) = true) => (ixr_ok e_i64 (h16 ga0 ga1))) (.cons (fun (ga0 : (!((decide (v5.1 < 0)) || (decide ((lget v1.1 v5.2) < (lget v1.1 v5.1))))) = true) (ga1 : ((decide (((lget b.Slots v1.2.2).State) = 0)) && ((lget b.Hosts v5.2).Alive)) = true) => (ldr_ok e_i64 (h17 ga0 ga1))) (.cons (fun (ga0 : (decide ((lget v1.1 v5.2) = (lget v1.1 v5.1))) = true) (ga1 : (!((decide (v5.1 < 0)) || (decide ((lget v1.1 v5.2) < (lget v1.1 v5.1))))) = true) (ga2 : ((decide (((lget b.Slots v1.2.2).State) = 0)) && ((lget b.Hosts v5.2).Alive)) = true) => (idx_ok e_Host (h18 ga0 ga1 ga2))) .nil))))))))) ?_
      obtain ⟨v6, hv, hF⟩ := ob_elim hF
      refine Wk_meet (⟨[(1, .ptr 1 0), (3, .ptr 3 0), (5, .row 19 0), (6, .row 101 0), (8, .ptr 8 0), (9, .i v6), (21, .sl 6 (b.Slots.map e_Slot)), (22, .i (b.Slots.length : Int)), (23, .i v1.2.2), (28, .sl 3 (b.Hosts.map e_Host)), (29, .i (b.Hosts.length : Int)), (30, .i v5.2)], [(1, (c_Board b)), (3, [.i 0, .i 0]), (8, [.str (((lget b.Slots v1.2.2).Part).From), .str (((lget b.Slots v1.2.2).Part).To), .i (((lget b.Slots v1.2.2).Part).ID), .i ((lget b.Slots v1.2.2).State), .i ((lget b.Slots v1.2.2).Host), .i ((lget b.Slots v1.2.2).Turn)])], [(19, .o 3 1 0 (v1.1.map e_i64)), (101, .z 91 5 0 (v1.2.1.map e_Order))], [], []⟩ : S) ?_ ?_
      ·have hF := hv
       refine Wk_split rfl (fun hb => ?_) (fun hb => ?_)
       ·have hF := ite_t hF hb
        refine ZR [] [1, 3, 5, 6, 8, 9, 21, 22, 23, 28, 29, 30] [1, 3, 8] [19, 101] [(9, .i v5.2)] .nil ?_
        exact Wk_met (fs := [1, 3, 5, 6, 8, 9, 21, 22, 23, 28, 29, 30]) (bs := [1, 3, 8]) (rs := [19, 101]) (ms := []) (aa := []) (nv := []) (by first | (rw [← some_elim hF]; kernel_rfl) | kernel_rfl)
       ·have hF := ite_f hF hb
        refine Wk_skip ?_
        exact Wk_met (fs := [1, 3, 5, 6, 8, 9, 21, 22, 23, 28, 29, 30]) (bs := [1, 3, 8]) (rs := [19, 101]) (ms := []) (aa := []) (nv := []) (by first | (rw [← some_elim hF]; kernel_rfl) | kernel_rfl)
      ·refine Wk_blk ?_
       refine ZR [] [1, 3, 5, 6, 8, 9, 21, 22, 23, 28, 29, 30] [1, 3, 8] [19, 101] [(30, .i (w64 (v5.2 + 1)))] .nil ?_
       refine Wk_trim (fs := [1, 3, 5, 6, 8, 9, 21, 22, 23, 28, 29, 30]) (bs := [1, 3, 8]) (rs := [19, 101]) (ms := []) (aa := []) (nv := []) ?_ (ih2 _ (some_elim hF).symm)
       kernel_rfl
     ·have hF := ite_f hF hb
      refine Wk_exit rfl ?_
      have hF := inrO_done hF dn2
      exact Wk_metP v5.1 [1, 3, 5, 6, 8, 9, 21, 22, 23] [1, 3, 8] [19, 101] [] [] [] hF (by kernel_rfl)
    ·intro v2 hF
     have hF : assign_Due_v1_J2 b v1 v2 = some y1 := hF
     unfold assign_Due_v1_J2 at hF
     refine ZRs [] [1, 3, 5, 6, 8, 9, 21, 22, 23, 82] [1, 3, 8] [19, 101] [(82, .bool (decide (0 ≤ v2)))] .nil ?_
     obtain ⟨v3, hv, hF⟩ := ob_elim hF
     refine Wk_meet (⟨[(1, .ptr 1 0), (3, .ptr 3 0), (5, .row 19 0), (6, .row 101 0), (21, .sl 6 (b.Slots.map e_Slot)), (22, .i (b.Slots.length : Int)), (23, .i v1.2.2)], [(1, (c_Board b)), (3, [.i 0, .i 0])], [(19, .o 3 1 0 (v3.1.map e_i64)), (101, .z 91 5 0 (v3.2.map e_Order))], [], []⟩ : S) ?_ ?_
     ·have hF := hv
      refine Wk_split rfl (fun hb => ?_) (fun hb => ?_)
      ·have hF := ite_t hF hb
       refine Wk_seq ?_
       obtain ⟨h3, hF⟩ := asrt_elim hF
       obtain ⟨h4, hF⟩ := asrt_elim hF
       obtain ⟨h5, hF⟩ := asrt_elim hF
       obtain ⟨h6, hF⟩ := asrt_elim hF
       refine UR [.av (e_i64 (lget v1.1 v2)), .av (e_i64 (lget v1.1 v2)), .xs ((lset v1.1 v2 (w64 ((lget v1.1 v2) + 1))).map e_i64)] [1, 3, 5, 6, 8, 9, 21, 22, 23] [1, 3, 8] [19, 101] [] [] [] [(19, .o 3 1 0 ((lset v1.1 v2 (w64 ((lget v1.1 v2) + 1))).map e_i64))] [] (.cons (ixr_ok e_i64 h3) (.cons (ldr_ok e_i64 h4) (.cons (ixr_ok e_i64 h5) (.cons (ldr_ok e_i64 h6) (.cons (set_ok e_i64 v1.1 v2 (w64 ((lget v1.1 v2) + 1))) (.cons (Nat.zero_le v2.toNat) .nil)))))) ?_
       obtain ⟨h7, hF⟩ := asrt_elim hF
       obtain ⟨h8, hF⟩ := asrt_elim hF
       refine WDL ((v1.2.1 ++ [(⟨3, ((lget b.Slots v1.2.2).Part).ID, (lget b.Hosts v2).ID, 0, ([] : List UInt8)⟩ : Order)])) (fun v4 : List Order => ⟨[(1, .ptr 1 0), (3, .ptr 3 0), (5, .row 19 0), (6, .row 101 1), (21, .sl 6 (b.Slots.map e_Slot)), (22, .i (b.Slots.length : Int)), (23, .i v1.2.2)], [(1, (c_Board b)), (3, [.i 0, .i 0])], [(19, .o 3 1 0 ((lset v1.1 v2 (w64 ((lget v1.1 v2) + 1))).map e_i64)), (101, .z 91 5 1 (v4.map e_Order))], [], []⟩) [.av (e_Host (lget b.Hosts v2)), .sealed, .xs ((v1.2.1 ++ [(⟨3, ((lget b.Slots v1.2.2).Part).ID, (lget b.Hosts v2).ID, 0, ([] : List UInt8)⟩ : Order)]).map e_Order)] [1, 3, 5, 6, 21, 22, 23] [1, 3] [19, 101] [] [] [] (.cons (idx_ok e_Host h7) (.cons (app_ok e_Order v1.2.1 [(⟨3, ((lget b.Slots v1.2.2).Part).ID, (lget b.Hosts v2).ID, 0, ([] : List UInt8)⟩ : Order)]) (.cons (appl_ok e_Order h8) .nil))) (by kernel_rfl) (fun v4 hv => ?_)
       have hF := lt_elim hF hv
       exact Wk_met (fs := [1, 3, 5, 6, 21, 22, 23]) (bs := [1, 3]) (rs := [19, 101]) (ms := []) (aa := []) (nv := [(101, ⟨0, true, true, false⟩)]) (by first | (rw [← some_elim hF]; kernel_rfl) | kernel_rfl)
      ·have hF := ite_f hF hb
       refine Wk_skip ?_
       exact Wk_met (fs := [1, 3, 5, 6, 21, 22, 23]) (bs := [1, 3]) (rs := [19, 101]) (ms := []) (aa := []) (nv := []) (by first | (rw [← some_elim hF]; kernel_rfl) | kernel_rfl)
     ·refine Wk_blk ?_
      refine ZR [] [1, 3, 5, 6, 21, 22, 23] [1, 3] [19, 101] [(23, .i (w64 (v1.2.2 + 1)))] .nil ?_
      refine Wk_trim (fs := [1, 3, 5, 6, 21, 22, 23]) (bs := [1, 3]) (rs := [19, 101]) (ms := []) (aa := []) (nv := []) ?_ (ih1 _ (some_elim hF).symm)
      kernel_rfl
   ·have hF := ite_f hF hb
    refine Wk_exit rfl ?_
    have hF := inrO_done hF dn1
    exact Wk_metP v1.2.1 [3, 6] [3] [101] [] [] [] hF (by kernel_rfl)
  ·intro v hF
   have hF : assign_Due_v1_J1 v = some r := hF
   unfold assign_Due_v1_J1 at hF
   refine ZRs [] [2, 3] [3] [101] [(2, .row 101 0)] .nil ?_
   have hF := some_elim hF
   exact Wk_ret (hfin _ ⟨[], [], [], [], [], [], by first | (rw [← hF]; kernel_rfl) | kernel_rfl⟩)

/- tabularyref.SameOrders -/
noncomputable def R_SameOrders_J1 (v : Unit) : Option Bool :=
 some true
noncomputable def R_SameOrders_B1 (a0 : List Order) (b : List Order) (v1 : Int) : Option (Int ⊕ Bool) :=
 if (decide (v1 < (a0.length : Int))) = true then
  asrt (0 ≤ v1 ∧ v1 < (a0.length : Int)) <|
  asrt (0 ≤ v1 ∧ v1 < (b.length : Int)) <|
  if (!(decide ((lget a0 v1).Kind = (lget b v1).Kind) && (decide ((lget a0 v1).ID = (lget b v1).ID) && (decide ((lget a0 v1).Host = (lget b v1).Host) && (decide ((lget a0 v1).Turn = (lget b v1).Turn) && (decide ((lget a0 v1).Row = (lget b v1).Row) && true)))))) = true then
   some (Sum.inr false)
  else
   some (Sum.inl (w64 (v1 + 1)))
 else
  inrO (R_SameOrders_J1 ())
noncomputable def R_SameOrders_L1 (a0 : List Order) (b : List Order) (v0 : Int) : Option Bool :=
 loopO (fun y => R_SameOrders_B1 a0 b y) v0
noncomputable def R_SameOrders (a0 : List Order) (b : List Order) : Option Bool :=
 if (!decide ((a0.length : Int) = (b.length : Int))) = true then
  some false
 else
  R_SameOrders_L1 a0 b 0
theorem R_SameOrders_ok (a0 : List Order) (b : List Order) (r : Bool) (hF : R_SameOrders a0 b = some r) : Pe Try.prog 56 S.none [.sl 5 (a0.map e_Order), .sl 5 (b.map e_Order)] (.bool r) S.none := by
 refine Pe_of (N := 26) (res := [.tmp 4]) (ts := [4]) Ty.ok Fn.b56 Try.func56 rfl rfl rfl rfl rfl rfl ?_
 intro Q g hfin
 unfold R_SameOrders at hF
 refine ZRs [] [0, 1] [] [] [] .nil ?_
 refine Wk_seq ?_
 refine ZRs [.nat (a0.length : Int), .nat (b.length : Int)] [0, 1, 10] [] [] [(10, .bool (!decide ((a0.length : Int) = (b.length : Int))))] (.cons (len_ok e_Order a0) (.cons (len_ok e_Order b) .nil)) ?_
 refine Wk_split rfl (fun hb => ?_) (fun hb => ?_)
 ·have hF := ite_t hF hb
  refine ZRs [] [4] [] [] [(4, .bool false)] .nil ?_
  have hF := some_elim hF
  exact Wk_ret (hfin _ ⟨[], [], [], [], [], [], by first | (rw [← hF]; kernel_rfl) | kernel_rfl⟩)
 ·have hF := ite_f hF hb
  refine Wk_skip ?_
  refine Wk_seq ?_
  refine ZRs [] [0, 1, 5] [] [] [(5, .i 0)] .nil ?_
  refine Wk_meetP (fun v : Unit => (⟨[], [], [], [], []⟩ : S)) (fun v => R_SameOrders_J1 v = some r) ?_ ?_
  ·refine Wk_block ?_
   unfold R_SameOrders_L1 at hF
   refine Wk_trim (fs := [0, 1, 5]) (bs := []) (rs := []) (ms := []) (aa := []) (nv := []) (t := (fun v1 : Int => (⟨[(0, .sl 5 (a0.map e_Order)), (1, .sl 5 (b.map e_Order)), (5, .i v1)], [], [], [], []⟩ : S)) 0) (by kernel_rfl) ?_
   refine Wk_iter (step := fun y => R_SameOrders_B1 a0 b y) (r := r) (fun v1 : Int => (⟨[(0, .sl 5 (a0.map e_Order)), (1, .sl 5 (b.map e_Order)), (5, .i v1)], [], [], [], []⟩ : S)) 0 hF ?_
   intro n1 v1 y1 hF ih1 dn1
   have hF : R_SameOrders_B1 a0 b v1 = some y1 := hF
   unfold R_SameOrders_B1 at hF
   refine Wk_seq ?_
   refine ZRs [.nat (a0.length : Int)] [0, 1, 5, 14] [] [] [(14, .bool (decide (v1 < (a0.length : Int))))] (.cons (len_ok e_Order a0) .nil) ?_
   refine Wk_split rfl (fun hb => ?_) (fun hb => ?_)
   ·have hF := ite_t hF hb
    refine Wk_skip ?_
    refine Wk_seq ?_
    refine Wk_block ?_
    refine Wk_seq ?_
    obtain ⟨h0, hF⟩ := asrt_elim hF
    obtain ⟨h1, hF⟩ := asrt_elim hF
    refine ZD [.av (e_Order (lget a0 v1)), .av (e_Order (lget b v1))] [0, 1, 5, 25] [] [] [(25, .bool (!(decide ((lget a0 v1).Kind = (lget b v1).Kind) && (decide ((lget a0 v1).ID = (lget b v1).ID) && (decide ((lget a0 v1).Host = (lget b v1).Host) && (decide ((lget a0 v1).Turn = (lget b v1).Turn) && (decide ((lget a0 v1).Row = (lget b v1).Row) && true)))))))] (.cons (idx_ok e_Order h0) (.cons (idx_ok e_Order h1) .nil)) ?_
    refine Wk_split rfl (fun hb => ?_) (fun hb => ?_)
    ·have hF := ite_t hF hb
     refine ZRs [] [4] [] [] [(4, .bool false)] .nil ?_
     have hF := ret_done hF dn1
     have hF := some_elim hF
     exact Wk_ret (hfin _ ⟨[], [], [], [], [], [], by first | (rw [← hF]; kernel_rfl) | kernel_rfl⟩)
    ·have hF := ite_f hF hb
     refine Wk_skip ?_
     refine Wk_blk ?_
     refine ZR [] [0, 1, 5] [] [] [(5, .i (w64 (v1 + 1)))] .nil ?_
     refine Wk_trim (fs := [0, 1, 5]) (bs := []) (rs := []) (ms := []) (aa := []) (nv := []) ?_ (ih1 _ (some_elim hF).symm)
     kernel_rfl
   ·have hF := ite_f hF hb
    refine Wk_exit rfl ?_
    have hF := inrO_done hF dn1
    exact Wk_metP () [] [] [] [] [] [] hF (by kernel_rfl)
  ·intro v hF
   have hF : R_SameOrders_J1 v = some r := hF
   unfold R_SameOrders_J1 at hF
   refine ZRs [] [4] [] [] [(4, .bool true)] .nil ?_
   have hF := some_elim hF
   exact Wk_ret (hfin _ ⟨[], [], [], [], [], [], by first | (rw [← hF]; kernel_rfl) | kernel_rfl⟩)

/- tabularylaw.assignBegun -/
noncomputable def law_assignBegun  : Option Bool :=
 lt (assign_New_v1) fun x =>
 ob (assign_Do_v1 x (⟨1, 7, 0, 0, ([] : List UInt8)⟩ : Order)) fun x1 =>
 ob (assign_Due_v1 x1.1) fun x2 =>
 ob (if ((decide (x1.2.Code = 0)) && (decide (x2.2.Code = 0))) = true then (R_SameOrders x2.1 [(⟨3, 1, 7, 0, ([] : List UInt8)⟩ : Order)]) else some default) fun x3 =>
 some (((decide (x1.2.Code = 0)) && (decide (x2.2.Code = 0))) && x3)
theorem law_assignBegun_ok  (r : Bool) (hF : law_assignBegun  = some r) : Pe Try.prog 51 S.none [] (.bool r) S.none := by
 refine Pe_of (N := 30) (res := [.tmp 0]) (ts := [4]) Ty.ok Fn.b51 Try.func51 rfl rfl rfl rfl rfl rfl ?_
 intro Q g hfin
 unfold law_assignBegun at hF
 refine ZRs [] [] [] [] [] .nil ?_
 refine Wk_seq ?_
 obtain ⟨x, h0, hF⟩ := lt_split hF
 obtain ⟨x1, h1, hF⟩ := ob_elim hF
 refine UR [.call (.agg (c_Board x)), .call (.tup [.agg (c_Board x1.1), .agg [.i x1.2.Code, .i x1.2.At]])] [1, 2] [1, 2] [] [] [(1, .ptr 1 0), (2, .ptr 2 0)] [(1, (c_Board x1.1)), (2, [.i x1.2.Code, .i x1.2.At])] [] [] (.cons (assign_New_v1_ok  x h0) (.cons (assign_Do_v1_ok x (⟨1, 7, 0, 0, ([] : List UInt8)⟩ : Order) x1 h1) .nil)) ?_
 refine Wk_seq ?_
 obtain ⟨x2, h2, hF⟩ := ob_elim hF
 refine UR [.call (.tup [.sl 5 (x2.1.map e_Order), .agg [.i x2.2.Code, .i x2.2.At]])] [2, 3, 4] [2, 4] [] [] [(3, .sl 5 (x2.1.map e_Order)), (4, .ptr 4 0)] [(4, [.i x2.2.Code, .i x2.2.At])] [] [] (.cons (assign_Due_v1_ok x1.1 x2 h2) .nil) ?_
 refine Wk_seq ?_
 obtain ⟨x3, h3, hF⟩ := ob_elim hF
 refine ZR [.sealed, .callB (.bool x3)] [0] [] [] [(0, .bool (((decide (x1.2.Code = 0)) && (decide (x2.2.Code = 0))) && x3))] (.cons (fun (ga0 : ((decide (x1.2.Code = 0)) && (decide (x2.2.Code = 0))) = true) => (R_SameOrders_ok x2.1 [(⟨3, 1, 7, 0, ([] : List UInt8)⟩ : Order)] x3 (ite_t h3 ga0))) .nil) ?_
 have hF := some_elim hF
 exact Wk_ret (hfin _ ⟨[], [], [], [], [], [], by first | (rw [← hF]; kernel_rfl) | kernel_rfl⟩)

/- tabularylaw.vastBoard -/
noncomputable def law_vastBoard (b : Board) : Bool :=
 lt ((decide (100 < (b.Hosts.length : Int))) || (decide (400 < (b.Slots.length : Int)))) fun (v : Bool) =>
 v

/- tabularyref.CopyBoard -/
noncomputable def R_CopyBoard (b : Board) : Option (List Host × List Slot × Int × Int) :=
 asrt ((b.Hosts.length : Int) * 24 ≤ 140737488351232) <|
 asrt ((b.Slots.length : Int) * 64 ≤ 140737488351232) <|
 some (b.Hosts, b.Slots, b.Turn, b.Next)

/- tabularyref.CopyBoard -/
noncomputable def R_CopyBoard_v1 (b : Board) : Option Board :=
 asrt ((b.Hosts.length : Int) * 24 ≤ 140737488351232) <|
 asrt ((b.Slots.length : Int) * 64 ≤ 140737488351232) <|
 some b

/- tabularyref.F -/
noncomputable def R_F (code : Int) (at0 : Int) : Fault :=
 (⟨code, at0⟩ : Fault)

/- tabularyref.Num -/
noncomputable def R_Num (num : Int) : Bool :=
 (decide (0 ≤ num)) && (decide (num ≤ 1000000000))

/- tabularyref.One -/
noncomputable def R_One (num : Int) : Bool :=
 lt (R_Num num) fun x =>
 (decide (0 < num)) && x

/- tabularyref.PartsOf -/
noncomputable def R_PartsOf_J1 (v : List Part) : Option (List Part) :=
 some v
noncomputable def R_PartsOf_B1 (b : Board) (v1 : List Part × Int) : Option ((List Part × Int) ⊕ (List Part)) :=
 if (decide (v1.2 < (b.Slots.length : Int))) = true then
  asrt (0 ≤ v1.2 ∧ v1.2 < (b.Slots.length : Int)) <|
  asrt (((v1.1 ++ [(⟨((lget b.Slots v1.2).Part).From, ((lget b.Slots v1.2).Part).To, ((lget b.Slots v1.2).Part).ID⟩ : Part)]).length : Int) * 40 ≤ 140737488351232) <|
  lt ((v1.1 ++ [(⟨((lget b.Slots v1.2).Part).From, ((lget b.Slots v1.2).Part).To, ((lget b.Slots v1.2).Part).ID⟩ : Part)])) fun (v2 : List Part) =>
  some (Sum.inl (v2, w64 (v1.2 + 1)))
 else
  inrO (R_PartsOf_J1 v1.1)
noncomputable def R_PartsOf_L1 (b : Board) (v0 : List Part × Int) : Option (List Part) :=
 loopO (fun y => R_PartsOf_B1 b y) v0
noncomputable def R_PartsOf (b : Board) : Option (List Part) :=
 R_PartsOf_L1 b (([] : List Part), 0)

/- tabularyref.PartsFault -/
noncomputable def R_PartsFault_J1 (v : Unit) : Option Fault :=
 some (⟨0, 0⟩ : Fault)
noncomputable def R_PartsFault_J2 (v1 : Int) (v2 : Unit) : Option (Int ⊕ Fault) :=
 some (Sum.inl (w64 (v1 + 1)))
noncomputable def R_PartsFault_B2 (l : List Part) (v1 : Int) (v3 : Int) : Option (Int ⊕ (Int ⊕ Fault)) :=
 if (decide (v3 < v1)) = true then
  asrt (0 ≤ v3 ∧ v3 < (l.length : Int)) <|
  if (decide (((lget l v3).ID) = ((lget l v1).ID))) = true then
   lt (R_F 10 v1) fun x7 =>
   some (Sum.inr (Sum.inr x7))
  else
   some (Sum.inl (w64 (v3 + 1)))
 else
  inrO (R_PartsFault_J2 v1 ())
noncomputable def R_PartsFault_L2 (l : List Part) (v1 : Int) (v0 : Int) : Option (Int ⊕ Fault) :=
 loopO (fun y => R_PartsFault_B2 l v1 y) v0
noncomputable def R_PartsFault_B1 (l : List Part) (v1 : Int) : Option (Int ⊕ Fault) :=
 if (decide (v1 < (l.length : Int))) = true then
  asrt (0 ≤ v1 ∧ v1 < (l.length : Int)) <|
  if ((decide (40 < (((lget l v1).From).length : Int))) || (decide (40 < (((lget l v1).To).length : Int)))) = true then
   lt (R_F 8 v1) fun x2 =>
   some (Sum.inr x2)
  else
   lt (R_Num ((lget l v1).ID)) fun x3 =>
   if (!x3) = true then
    lt (R_F 3 v1) fun x4 =>
    some (Sum.inr x4)
   else
    asrt ((decide (0 < v1)) = true → (!((decide (v1 = 0)) && (!decide (((lget l v1).From) = ([] : List UInt8))))) = true → 0 ≤ w64 (v1 - 1) ∧ w64 (v1 - 1) < (l.length : Int)) <|
    if (((decide (v1 = 0)) && (!decide (((lget l v1).From) = ([] : List UInt8)))) || ((decide (0 < v1)) && (!decide (((lget l v1).From) = ((lget l (w64 (v1 - 1))).To))))) = true then
     lt (R_F 5 v1) fun x5 =>
     some (Sum.inr x5)
    else
     if (((decide (v1 = (w64 ((l.length : Int) - 1)))) && (!decide (((lget l v1).To) = ([] : List UInt8)))) || ((decide (v1 < (w64 ((l.length : Int) - 1)))) && (!Op.bytesLess ((lget l v1).From) ((lget l v1).To)))) = true then
      lt (R_F 5 v1) fun x6 =>
      some (Sum.inr x6)
     else
      R_PartsFault_L2 l v1 0
 else
  inrO (R_PartsFault_J1 ())
noncomputable def R_PartsFault_L1 (l : List Part) (v0 : Int) : Option Fault :=
 loopO (fun y => R_PartsFault_B1 l y) v0
noncomputable def R_PartsFault (l : List Part) : Option Fault :=
 if (decide ((l.length : Int) = 0)) = true then
  lt (R_F 6 (-1)) fun x =>
  some x
 else
  if (decide (200 < (l.length : Int))) = true then
   lt (R_F 2 (-1)) fun x1 =>
   some x1
  else
   R_PartsFault_L1 l 0

/- tabularyref.HostIn -/
noncomputable def R_HostIn_J1 (v : Unit) : Option Int :=
 some (-1)
noncomputable def R_HostIn_B1 (b : Board) (id : Int) (alive : Bool) (v1 : Int) : Option (Int ⊕ Int) :=
 if (decide (v1 < (b.Hosts.length : Int))) = true then
  asrt (0 ≤ v1 ∧ v1 < (b.Hosts.length : Int)) <|
  asrt ((decide (((lget b.Hosts v1).ID) = id)) = true → 0 ≤ v1 ∧ v1 < (b.Hosts.length : Int)) <|
  if ((decide (((lget b.Hosts v1).ID) = id)) && (((lget b.Hosts v1).Alive) || (!alive))) = true then
   some (Sum.inr v1)
  else
   some (Sum.inl (w64 (v1 + 1)))
 else
  inrO (R_HostIn_J1 ())
noncomputable def R_HostIn_L1 (b : Board) (id : Int) (alive : Bool) (v0 : Int) : Option Int :=
 loopO (fun y => R_HostIn_B1 b id alive y) v0
noncomputable def R_HostIn (b : Board) (id : Int) (alive : Bool) : Option Int :=
 R_HostIn_L1 b id alive 0

/- tabularyref.SlotCode -/
noncomputable def R_SlotCode_J2 (v1 : Unit) : Option Int :=
 some 0
noncomputable def R_SlotCode_B1 (b : Board) (i : Int) (v2 : Int) : Option (Int ⊕ Int) :=
 if (decide (v2 < i)) = true then
  asrt ((decide (0 < ((lget b.Slots i).Turn))) = true → 0 ≤ v2 ∧ v2 < (b.Slots.length : Int)) <|
  if ((decide (0 < ((lget b.Slots i).Turn))) && (decide (((lget b.Slots v2).Turn) = ((lget b.Slots i).Turn)))) = true then
   some (Sum.inr 10)
  else
   some (Sum.inl (w64 (v2 + 1)))
 else
  inrO (R_SlotCode_J2 ())
noncomputable def R_SlotCode_L1 (b : Board) (i : Int) (v0 : Int) : Option Int :=
 loopO (fun y => R_SlotCode_B1 b i y) v0
noncomputable def R_SlotCode_J1 (b : Board) (i : Int) (v : Unit) : Option Int :=
 R_SlotCode_L1 b i 0
noncomputable def R_SlotCode (b : Board) (i : Int) : Option Int :=
 asrt (0 ≤ i ∧ i < (b.Slots.length : Int)) <|
 if ((((((decide (((lget b.Slots i).State) < 0)) || (decide (3 < ((lget b.Slots i).State)))) || (decide (((lget b.Slots i).Turn) < 0))) || (decide (b.Turn < ((lget b.Slots i).Turn)))) || (decide ((((lget b.Slots i).Part).ID) < 1))) || (decide (b.Next ≤ (((lget b.Slots i).Part).ID)))) = true then
  some 3
 else
  if (decide (((lget b.Slots i).State) = 0)) = true then
   if (!decide (((lget b.Slots i).Host) = 0)) = true then
    some 11
   else
    R_SlotCode_J1 b i ()
  else
   ob (R_HostIn b ((lget b.Slots i).Host) true) fun x =>
   if (decide (x < 0)) = true then
    some 6
   else
    if (decide (((lget b.Slots i).Turn) = 0)) = true then
     some 3
    else
     R_SlotCode_J1 b i ()

/- tabularyref.BoardFault -/
noncomputable def R_BoardFault_J2 (v1 : Unit) : Option Fault :=
 some (⟨0, 0⟩ : Fault)
noncomputable def R_BoardFault_B1 (b : Board) (v2 : Int) : Option (Int ⊕ Fault) :=
 if (decide (v2 < (b.Slots.length : Int))) = true then
  ob (R_SlotCode b v2) fun x7 =>
  if (!decide (x7 = 0)) = true then
   ob (R_SlotCode b v2) fun x8 =>
   lt (R_F x8 (w64 ((-2000) - (w64 (v2 + 1))))) fun x9 =>
   some (Sum.inr x9)
  else
   some (Sum.inl (w64 (v2 + 1)))
 else
  inrO (R_BoardFault_J2 ())
noncomputable def R_BoardFault_L1 (b : Board) (v0 : Int) : Option Fault :=
 loopO (fun y => R_BoardFault_B1 b y) v0
noncomputable def R_BoardFault_J1 (b : Board) (v : Unit) : Option Fault :=
 lt (R_Num b.Turn) fun x1 =>
 lt (R_One b.Next) fun x2 =>
 if ((!x1) || (!x2)) = true then
  lt (R_F 3 (-2)) fun x3 =>
  some x3
 else
  ob (R_PartsOf b) fun x4 =>
  ob (R_PartsFault x4) fun x5 =>
  if (!decide (x5.Code = 0)) = true then
   lt (R_F x5.Code (w64 (x5.At - 1000))) fun x6 =>
   some x6
  else
   R_BoardFault_L1 b 0
noncomputable def R_BoardFault_J3 (v3 : Int) (v4 : Unit) : Option (Int ⊕ Fault) :=
 some (Sum.inl (w64 (v3 + 1)))
noncomputable def R_BoardFault_B3 (b : Board) (v3 : Int) (v5 : Int) : Option (Int ⊕ (Int ⊕ Fault)) :=
 if (decide (v5 < v3)) = true then
  asrt (0 ≤ v5 ∧ v5 < (b.Hosts.length : Int)) <|
  asrt (0 ≤ v3 ∧ v3 < (b.Hosts.length : Int)) <|
  if (decide (((lget b.Hosts v5).ID) = ((lget b.Hosts v3).ID))) = true then
   lt (R_F 10 v3) fun x13 =>
   some (Sum.inr (Sum.inr x13))
  else
   some (Sum.inl (w64 (v5 + 1)))
 else
  inrO (R_BoardFault_J3 v3 ())
noncomputable def R_BoardFault_L3 (b : Board) (v3 : Int) (v0 : Int) : Option (Int ⊕ Fault) :=
 loopO (fun y => R_BoardFault_B3 b v3 y) v0
noncomputable def R_BoardFault_B2 (b : Board) (v3 : Int) : Option (Int ⊕ Fault) :=
 if (decide (v3 < (b.Hosts.length : Int))) = true then
  asrt (0 ≤ v3 ∧ v3 < (b.Hosts.length : Int)) <|
  lt (R_One ((lget b.Hosts v3).ID)) fun x10 =>
  asrt ((!(!x10)) = true → 0 ≤ v3 ∧ v3 < (b.Hosts.length : Int)) <|
  lt (R_One ((lget b.Hosts v3).Epoch)) fun x11 =>
  if ((!x10) || (!x11)) = true then
   lt (R_F 3 v3) fun x12 =>
   some (Sum.inr x12)
  else
   R_BoardFault_L3 b v3 0
 else
  inrO (R_BoardFault_J1 b ())
noncomputable def R_BoardFault_L2 (b : Board) (v0 : Int) : Option Fault :=
 loopO (fun y => R_BoardFault_B2 b y) v0
noncomputable def R_BoardFault (b : Board) : Option Fault :=
 if (decide (20 < (b.Hosts.length : Int))) = true then
  lt (R_F 2 (-1)) fun x =>
  some x
 else
  R_BoardFault_L2 b 0

/- tabularyref.SameBoard -/
noncomputable def R_SameBoard_J2 (v1 : Unit) : Option Bool :=
 some true
noncomputable def R_SameBoard_B1 (a0 : Board) (b : Board) (v2 : Int) : Option (Int ⊕ Bool) :=
 if (decide (v2 < (a0.Slots.length : Int))) = true then
  asrt (0 ≤ v2 ∧ v2 < (a0.Slots.length : Int)) <|
  asrt (0 ≤ v2 ∧ v2 < (b.Slots.length : Int)) <|
  if (!(decide (((lget a0.Slots v2).Part).From = ((lget b.Slots v2).Part).From) && (decide (((lget a0.Slots v2).Part).To = ((lget b.Slots v2).Part).To) && (decide (((lget a0.Slots v2).Part).ID = ((lget b.Slots v2).Part).ID) && (decide ((lget a0.Slots v2).State = (lget b.Slots v2).State) && (decide ((lget a0.Slots v2).Host = (lget b.Slots v2).Host) && (decide ((lget a0.Slots v2).Turn = (lget b.Slots v2).Turn) && true))))))) = true then
   some (Sum.inr false)
  else
   some (Sum.inl (w64 (v2 + 1)))
 else
  inrO (R_SameBoard_J2 ())
noncomputable def R_SameBoard_L1 (a0 : Board) (b : Board) (v0 : Int) : Option Bool :=
 loopO (fun y => R_SameBoard_B1 a0 b y) v0
noncomputable def R_SameBoard_J1 (a0 : Board) (b : Board) (v : Unit) : Option Bool :=
 R_SameBoard_L1 a0 b 0
noncomputable def R_SameBoard_B2 (a0 : Board) (b : Board) (v3 : Int) : Option (Int ⊕ Bool) :=
 if (decide (v3 < (a0.Hosts.length : Int))) = true then
  asrt (0 ≤ v3 ∧ v3 < (a0.Hosts.length : Int)) <|
  asrt (0 ≤ v3 ∧ v3 < (b.Hosts.length : Int)) <|
  if (!(decide ((lget a0.Hosts v3).ID = (lget b.Hosts v3).ID) && (decide ((lget a0.Hosts v3).Epoch = (lget b.Hosts v3).Epoch) && ((((lget a0.Hosts v3).Alive) == ((lget b.Hosts v3).Alive)) && true)))) = true then
   some (Sum.inr false)
  else
   some (Sum.inl (w64 (v3 + 1)))
 else
  inrO (R_SameBoard_J1 a0 b ())
noncomputable def R_SameBoard_L2 (a0 : Board) (b : Board) (v0 : Int) : Option Bool :=
 loopO (fun y => R_SameBoard_B2 a0 b y) v0
noncomputable def R_SameBoard (a0 : Board) (b : Board) : Option Bool :=
 if ((((!decide (a0.Turn = b.Turn)) || (!decide (a0.Next = b.Next))) || (!decide ((a0.Hosts.length : Int) = (b.Hosts.length : Int)))) || (!decide ((a0.Slots.length : Int) = (b.Slots.length : Int)))) = true then
  some false
 else
  R_SameBoard_L2 a0 b 0

/- tabularyref.SlotIn -/
noncomputable def R_SlotIn_J1 (v : Unit) : Option Int :=
 some (-1)
noncomputable def R_SlotIn_B1 (b : Board) (id : Int) (v1 : Int) : Option (Int ⊕ Int) :=
 if (decide (v1 < (b.Slots.length : Int))) = true then
  asrt (0 ≤ v1 ∧ v1 < (b.Slots.length : Int)) <|
  if (decide ((((lget b.Slots v1).Part).ID) = id)) = true then
   some (Sum.inr v1)
  else
   some (Sum.inl (w64 (v1 + 1)))
 else
  inrO (R_SlotIn_J1 ())
noncomputable def R_SlotIn_L1 (b : Board) (id : Int) (v0 : Int) : Option Int :=
 loopO (fun y => R_SlotIn_B1 b id y) v0
noncomputable def R_SlotIn (b : Board) (id : Int) : Option Int :=
 R_SlotIn_L1 b id 0

/- tabularyref.InPart -/
noncomputable def R_InPart (p : Part) (row : List UInt8) : Bool :=
 lt ((!Op.bytesLess row p.From) && ((decide (p.To = ([] : List UInt8))) || (Op.bytesLess row p.To))) fun (v : Bool) =>
 v

/- tabularyref.SlotsInstead -/
noncomputable def R_SlotsInstead (l : List Slot) (at0 : Int) (num : Int) (by0 : List Slot) : Option (List Slot) :=
 asrt (0 ≤ at0 ∧ at0 ≤ (l.length : Int)) <|
 asrt (((ltake l at0).length : Int) * 64 ≤ 140737488351232) <|
 asrt ((((ltake l at0) ++ by0).length : Int) * 64 ≤ 140737488351232) <|
 asrt (0 ≤ w64 (at0 + num) ∧ w64 (at0 + num) ≤ (l.length : Int)) <|
 asrt (((((ltake l at0) ++ by0) ++ (ldrop l (w64 (at0 + num)))).length : Int) * 64 ≤ 140737488351232) <|
 some (((ltake l at0) ++ by0) ++ (ldrop l (w64 (at0 + num))))

/- tabularyref.Ordered -/
noncomputable def R_Ordered_J1 (x : Fault) (x1 : List Host × List Slot × Int × Int) (v1 : List Host) (v2 : List Slot) : Option (List Host × List Slot × Int × Int × Fault) :=
 some (v1, v2, x1.2.2.1, x1.2.2.2, x)
noncomputable def R_Ordered_B1 (o : Order) (x : Fault) (x1 : List Host × List Slot × Int × Int) (v1 : List Host) (v3 : List Slot × Int) : Option ((List Slot × Int) ⊕ (List Host × List Slot × Int × Int × Fault)) :=
 if (decide (v3.2 < (v3.1.length : Int))) = true then
  asrt (0 ≤ v3.2 ∧ v3.2 < (v3.1.length : Int)) <|
  asrt (0 ≤ v3.2 ∧ v3.2 < (v3.1.length : Int)) <|
  ob (
   if (decide (((lget v3.1 v3.2).Host) = o.ID)) = true then
    asrt (0 ≤ v3.2 ∧ v3.2 < (v3.1.length : Int)) <|
    asrt (0 ≤ v3.2 ∧ v3.2 < (v3.1.length : Int)) <|
    lt ((lset v3.1 v3.2 (⟨(⟨((lget v3.1 v3.2).Part).From, ((lget v3.1 v3.2).Part).To, ((lget v3.1 v3.2).Part).ID⟩ : Part), (lget v3.1 v3.2).State, 0, (lget v3.1 v3.2).Turn⟩ : Slot))) fun (v5 : List Slot) =>
    asrt (0 ≤ v3.2 ∧ v3.2 < (v5.length : Int)) <|
    asrt (0 ≤ v3.2 ∧ v3.2 < (v5.length : Int)) <|
    lt ((lset v5 v3.2 (⟨(⟨((lget v5 v3.2).Part).From, ((lget v5 v3.2).Part).To, ((lget v5 v3.2).Part).ID⟩ : Part), 0, (lget v5 v3.2).Host, (lget v5 v3.2).Turn⟩ : Slot))) fun (v6 : List Slot) =>
    some v6
   else
    some v3.1) fun (v4 : List Slot) =>
  some (Sum.inl (v4, w64 (v3.2 + 1)))
 else
  inrO (R_Ordered_J1 x x1 v1 v3.1)
noncomputable def R_Ordered_L1 (o : Order) (x : Fault) (x1 : List Host × List Slot × Int × Int) (v1 : List Host) (v0 : List Slot × Int) : Option (List Host × List Slot × Int × Int × Fault) :=
 loopO (fun y => R_Ordered_B1 o x x1 v1 y) v0
noncomputable def R_Ordered_J2 (x : Fault) (x1 : List Host × List Slot × Int × Int) (v7 : List Slot × Int × Int) : Option (List Host × List Slot × Int × Int × Fault) :=
 if (decide (1000000000 < v7.2.2)) = true then
  lt (R_F 9 0) fun x18 =>
  some (([] : List Host), ([] : List Slot), 0, 0, x18)
 else
  some (x1.1, v7.1, v7.2.1, v7.2.2, x)
noncomputable def R_Ordered (b : Board) (o : Order) : Option (List Host × List Slot × Int × Int × Fault) :=
 ob (R_BoardFault b) fun x =>
 if (!decide (x.Code = 0)) = true then
  some (([] : List Host), ([] : List Slot), 0, 0, x)
 else
  ob (R_CopyBoard b) fun x1 =>
  if ((decide (o.Kind < 1)) || (decide (8 < o.Kind))) = true then
   lt (R_F 4 0) fun x2 =>
   some (([] : List Host), ([] : List Slot), 0, 0, x2)
  else
   if (decide (o.Kind = 1)) = true then
    lt (R_One o.ID) fun x3 =>
    if (!x3) = true then
     lt (R_F 3 (-1)) fun x4 =>
     some (([] : List Host), ([] : List Slot), 0, 0, x4)
    else
     ob (R_HostIn b o.ID true) fun x5 =>
     if (decide (0 ≤ x5)) = true then
      lt (R_F 10 (-1)) fun x6 =>
      some (([] : List Host), ([] : List Slot), 0, 0, x6)
     else
      ob (R_HostIn b o.ID false) fun x7 =>
      if (decide (x7 < 0)) = true then
       if (decide (20 ≤ (b.Hosts.length : Int))) = true then
        lt (R_F 2 (-1)) fun x8 =>
        some (([] : List Host), ([] : List Slot), 0, 0, x8)
       else
        asrt (((x1.1 ++ [(⟨o.ID, 1, true⟩ : Host)]).length : Int) * 24 ≤ 140737488351232) <|
        some ((x1.1 ++ [(⟨o.ID, 1, true⟩ : Host)]), x1.2.1, x1.2.2.1, x1.2.2.2, x)
      else
       asrt (0 ≤ x7 ∧ x7 < (b.Hosts.length : Int)) <|
       if (decide (1000000000 ≤ ((lget b.Hosts x7).Epoch))) = true then
        lt (R_F 9 0) fun x9 =>
        some (([] : List Host), ([] : List Slot), 0, 0, x9)
       else
        asrt (0 ≤ x7 ∧ x7 < (b.Hosts.length : Int)) <|
        asrt (0 ≤ x7 ∧ x7 < (x1.1.length : Int)) <|
        asrt (0 ≤ x7 ∧ x7 < (x1.1.length : Int)) <|
        lt ((lset x1.1 x7 (⟨o.ID, w64 (((lget b.Hosts x7).Epoch) + 1), true⟩ : Host))) fun (v : List Host) =>
        some (v, x1.2.1, x1.2.2.1, x1.2.2.2, x)
   else
    if (decide (o.Kind = 2)) = true then
     ob (R_HostIn b o.ID true) fun x10 =>
     if (decide (x10 < 0)) = true then
      lt (R_F 6 (-1)) fun x11 =>
      some (([] : List Host), ([] : List Slot), 0, 0, x11)
     else
      asrt (0 ≤ x10 ∧ x10 < (x1.1.length : Int)) <|
      asrt (0 ≤ x10 ∧ x10 < (x1.1.length : Int)) <|
      lt ((lset x1.1 x10 (⟨(lget x1.1 x10).ID, (lget x1.1 x10).Epoch, false⟩ : Host))) fun (v1 : List Host) =>
      R_Ordered_L1 o x x1 v1 (x1.2.1, 0)
    else
     ob (R_SlotIn b o.ID) fun x12 =>
     if ((decide (x12 < 0)) || ((decide (o.Kind = 8)) && (decide ((b.Slots.length : Int) ≤ (w64 (x12 + 1)))))) = true then
      lt (R_F 6 (-1)) fun x13 =>
      some (([] : List Host), ([] : List Slot), 0, 0, x13)
     else
      asrt (0 ≤ x12 ∧ x12 < (b.Slots.length : Int)) <|
      ob (if (decide (o.Kind = 3)) = true then (R_HostIn b o.Host true) else some default) fun x14 =>
      if ((decide (o.Kind = 3)) && (decide (x14 < 0))) = true then
       lt (R_F 6 (-2)) fun x15 =>
       some (([] : List Host), ([] : List Slot), 0, 0, x15)
      else
       if (((decide (o.Kind = 4)) || (decide (o.Kind = 6))) && ((!decide (((lget b.Slots x12).Host) = o.Host)) || (!decide (((lget b.Slots x12).Turn) = o.Turn)))) = true then
        lt (R_F 12 (-1)) fun x16 =>
        some (([] : List Host), ([] : List Slot), 0, 0, x16)
       else
        asrt (0 ≤ o.Kind ∧ o.Kind < (([0, 0, 0, 0, 1, 2, 3, 0, 0] : List Int).length : Int)) <|
        asrt ((decide (o.Kind = 8)) = true → (!(!decide (((lget b.Slots x12).State) = (lget ([0, 0, 0, 0, 1, 2, 3, 0, 0] : List Int) o.Kind)))) = true → 0 ≤ w64 (x12 + 1) ∧ w64 (x12 + 1) < (b.Slots.length : Int)) <|
        if ((!decide (((lget b.Slots x12).State) = (lget ([0, 0, 0, 0, 1, 2, 3, 0, 0] : List Int) o.Kind))) || ((decide (o.Kind = 8)) && (!decide (((lget b.Slots (w64 (x12 + 1))).State) = 0)))) = true then
         lt (R_F 11 (-1)) fun x17 =>
         some (([] : List Host), ([] : List Slot), 0, 0, x17)
        else
         if (decide (o.Kind = 3)) = true then
          if (decide (1000000000 ≤ b.Turn)) = true then
           lt (R_F 9 0) fun x19 =>
           some (([] : List Host), ([] : List Slot), 0, 0, x19)
          else
           asrt (0 ≤ x12 ∧ x12 < (x1.2.1.length : Int)) <|
           asrt (0 ≤ x12 ∧ x12 < (x1.2.1.length : Int)) <|
           lt ((lset x1.2.1 x12 (⟨(⟨((lget b.Slots x12).Part).From, ((lget b.Slots x12).Part).To, ((lget b.Slots x12).Part).ID⟩ : Part), 1, o.Host, w64 (b.Turn + 1)⟩ : Slot))) fun (v8 : List Slot) =>
           R_Ordered_J2 x x1 (v8, w64 (b.Turn + 1), x1.2.2.2)
         else
          if (decide (o.Kind = 4)) = true then
           asrt (0 ≤ x12 ∧ x12 < (x1.2.1.length : Int)) <|
           asrt (0 ≤ x12 ∧ x12 < (x1.2.1.length : Int)) <|
           lt ((lset x1.2.1 x12 (⟨(⟨((lget x1.2.1 x12).Part).From, ((lget x1.2.1 x12).Part).To, ((lget x1.2.1 x12).Part).ID⟩ : Part), 2, (lget x1.2.1 x12).Host, (lget x1.2.1 x12).Turn⟩ : Slot))) fun (v9 : List Slot) =>
           R_Ordered_J2 x x1 (v9, x1.2.2.1, x1.2.2.2)
          else
           if (decide (o.Kind = 5)) = true then
            asrt (0 ≤ x12 ∧ x12 < (x1.2.1.length : Int)) <|
            asrt (0 ≤ x12 ∧ x12 < (x1.2.1.length : Int)) <|
            lt ((lset x1.2.1 x12 (⟨(⟨((lget x1.2.1 x12).Part).From, ((lget x1.2.1 x12).Part).To, ((lget x1.2.1 x12).Part).ID⟩ : Part), 3, (lget x1.2.1 x12).Host, (lget x1.2.1 x12).Turn⟩ : Slot))) fun (v10 : List Slot) =>
            R_Ordered_J2 x x1 (v10, x1.2.2.1, x1.2.2.2)
           else
            if (decide (o.Kind = 6)) = true then
             asrt (0 ≤ x12 ∧ x12 < (x1.2.1.length : Int)) <|
             asrt (0 ≤ x12 ∧ x12 < (x1.2.1.length : Int)) <|
             lt ((lset x1.2.1 x12 (⟨(⟨((lget b.Slots x12).Part).From, ((lget b.Slots x12).Part).To, ((lget b.Slots x12).Part).ID⟩ : Part), 0, 0, (lget b.Slots x12).Turn⟩ : Slot))) fun (v11 : List Slot) =>
             R_Ordered_J2 x x1 (v11, x1.2.2.1, x1.2.2.2)
            else
             if (decide (o.Kind = 7)) = true then
              if (decide (40 < (o.Row.length : Int))) = true then
               lt (R_F 8 (-2)) fun x20 =>
               some (([] : List Host), ([] : List Slot), 0, 0, x20)
              else
               lt (R_InPart (⟨((lget b.Slots x12).Part).From, ((lget b.Slots x12).Part).To, ((lget b.Slots x12).Part).ID⟩ : Part) o.Row) fun x21 =>
               if ((decide (o.Row = (((lget b.Slots x12).Part).From))) || (!x21)) = true then
                lt (R_F 5 (-2)) fun x22 =>
                some (([] : List Host), ([] : List Slot), 0, 0, x22)
               else
                if (decide (200 ≤ (b.Slots.length : Int))) = true then
                 lt (R_F 2 (-1)) fun x23 =>
                 some (([] : List Host), ([] : List Slot), 0, 0, x23)
                else
                 ob (R_SlotsInstead b.Slots x12 1 [(⟨(⟨((lget b.Slots x12).Part).From, o.Row, b.Next⟩ : Part), 0, 0, 0⟩ : Slot), (⟨(⟨o.Row, ((lget b.Slots x12).Part).To, w64 (b.Next + 1)⟩ : Part), 0, 0, 0⟩ : Slot)]) fun x24 =>
                 R_Ordered_J2 x x1 (x24, x1.2.2.1, w64 (b.Next + 2))
             else
              if (decide (o.Kind = 8)) = true then
               asrt (0 ≤ w64 (x12 + 1) ∧ w64 (x12 + 1) < (b.Slots.length : Int)) <|
               ob (R_SlotsInstead b.Slots x12 2 [(⟨(⟨((lget b.Slots x12).Part).From, ((lget b.Slots (w64 (x12 + 1))).Part).To, b.Next⟩ : Part), 0, 0, 0⟩ : Slot)]) fun x25 =>
               R_Ordered_J2 x x1 (x25, x1.2.2.1, w64 (b.Next + 1))
              else
               R_Ordered_J2 x x1 (x1.2.1, x1.2.2.1, x1.2.2.2)

/- tabularyref.Ordered -/
noncomputable def R_Ordered_v1_J1 (x : Fault) (x1 : List Host × List Slot × Int × Int) (v1 : List Host) (v2 : List Slot) : Option (Board × Fault) :=
 some ((⟨v1, v2, x1.2.2.1, x1.2.2.2⟩ : Board), x)
noncomputable def R_Ordered_v1_B1 (o : Order) (x : Fault) (x1 : List Host × List Slot × Int × Int) (v1 : List Host) (v3 : List Slot × Int) : Option ((List Slot × Int) ⊕ (Board × Fault)) :=
 if (decide (v3.2 < (v3.1.length : Int))) = true then
  asrt (0 ≤ v3.2 ∧ v3.2 < (v3.1.length : Int)) <|
  asrt (0 ≤ v3.2 ∧ v3.2 < (v3.1.length : Int)) <|
  ob (
   if (decide (((lget v3.1 v3.2).Host) = o.ID)) = true then
    asrt (0 ≤ v3.2 ∧ v3.2 < (v3.1.length : Int)) <|
    asrt (0 ≤ v3.2 ∧ v3.2 < (v3.1.length : Int)) <|
    lt ((lset v3.1 v3.2 (⟨(⟨((lget v3.1 v3.2).Part).From, ((lget v3.1 v3.2).Part).To, ((lget v3.1 v3.2).Part).ID⟩ : Part), (lget v3.1 v3.2).State, 0, (lget v3.1 v3.2).Turn⟩ : Slot))) fun (v5 : List Slot) =>
    asrt (0 ≤ v3.2 ∧ v3.2 < (v5.length : Int)) <|
    asrt (0 ≤ v3.2 ∧ v3.2 < (v5.length : Int)) <|
    lt ((lset v5 v3.2 (⟨(⟨((lget v5 v3.2).Part).From, ((lget v5 v3.2).Part).To, ((lget v5 v3.2).Part).ID⟩ : Part), 0, (lget v5 v3.2).Host, (lget v5 v3.2).Turn⟩ : Slot))) fun (v6 : List Slot) =>
    some v6
   else
    some v3.1) fun (v4 : List Slot) =>
  some (Sum.inl (v4, w64 (v3.2 + 1)))
 else
  inrO (R_Ordered_v1_J1 x x1 v1 v3.1)
noncomputable def R_Ordered_v1_L1 (o : Order) (x : Fault) (x1 : List Host × List Slot × Int × Int) (v1 : List Host) (v0 : List Slot × Int) : Option (Board × Fault) :=
 loopO (fun y => R_Ordered_v1_B1 o x x1 v1 y) v0
noncomputable def R_Ordered_v1_J2 (x : Fault) (x1 : List Host × List Slot × Int × Int) (v7 : List Slot × Int × Int) : Option (Board × Fault) :=
 if (decide (1000000000 < v7.2.2)) = true then
  lt (R_F 9 0) fun x18 =>
  some ((⟨([] : List Host), ([] : List Slot), 0, 0⟩ : Board), x18)
 else
  some ((⟨x1.1, v7.1, v7.2.1, v7.2.2⟩ : Board), x)
noncomputable def R_Ordered_v1 (b : Board) (o : Order) : Option (Board × Fault) :=
 ob (R_BoardFault b) fun x =>
 if (!decide (x.Code = 0)) = true then
  some ((⟨([] : List Host), ([] : List Slot), 0, 0⟩ : Board), x)
 else
  ob (R_CopyBoard b) fun x1 =>
  if ((decide (o.Kind < 1)) || (decide (8 < o.Kind))) = true then
   lt (R_F 4 0) fun x2 =>
   some ((⟨([] : List Host), ([] : List Slot), 0, 0⟩ : Board), x2)
  else
   if (decide (o.Kind = 1)) = true then
    lt (R_One o.ID) fun x3 =>
    if (!x3) = true then
     lt (R_F 3 (-1)) fun x4 =>
     some ((⟨([] : List Host), ([] : List Slot), 0, 0⟩ : Board), x4)
    else
     ob (R_HostIn b o.ID true) fun x5 =>
     if (decide (0 ≤ x5)) = true then
      lt (R_F 10 (-1)) fun x6 =>
      some ((⟨([] : List Host), ([] : List Slot), 0, 0⟩ : Board), x6)
     else
      ob (R_HostIn b o.ID false) fun x7 =>
      if (decide (x7 < 0)) = true then
       if (decide (20 ≤ (b.Hosts.length : Int))) = true then
        lt (R_F 2 (-1)) fun x8 =>
        some ((⟨([] : List Host), ([] : List Slot), 0, 0⟩ : Board), x8)
       else
        asrt (((x1.1 ++ [(⟨o.ID, 1, true⟩ : Host)]).length : Int) * 24 ≤ 140737488351232) <|
        some ((⟨(x1.1 ++ [(⟨o.ID, 1, true⟩ : Host)]), x1.2.1, x1.2.2.1, x1.2.2.2⟩ : Board), x)
      else
       asrt (0 ≤ x7 ∧ x7 < (b.Hosts.length : Int)) <|
       if (decide (1000000000 ≤ ((lget b.Hosts x7).Epoch))) = true then
        lt (R_F 9 0) fun x9 =>
        some ((⟨([] : List Host), ([] : List Slot), 0, 0⟩ : Board), x9)
       else
        asrt (0 ≤ x7 ∧ x7 < (b.Hosts.length : Int)) <|
        asrt (0 ≤ x7 ∧ x7 < (x1.1.length : Int)) <|
        asrt (0 ≤ x7 ∧ x7 < (x1.1.length : Int)) <|
        lt ((lset x1.1 x7 (⟨o.ID, w64 (((lget b.Hosts x7).Epoch) + 1), true⟩ : Host))) fun (v : List Host) =>
        some ((⟨v, x1.2.1, x1.2.2.1, x1.2.2.2⟩ : Board), x)
   else
    if (decide (o.Kind = 2)) = true then
     ob (R_HostIn b o.ID true) fun x10 =>
     if (decide (x10 < 0)) = true then
      lt (R_F 6 (-1)) fun x11 =>
      some ((⟨([] : List Host), ([] : List Slot), 0, 0⟩ : Board), x11)
     else
      asrt (0 ≤ x10 ∧ x10 < (x1.1.length : Int)) <|
      asrt (0 ≤ x10 ∧ x10 < (x1.1.length : Int)) <|
      lt ((lset x1.1 x10 (⟨(lget x1.1 x10).ID, (lget x1.1 x10).Epoch, false⟩ : Host))) fun (v1 : List Host) =>
      R_Ordered_v1_L1 o x x1 v1 (x1.2.1, 0)
    else
     ob (R_SlotIn b o.ID) fun x12 =>
     if ((decide (x12 < 0)) || ((decide (o.Kind = 8)) && (decide ((b.Slots.length : Int) ≤ (w64 (x12 + 1)))))) = true then
      lt (R_F 6 (-1)) fun x13 =>
      some ((⟨([] : List Host), ([] : List Slot), 0, 0⟩ : Board), x13)
     else
      asrt (0 ≤ x12 ∧ x12 < (b.Slots.length : Int)) <|
      ob (if (decide (o.Kind = 3)) = true then (R_HostIn b o.Host true) else some default) fun x14 =>
      if ((decide (o.Kind = 3)) && (decide (x14 < 0))) = true then
       lt (R_F 6 (-2)) fun x15 =>
       some ((⟨([] : List Host), ([] : List Slot), 0, 0⟩ : Board), x15)
      else
       if (((decide (o.Kind = 4)) || (decide (o.Kind = 6))) && ((!decide (((lget b.Slots x12).Host) = o.Host)) || (!decide (((lget b.Slots x12).Turn) = o.Turn)))) = true then
        lt (R_F 12 (-1)) fun x16 =>
        some ((⟨([] : List Host), ([] : List Slot), 0, 0⟩ : Board), x16)
       else
        asrt (0 ≤ o.Kind ∧ o.Kind < (([0, 0, 0, 0, 1, 2, 3, 0, 0] : List Int).length : Int)) <|
        asrt ((decide (o.Kind = 8)) = true → (!(!decide (((lget b.Slots x12).State) = (lget ([0, 0, 0, 0, 1, 2, 3, 0, 0] : List Int) o.Kind)))) = true → 0 ≤ w64 (x12 + 1) ∧ w64 (x12 + 1) < (b.Slots.length : Int)) <|
        if ((!decide (((lget b.Slots x12).State) = (lget ([0, 0, 0, 0, 1, 2, 3, 0, 0] : List Int) o.Kind))) || ((decide (o.Kind = 8)) && (!decide (((lget b.Slots (w64 (x12 + 1))).State) = 0)))) = true then
         lt (R_F 11 (-1)) fun x17 =>
         some ((⟨([] : List Host), ([] : List Slot), 0, 0⟩ : Board), x17)
        else
         if (decide (o.Kind = 3)) = true then
          if (decide (1000000000 ≤ b.Turn)) = true then
           lt (R_F 9 0) fun x19 =>
           some ((⟨([] : List Host), ([] : List Slot), 0, 0⟩ : Board), x19)
          else
           asrt (0 ≤ x12 ∧ x12 < (x1.2.1.length : Int)) <|
           asrt (0 ≤ x12 ∧ x12 < (x1.2.1.length : Int)) <|
           lt ((lset x1.2.1 x12 (⟨(⟨((lget b.Slots x12).Part).From, ((lget b.Slots x12).Part).To, ((lget b.Slots x12).Part).ID⟩ : Part), 1, o.Host, w64 (b.Turn + 1)⟩ : Slot))) fun (v8 : List Slot) =>
           R_Ordered_v1_J2 x x1 (v8, w64 (b.Turn + 1), x1.2.2.2)
         else
          if (decide (o.Kind = 4)) = true then
           asrt (0 ≤ x12 ∧ x12 < (x1.2.1.length : Int)) <|
           asrt (0 ≤ x12 ∧ x12 < (x1.2.1.length : Int)) <|
           lt ((lset x1.2.1 x12 (⟨(⟨((lget x1.2.1 x12).Part).From, ((lget x1.2.1 x12).Part).To, ((lget x1.2.1 x12).Part).ID⟩ : Part), 2, (lget x1.2.1 x12).Host, (lget x1.2.1 x12).Turn⟩ : Slot))) fun (v9 : List Slot) =>
           R_Ordered_v1_J2 x x1 (v9, x1.2.2.1, x1.2.2.2)
          else
           if (decide (o.Kind = 5)) = true then
            asrt (0 ≤ x12 ∧ x12 < (x1.2.1.length : Int)) <|
            asrt (0 ≤ x12 ∧ x12 < (x1.2.1.length : Int)) <|
            lt ((lset x1.2.1 x12 (⟨(⟨((lget x1.2.1 x12).Part).From, ((lget x1.2.1 x12).Part).To, ((lget x1.2.1 x12).Part).ID⟩ : Part), 3, (lget x1.2.1 x12).Host, (lget x1.2.1 x12).Turn⟩ : Slot))) fun (v10 : List Slot) =>
            R_Ordered_v1_J2 x x1 (v10, x1.2.2.1, x1.2.2.2)
           else
            if (decide (o.Kind = 6)) = true then
             asrt (0 ≤ x12 ∧ x12 < (x1.2.1.length : Int)) <|
             asrt (0 ≤ x12 ∧ x12 < (x1.2.1.length : Int)) <|
             lt ((lset x1.2.1 x12 (⟨(⟨((lget b.Slots x12).Part).From, ((lget b.Slots x12).Part).To, ((lget b.Slots x12).Part).ID⟩ : Part), 0, 0, (lget b.Slots x12).Turn⟩ : Slot))) fun (v11 : List Slot) =>
             R_Ordered_v1_J2 x x1 (v11, x1.2.2.1, x1.2.2.2)
            else
             if (decide (o.Kind = 7)) = true then
              if (decide (40 < (o.Row.length : Int))) = true then
               lt (R_F 8 (-2)) fun x20 =>
               some ((⟨([] : List Host), ([] : List Slot), 0, 0⟩ : Board), x20)
              else
               lt (R_InPart (⟨((lget b.Slots x12).Part).From, ((lget b.Slots x12).Part).To, ((lget b.Slots x12).Part).ID⟩ : Part) o.Row) fun x21 =>
               if ((decide (o.Row = (((lget b.Slots x12).Part).From))) || (!x21)) = true then
                lt (R_F 5 (-2)) fun x22 =>
                some ((⟨([] : List Host), ([] : List Slot), 0, 0⟩ : Board), x22)
               else
                if (decide (200 ≤ (b.Slots.length : Int))) = true then
                 lt (R_F 2 (-1)) fun x23 =>
                 some ((⟨([] : List Host), ([] : List Slot), 0, 0⟩ : Board), x23)
                else
                 ob (R_SlotsInstead b.Slots x12 1 [(⟨(⟨((lget b.Slots x12).Part).From, o.Row, b.Next⟩ : Part), 0, 0, 0⟩ : Slot), (⟨(⟨o.Row, ((lget b.Slots x12).Part).To, w64 (b.Next + 1)⟩ : Part), 0, 0, 0⟩ : Slot)]) fun x24 =>
                 R_Ordered_v1_J2 x x1 (x24, x1.2.2.1, w64 (b.Next + 2))
             else
              if (decide (o.Kind = 8)) = true then
               asrt (0 ≤ w64 (x12 + 1) ∧ w64 (x12 + 1) < (b.Slots.length : Int)) <|
               ob (R_SlotsInstead b.Slots x12 2 [(⟨(⟨((lget b.Slots x12).Part).From, ((lget b.Slots (w64 (x12 + 1))).Part).To, b.Next⟩ : Part), 0, 0, 0⟩ : Slot)]) fun x25 =>
               R_Ordered_v1_J2 x x1 (x25, x1.2.2.1, w64 (b.Next + 1))
              else
               R_Ordered_v1_J2 x x1 (x1.2.1, x1.2.2.1, x1.2.2.2)

/- tabularyref.LoadOf -/
noncomputable def R_LoadOf_J1 (v : Int) : Option Int :=
 some v
noncomputable def R_LoadOf_B1 (b : Board) (id : Int) (v1 : Int × Int) : Option ((Int × Int) ⊕ Int) :=
 if (decide (v1.2 < (b.Slots.length : Int))) = true then
  asrt (0 ≤ v1.2 ∧ v1.2 < (b.Slots.length : Int)) <|
  asrt ((decide (0 < ((lget b.Slots v1.2).State))) = true → 0 ≤ v1.2 ∧ v1.2 < (b.Slots.length : Int)) <|
  ob (
   if ((decide (0 < ((lget b.Slots v1.2).State))) && (decide (((lget b.Slots v1.2).Host) = id))) = true then
    some (w64 (v1.1 + 1))
   else
    some v1.1) fun (v2 : Int) =>
  some (Sum.inl (v2, w64 (v1.2 + 1)))
 else
  inrO (R_LoadOf_J1 v1.1)
noncomputable def R_LoadOf_L1 (b : Board) (id : Int) (v0 : Int × Int) : Option Int :=
 loopO (fun y => R_LoadOf_B1 b id y) v0
noncomputable def R_LoadOf (b : Board) (id : Int) : Option Int :=
 R_LoadOf_L1 b id (0, 0)

/- tabularyref.DueOrders -/
noncomputable def R_DueOrders_v1_J1 (v : List Order) : Option (List Order) :=
 some v
noncomputable def R_DueOrders_v1_J2 (v1 : List Order × List Slot × Int) (v2 : List Order × List Slot) : Option ((List Order × List Slot × Int) ⊕ (List Order)) :=
 some (Sum.inl (v2.1, v2.2, w64 (v1.2.2 + 1)))
noncomputable def R_DueOrders_v1_J3 (v1 : List Order × List Slot × Int) (v3 : Int) : Option ((List Order × List Slot × Int) ⊕ (List Order)) :=
 if (decide (0 < v3)) = true then
  asrt (0 ≤ v1.2.2 ∧ v1.2.2 < (v1.2.1.length : Int)) <|
  asrt (0 ≤ v1.2.2 ∧ v1.2.2 < (v1.2.1.length : Int)) <|
  lt ((lset v1.2.1 v1.2.2 (⟨(⟨((lget v1.2.1 v1.2.2).Part).From, ((lget v1.2.1 v1.2.2).Part).To, ((lget v1.2.1 v1.2.2).Part).ID⟩ : Part), 1, (lget v1.2.1 v1.2.2).Host, (lget v1.2.1 v1.2.2).Turn⟩ : Slot))) fun (v4 : List Slot) =>
  asrt (0 ≤ v1.2.2 ∧ v1.2.2 < (v4.length : Int)) <|
  asrt (0 ≤ v1.2.2 ∧ v1.2.2 < (v4.length : Int)) <|
  lt ((lset v4 v1.2.2 (⟨(⟨((lget v4 v1.2.2).Part).From, ((lget v4 v1.2.2).Part).To, ((lget v4 v1.2.2).Part).ID⟩ : Part), (lget v4 v1.2.2).State, v3, (lget v4 v1.2.2).Turn⟩ : Slot))) fun (v5 : List Slot) =>
  asrt (0 ≤ v1.2.2 ∧ v1.2.2 < (v5.length : Int)) <|
  asrt (0 ≤ v1.2.2 ∧ v1.2.2 < (v5.length : Int)) <|
  asrt (((v1.1 ++ [(⟨3, ((lget v5 v1.2.2).Part).ID, v3, 0, ([] : List UInt8)⟩ : Order)]).length : Int) * 48 ≤ 140737488351232) <|
  lt ((v1.1 ++ [(⟨3, ((lget v5 v1.2.2).Part).ID, v3, 0, ([] : List UInt8)⟩ : Order)])) fun (v6 : List Order) =>
  R_DueOrders_v1_J2 v1 (v6, v5)
 else
  R_DueOrders_v1_J2 v1 (v1.1, v1.2.1)
noncomputable def R_DueOrders_v1_B2 (x : List Host × List Slot × Int × Int) (v1 : List Order × List Slot × Int) (v7 : Int × Int) : Option ((Int × Int) ⊕ ((List Order × List Slot × Int) ⊕ (List Order))) :=
 if (decide (v7.2 < (x.1.length : Int))) = true then
  asrt (0 ≤ v7.2 ∧ v7.2 < (x.1.length : Int)) <|
  asrt (0 ≤ v7.2 ∧ v7.2 < (x.1.length : Int)) <|
  ob (if (!(decide (v7.1 = 0))) = true then (if ((lget x.1 v7.2).Alive) = true then (R_LoadOf (⟨x.1, v1.2.1, x.2.2.1, x.2.2.2⟩ : Board) ((lget x.1 v7.2).ID)) else some default) else some default) fun x1 =>
  ob (if (!(decide (v7.1 = 0))) = true then (if ((lget x.1 v7.2).Alive) = true then (R_LoadOf (⟨x.1, v1.2.1, x.2.2.1, x.2.2.2⟩ : Board) v7.1) else some default) else some default) fun x2 =>
  ob (if (!((decide (v7.1 = 0)) || (decide (x1 < x2)))) = true then (if ((lget x.1 v7.2).Alive) = true then (R_LoadOf (⟨x.1, v1.2.1, x.2.2.1, x.2.2.2⟩ : Board) ((lget x.1 v7.2).ID)) else some default) else some default) fun x3 =>
  ob (if (!((decide (v7.1 = 0)) || (decide (x1 < x2)))) = true then (if ((lget x.1 v7.2).Alive) = true then (R_LoadOf (⟨x.1, v1.2.1, x.2.2.1, x.2.2.2⟩ : Board) v7.1) else some default) else some default) fun x4 =>
  ob (
   if (((lget x.1 v7.2).Alive) && (((decide (v7.1 = 0)) || (decide (x1 < x2))) || ((decide (x3 = x4)) && (decide (((lget x.1 v7.2).ID) < v7.1))))) = true then
    some ((lget x.1 v7.2).ID)
   else
    some v7.1) fun (v8 : Int) =>
  some (Sum.inl (v8, w64 (v7.2 + 1)))
 else
  inrO (R_DueOrders_v1_J3 v1 v7.1)
noncomputable def R_DueOrders_v1_L2 (x : List Host × List Slot × Int × Int) (v1 : List Order × List Slot × Int) (v0 : Int × Int) : Option ((List Order × List Slot × Int) ⊕ (List Order)) :=
 loopO (fun y => R_DueOrders_v1_B2 x v1 y) v0
noncomputable def R_DueOrders_v1_B1 (x : List Host × List Slot × Int × Int) (v1 : List Order × List Slot × Int) : Option ((List Order × List Slot × Int) ⊕ (List Order)) :=
 if (decide (v1.2.2 < (v1.2.1.length : Int))) = true then
  asrt (0 ≤ v1.2.2 ∧ v1.2.2 < (v1.2.1.length : Int)) <|
  asrt (0 ≤ v1.2.2 ∧ v1.2.2 < (v1.2.1.length : Int)) <|
  if (!decide (((lget v1.2.1 v1.2.2).State) = 0)) = true then
   R_DueOrders_v1_J2 v1 (v1.1, v1.2.1)
  else
   R_DueOrders_v1_L2 x v1 (0, 0)
 else
  inrO (R_DueOrders_v1_J1 v1.1)
noncomputable def R_DueOrders_v1_L1 (x : List Host × List Slot × Int × Int) (v0 : List Order × List Slot × Int) : Option (List Order) :=
 loopO (fun y => R_DueOrders_v1_B1 x y) v0
noncomputable def R_DueOrders_v1 (b : Board) : Option (List Order) :=
 ob (R_CopyBoard b) fun x =>
 R_DueOrders_v1_L1 x (([] : List Order), x.2.1, 0)

/- tabularylaw.AssignDoes -/
noncomputable def law_AssignDoes (b : Board) (o : Order) : Option Bool :=
 ob (law_assignBegun) fun x =>
 if (!x) = true then
  some false
 else
  lt (law_vastBoard b) fun x1 =>
  if x1 = true then
   some true
  else
   ob (R_CopyBoard_v1 b) fun x2 =>
   ob (assign_Check x2) fun x3 =>
   ob (assign_Do_v1 x2 o) fun x4 =>
   ob (assign_Due_v1 x2) fun x5 =>
   ob (R_BoardFault b) fun x6 =>
   ob (R_SameBoard x2 b) fun x7 =>
   if (((!x7) || (!(decide (x3.Code = x6.Code) && (decide (x3.At = x6.At) && true)))) || (!(decide (x5.2.Code = x6.Code) && (decide (x5.2.At = x6.At) && true)))) = true then
    some false
   else
    ob (R_Ordered_v1 b o) fun x8 =>
    ob (if (!(!(decide (x4.2.Code = x8.2.Code) && (decide (x4.2.At = x8.2.At) && true)))) = true then (R_SameBoard x4.1 x8.1) else some default) fun x9 =>
    if ((!(decide (x4.2.Code = x8.2.Code) && (decide (x4.2.At = x8.2.At) && true))) || (!x9)) = true then
     some false
    else
     if (!decide (x6.Code = 0)) = true then
      some (decide ((x5.1.length : Int) = 0))
     else
      ob (R_DueOrders_v1 b) fun x10 =>
      ob (R_SameOrders x5.1 x10) fun x11 =>
      some x11

/- tabularylaw.AssignKeeps -/
noncomputable def law_AssignKeeps_J1 (v : Unit) : Option Bool :=
 some true
noncomputable def law_AssignKeeps_J2 (v1 : (List (Int × Int)) × (List (Int × Int)) × Board × Int) (v2 : (List (Int × Int)) × (List (Int × Int)) × Board) : Option (((List (Int × Int)) × (List (Int × Int)) × Board × Int) ⊕ Bool) :=
 some (Sum.inl (v2.1, v2.2.1, v2.2.2, w64 (v1.2.2.2 + 1)))
noncomputable def law_AssignKeeps_J3 (v1 : (List (Int × Int)) × (List (Int × Int)) × Board × Int) (x2 : Board × Fault) (v3 : (List (Int × Int)) × (List (Int × Int)) × Int) : Option (((List (Int × Int)) × (List (Int × Int)) × Board × Int) ⊕ Bool) :=
 if (!decide (v3.2.2 = 1)) = true then
  some (Sum.inr false)
 else
  law_AssignKeeps_J2 v1 (v3.1, v3.2.1, x2.1)
noncomputable def law_AssignKeeps_J4 (v4 : (List (Int × Int)) × (List (Int × Int)) × Int × Int) (v5 : (List (Int × Int)) × (List (Int × Int)) × Int) : Option (((List (Int × Int)) × (List (Int × Int)) × Int × Int) ⊕ (((List (Int × Int)) × (List (Int × Int)) × Board × Int) ⊕ Bool)) :=
 some (Sum.inl (v5.1, v5.2.1, v5.2.2, w64 (v4.2.2.2 + 1)))
noncomputable def law_AssignKeeps_B2 (row : List UInt8) (v1 : (List (Int × Int)) × (List (Int × Int)) × Board × Int) (x2 : Board × Fault) (v4 : (List (Int × Int)) × (List (Int × Int)) × Int × Int) : Option (((List (Int × Int)) × (List (Int × Int)) × Int × Int) ⊕ (((List (Int × Int)) × (List (Int × Int)) × Board × Int) ⊕ Bool)) :=
 if (decide (v4.2.2.2 < (x2.1.Slots.length : Int))) = true then
  asrt (0 ≤ v4.2.2.2 ∧ v4.2.2.2 < (x2.1.Slots.length : Int)) <|
  lt (R_InPart (⟨((lget x2.1.Slots v4.2.2.2).Part).From, ((lget x2.1.Slots v4.2.2.2).Part).To, ((lget x2.1.Slots v4.2.2.2).Part).ID⟩ : Part) row) fun x5 =>
  ob (
   if x5 = true then
    some (w64 (v4.2.2.1 + 1))
   else
    some v4.2.2.1) fun (v6 : Int) =>
  if (decide (((lget x2.1.Slots v4.2.2.2).State) = 0)) = true then
   law_AssignKeeps_J4 v4 (v4.1, v4.2.1, v6)
  else
   ob (if (!(((mget v4.1 ((lget x2.1.Slots v4.2.2.2).Turn)).isSome) && ((!decide (((mget v4.1 ((lget x2.1.Slots v4.2.2.2).Turn)).getD (0 : Int)) = ((lget x2.1.Slots v4.2.2.2).Host))) || (!decide (((mget v4.2.1 ((lget x2.1.Slots v4.2.2.2).Turn)).getD (0 : Int)) = (((lget x2.1.Slots v4.2.2.2).Part).ID)))))) = true then (R_HostIn x2.1 ((lget x2.1.Slots v4.2.2.2).Host) true) else some default) fun x6 =>
   if ((((mget v4.1 ((lget x2.1.Slots v4.2.2.2).Turn)).isSome) && ((!decide (((mget v4.1 ((lget x2.1.Slots v4.2.2.2).Turn)).getD (0 : Int)) = ((lget x2.1.Slots v4.2.2.2).Host))) || (!decide (((mget v4.2.1 ((lget x2.1.Slots v4.2.2.2).Turn)).getD (0 : Int)) = (((lget x2.1.Slots v4.2.2.2).Part).ID))))) || (decide (x6 < 0))) = true then
    some (Sum.inr (Sum.inr false))
   else
    lt ((mput v4.1 ((lget x2.1.Slots v4.2.2.2).Turn) ((lget x2.1.Slots v4.2.2.2).Host : Int))) fun (v7 : (List (Int × Int))) =>
    lt ((mput v4.2.1 ((lget x2.1.Slots v4.2.2.2).Turn) (((lget x2.1.Slots v4.2.2.2).Part).ID : Int))) fun (v8 : (List (Int × Int))) =>
    law_AssignKeeps_J4 v4 (v7, v8, v6)
 else
  inrO (law_AssignKeeps_J3 v1 x2 (v4.1, v4.2.1, v4.2.2.1))
noncomputable def law_AssignKeeps_L2 (row : List UInt8) (v1 : (List (Int × Int)) × (List (Int × Int)) × Board × Int) (x2 : Board × Fault) (v0 : (List (Int × Int)) × (List (Int × Int)) × Int × Int) : Option (((List (Int × Int)) × (List (Int × Int)) × Board × Int) ⊕ Bool) :=
 loopO (fun y => law_AssignKeeps_B2 row v1 x2 y) v0
noncomputable def law_AssignKeeps_B1 (orders : List Order) (row : List UInt8) (v1 : (List (Int × Int)) × (List (Int × Int)) × Board × Int) : Option (((List (Int × Int)) × (List (Int × Int)) × Board × Int) ⊕ Bool) :=
 if (decide (v1.2.2.2 < (orders.length : Int))) = true then
  asrt (0 ≤ v1.2.2.2 ∧ v1.2.2.2 < (orders.length : Int)) <|
  ob (assign_Do_v1 v1.2.2.1 (⟨(lget orders v1.2.2.2).Kind, (lget orders v1.2.2.2).ID, (lget orders v1.2.2.2).Host, (lget orders v1.2.2.2).Turn, (lget orders v1.2.2.2).Row⟩ : Order)) fun x2 =>
  if (!decide (x2.2.Code = 0)) = true then
   law_AssignKeeps_J2 v1 (v1.1, v1.2.1, v1.2.2.1)
  else
   asrt (0 ≤ v1.2.2.2 ∧ v1.2.2.2 < (orders.length : Int)) <|
   ob (assign_Do_v1 x2.1 (⟨(lget orders v1.2.2.2).Kind, (lget orders v1.2.2.2).ID, (lget orders v1.2.2.2).Host, (lget orders v1.2.2.2).Turn, (lget orders v1.2.2.2).Row⟩ : Order)) fun x3 =>
   ob (if (!(((decide (x3.2.Code = 0)) || (decide (x2.1.Turn < v1.2.2.1.Turn))) || (decide (x2.1.Next < v1.2.2.1.Next)))) = true then (R_BoardFault x2.1) else some default) fun x4 =>
   if ((((decide (x3.2.Code = 0)) || (decide (x2.1.Turn < v1.2.2.1.Turn))) || (decide (x2.1.Next < v1.2.2.1.Next))) || (!decide (x4.Code = 0))) = true then
    some (Sum.inr false)
   else
    law_AssignKeeps_L2 row v1 x2 (v1.1, v1.2.1, 0, 0)
 else
  inrO (law_AssignKeeps_J1 ())
noncomputable def law_AssignKeeps_L1 (orders : List Order) (row : List UInt8) (v0 : (List (Int × Int)) × (List (Int × Int)) × Board × Int) : Option Bool :=
 loopO (fun y => law_AssignKeeps_B1 orders row y) v0
noncomputable def law_AssignKeeps (orders : List Order) (row : List UInt8) : Option Bool :=
 ob (law_assignBegun) fun x =>
 if (!x) = true then
  some false
 else
  if (decide (150 < (orders.length : Int))) = true then
   some true
  else
   lt (assign_New_v1) fun x1 =>
   law_AssignKeeps_L1 orders row (([] : List (Int × Int)), ([] : List (Int × Int)), x1, 0)

/- assign.Play -/
noncomputable def assign_Play_v1_J1 (v : List Host × List Slot × Int × Int × List Fault) : Option (Board × List Fault × Fault) :=
 some ((⟨v.1, v.2.1, v.2.2.1, v.2.2.2.1⟩ : Board), v.2.2.2.2, (⟨0, 0⟩ : Fault))
noncomputable def assign_Play_v1_B1 (orders : List Order) (v1 : List Host × List Slot × Int × Int × List Fault × Int) : Option ((List Host × List Slot × Int × Int × List Fault × Int) ⊕ (Board × List Fault × Fault)) :=
 if (decide (v1.2.2.2.2.2 < (orders.length : Int))) = true then
  asrt (0 ≤ v1.2.2.2.2.2 ∧ v1.2.2.2.2.2 < (orders.length : Int)) <|
  ob (assign_Do (⟨v1.1, v1.2.1, v1.2.2.1, v1.2.2.2.1⟩ : Board) (⟨(lget orders v1.2.2.2.2.2).Kind, (lget orders v1.2.2.2.2.2).ID, (lget orders v1.2.2.2.2.2).Host, (lget orders v1.2.2.2.2.2).Turn, (lget orders v1.2.2.2.2.2).Row⟩ : Order)) fun x2 =>
  ob (
   if (decide (x2.2.2.2.2.Code = 0)) = true then
    some (x2.1, x2.2.1, x2.2.2.1, x2.2.2.2.1)
   else
    some (v1.1, v1.2.1, v1.2.2.1, v1.2.2.2.1)) fun (v2 : List Host × List Slot × Int × Int) =>
  asrt (((v1.2.2.2.2.1 ++ [x2.2.2.2.2]).length : Int) * 16 ≤ 140737488351232) <|
  some (Sum.inl (v2.1, v2.2.1, v2.2.2.1, v2.2.2.2, (v1.2.2.2.2.1 ++ [x2.2.2.2.2]), w64 (v1.2.2.2.2.2 + 1)))
 else
  inrO (assign_Play_v1_J1 (v1.1, v1.2.1, v1.2.2.1, v1.2.2.2.1, v1.2.2.2.2.1))
noncomputable def assign_Play_v1_L1 (orders : List Order) (v0 : List Host × List Slot × Int × Int × List Fault × Int) : Option (Board × List Fault × Fault) :=
 loopO (fun y => assign_Play_v1_B1 orders y) v0
noncomputable def assign_Play_v1 (orders : List Order) : Option (Board × List Fault × Fault) :=
 if (decide (2000 < (orders.length : Int))) = true then
  lt (assign_fault 2 (-1)) fun x =>
  some ((⟨([] : List Host), ([] : List Slot), 0, 0⟩ : Board), ([] : List Fault), x)
 else
  lt (assign_New) fun x1 =>
  assign_Play_v1_L1 orders (([] : List Host), x1.1, x1.2.1, x1.2.2, ([] : List Fault), 0)
theorem assign_Play_v1_ok (orders : List Order) (r : Board × List Fault × Fault) (hF : assign_Play_v1 orders = some r) : Pe Try.prog 60 S.none [.sl 5 (orders.map e_Order)] (.tup [.agg (c_Board r.1), .sl 2 (r.2.1.map e_Fault), .agg [.i r.2.2.Code, .i r.2.2.At]]) S.none := by
 refine Pe_of (N := 41) (res := [.cell 2 62, .tmp 3, .cell 4 26]) (ts := [62, 55, 26]) Ty.ok Fn.b60 Try.func60 rfl rfl rfl rfl rfl rfl ?_
 intro Q g hfin
 unfold assign_Play_v1 at hF
 refine URs [] [0, 2, 4] [2, 4] [] [] [(2, .ptr 2 0), (4, .ptr 4 0)] [(2, [.nils, .nils, .i 0, .i 0]), (4, [.i 0, .i 0])] [] [] .nil ?_
 refine Wk_seq ?_
 refine ZRs [.nat (orders.length : Int)] [0, 2, 4, 13] [2, 4] [] [(13, .bool (decide (2000 < (orders.length : Int))))] (.cons (len_ok e_Order orders) .nil) ?_
 refine Wk_split rfl (fun hb => ?_) (fun hb => ?_)
 ·have hF := ite_t hF hb
  refine Wk_seq ?_
  obtain ⟨x, h0, hF⟩ := lt_split hF
  refine UR [.callB (.agg [.i x.Code, .i x.At])] [2, 3, 4] [2, 4] [] [] [(3, .nils)] [(4, [.i x.Code, .i x.At])] [] [] (.cons (assign_fault_ok 2 (-1) x h0) .nil) ?_
  have hF := some_elim hF
  exact Wk_ret (hfin _ ⟨[], [], [], [], [], [], by first | (rw [← hF]; kernel_rfl) | kernel_rfl⟩)
 ·have hF := ite_f hF hb
  refine Wk_skip ?_
  refine Wk_seq ?_
  obtain ⟨x1, h1, hF⟩ := lt_split hF
  refine UR [.callE [] [] [] [] (.agg [.row 16 0, .sl 6 (x1.1.map e_Slot), .i x1.2.1, .i x1.2.2]) ⟨[], [], [(16, .z 108 3 0 (([] : List Host).map e_Host))], [], []⟩] [0, 2, 4, 5] [2, 4, 5] [16] [] [(5, .ptr 5 0)] [(5, [.row 16 0, .sl 6 (x1.1.map e_Slot), .i x1.2.1, .i x1.2.2])] [(16, .z 108 3 0 (([] : List Host).map e_Host))] [] (.cons (Pe.ren (assign_New_ok  x1 h1) ⟨[], [(71000, 16)], [], []⟩) .nil) ?_
  refine ZRs [] [0, 2, 4, 5, 6] [2, 4, 5] [16] [(6, .nils)] .nil ?_
  refine Wk_seq ?_
  refine ZRs [.nat (orders.length : Int)] [2, 4, 5, 6, 17, 18, 19] [2, 4, 5] [16] [(17, .sl 5 (orders.map e_Order)), (18, .i (orders.length : Int)), (19, .i 0)] (.cons (len_ok e_Order orders) .nil) ?_
  refine Wk_meetP (fun v : List Host × List Slot × Int × Int × List Fault => (⟨[(2, .ptr 2 0), (4, .ptr 4 0), (5, .ptr 5 0), (6, .row 36 0)], [(2, [.nils, .nils, .i 0, .i 0]), (4, [.i 0, .i 0]), (5, [.row 16 0, .sl 6 (v.2.1.map e_Slot), .i v.2.2.1, .i v.2.2.2.1])], [(16, ⟨108, 3, 0, (v.1.map e_Host).length, 0, false, 0, [], (v.1.map e_Host)⟩), (36, .z 26 2 0 (v.2.2.2.2.map e_Fault))], [], []⟩ : S)) (fun v => assign_Play_v1_J1 v = some r) ?_ ?_
  ·refine Wk_block ?_
   unfold assign_Play_v1_L1 at hF
   refine Wk_nilrow 6 60000 26 2 rfl rfl rfl ?_
   refine Wk_trim (fs := [2, 4, 5, 6, 17, 18, 19]) (bs := [2, 4, 5]) (rs := [16, 60000]) (ms := []) (aa := []) (nv := []) rfl ?_
   refine Wk_ren' ⟨[], [(60000, 36)], [], []⟩ rfl ?_
   refine Wk_trim (fs := [2, 4, 5, 6, 17, 18, 19]) (bs := [2, 4, 5]) (rs := [16, 36]) (ms := []) (aa := []) (nv := [(16, ⟨0, true, false, true⟩)]) (t := (fun v1 : List Host × List Slot × Int × Int × List Fault × Int => (⟨[(2, .ptr 2 0), (4, .ptr 4 0), (5, .ptr 5 0), (6, .row 36 0), (17, .sl 5 (orders.map e_Order)), (18, .i (orders.length : Int)), (19, .i v1.2.2.2.2.2)], [(2, [.nils, .nils, .i 0, .i 0]), (4, [.i 0, .i 0]), (5, [.row 16 0, .sl 6 (v1.2.1.map e_Slot), .i v1.2.2.1, .i v1.2.2.2.1])], [(16, ⟨108, 3, 0, (v1.1.map e_Host).length, 0, false, 0, [], (v1.1.map e_Host)⟩), (36, .z 26 2 0 (v1.2.2.2.2.1.map e_Fault))], [], []⟩ : S)) (([] : List Host), x1.1, x1.2.1, x1.2.2, ([] : List Fault), 0)) (by kernel_rfl) ?_
   refine Wk_iter (step := fun y => assign_Play_v1_B1 orders y) (r := r) (fun v1 : List Host × List Slot × Int × Int × List Fault × Int => (⟨[(2, .ptr 2 0), (4, .ptr 4 0), (5, .ptr 5 0), (6, .row 36 0), (17, .sl 5 (orders.map e_Order)), (18, .i (orders.length : Int)), (19, .i v1.2.2.2.2.2)], [(2, [.nils, .nils, .i 0, .i 0]), (4, [.i 0, .i 0]), (5, [.row 16 0, .sl 6 (v1.2.1.map e_Slot), .i v1.2.2.1, .i v1.2.2.2.1])], [(16, ⟨108, 3, 0, (v1.1.map e_Host).length, 0, false, 0, [], (v1.1.map e_Host)⟩), (36, .z 26 2 0 (v1.2.2.2.2.1.map e_Fault))], [], []⟩ : S)) (([] : List Host), x1.1, x1.2.1, x1.2.2, ([] : List Fault), 0) hF ?_
   intro n1 v1 y1 hF ih1 dn1
   have hF : assign_Play_v1_B1 orders v1 = some y1 := hF
   unfold assign_Play_v1_B1 at hF
   refine ZRs [] [2, 4, 5, 6, 17, 18, 19, 20] [2, 4, 5] [16, 36] [(20, .bool (decide (v1.2.2.2.2.2 < (orders.length : Int))))] .nil ?_
   refine Wk_seq ?_
   refine Wk_split rfl (fun hb => ?_) (fun hb => ?_)
   ·have hF := ite_t hF hb
    refine Wk_skip ?_
    refine Wk_seq ?_
    refine Wk_block ?_
    refine Wk_seq ?_
    obtain ⟨h2, hF⟩ := asrt_elim hF
    refine UR [.av (e_Order (lget orders v1.2.2.2.2.2))] [2, 4, 5, 6, 8, 17, 18, 19] [2, 4, 5, 8] [16, 36] [] [(8, .ptr 8 0)] [(8, (c_Order (lget orders v1.2.2.2.2.2)))] [] [] (.cons (idx_ok e_Order h2) .nil) ?_
    refine Wk_seq ?_
    obtain ⟨x2, h3, hF⟩ := ob_elim hF
    refine UR [.callE [] [] [] [] (.tup [.agg [.row 26 0, .row 20026 0, .i x2.2.2.1, .i x2.2.2.2.1], .agg [.i x2.2.2.2.2.Code, .i x2.2.2.2.2.At]]) ⟨[], [], [(26, ⟨108, 3, 0, (x2.1.map e_Host).length, 0, false, 0, [], (x2.1.map e_Host)⟩), (20026, ⟨64, 6, 0, (x2.2.1.map e_Slot).length, 0, false, 0, [], (x2.2.1.map e_Slot)⟩)], [], []⟩] [2, 4, 5, 6, 9, 10, 17, 18, 19] [2, 4, 5, 9, 10] [16, 26, 36, 20026] [] [(9, .ptr 9 0), (10, .ptr 10 0)] [(9, [.row 26 0, .row 20026 0, .i x2.2.2.1, .i x2.2.2.2.1]), (10, [.i x2.2.2.2.2.Code, .i x2.2.2.2.2.At])] [(26, ⟨108, 3, 0, (x2.1.map e_Host).length, 0, false, 0, [], (x2.1.map e_Host)⟩), (20026, ⟨64, 6, 0, (x2.2.1.map e_Slot).length, 0, false, 0, [], (x2.2.1.map e_Slot)⟩)] [] (.cons (Pe.ren (assign_Do_ok (⟨v1.1, v1.2.1, v1.2.2.1, v1.2.2.2.1⟩ : Board) (⟨(lget orders v1.2.2.2.2.2).Kind, (lget orders v1.2.2.2.2.2).ID, (lget orders v1.2.2.2.2.2).Host, (lget orders v1.2.2.2.2.2).Turn, (lget orders v1.2.2.2.2.2).Row⟩ : Order) x2 h3) ⟨[], [(11, 26), (20011, 20026)], [], []⟩) .nil) ?_
    refine Wk_seq ?_
    refine ZRs [] [2, 4, 5, 6, 9, 10, 17, 18, 19, 31] [2, 4, 5, 9, 10] [16, 26, 36, 20026] [(31, .bool (decide (x2.2.2.2.2.Code = 0)))] .nil ?_
    obtain ⟨v2, hv, hF⟩ := ob_elim hF
    refine Wk_meet (⟨[(2, .ptr 2 0), (4, .ptr 4 0), (5, .ptr 5 0), (6, .row 36 0), (10, .ptr 10 0), (17, .sl 5 (orders.map e_Order)), (18, .i (orders.length : Int)), (19, .i v1.2.2.2.2.2)], [(2, [.nils, .nils, .i 0, .i 0]), (4, [.i 0, .i 0]), (5, [.row 26 0, .sl 6 (v2.2.1.map e_Slot), .i v2.2.2.1, .i v2.2.2.2]), (10, [.i x2.2.2.2.2.Code, .i x2.2.2.2.2.At])], [(26, ⟨108, 3, 0, (v2.1.map e_Host).length, 0, false, 0, [], (v2.1.map e_Host)⟩), (36, .z 26 2 0 (v1.2.2.2.2.1.map e_Fault))], [], []⟩ : S) ?_ ?_
    ·have hF := hv
     refine Wk_split rfl (fun hb => ?_) (fun hb => ?_)
     ·have hF := ite_t hF hb
      refine UR [] [2, 4, 5, 6, 10, 17, 18, 19] [2, 4, 5, 10] [26, 36, 20026] [] [] [(5, [.row 26 0, .row 20026 0, .i x2.2.2.1, .i x2.2.2.2.1])] [] [] .nil ?_
      refine Wk_sealBX [26] 5 rfl rfl ?_
      exact Wk_met (fs := [2, 4, 5, 6, 10, 17, 18, 19]) (bs := [2, 4, 5, 10]) (rs := [26, 36]) (ms := []) (aa := []) (nv := []) (by first | (rw [← some_elim hF]; kernel_rfl) | kernel_rfl)
     ·have hF := ite_f hF hb
      refine Wk_skip ?_
      refine Wk_trim (fs := [2, 4, 5, 6, 10, 17, 18, 19]) (bs := [2, 4, 5, 10]) (rs := [16, 36]) (ms := []) (aa := []) (nv := []) rfl ?_
      refine Wk_ren' ⟨[], [(16, 26)], [], []⟩ rfl ?_
      exact Wk_met (fs := [2, 4, 5, 6, 10, 17, 18, 19]) (bs := [2, 4, 5, 10]) (rs := [26, 36]) (ms := []) (aa := []) (nv := []) (by first | (rw [← some_elim hF]; kernel_rfl) | kernel_rfl)
    ·obtain ⟨h4, hF⟩ := asrt_elim hF
     refine UR [.sealed, .xs ((v1.2.2.2.2.1 ++ [x2.2.2.2.2]).map e_Fault)] [2, 4, 5, 6, 17, 18, 19] [2, 4, 5] [26, 36] [] [(6, .row 36 1)] [] [(36, .z 26 2 1 ((v1.2.2.2.2.1 ++ [x2.2.2.2.2]).map e_Fault))] [] (.cons (app_ok e_Fault v1.2.2.2.2.1 [x2.2.2.2.2]) (.cons (appl_ok e_Fault h4) .nil)) ?_
     refine Wk_blk ?_
     refine ZR [] [2, 4, 5, 6, 17, 18, 19] [2, 4, 5] [26, 36] [(19, .i (w64 (v1.2.2.2.2.2 + 1)))] .nil ?_
     refine Wk_trim (fs := [2, 4, 5, 6, 17, 18, 19]) (bs := [2, 4, 5]) (rs := [26, 36]) (ms := []) (aa := []) (nv := []) rfl ?_
     refine Wk_ren' ⟨[], [(26, 16)], [], []⟩ rfl ?_
     refine Wk_trim (fs := [2, 4, 5, 6, 17, 18, 19]) (bs := [2, 4, 5]) (rs := [16, 36]) (ms := []) (aa := []) (nv := [(36, ⟨0, true, true, false⟩)]) ?_ (ih1 _ (some_elim hF).symm)
     kernel_rfl
   ·have hF := ite_f hF hb
    refine Wk_exit rfl ?_
    have hF := inrO_done hF dn1
    exact Wk_metP (v1.1, v1.2.1, v1.2.2.1, v1.2.2.2.1, v1.2.2.2.2.1) [2, 4, 5, 6] [2, 4, 5] [16, 36] [] [] [] hF (by kernel_rfl)
  ·intro v hF
   have hF : assign_Play_v1_J1 v = some r := hF
   unfold assign_Play_v1_J1 at hF
   refine URs [] [2, 3, 4] [2, 4] [16, 36] [] [(3, .row 36 0)] [(2, [.row 16 0, .sl 6 (v.2.1.map e_Slot), .i v.2.2.1, .i v.2.2.2.1])] [] [] .nil ?_
   have hF := some_elim hF
   exact Wk_ret (hfin _ ⟨[], [], [], [], [], [], by first | (rw [← hF]; kernel_rfl) | kernel_rfl⟩)

/- tabularyref.Boards -/
noncomputable def R_Boards_v1_J1 (v1 : List Board × List Fault) : Option (List Board × List Fault) :=
 some (v1.1, v1.2)
noncomputable def R_Boards_v1_B1 (orders : List Order) (v2 : List Board × List Fault × Int) : Option ((List Board × List Fault × Int) ⊕ (List Board × List Fault)) :=
 if (decide (v2.2.2 < (orders.length : Int))) = true then
  asrt (0 ≤ v2.2.2 ∧ v2.2.2 < (v2.1.length : Int)) <|
  asrt (0 ≤ v2.2.2 ∧ v2.2.2 < (v2.1.length : Int)) <|
  asrt (0 ≤ v2.2.2 ∧ v2.2.2 < (orders.length : Int)) <|
  ob (R_Ordered (⟨(lget v2.1 v2.2.2).Hosts, (lget v2.1 v2.2.2).Slots, (lget v2.1 v2.2.2).Turn, (lget v2.1 v2.2.2).Next⟩ : Board) (⟨(lget orders v2.2.2).Kind, (lget orders v2.2.2).ID, (lget orders v2.2.2).Host, (lget orders v2.2.2).Turn, (lget orders v2.2.2).Row⟩ : Order)) fun x =>
  asrt (((v2.2.1 ++ [x.2.2.2.2]).length : Int) * 16 ≤ 140737488351232) <|
  ob (
   if (!decide (x.2.2.2.2.Code = 0)) = true then
    asrt (0 ≤ v2.2.2 ∧ v2.2.2 < (v2.1.length : Int)) <|
    asrt (0 ≤ v2.2.2 ∧ v2.2.2 < (v2.1.length : Int)) <|
    some ((lget v2.1 v2.2.2).Hosts, (lget v2.1 v2.2.2).Slots, (lget v2.1 v2.2.2).Turn, (lget v2.1 v2.2.2).Next)
   else
    some (x.1, x.2.1, x.2.2.1, x.2.2.2.1)) fun (v3 : List Host × List Slot × Int × Int) =>
  asrt (((v2.1 ++ [(⟨v3.1, v3.2.1, v3.2.2.1, v3.2.2.2⟩ : Board)]).length : Int) * 64 ≤ 140737488351232) <|
  some (Sum.inl ((v2.1 ++ [(⟨v3.1, v3.2.1, v3.2.2.1, v3.2.2.2⟩ : Board)]), (v2.2.1 ++ [x.2.2.2.2]), w64 (v2.2.2 + 1)))
 else
  inrO (R_Boards_v1_J1 (v2.1, v2.2.1))
noncomputable def R_Boards_v1_L1 (orders : List Order) (v0 : List Board × List Fault × Int) : Option (List Board × List Fault) :=
 loopO (fun y => R_Boards_v1_B1 orders y) v0
noncomputable def R_Boards_v1 (orders : List Order) : Option (List Board × List Fault) :=
 lt ([(⟨([] : List Host), [(⟨(⟨([] : List UInt8), ([] : List UInt8), 1⟩ : Part), 0, 0, 0⟩ : Slot)], 0, 2⟩ : Board)]) fun (v : List Board) =>
 R_Boards_v1_L1 orders (v, ([] : List Fault), 0)

/- tabularylaw.AssignPlays -/
noncomputable def law_AssignPlays_J1 (v1 : Unit) : Option Bool :=
 some true
noncomputable def law_AssignPlays_B1 (x1 : Board × List Fault × Fault) (x5 : List Board × List Fault) (v2 : Int) : Option (Int ⊕ Bool) :=
 if (decide (v2 < (x5.2.length : Int))) = true then
  asrt (0 ≤ v2 ∧ v2 < (x1.2.1.length : Int)) <|
  asrt (0 ≤ v2 ∧ v2 < (x5.2.length : Int)) <|
  if (!(decide ((lget x1.2.1 v2).Code = (lget x5.2 v2).Code) && (decide ((lget x1.2.1 v2).At = (lget x5.2 v2).At) && true))) = true then
   some (Sum.inr false)
  else
   some (Sum.inl (w64 (v2 + 1)))
 else
  inrO (law_AssignPlays_J1 ())
noncomputable def law_AssignPlays_L1 (x1 : Board × List Fault × Fault) (x5 : List Board × List Fault) (v0 : Int) : Option Bool :=
 loopO (fun y => law_AssignPlays_B1 x1 x5 y) v0
noncomputable def law_AssignPlays (orders : List Order) : Option Bool :=
 ob (law_assignBegun) fun x =>
 if (!x) = true then
  some false
 else
  if (((decide (300 < (orders.length : Int))) && (decide ((orders.length : Int) < 2001))) || (decide (3000 < (orders.length : Int)))) = true then
   some true
  else
   asrt ((orders.length : Int) * 48 ≤ 140737488351232) <|
   ob (assign_Play_v1 orders) fun x1 =>
   ob (R_SameOrders orders orders) fun x2 =>
   if (!x2) = true then
    some false
   else
    if (decide (2000 < (orders.length : Int))) = true then
     lt (R_F 2 (-1)) fun x3 =>
     ob (if ((decide (x1.2.2.Code = x3.Code) && (decide (x1.2.2.At = x3.At) && true)) && (decide ((x1.2.1.length : Int) = 0))) = true then (R_SameBoard x1.1 (⟨([] : List Host), ([] : List Slot), 0, 0⟩ : Board)) else some default) fun x4 =>
     lt (((decide (x1.2.2.Code = x3.Code) && (decide (x1.2.2.At = x3.At) && true)) && (decide ((x1.2.1.length : Int) = 0))) && x4) fun (v : Bool) =>
     some v
    else
     ob (R_Boards_v1 orders) fun x5 =>
     asrt ((!((!decide (x1.2.2.Code = 0)) || (!decide ((x1.2.1.length : Int) = (x5.2.length : Int))))) = true → 0 ≤ w64 ((x5.1.length : Int) - 1) ∧ w64 ((x5.1.length : Int) - 1) < (x5.1.length : Int)) <|
     ob (if (!((!decide (x1.2.2.Code = 0)) || (!decide ((x1.2.1.length : Int) = (x5.2.length : Int))))) = true then (R_SameBoard x1.1 (⟨(lget x5.1 (w64 ((x5.1.length : Int) - 1))).Hosts, (lget x5.1 (w64 ((x5.1.length : Int) - 1))).Slots, (lget x5.1 (w64 ((x5.1.length : Int) - 1))).Turn, (lget x5.1 (w64 ((x5.1.length : Int) - 1))).Next⟩ : Board)) else some default) fun x6 =>
     lt (assign_New_v1) fun x7 =>
     asrt ((!(((!decide (x1.2.2.Code = 0)) || (!decide ((x1.2.1.length : Int) = (x5.2.length : Int)))) || (!x6))) = true → 0 ≤ (0 : Int) ∧ 0 < (x5.1.length : Int)) <|
     ob (if (!(((!decide (x1.2.2.Code = 0)) || (!decide ((x1.2.1.length : Int) = (x5.2.length : Int)))) || (!x6))) = true then (R_SameBoard x7 (⟨(lget x5.1 0).Hosts, (lget x5.1 0).Slots, (lget x5.1 0).Turn, (lget x5.1 0).Next⟩ : Board)) else some default) fun x8 =>
     if ((((!decide (x1.2.2.Code = 0)) || (!decide ((x1.2.1.length : Int) = (x5.2.length : Int)))) || (!x6)) || (!x8)) = true then
      some false
     else
      law_AssignPlays_L1 x1 x5 0

end G
end Go.Proofs.Ytdjlninhfndjfaa
