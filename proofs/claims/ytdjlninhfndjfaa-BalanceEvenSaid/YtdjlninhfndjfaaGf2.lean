/- The program's functions as plain functions, and that they are these. Written by a program (dec2.py). -/
import Derived.Test.YtdjlninhfndjfaaGf1
namespace Go.Proofs.Ytdjlninhfndjfaa
open Go Go.Dm
set_option linter.unusedVariables false
set_option linter.unusedSimpArgs false
set_option maxRecDepth 100000
namespace G
/- assign.does -/
noncomputable def assign_does_J1 (v : List Host × List Slot × Int × Int) : Option (Fault × List Host × List Slot × Int × Int) :=
 if ((decide (1000000000 < v.2.2.1)) || (decide (1000000000 < v.2.2.2))) = true then
  lt (assign_fault 9 0) fun x1 =>
  some (x1, v.1, v.2.1, v.2.2.1, v.2.2.2)
 else
  some ((⟨0, 0⟩ : Fault), v.1, v.2.1, v.2.2.1, v.2.2.2)
noncomputable def assign_does (at0 : Int) (o : Order) (box : Int) (box1 : Int) (row : List Host) (row1 : List Slot) : Option (Fault × List Host × List Slot × Int × Int) :=
 asrt (0 ≤ at0 ∧ at0 < (row1.length : Int)) <|
 lt (assign_fault 11 (-1)) fun x =>
 if (decide (o.Kind = 3)) = true then
  ob (assign_HostAt_v1 box box1 o.Host row row1) fun x2 =>
  if (decide (x2.1 < 0)) = true then
   lt (assign_fault 6 (-2)) fun x3 =>
   some (x3, x2.2, row1, box, box1)
  else
   asrt (0 ≤ at0 ∧ at0 < (row1.length : Int)) <|
   if (!decide (((lget row1 at0).State) = 0)) = true then
    some (x, x2.2, row1, box, box1)
   else
    asrt (0 ≤ at0 ∧ at0 < (row1.length : Int)) <|
    asrt (0 ≤ at0 ∧ at0 < ((lset row1 at0 (⟨(⟨((lget row1 at0).Part).From, ((lget row1 at0).Part).To, ((lget row1 at0).Part).ID⟩ : Part), 1, (lget row1 at0).Host, (lget row1 at0).Turn⟩ : Slot)).length : Int)) <|
    asrt (0 ≤ at0 ∧ at0 < ((lset (lset row1 at0 (⟨(⟨((lget row1 at0).Part).From, ((lget row1 at0).Part).To, ((lget row1 at0).Part).ID⟩ : Part), 1, (lget row1 at0).Host, (lget row1 at0).Turn⟩ : Slot)) at0 (⟨(⟨((lget (lset row1 at0 (⟨(⟨((lget row1 at0).Part).From, ((lget row1 at0).Part).To, ((lget row1 at0).Part).ID⟩ : Part), 1, (lget row1 at0).Host, (lget row1 at0).Turn⟩ : Slot)) at0).Part).From, ((lget (lset row1 at0 (⟨(⟨((lget row1 at0).Part).From, ((lget row1 at0).Part).To, ((lget row1 at0).Part).ID⟩ : Part), 1, (lget row1 at0).Host, (lget row1 at0).Turn⟩ : Slot)) at0).Part).To, ((lget (lset row1 at0 (⟨(⟨((lget row1 at0).Part).From, ((lget row1 at0).Part).To, ((lget row1 at0).Part).ID⟩ : Part), 1, (lget row1 at0).Host, (lget row1 at0).Turn⟩ : Slot)) at0).Part).ID⟩ : Part), (lget (lset row1 at0 (⟨(⟨((lget row1 at0).Part).From, ((lget row1 at0).Part).To, ((lget row1 at0).Part).ID⟩ : Part), 1, (lget row1 at0).Host, (lget row1 at0).Turn⟩ : Slot)) at0).State, o.Host, (lget (lset row1 at0 (⟨(⟨((lget row1 at0).Part).From, ((lget row1 at0).Part).To, ((lget row1 at0).Part).ID⟩ : Part), 1, (lget row1 at0).Host, (lget row1 at0).Turn⟩ : Slot)) at0).Turn⟩ : Slot)).length : Int)) <|
    lt ((lset (lset (lset row1 at0 (⟨(⟨((lget row1 at0).Part).From, ((lget row1 at0).Part).To, ((lget row1 at0).Part).ID⟩ : Part), 1, (lget row1 at0).Host, (lget row1 at0).Turn⟩ : Slot)) at0 (⟨(⟨((lget (lset row1 at0 (⟨(⟨((lget row1 at0).Part).From, ((lget row1 at0).Part).To, ((lget row1 at0).Part).ID⟩ : Part), 1, (lget row1 at0).Host, (lget row1 at0).Turn⟩ : Slot)) at0).Part).From, ((lget (lset row1 at0 (⟨(⟨((lget row1 at0).Part).From, ((lget row1 at0).Part).To, ((lget row1 at0).Part).ID⟩ : Part), 1, (lget row1 at0).Host, (lget row1 at0).Turn⟩ : Slot)) at0).Part).To, ((lget (lset row1 at0 (⟨(⟨((lget row1 at0).Part).From, ((lget row1 at0).Part).To, ((lget row1 at0).Part).ID⟩ : Part), 1, (lget row1 at0).Host, (lget row1 at0).Turn⟩ : Slot)) at0).Part).ID⟩ : Part), (lget (lset row1 at0 (⟨(⟨((lget row1 at0).Part).From, ((lget row1 at0).Part).To, ((lget row1 at0).Part).ID⟩ : Part), 1, (lget row1 at0).Host, (lget row1 at0).Turn⟩ : Slot)) at0).State, o.Host, (lget (lset row1 at0 (⟨(⟨((lget row1 at0).Part).From, ((lget row1 at0).Part).To, ((lget row1 at0).Part).ID⟩ : Part), 1, (lget row1 at0).Host, (lget row1 at0).Turn⟩ : Slot)) at0).Turn⟩ : Slot)) at0 (⟨(⟨((lget (lset (lset row1 at0 (⟨(⟨((lget row1 at0).Part).From, ((lget row1 at0).Part).To, ((lget row1 at0).Part).ID⟩ : Part), 1, (lget row1 at0).Host, (lget row1 at0).Turn⟩ : Slot)) at0 (⟨(⟨((lget (lset row1 at0 (⟨(⟨((lget row1 at0).Part).From, ((lget row1 at0).Part).To, ((lget row1 at0).Part).ID⟩ : Part), 1, (lget row1 at0).Host, (lget row1 at0).Turn⟩ : Slot)) at0).Part).From, ((lget (lset row1 at0 (⟨(⟨((lget row1 at0).Part).From, ((lget row1 at0).Part).To, ((lget row1 at0).Part).ID⟩ : Part), 1, (lget row1 at0).Host, (lget row1 at0).Turn⟩ : Slot)) at0).Part).To, ((lget (lset row1 at0 (⟨(⟨((lget row1 at0).Part).From, ((lget row1 at0).Part).To, ((lget row1 at0).Part).ID⟩ : Part), 1, (lget row1 at0).Host, (lget row1 at0).Turn⟩ : Slot)) at0).Part).ID⟩ : Part), (lget (lset row1 at0 (⟨(⟨((lget row1 at0).Part).From, ((lget row1 at0).Part).To, ((lget row1 at0).Part).ID⟩ : Part), 1, (lget row1 at0).Host, (lget row1 at0).Turn⟩ : Slot)) at0).State, o.Host, (lget (lset row1 at0 (⟨(⟨((lget row1 at0).Part).From, ((lget row1 at0).Part).To, ((lget row1 at0).Part).ID⟩ : Part), 1, (lget row1 at0).Host, (lget row1 at0).Turn⟩ : Slot)) at0).Turn⟩ : Slot)) at0).Part).From, ((lget (lset (lset row1 at0 (⟨(⟨((lget row1 at0).Part).From, ((lget row1 at0).Part).To, ((lget row1 at0).Part).ID⟩ : Part), 1, (lget row1 at0).Host, (lget row1 at0).Turn⟩ : Slot)) at0 (⟨(⟨((lget (lset row1 at0 (⟨(⟨((lget row1 at0).Part).From, ((lget row1 at0).Part).To, ((lget row1 at0).Part).ID⟩ : Part), 1, (lget row1 at0).Host, (lget row1 at0).Turn⟩ : Slot)) at0).Part).From, ((lget (lset row1 at0 (⟨(⟨((lget row1 at0).Part).From, ((lget row1 at0).Part).To, ((lget row1 at0).Part).ID⟩ : Part), 1, (lget row1 at0).Host, (lget row1 at0).Turn⟩ : Slot)) at0).Part).To, ((lget (lset row1 at0 (⟨(⟨((lget row1 at0).Part).From, ((lget row1 at0).Part).To, ((lget row1 at0).Part).ID⟩ : Part), 1, (lget row1 at0).Host, (lget row1 at0).Turn⟩ : Slot)) at0).Part).ID⟩ : Part), (lget (lset row1 at0 (⟨(⟨((lget row1 at0).Part).From, ((lget row1 at0).Part).To, ((lget row1 at0).Part).ID⟩ : Part), 1, (lget row1 at0).Host, (lget row1 at0).Turn⟩ : Slot)) at0).State, o.Host, (lget (lset row1 at0 (⟨(⟨((lget row1 at0).Part).From, ((lget row1 at0).Part).To, ((lget row1 at0).Part).ID⟩ : Part), 1, (lget row1 at0).Host, (lget row1 at0).Turn⟩ : Slot)) at0).Turn⟩ : Slot)) at0).Part).To, ((lget (lset (lset row1 at0 (⟨(⟨((lget row1 at0).Part).From, ((lget row1 at0).Part).To, ((lget row1 at0).Part).ID⟩ : Part), 1, (lget row1 at0).Host, (lget row1 at0).Turn⟩ : Slot)) at0 (⟨(⟨((lget (lset row1 at0 (⟨(⟨((lget row1 at0).Part).From, ((lget row1 at0).Part).To, ((lget row1 at0).Part).ID⟩ : Part), 1, (lget row1 at0).Host, (lget row1 at0).Turn⟩ : Slot)) at0).Part).From, ((lget (lset row1 at0 (⟨(⟨((lget row1 at0).Part).From, ((lget row1 at0).Part).To, ((lget row1 at0).Part).ID⟩ : Part), 1, (lget row1 at0).Host, (lget row1 at0).Turn⟩ : Slot)) at0).Part).To, ((lget (lset row1 at0 (⟨(⟨((lget row1 at0).Part).From, ((lget row1 at0).Part).To, ((lget row1 at0).Part).ID⟩ : Part), 1, (lget row1 at0).Host, (lget row1 at0).Turn⟩ : Slot)) at0).Part).ID⟩ : Part), (lget (lset row1 at0 (⟨(⟨((lget row1 at0).Part).From, ((lget row1 at0).Part).To, ((lget row1 at0).Part).ID⟩ : Part), 1, (lget row1 at0).Host, (lget row1 at0).Turn⟩ : Slot)) at0).State, o.Host, (lget (lset row1 at0 (⟨(⟨((lget row1 at0).Part).From, ((lget row1 at0).Part).To, ((lget row1 at0).Part).ID⟩ : Part), 1, (lget row1 at0).Host, (lget row1 at0).Turn⟩ : Slot)) at0).Turn⟩ : Slot)) at0).Part).ID⟩ : Part), (lget (lset (lset row1 at0 (⟨(⟨((lget row1 at0).Part).From, ((lget row1 at0).Part).To, ((lget row1 at0).Part).ID⟩ : Part), 1, (lget row1 at0).Host, (lget row1 at0).Turn⟩ : Slot)) at0 (⟨(⟨((lget (lset row1 at0 (⟨(⟨((lget row1 at0).Part).From, ((lget row1 at0).Part).To, ((lget row1 at0).Part).ID⟩ : Part), 1, (lget row1 at0).Host, (lget row1 at0).Turn⟩ : Slot)) at0).Part).From, ((lget (lset row1 at0 (⟨(⟨((lget row1 at0).Part).From, ((lget row1 at0).Part).To, ((lget row1 at0).Part).ID⟩ : Part), 1, (lget row1 at0).Host, (lget row1 at0).Turn⟩ : Slot)) at0).Part).To, ((lget (lset row1 at0 (⟨(⟨((lget row1 at0).Part).From, ((lget row1 at0).Part).To, ((lget row1 at0).Part).ID⟩ : Part), 1, (lget row1 at0).Host, (lget row1 at0).Turn⟩ : Slot)) at0).Part).ID⟩ : Part), (lget (lset row1 at0 (⟨(⟨((lget row1 at0).Part).From, ((lget row1 at0).Part).To, ((lget row1 at0).Part).ID⟩ : Part), 1, (lget row1 at0).Host, (lget row1 at0).Turn⟩ : Slot)) at0).State, o.Host, (lget (lset row1 at0 (⟨(⟨((lget row1 at0).Part).From, ((lget row1 at0).Part).To, ((lget row1 at0).Part).ID⟩ : Part), 1, (lget row1 at0).Host, (lget row1 at0).Turn⟩ : Slot)) at0).Turn⟩ : Slot)) at0).State, (lget (lset (lset row1 at0 (⟨(⟨((lget row1 at0).Part).From, ((lget row1 at0).Part).To, ((lget row1 at0).Part).ID⟩ : Part), 1, (lget row1 at0).Host, (lget row1 at0).Turn⟩ : Slot)) at0 (⟨(⟨((lget (lset row1 at0 (⟨(⟨((lget row1 at0).Part).From, ((lget row1 at0).Part).To, ((lget row1 at0).Part).ID⟩ : Part), 1, (lget row1 at0).Host, (lget row1 at0).Turn⟩ : Slot)) at0).Part).From, ((lget (lset row1 at0 (⟨(⟨((lget row1 at0).Part).From, ((lget row1 at0).Part).To, ((lget row1 at0).Part).ID⟩ : Part), 1, (lget row1 at0).Host, (lget row1 at0).Turn⟩ : Slot)) at0).Part).To, ((lget (lset row1 at0 (⟨(⟨((lget row1 at0).Part).From, ((lget row1 at0).Part).To, ((lget row1 at0).Part).ID⟩ : Part), 1, (lget row1 at0).Host, (lget row1 at0).Turn⟩ : Slot)) at0).Part).ID⟩ : Part), (lget (lset row1 at0 (⟨(⟨((lget row1 at0).Part).From, ((lget row1 at0).Part).To, ((lget row1 at0).Part).ID⟩ : Part), 1, (lget row1 at0).Host, (lget row1 at0).Turn⟩ : Slot)) at0).State, o.Host, (lget (lset row1 at0 (⟨(⟨((lget row1 at0).Part).From, ((lget row1 at0).Part).To, ((lget row1 at0).Part).ID⟩ : Part), 1, (lget row1 at0).Host, (lget row1 at0).Turn⟩ : Slot)) at0).Turn⟩ : Slot)) at0).Host, w64 (box + 1)⟩ : Slot))) fun (v1 : List Slot) =>
    assign_does_J1 (x2.2, v1, w64 (box + 1), box1)
 else
  if (decide (o.Kind = 4)) = true then
   ob (assign_given at0 o 1 row1) fun x4 =>
   asrt (0 ≤ at0 ∧ at0 < (row1.length : Int)) <|
   lt ((lset row1 at0 (⟨(⟨((lget row1 at0).Part).From, ((lget row1 at0).Part).To, ((lget row1 at0).Part).ID⟩ : Part), 2, (lget row1 at0).Host, (lget row1 at0).Turn⟩ : Slot))) fun (v2 : List Slot) =>
   some (x4, row, v2, box, box1)
  else
   if (decide (o.Kind = 5)) = true then
    asrt (0 ≤ at0 ∧ at0 < (row1.length : Int)) <|
    if (!decide (((lget row1 at0).State) = 2)) = true then
     some (x, row, row1, box, box1)
    else
     asrt (0 ≤ at0 ∧ at0 < (row1.length : Int)) <|
     lt ((lset row1 at0 (⟨(⟨((lget row1 at0).Part).From, ((lget row1 at0).Part).To, ((lget row1 at0).Part).ID⟩ : Part), 3, (lget row1 at0).Host, (lget row1 at0).Turn⟩ : Slot))) fun (v3 : List Slot) =>
     assign_does_J1 (row, v3, box, box1)
   else
    if (decide (o.Kind = 6)) = true then
     ob (assign_given at0 o 3 row1) fun x5 =>
     ob (assign_off at0 row1) fun x6 =>
     some (x5, row, x6, box, box1)
    else
     if (decide (o.Kind = 7)) = true then
      asrt (0 ≤ at0 ∧ at0 < (row1.length : Int)) <|
      if (!decide (((lget row1 at0).State) = 0)) = true then
       some (x, row, row1, box, box1)
      else
       if (decide (999999998 < box1)) = true then
        ob (assign_much at0 o box box1 row row1) fun x7 =>
        some (x7.1, x7.2.1, x7.2.2, box, box1)
       else
        ob (assign_Parts_v2 box box1 row row1) fun x8 =>
        ob (parts_Split_v2 at0 o.Row box1 (w64 (box1 + 1)) x8) fun x9 =>
        if (!decide (x9.2.1.Code = 0)) = true then
         some (x9.2.1, row, row1, box, box1)
        else
         asrt (0 ≤ at0 ∧ at0 < (x9.1.length : Int)) <|
         asrt (0 ≤ at0 ∧ at0 < (x9.1.length : Int)) <|
         asrt (0 ≤ w64 (at0 + 1) ∧ w64 (at0 + 1) < (x9.1.length : Int)) <|
         asrt (0 ≤ w64 (at0 + 1) ∧ w64 (at0 + 1) < (x9.1.length : Int)) <|
         ob (slices_Replace_api_Slot_api_Slot at0 (w64 (at0 + 1)) [(⟨(⟨(lget x9.1 at0).From, (lget x9.1 at0).To, (lget x9.1 at0).ID⟩ : Part), 0, 0, 0⟩ : Slot), (⟨(⟨(lget x9.1 (w64 (at0 + 1))).From, (lget x9.1 (w64 (at0 + 1))).To, (lget x9.1 (w64 (at0 + 1))).ID⟩ : Part), 0, 0, 0⟩ : Slot)] row1) fun x10 =>
         assign_does_J1 (row, x10, box, w64 (box1 + 2))
     else
      if (decide (o.Kind = 8)) = true then
       if (decide ((w64 (at0 + 1)) = (row1.length : Int))) = true then
        lt (assign_fault 6 (-1)) fun x11 =>
        some (x11, row, row1, box, box1)
       else
        asrt (0 ≤ at0 ∧ at0 < (row1.length : Int)) <|
        asrt ((!(!decide (((lget row1 at0).State) = 0))) = true → 0 ≤ w64 (at0 + 1) ∧ w64 (at0 + 1) < (row1.length : Int)) <|
        asrt ((!(!decide (((lget row1 at0).State) = 0))) = true → 0 ≤ w64 (at0 + 1) ∧ w64 (at0 + 1) < (row1.length : Int)) <|
        if ((!decide (((lget row1 at0).State) = 0)) || (!decide (((lget row1 (w64 (at0 + 1))).State) = 0))) = true then
         some (x, row, row1, box, box1)
        else
         asrt (0 ≤ at0 ∧ at0 < (row1.length : Int)) <|
         asrt (0 ≤ w64 (at0 + 1) ∧ w64 (at0 + 1) < (row1.length : Int)) <|
         asrt (0 ≤ w64 (at0 + 1) ∧ w64 (at0 + 1) < (row1.length : Int)) <|
         ob (slices_Replace_api_Slot_api_Slot at0 (w64 (at0 + 2)) [(⟨(⟨((lget row1 at0).Part).From, ((lget row1 (w64 (at0 + 1))).Part).To, box1⟩ : Part), 0, 0, 0⟩ : Slot)] row1) fun x12 =>
         assign_does_J1 (row, x12, box, w64 (box1 + 1))
      else
       assign_does_J1 (row, row1, box, box1)
theorem assign_does_ok (at0 : Int) (o : Order) (box : Int) (box1 : Int) (row : List Host) (row1 : List Slot) (rk : Nat) (rc : Nat) (rn : Bool) (rk1 : Nat) (rc1 : Nat) (rn1 : Bool) (r : Fault × List Host × List Slot × Int × Int) (hF : assign_does at0 o box box1 row row1 = some r) : Pe Try.prog 96 ⟨[], [(100000, [.row 100000 0, .row 100001 0, .i box, .i box1])], [(100000, ⟨108, 3, 0, rk, rc, rn, 0, [], (row.map e_Host)⟩), (100001, ⟨64, 6, 0, 0, rc1, rn1, 0, [], (row1.map e_Slot)⟩)], [], []⟩ [.ptr 100000 0, .i at0, .agg (c_Order o)] (.agg (c_Fault r.1)) ⟨[], [(100000, [.row 100000 0, .row 100001 1, .i r.2.2.2.1, .i r.2.2.2.2])], [(100000, ⟨108, 3, 0, (r.2.1.map e_Host).length, rc, rn, 0, [], (r.2.1.map e_Host)⟩), (100001, ⟨64, 6, 1, (r.2.2.1.map e_Slot).length, 0, false, 0, [], (r.2.2.1.map e_Slot)⟩)], [], []⟩ := by
 refine PeN 246 [.cell 6 26] [26] Ty.ok Fn.b96 Try.func96 ?_
 intro Q g hfin
 unfold assign_does at hF
 refine VR [] [0, 1, 5, 6] [5, 6, 100000] [100000, 100001] [] [(5, .ptr 5 0), (6, .ptr 6 0)] [(5, (c_Order o)), (6, [.i 0, .i 0])] [] [] .nil ?_
 obtain ⟨h0, hF⟩ := asrt_elim hF
 refine NR [] [0, 1, 5, 6, 7] [5, 6, 100000] [100000, 100001] [(7, .ep 100001 0 at0.toNat 0)] (hc (ixr_ok e_Slot h0) .nil) ?_
 obtain ⟨x, h1, hF⟩ := lt_split hF
 refine VR [.callB (.agg (c_Fault x))] [0, 1, 5, 6, 7, 8] [5, 6, 8, 100000] [100000, 100001] [] [(8, .ptr 8 0)] [(8, (c_Fault x))] [] [] (hc (assign_fault_ok 11 (-1) x h1) .nil) ?_
 refine NR [] [0, 1, 5, 6, 7, 8, 22] [5, 6, 8, 100000] [100000, 100001] [(22, .i o.Kind)] .nil ?_
 refine Nblk ?_
 refine NR [] [0, 1, 5, 6, 7, 8, 22, 23] [5, 6, 8, 100000] [100000, 100001] [(23, .bool (decide (o.Kind = 3)))] .nil ?_
 refine NmeetP (fun v : List Host × List Slot × Int × Int => (⟨[(0, .ptr 100000 0), (6, .ptr 6 0)], [(6, [.i 0, .i 0]), (100000, [.row 100000 0, .row 100001 1, .i v.2.2.1, .i v.2.2.2])], [(100000, ⟨108, 3, 0, (v.1.map e_Host).length, rc, rn, 0, [], (v.1.map e_Host)⟩), (100001, .o 64 6 1 (v.2.1.map e_Slot))], [], []⟩ : S)) (fun v => assign_does_J1 v = some r) ?_ ?_
 ·refine Nif hF (fun hb hF => ?_) (fun hb hF => ?_)
  ·refine Nblk ?_
   obtain ⟨x2, h3, hF⟩ := ob_elim hF
   refine VD [.callE [] [100000, 100001] [] [] (.i x2.1) ⟨[], [], [(100000, ⟨108, 3, 0, (x2.2.map e_Host).length, rc, rn, 0, [], (x2.2.map e_Host)⟩), (100001, ⟨64, 6, 0, 0, rc1, rn1, 0, [], (row1.map e_Slot)⟩)], [], []⟩] [0, 5, 6, 7, 8, 25] [5, 6, 8, 100000] [100000, 100001] [] [(25, .bool (decide (x2.1 < 0)))] [] [(100000, ⟨108, 3, 0, (x2.2.map e_Host).length, rc, rn, 0, [], (x2.2.map e_Host)⟩)] [] (hc (Pe.ren (assign_HostAt_v1_ok box box1 o.Host row row1 rk rc rn 0 rc1 rn1 x2 h3) ⟨[], [], [], []⟩) .nil) ?_
   refine Nif hF (fun hb hF => ?_) (fun hb hF => ?_)
   ·obtain ⟨x3, h4, hF⟩ := lt_split hF
    refine VR [.callB (.agg (c_Fault x3))] [6] [6, 100000] [100000, 100001] [] [] [(6, (c_Fault x3))] [] [] (hc (assign_fault_ok 6 (-2) x3 h4) .nil) ?_
    cases hF
    exact Wk_ret (hfin _ ⟨[100000, 100001], [100000], [100000, 100001], [], [], [(100001, ⟨1, false, false, true⟩)], by kernel_rfl⟩)
   ·obtain ⟨h5, hF⟩ := asrt_elim hF
    refine NR [.av (e_Slot (lget row1 at0))] [0, 5, 6, 7, 8, 34] [5, 6, 8, 100000] [100000, 100001] [(34, .bool (!decide (((lget row1 at0).State) = 0)))] (hc (ldr_ok e_Slot h5) .nil) ?_
    refine Nif hF (fun hb hF => ?_) (fun hb hF => ?_)
    ·refine VR [] [6] [6, 100000] [100000, 100001] [] [] [(6, (c_Fault x))] [] [] .nil ?_
     cases hF
     exact Wk_ret (hfin _ ⟨[100000, 100001], [100000], [100000, 100001], [], [], [(100001, ⟨1, false, false, true⟩)], by kernel_rfl⟩)
    ·refine VR [] [0, 5, 6, 7] [5, 6, 100000] [100000, 100001] [] [] [(100000, [.row 100000 0, .row 100001 0, .i (w64 (box + 1)), .i box1])] [] [] .nil ?_
     obtain ⟨h6, h7, hF⟩ := asrt2 hF
     obtain ⟨h8, hF⟩ := asrt_elim hF
     refine NDL ((lset (lset (lset row1 at0 (⟨(⟨((lget row1 at0).Part).From, ((lget row1 at0).Part).To, ((lget row1 at0).Part).ID⟩ : Part), 1, (lget row1 at0).Host, (lget row1 at0).Turn⟩ : Slot)) at0 (⟨(⟨((lget (lset row1 at0 (⟨(⟨((lget row1 at0).Part).From, ((lget row1 at0).Part).To, ((lget row1 at0).Part).ID⟩ : Part), 1, (lget row1 at0).Host, (lget row1 at0).Turn⟩ : Slot)) at0).Part).From, ((lget (lset row1 at0 (⟨(⟨((lget row1 at0).Part).From, ((lget row1 at0).Part).To, ((lget row1 at0).Part).ID⟩ : Part), 1, (lget row1 at0).Host, (lget row1 at0).Turn⟩ : Slot)) at0).Part).To, ((lget (lset row1 at0 (⟨(⟨((lget row1 at0).Part).From, ((lget row1 at0).Part).To, ((lget row1 at0).Part).ID⟩ : Part), 1, (lget row1 at0).Host, (lget row1 at0).Turn⟩ : Slot)) at0).Part).ID⟩ : Part), (lget (lset row1 at0 (⟨(⟨((lget row1 at0).Part).From, ((lget row1 at0).Part).To, ((lget row1 at0).Part).ID⟩ : Part), 1, (lget row1 at0).Host, (lget row1 at0).Turn⟩ : Slot)) at0).State, o.Host, (lget (lset row1 at0 (⟨(⟨((lget row1 at0).Part).From, ((lget row1 at0).Part).To, ((lget row1 at0).Part).ID⟩ : Part), 1, (lget row1 at0).Host, (lget row1 at0).Turn⟩ : Slot)) at0).Turn⟩ : Slot)) at0 (⟨(⟨((lget (lset (lset row1 at0 (⟨(⟨((lget row1 at0).Part).From, ((lget row1 at0).Part).To, ((lget row1 at0).Part).ID⟩ : Part), 1, (lget row1 at0).Host, (lget row1 at0).Turn⟩ : Slot)) at0 (⟨(⟨((lget (lset row1 at0 (⟨(⟨((lget row1 at0).Part).From, ((lget row1 at0).Part).To, ((lget row1 at0).Part).ID⟩ : Part), 1, (lget row1 at0).Host, (lget row1 at0).Turn⟩ : Slot)) at0).Part).From, ((lget (lset row1 at0 (⟨(⟨((lget row1 at0).Part).From, ((lget row1 at0).Part).To, ((lget row1 at0).Part).ID⟩ : Part), 1, (lget row1 at0).Host, (lget row1 at0).Turn⟩ : Slot)) at0).Part).To, ((lget (lset row1 at0 (⟨(⟨((lget row1 at0).Part).From, ((lget row1 at0).Part).To, ((lget row1 at0).Part).ID⟩ : Part), 1, (lget row1 at0).Host, (lget row1 at0).Turn⟩ : Slot)) at0).Part).ID⟩ : Part), (lget (lset row1 at0 (⟨(⟨((lget row1 at0).Part).From, ((lget row1 at0).Part).To, ((lget row1 at0).Part).ID⟩ : Part), 1, (lget row1 at0).Host, (lget row1 at0).Turn⟩ : Slot)) at0).State, o.Host, (lget (lset row1 at0 (⟨(⟨((lget row1 at0).Part).From, ((lget row1 at0).Part).To, ((lget row1 at0).Part).ID⟩ : Part), 1, (lget row1 at0).Host, (lget row1 at0).Turn⟩ : Slot)) at0).Turn⟩ : Slot)) at0).Part).From, ((lget (lset (lset row1 at0 (⟨(⟨((lget row1 at0).Part).From, ((lget row1 at0).Part).To, ((lget row1 at0).Part).ID⟩ : Part), 1, (lget row1 at0).Host, (lget row1 at0).Turn⟩ : Slot)) at0 (⟨(⟨((lget (lset row1 at0 (⟨(⟨((lget row1 at0).Part).From, ((lget row1 at0).Part).To, ((lget row1 at0).Part).ID⟩ : Part), 1, (lget row1 at0).Host, (lget row1 at0).Turn⟩ : Slot)) at0).Part).From, ((lget (lset row1 at0 (⟨(⟨((lget row1 at0).Part).From, ((lget row1 at0).Part).To, ((lget row1 at0).Part).ID⟩ : Part), 1, (lget row1 at0).Host, (lget row1 at0).Turn⟩ : Slot)) at0).Part).To, ((lget (lset row1 at0 (⟨(⟨((lget row1 at0).Part).From, ((lget row1 at0).Part).To, ((lget row1 at0).Part).ID⟩ : Part), 1, (lget row1 at0).Host, (lget row1 at0).Turn⟩ : Slot)) at0).Part).ID⟩ : Part), (lget (lset row1 at0 (⟨(⟨((lget row1 at0).Part).From, ((lget row1 at0).Part).To, ((lget row1 at0).Part).ID⟩ : Part), 1, (lget row1 at0).Host, (lget row1 at0).Turn⟩ : Slot)) at0).State, o.Host, (lget (lset row1 at0 (⟨(⟨((lget row1 at0).Part).From, ((lget row1 at0).Part).To, ((lget row1 at0).Part).ID⟩ : Part), 1, (lget row1 at0).Host, (lget row1 at0).Turn⟩ : Slot)) at0).Turn⟩ : Slot)) at0).Part).To, ((lget (lset (lset row1 at0 (⟨(⟨((lget row1 at0).Part).From, ((lget row1 at0).Part).To, ((lget row1 at0).Part).ID⟩ : Part), 1, (lget row1 at0).Host, (lget row1 at0).Turn⟩ : Slot)) at0 (⟨(⟨((lget (lset row1 at0 (⟨(⟨((lget row1 at0).Part).From, ((lget row1 at0).Part).To, ((lget row1 at0).Part).ID⟩ : Part), 1, (lget row1 at0).Host, (lget row1 at0).Turn⟩ : Slot)) at0).Part).From, ((lget (lset row1 at0 (⟨(⟨((lget row1 at0).Part).From, ((lget row1 at0).Part).To, ((lget row1 at0).Part).ID⟩ : Part), 1, (lget row1 at0).Host, (lget row1 at0).Turn⟩ : Slot)) at0).Part).To, ((lget (lset row1 at0 (⟨(⟨((lget row1 at0).Part).From, ((lget row1 at0).Part).To, ((lget row1 at0).Part).ID⟩ : Part), 1, (lget row1 at0).Host, (lget row1 at0).Turn⟩ : Slot)) at0).Part).ID⟩ : Part), (lget (lset row1 at0 (⟨(⟨((lget row1 at0).Part).From, ((lget row1 at0).Part).To, ((lget row1 at0).Part).ID⟩ : Part), 1, (lget row1 at0).Host, (lget row1 at0).Turn⟩ : Slot)) at0).State, o.Host, (lget (lset row1 at0 (⟨(⟨((lget row1 at0).Part).From, ((lget row1 at0).Part).To, ((lget row1 at0).Part).ID⟩ : Part), 1, (lget row1 at0).Host, (lget row1 at0).Turn⟩ : Slot)) at0).Turn⟩ : Slot)) at0).Part).ID⟩ : Part), (lget (lset (lset row1 at0 (⟨(⟨((lget row1 at0).Part).From, ((lget row1 at0).Part).To, ((lget row1 at0).Part).ID⟩ : Part), 1, (lget row1 at0).Host, (lget row1 at0).Turn⟩ : Slot)) at0 (⟨(⟨((lget (lset row1 at0 (⟨(⟨((lget row1 at0).Part).From, ((lget row1 at0).Part).To, ((lget row1 at0).Part).ID⟩ : Part), 1, (lget row1 at0).Host, (lget row1 at0).Turn⟩ : Slot)) at0).Part).From, ((lget (lset row1 at0 (⟨(⟨((lget row1 at0).Part).From, ((lget row1 at0).Part).To, ((lget row1 at0).Part).ID⟩ : Part), 1, (lget row1 at0).Host, (lget row1 at0).Turn⟩ : Slot)) at0).Part).To, ((lget (lset row1 at0 (⟨(⟨((lget row1 at0).Part).From, ((lget row1 at0).Part).To, ((lget row1 at0).Part).ID⟩ : Part), 1, (lget row1 at0).Host, (lget row1 at0).Turn⟩ : Slot)) at0).Part).ID⟩ : Part), (lget (lset row1 at0 (⟨(⟨((lget row1 at0).Part).From, ((lget row1 at0).Part).To, ((lget row1 at0).Part).ID⟩ : Part), 1, (lget row1 at0).Host, (lget row1 at0).Turn⟩ : Slot)) at0).State, o.Host, (lget (lset row1 at0 (⟨(⟨((lget row1 at0).Part).From, ((lget row1 at0).Part).To, ((lget row1 at0).Part).ID⟩ : Part), 1, (lget row1 at0).Host, (lget row1 at0).Turn⟩ : Slot)) at0).Turn⟩ : Slot)) at0).State, (lget (lset (lset row1 at0 (⟨(⟨((lget row1 at0).Part).From, ((lget row1 at0).Part).To, ((lget row1 at0).Part).ID⟩ : Part), 1, (lget row1 at0).Host, (lget row1 at0).Turn⟩ : Slot)) at0 (⟨(⟨((lget (lset row1 at0 (⟨(⟨((lget row1 at0).Part).From, ((lget row1 at0).Part).To, ((lget row1 at0).Part).ID⟩ : Part), 1, (lget row1 at0).Host, (lget row1 at0).Turn⟩ : Slot)) at0).Part).From, ((lget (lset row1 at0 (⟨(⟨((lget row1 at0).Part).From, ((lget row1 at0).Part).To, ((lget row1 at0).Part).ID⟩ : Part), 1, (lget row1 at0).Host, (lget row1 at0).Turn⟩ : Slot)) at0).Part).To, ((lget (lset row1 at0 (⟨(⟨((lget row1 at0).Part).From, ((lget row1 at0).Part).To, ((lget row1 at0).Part).ID⟩ : Part), 1, (lget row1 at0).Host, (lget row1 at0).Turn⟩ : Slot)) at0).Part).ID⟩ : Part), (lget (lset row1 at0 (⟨(⟨((lget row1 at0).Part).From, ((lget row1 at0).Part).To, ((lget row1 at0).Part).ID⟩ : Part), 1, (lget row1 at0).Host, (lget row1 at0).Turn⟩ : Slot)) at0).State, o.Host, (lget (lset row1 at0 (⟨(⟨((lget row1 at0).Part).From, ((lget row1 at0).Part).To, ((lget row1 at0).Part).ID⟩ : Part), 1, (lget row1 at0).Host, (lget row1 at0).Turn⟩ : Slot)) at0).Turn⟩ : Slot)) at0).Host, w64 (box + 1)⟩ : Slot))) (fun v1 : List Slot => ([], [], [(100001, ⟨64, 6, 0, 0, rc1, rn1, 0, [], (v1.map e_Slot)⟩)], [])) [.av (e_Slot (lget row1 at0)), .xs ((lset row1 at0 (⟨(⟨((lget row1 at0).Part).From, ((lget row1 at0).Part).To, ((lget row1 at0).Part).ID⟩ : Part), 1, (lget row1 at0).Host, (lget row1 at0).Turn⟩ : Slot)).map e_Slot), .av (e_Slot (lget (lset row1 at0 (⟨(⟨((lget row1 at0).Part).From, ((lget row1 at0).Part).To, ((lget row1 at0).Part).ID⟩ : Part), 1, (lget row1 at0).Host, (lget row1 at0).Turn⟩ : Slot)) at0)), .xs ((lset (lset row1 at0 (⟨(⟨((lget row1 at0).Part).From, ((lget row1 at0).Part).To, ((lget row1 at0).Part).ID⟩ : Part), 1, (lget row1 at0).Host, (lget row1 at0).Turn⟩ : Slot)) at0 (⟨(⟨((lget (lset row1 at0 (⟨(⟨((lget row1 at0).Part).From, ((lget row1 at0).Part).To, ((lget row1 at0).Part).ID⟩ : Part), 1, (lget row1 at0).Host, (lget row1 at0).Turn⟩ : Slot)) at0).Part).From, ((lget (lset row1 at0 (⟨(⟨((lget row1 at0).Part).From, ((lget row1 at0).Part).To, ((lget row1 at0).Part).ID⟩ : Part), 1, (lget row1 at0).Host, (lget row1 at0).Turn⟩ : Slot)) at0).Part).To, ((lget (lset row1 at0 (⟨(⟨((lget row1 at0).Part).From, ((lget row1 at0).Part).To, ((lget row1 at0).Part).ID⟩ : Part), 1, (lget row1 at0).Host, (lget row1 at0).Turn⟩ : Slot)) at0).Part).ID⟩ : Part), (lget (lset row1 at0 (⟨(⟨((lget row1 at0).Part).From, ((lget row1 at0).Part).To, ((lget row1 at0).Part).ID⟩ : Part), 1, (lget row1 at0).Host, (lget row1 at0).Turn⟩ : Slot)) at0).State, o.Host, (lget (lset row1 at0 (⟨(⟨((lget row1 at0).Part).From, ((lget row1 at0).Part).To, ((lget row1 at0).Part).ID⟩ : Part), 1, (lget row1 at0).Host, (lget row1 at0).Turn⟩ : Slot)) at0).Turn⟩ : Slot)).map e_Slot), .av (e_Slot (lget (lset (lset row1 at0 (⟨(⟨((lget row1 at0).Part).From, ((lget row1 at0).Part).To, ((lget row1 at0).Part).ID⟩ : Part), 1, (lget row1 at0).Host, (lget row1 at0).Turn⟩ : Slot)) at0 (⟨(⟨((lget (lset row1 at0 (⟨(⟨((lget row1 at0).Part).From, ((lget row1 at0).Part).To, ((lget row1 at0).Part).ID⟩ : Part), 1, (lget row1 at0).Host, (lget row1 at0).Turn⟩ : Slot)) at0).Part).From, ((lget (lset row1 at0 (⟨(⟨((lget row1 at0).Part).From, ((lget row1 at0).Part).To, ((lget row1 at0).Part).ID⟩ : Part), 1, (lget row1 at0).Host, (lget row1 at0).Turn⟩ : Slot)) at0).Part).To, ((lget (lset row1 at0 (⟨(⟨((lget row1 at0).Part).From, ((lget row1 at0).Part).To, ((lget row1 at0).Part).ID⟩ : Part), 1, (lget row1 at0).Host, (lget row1 at0).Turn⟩ : Slot)) at0).Part).ID⟩ : Part), (lget (lset row1 at0 (⟨(⟨((lget row1 at0).Part).From, ((lget row1 at0).Part).To, ((lget row1 at0).Part).ID⟩ : Part), 1, (lget row1 at0).Host, (lget row1 at0).Turn⟩ : Slot)) at0).State, o.Host, (lget (lset row1 at0 (⟨(⟨((lget row1 at0).Part).From, ((lget row1 at0).Part).To, ((lget row1 at0).Part).ID⟩ : Part), 1, (lget row1 at0).Host, (lget row1 at0).Turn⟩ : Slot)) at0).Turn⟩ : Slot)) at0)), .xs ((lset (lset (lset row1 at0 (⟨(⟨((lget row1 at0).Part).From, ((lget row1 at0).Part).To, ((lget row1 at0).Part).ID⟩ : Part), 1, (lget row1 at0).Host, (lget row1 at0).Turn⟩ : Slot)) at0 (⟨(⟨((lget (lset row1 at0 (⟨(⟨((lget row1 at0).Part).From, ((lget row1 at0).Part).To, ((lget row1 at0).Part).ID⟩ : Part), 1, (lget row1 at0).Host, (lget row1 at0).Turn⟩ : Slot)) at0).Part).From, ((lget (lset row1 at0 (⟨(⟨((lget row1 at0).Part).From, ((lget row1 at0).Part).To, ((lget row1 at0).Part).ID⟩ : Part), 1, (lget row1 at0).Host, (lget row1 at0).Turn⟩ : Slot)) at0).Part).To, ((lget (lset row1 at0 (⟨(⟨((lget row1 at0).Part).From, ((lget row1 at0).Part).To, ((lget row1 at0).Part).ID⟩ : Part), 1, (lget row1 at0).Host, (lget row1 at0).Turn⟩ : Slot)) at0).Part).ID⟩ : Part), (lget (lset row1 at0 (⟨(⟨((lget row1 at0).Part).From, ((lget row1 at0).Part).To, ((lget row1 at0).Part).ID⟩ : Part), 1, (lget row1 at0).Host, (lget row1 at0).Turn⟩ : Slot)) at0).State, o.Host, (lget (lset row1 at0 (⟨(⟨((lget row1 at0).Part).From, ((lget row1 at0).Part).To, ((lget row1 at0).Part).ID⟩ : Part), 1, (lget row1 at0).Host, (lget row1 at0).Turn⟩ : Slot)) at0).Turn⟩ : Slot)) at0 (⟨(⟨((lget (lset (lset row1 at0 (⟨(⟨((lget row1 at0).Part).From, ((lget row1 at0).Part).To, ((lget row1 at0).Part).ID⟩ : Part), 1, (lget row1 at0).Host, (lget row1 at0).Turn⟩ : Slot)) at0 (⟨(⟨((lget (lset row1 at0 (⟨(⟨((lget row1 at0).Part).From, ((lget row1 at0).Part).To, ((lget row1 at0).Part).ID⟩ : Part), 1, (lget row1 at0).Host, (lget row1 at0).Turn⟩ : Slot)) at0).Part).From, ((lget (lset row1 at0 (⟨(⟨((lget row1 at0).Part).From, ((lget row1 at0).Part).To, ((lget row1 at0).Part).ID⟩ : Part), 1, (lget row1 at0).Host, (lget row1 at0).Turn⟩ : Slot)) at0).Part).To, ((lget (lset row1 at0 (⟨(⟨((lget row1 at0).Part).From, ((lget row1 at0).Part).To, ((lget row1 at0).Part).ID⟩ : Part), 1, (lget row1 at0).Host, (lget row1 at0).Turn⟩ : Slot)) at0).Part).ID⟩ : Part), (lget (lset row1 at0 (⟨(⟨((lget row1 at0).Part).From, ((lget row1 at0).Part).To, ((lget row1 at0).Part).ID⟩ : Part), 1, (lget row1 at0).Host, (lget row1 at0).Turn⟩ : Slot)) at0).State, o.Host, (lget (lset row1 at0 (⟨(⟨((lget row1 at0).Part).From, ((lget row1 at0).Part).To, ((lget row1 at0).Part).ID⟩ : Part), 1, (lget row1 at0).Host, (lget row1 at0).Turn⟩ : Slot)) at0).Turn⟩ : Slot)) at0).Part).From, ((lget (lset (lset row1 at0 (⟨(⟨((lget row1 at0).Part).From, ((lget row1 at0).Part).To, ((lget row1 at0).Part).ID⟩ : Part), 1, (lget row1 at0).Host, (lget row1 at0).Turn⟩ : Slot)) at0 (⟨(⟨((lget (lset row1 at0 (⟨(⟨((lget row1 at0).Part).From, ((lget row1 at0).Part).To, ((lget row1 at0).Part).ID⟩ : Part), 1, (lget row1 at0).Host, (lget row1 at0).Turn⟩ : Slot)) at0).Part).From, ((lget (lset row1 at0 (⟨(⟨((lget row1 at0).Part).From, ((lget row1 at0).Part).To, ((lget row1 at0).Part).ID⟩ : Part), 1, (lget row1 at0).Host, (lget row1 at0).Turn⟩ : Slot)) at0).Part).To, ((lget (lset row1 at0 (⟨(⟨((lget row1 at0).Part).From, ((lget row1 at0).Part).To, ((lget row1 at0).Part).ID⟩ : Part), 1, (lget row1 at0).Host, (lget row1 at0).Turn⟩ : Slot)) at0).Part).ID⟩ : Part), (lget (lset row1 at0 (⟨(⟨((lget row1 at0).Part).From, ((lget row1 at0).Part).To, ((lget row1 at0).Part).ID⟩ : Part), 1, (lget row1 at0).Host, (lget row1 at0).Turn⟩ : Slot)) at0).State, o.Host, (lget (lset row1 at0 (⟨(⟨((lget row1 at0).Part).From, ((lget row1 at0).Part).To, ((lget row1 at0).Part).ID⟩ : Part), 1, (lget row1 at0).Host, (lget row1 at0).Turn⟩ : Slot)) at0).Turn⟩ : Slot)) at0).Part).To, ((lget (lset (lset row1 at0 (⟨(⟨((lget row1 at0).Part).From, ((lget row1 at0).Part).To, ((lget row1 at0).Part).ID⟩ : Part), 1, (lget row1 at0).Host, (lget row1 at0).Turn⟩ : Slot)) at0 (⟨(⟨((lget (lset row1 at0 (⟨(⟨((lget row1 at0).Part).From, ((lget row1 at0).Part).To, ((lget row1 at0).Part).ID⟩ : Part), 1, (lget row1 at0).Host, (lget row1 at0).Turn⟩ : Slot)) at0).Part).From, ((lget (lset row1 at0 (⟨(⟨((lget row1 at0).Part).From, ((lget row1 at0).Part).To, ((lget row1 at0).Part).ID⟩ : Part), 1, (lget row1 at0).Host, (lget row1 at0).Turn⟩ : Slot)) at0).Part).To, ((lget (lset row1 at0 (⟨(⟨((lget row1 at0).Part).From, ((lget row1 at0).Part).To, ((lget row1 at0).Part).ID⟩ : Part), 1, (lget row1 at0).Host, (lget row1 at0).Turn⟩ : Slot)) at0).Part).ID⟩ : Part), (lget (lset row1 at0 (⟨(⟨((lget row1 at0).Part).From, ((lget row1 at0).Part).To, ((lget row1 at0).Part).ID⟩ : Part), 1, (lget row1 at0).Host, (lget row1 at0).Turn⟩ : Slot)) at0).State, o.Host, (lget (lset row1 at0 (⟨(⟨((lget row1 at0).Part).From, ((lget row1 at0).Part).To, ((lget row1 at0).Part).ID⟩ : Part), 1, (lget row1 at0).Host, (lget row1 at0).Turn⟩ : Slot)) at0).Turn⟩ : Slot)) at0).Part).ID⟩ : Part), (lget (lset (lset row1 at0 (⟨(⟨((lget row1 at0).Part).From, ((lget row1 at0).Part).To, ((lget row1 at0).Part).ID⟩ : Part), 1, (lget row1 at0).Host, (lget row1 at0).Turn⟩ : Slot)) at0 (⟨(⟨((lget (lset row1 at0 (⟨(⟨((lget row1 at0).Part).From, ((lget row1 at0).Part).To, ((lget row1 at0).Part).ID⟩ : Part), 1, (lget row1 at0).Host, (lget row1 at0).Turn⟩ : Slot)) at0).Part).From, ((lget (lset row1 at0 (⟨(⟨((lget row1 at0).Part).From, ((lget row1 at0).Part).To, ((lget row1 at0).Part).ID⟩ : Part), 1, (lget row1 at0).Host, (lget row1 at0).Turn⟩ : Slot)) at0).Part).To, ((lget (lset row1 at0 (⟨(⟨((lget row1 at0).Part).From, ((lget row1 at0).Part).To, ((lget row1 at0).Part).ID⟩ : Part), 1, (lget row1 at0).Host, (lget row1 at0).Turn⟩ : Slot)) at0).Part).ID⟩ : Part), (lget (lset row1 at0 (⟨(⟨((lget row1 at0).Part).From, ((lget row1 at0).Part).To, ((lget row1 at0).Part).ID⟩ : Part), 1, (lget row1 at0).Host, (lget row1 at0).Turn⟩ : Slot)) at0).State, o.Host, (lget (lset row1 at0 (⟨(⟨((lget row1 at0).Part).From, ((lget row1 at0).Part).To, ((lget row1 at0).Part).ID⟩ : Part), 1, (lget row1 at0).Host, (lget row1 at0).Turn⟩ : Slot)) at0).Turn⟩ : Slot)) at0).State, (lget (lset (lset row1 at0 (⟨(⟨((lget row1 at0).Part).From, ((lget row1 at0).Part).To, ((lget row1 at0).Part).ID⟩ : Part), 1, (lget row1 at0).Host, (lget row1 at0).Turn⟩ : Slot)) at0 (⟨(⟨((lget (lset row1 at0 (⟨(⟨((lget row1 at0).Part).From, ((lget row1 at0).Part).To, ((lget row1 at0).Part).ID⟩ : Part), 1, (lget row1 at0).Host, (lget row1 at0).Turn⟩ : Slot)) at0).Part).From, ((lget (lset row1 at0 (⟨(⟨((lget row1 at0).Part).From, ((lget row1 at0).Part).To, ((lget row1 at0).Part).ID⟩ : Part), 1, (lget row1 at0).Host, (lget row1 at0).Turn⟩ : Slot)) at0).Part).To, ((lget (lset row1 at0 (⟨(⟨((lget row1 at0).Part).From, ((lget row1 at0).Part).To, ((lget row1 at0).Part).ID⟩ : Part), 1, (lget row1 at0).Host, (lget row1 at0).Turn⟩ : Slot)) at0).Part).ID⟩ : Part), (lget (lset row1 at0 (⟨(⟨((lget row1 at0).Part).From, ((lget row1 at0).Part).To, ((lget row1 at0).Part).ID⟩ : Part), 1, (lget row1 at0).Host, (lget row1 at0).Turn⟩ : Slot)) at0).State, o.Host, (lget (lset row1 at0 (⟨(⟨((lget row1 at0).Part).From, ((lget row1 at0).Part).To, ((lget row1 at0).Part).ID⟩ : Part), 1, (lget row1 at0).Host, (lget row1 at0).Turn⟩ : Slot)) at0).Turn⟩ : Slot)) at0).Host, w64 (box + 1)⟩ : Slot)).map e_Slot)] [0, 6] [6, 100000] [100000, 100001] [] (hc (ldr_ok e_Slot h6) (hc (set_ok e_Slot row1 at0 (⟨(⟨((lget row1 at0).Part).From, ((lget row1 at0).Part).To, ((lget row1 at0).Part).ID⟩ : Part), 1, (lget row1 at0).Host, (lget row1 at0).Turn⟩ : Slot)) (hc (Nat.zero_le at0.toNat) (hc (ldr_ok e_Slot h7) (hc (set_ok e_Slot (lset row1 at0 (⟨(⟨((lget row1 at0).Part).From, ((lget row1 at0).Part).To, ((lget row1 at0).Part).ID⟩ : Part), 1, (lget row1 at0).Host, (lget row1 at0).Turn⟩ : Slot)) at0 (⟨(⟨((lget (lset row1 at0 (⟨(⟨((lget row1 at0).Part).From, ((lget row1 at0).Part).To, ((lget row1 at0).Part).ID⟩ : Part), 1, (lget row1 at0).Host, (lget row1 at0).Turn⟩ : Slot)) at0).Part).From, ((lget (lset row1 at0 (⟨(⟨((lget row1 at0).Part).From, ((lget row1 at0).Part).To, ((lget row1 at0).Part).ID⟩ : Part), 1, (lget row1 at0).Host, (lget row1 at0).Turn⟩ : Slot)) at0).Part).To, ((lget (lset row1 at0 (⟨(⟨((lget row1 at0).Part).From, ((lget row1 at0).Part).To, ((lget row1 at0).Part).ID⟩ : Part), 1, (lget row1 at0).Host, (lget row1 at0).Turn⟩ : Slot)) at0).Part).ID⟩ : Part), (lget (lset row1 at0 (⟨(⟨((lget row1 at0).Part).From, ((lget row1 at0).Part).To, ((lget row1 at0).Part).ID⟩ : Part), 1, (lget row1 at0).Host, (lget row1 at0).Turn⟩ : Slot)) at0).State, o.Host, (lget (lset row1 at0 (⟨(⟨((lget row1 at0).Part).From, ((lget row1 at0).Part).To, ((lget row1 at0).Part).ID⟩ : Part), 1, (lget row1 at0).Host, (lget row1 at0).Turn⟩ : Slot)) at0).Turn⟩ : Slot)) (hc (Nat.zero_le at0.toNat) (hc (ldr_ok e_Slot h8) (hc (set_ok e_Slot (lset (lset row1 at0 (⟨(⟨((lget row1 at0).Part).From, ((lget row1 at0).Part).To, ((lget row1 at0).Part).ID⟩ : Part), 1, (lget row1 at0).Host, (lget row1 at0).Turn⟩ : Slot)) at0 (⟨(⟨((lget (lset row1 at0 (⟨(⟨((lget row1 at0).Part).From, ((lget row1 at0).Part).To, ((lget row1 at0).Part).ID⟩ : Part), 1, (lget row1 at0).Host, (lget row1 at0).Turn⟩ : Slot)) at0).Part).From, ((lget (lset row1 at0 (⟨(⟨((lget row1 at0).Part).From, ((lget row1 at0).Part).To, ((lget row1 at0).Part).ID⟩ : Part), 1, (lget row1 at0).Host, (lget row1 at0).Turn⟩ : Slot)) at0).Part).To, ((lget (lset row1 at0 (⟨(⟨((lget row1 at0).Part).From, ((lget row1 at0).Part).To, ((lget row1 at0).Part).ID⟩ : Part), 1, (lget row1 at0).Host, (lget row1 at0).Turn⟩ : Slot)) at0).Part).ID⟩ : Part), (lget (lset row1 at0 (⟨(⟨((lget row1 at0).Part).From, ((lget row1 at0).Part).To, ((lget row1 at0).Part).ID⟩ : Part), 1, (lget row1 at0).Host, (lget row1 at0).Turn⟩ : Slot)) at0).State, o.Host, (lget (lset row1 at0 (⟨(⟨((lget row1 at0).Part).From, ((lget row1 at0).Part).To, ((lget row1 at0).Part).ID⟩ : Part), 1, (lget row1 at0).Host, (lget row1 at0).Turn⟩ : Slot)) at0).Turn⟩ : Slot)) at0 (⟨(⟨((lget (lset (lset row1 at0 (⟨(⟨((lget row1 at0).Part).From, ((lget row1 at0).Part).To, ((lget row1 at0).Part).ID⟩ : Part), 1, (lget row1 at0).Host, (lget row1 at0).Turn⟩ : Slot)) at0 (⟨(⟨((lget (lset row1 at0 (⟨(⟨((lget row1 at0).Part).From, ((lget row1 at0).Part).To, ((lget row1 at0).Part).ID⟩ : Part), 1, (lget row1 at0).Host, (lget row1 at0).Turn⟩ : Slot)) at0).Part).From, ((lget (lset row1 at0 (⟨(⟨((lget row1 at0).Part).From, ((lget row1 at0).Part).To, ((lget row1 at0).Part).ID⟩ : Part), 1, (lget row1 at0).Host, (lget row1 at0).Turn⟩ : Slot)) at0).Part).To, ((lget (lset row1 at0 (⟨(⟨((lget row1 at0).Part).From, ((lget row1 at0).Part).To, ((lget row1 at0).Part).ID⟩ : Part), 1, (lget row1 at0).Host, (lget row1 at0).Turn⟩ : Slot)) at0).Part).ID⟩ : Part), (lget (lset row1 at0 (⟨(⟨((lget row1 at0).Part).From, ((lget row1 at0).Part).To, ((lget row1 at0).Part).ID⟩ : Part), 1, (lget row1 at0).Host, (lget row1 at0).Turn⟩ : Slot)) at0).State, o.Host, (lget (lset row1 at0 (⟨(⟨((lget row1 at0).Part).From, ((lget row1 at0).Part).To, ((lget row1 at0).Part).ID⟩ : Part), 1, (lget row1 at0).Host, (lget row1 at0).Turn⟩ : Slot)) at0).Turn⟩ : Slot)) at0).Part).From, ((lget (lset (lset row1 at0 (⟨(⟨((lget row1 at0).Part).From, ((lget row1 at0).Part).To, ((lget row1 at0).Part).ID⟩ : Part), 1, (lget row1 at0).Host, (lget row1 at0).Turn⟩ : Slot)) at0 (⟨(⟨((lget (lset row1 at0 (⟨(⟨((lget row1 at0).Part).From, ((lget row1 at0).Part).To, ((lget row1 at0).Part).ID⟩ : Part), 1, (lget row1 at0).Host, (lget row1 at0).Turn⟩ : Slot)) at0).Part).From, ((lget (lset row1 at0 (⟨(⟨((lget row1 at0).Part).From, ((lget row1 at0).Part).To, ((lget row1 at0).Part).ID⟩ : Part), 1, (lget row1 at0).Host, (lget row1 at0).Turn⟩ : Slot)) at0).Part).To, ((lget (lset row1 at0 (⟨(⟨((lget row1 at0).Part).From, ((lget row1 at0).Part).To, ((lget row1 at0).Part).ID⟩ : Part), 1, (lget row1 at0).Host, (lget row1 at0).Turn⟩ : Slot)) at0).Part).ID⟩ : Part), (lget (lset row1 at0 (⟨(⟨((lget row1 at0).Part).From, ((lget row1 at0).Part).To, ((lget row1 at0).Part).ID⟩ : Part), 1, (lget row1 at0).Host, (lget row1 at0).Turn⟩ : Slot)) at0).State, o.Host, (lget (lset row1 at0 (⟨(⟨((lget row1 at0).Part).From, ((lget row1 at0).Part).To, ((lget row1 at0).Part).ID⟩ : Part), 1, (lget row1 at0).Host, (lget row1 at0).Turn⟩ : Slot)) at0).Turn⟩ : Slot)) at0).Part).To, ((lget (lset (lset row1 at0 (⟨(⟨((lget row1 at0).Part).From, ((lget row1 at0).Part).To, ((lget row1 at0).Part).ID⟩ : Part), 1, (lget row1 at0).Host, (lget row1 at0).Turn⟩ : Slot)) at0 (⟨(⟨((lget (lset row1 at0 (⟨(⟨((lget row1 at0).Part).From, ((lget row1 at0).Part).To, ((lget row1 at0).Part).ID⟩ : Part), 1, (lget row1 at0).Host, (lget row1 at0).Turn⟩ : Slot)) at0).Part).From, ((lget (lset row1 at0 (⟨(⟨((lget row1 at0).Part).From, ((lget row1 at0).Part).To, ((lget row1 at0).Part).ID⟩ : Part), 1, (lget row1 at0).Host, (lget row1 at0).Turn⟩ : Slot)) at0).Part).To, ((lget (lset row1 at0 (⟨(⟨((lget row1 at0).Part).From, ((lget row1 at0).Part).To, ((lget row1 at0).Part).ID⟩ : Part), 1, (lget row1 at0).Host, (lget row1 at0).Turn⟩ : Slot)) at0).Part).ID⟩ : Part), (lget (lset row1 at0 (⟨(⟨((lget row1 at0).Part).From, ((lget row1 at0).Part).To, ((lget row1 at0).Part).ID⟩ : Part), 1, (lget row1 at0).Host, (lget row1 at0).Turn⟩ : Slot)) at0).State, o.Host, (lget (lset row1 at0 (⟨(⟨((lget row1 at0).Part).From, ((lget row1 at0).Part).To, ((lget row1 at0).Part).ID⟩ : Part), 1, (lget row1 at0).Host, (lget row1 at0).Turn⟩ : Slot)) at0).Turn⟩ : Slot)) at0).Part).ID⟩ : Part), (lget (lset (lset row1 at0 (⟨(⟨((lget row1 at0).Part).From, ((lget row1 at0).Part).To, ((lget row1 at0).Part).ID⟩ : Part), 1, (lget row1 at0).Host, (lget row1 at0).Turn⟩ : Slot)) at0 (⟨(⟨((lget (lset row1 at0 (⟨(⟨((lget row1 at0).Part).From, ((lget row1 at0).Part).To, ((lget row1 at0).Part).ID⟩ : Part), 1, (lget row1 at0).Host, (lget row1 at0).Turn⟩ : Slot)) at0).Part).From, ((lget (lset row1 at0 (⟨(⟨((lget row1 at0).Part).From, ((lget row1 at0).Part).To, ((lget row1 at0).Part).ID⟩ : Part), 1, (lget row1 at0).Host, (lget row1 at0).Turn⟩ : Slot)) at0).Part).To, ((lget (lset row1 at0 (⟨(⟨((lget row1 at0).Part).From, ((lget row1 at0).Part).To, ((lget row1 at0).Part).ID⟩ : Part), 1, (lget row1 at0).Host, (lget row1 at0).Turn⟩ : Slot)) at0).Part).ID⟩ : Part), (lget (lset row1 at0 (⟨(⟨((lget row1 at0).Part).From, ((lget row1 at0).Part).To, ((lget row1 at0).Part).ID⟩ : Part), 1, (lget row1 at0).Host, (lget row1 at0).Turn⟩ : Slot)) at0).State, o.Host, (lget (lset row1 at0 (⟨(⟨((lget row1 at0).Part).From, ((lget row1 at0).Part).To, ((lget row1 at0).Part).ID⟩ : Part), 1, (lget row1 at0).Host, (lget row1 at0).Turn⟩ : Slot)) at0).Turn⟩ : Slot)) at0).State, (lget (lset (lset row1 at0 (⟨(⟨((lget row1 at0).Part).From, ((lget row1 at0).Part).To, ((lget row1 at0).Part).ID⟩ : Part), 1, (lget row1 at0).Host, (lget row1 at0).Turn⟩ : Slot)) at0 (⟨(⟨((lget (lset row1 at0 (⟨(⟨((lget row1 at0).Part).From, ((lget row1 at0).Part).To, ((lget row1 at0).Part).ID⟩ : Part), 1, (lget row1 at0).Host, (lget row1 at0).Turn⟩ : Slot)) at0).Part).From, ((lget (lset row1 at0 (⟨(⟨((lget row1 at0).Part).From, ((lget row1 at0).Part).To, ((lget row1 at0).Part).ID⟩ : Part), 1, (lget row1 at0).Host, (lget row1 at0).Turn⟩ : Slot)) at0).Part).To, ((lget (lset row1 at0 (⟨(⟨((lget row1 at0).Part).From, ((lget row1 at0).Part).To, ((lget row1 at0).Part).ID⟩ : Part), 1, (lget row1 at0).Host, (lget row1 at0).Turn⟩ : Slot)) at0).Part).ID⟩ : Part), (lget (lset row1 at0 (⟨(⟨((lget row1 at0).Part).From, ((lget row1 at0).Part).To, ((lget row1 at0).Part).ID⟩ : Part), 1, (lget row1 at0).Host, (lget row1 at0).Turn⟩ : Slot)) at0).State, o.Host, (lget (lset row1 at0 (⟨(⟨((lget row1 at0).Part).From, ((lget row1 at0).Part).To, ((lget row1 at0).Part).ID⟩ : Part), 1, (lget row1 at0).Host, (lget row1 at0).Turn⟩ : Slot)) at0).Turn⟩ : Slot)) at0).Host, w64 (box + 1)⟩ : Slot)) (hc (Nat.zero_le at0.toNat) .nil))))))))) (fun v1 hv => ?_)
     have hF := lt_elim hF hv
     exact metP (x2.2, v1, w64 (box + 1), box1) [(100001, ⟨1, false, false, false⟩)] hF (by kernel_rfl)
  ·refine NR [] [0, 1, 5, 6, 7, 8, 22, 63] [5, 6, 8, 100000] [100000, 100001] [(63, .bool (decide (o.Kind = 4)))] .nil ?_
   refine Nif hF (fun hb hF => ?_) (fun hb hF => ?_)
   ·obtain ⟨x4, h9, hF⟩ := ob_elim hF
    refine VR [.callR [] [100001] [] [] (.agg (c_Fault x4))] [6, 7, 9] [6, 9, 100000] [100000, 100001] [] [(9, .ptr 9 0)] [(9, (c_Fault x4))] [] [] (hc (Pe.ren (assign_given_ok at0 o 1 row1 0 rc1 rn1 x4 h9) ⟨[], [(100000, 100001)], [], []⟩) .nil) ?_
    obtain ⟨h10, hF⟩ := asrt_elim hF
    refine NRL ((lset row1 at0 (⟨(⟨((lget row1 at0).Part).From, ((lget row1 at0).Part).To, ((lget row1 at0).Part).ID⟩ : Part), 2, (lget row1 at0).Host, (lget row1 at0).Turn⟩ : Slot))) (fun v2 : List Slot => ([], [], [(100001, ⟨64, 6, 0, 0, rc1, rn1, 0, [], (v2.map e_Slot)⟩)], [])) [.av (e_Slot (lget row1 at0)), .xs ((lset row1 at0 (⟨(⟨((lget row1 at0).Part).From, ((lget row1 at0).Part).To, ((lget row1 at0).Part).ID⟩ : Part), 2, (lget row1 at0).Host, (lget row1 at0).Turn⟩ : Slot)).map e_Slot)] [6, 9] [6, 9, 100000] [100000, 100001] [] (hc (ldr_ok e_Slot h10) (hc (set_ok e_Slot row1 at0 (⟨(⟨((lget row1 at0).Part).From, ((lget row1 at0).Part).To, ((lget row1 at0).Part).ID⟩ : Part), 2, (lget row1 at0).Host, (lget row1 at0).Turn⟩ : Slot)) (hc (Nat.zero_le at0.toNat) .nil))) (fun v2 hv => ?_)
    have hF := lt_elim hF hv
    refine VR [] [6] [6, 100000] [100000, 100001] [] [] [(6, (c_Fault x4))] [] [] .nil ?_
    cases hF
    exact Wk_ret (hfin _ ⟨[100000, 100001], [100000], [100000, 100001], [], [], [(100000, ⟨0, true, true, true⟩), (100001, ⟨1, false, false, true⟩)], by kernel_rfl⟩)
   ·refine NR [] [0, 1, 5, 6, 7, 8, 22, 72] [5, 6, 8, 100000] [100000, 100001] [(72, .bool (decide (o.Kind = 5)))] .nil ?_
    refine Nif hF (fun hb hF => ?_) (fun hb hF => ?_)
    ·obtain ⟨h11, hF⟩ := asrt_elim hF
     refine NR [.av (e_Slot (lget row1 at0))] [0, 6, 7, 8, 78] [6, 8, 100000] [100000, 100001] [(78, .bool (!decide (((lget row1 at0).State) = 2)))] (hc (ldr_ok e_Slot h11) .nil) ?_
     refine Nif hF (fun hb hF => ?_) (fun hb hF => ?_)
     ·refine VR [] [6] [6, 100000] [100000, 100001] [] [] [(6, (c_Fault x))] [] [] .nil ?_
      cases hF
      exact Wk_ret (hfin _ ⟨[100000, 100001], [100000], [100000, 100001], [], [], [(100000, ⟨0, true, true, true⟩), (100001, ⟨1, false, false, true⟩)], by kernel_rfl⟩)
     ·obtain ⟨h12, hF⟩ := asrt_elim hF
      refine NRL ((lset row1 at0 (⟨(⟨((lget row1 at0).Part).From, ((lget row1 at0).Part).To, ((lget row1 at0).Part).ID⟩ : Part), 3, (lget row1 at0).Host, (lget row1 at0).Turn⟩ : Slot))) (fun v3 : List Slot => ([], [], [(100001, ⟨64, 6, 0, 0, rc1, rn1, 0, [], (v3.map e_Slot)⟩)], [])) [.av (e_Slot (lget row1 at0)), .xs ((lset row1 at0 (⟨(⟨((lget row1 at0).Part).From, ((lget row1 at0).Part).To, ((lget row1 at0).Part).ID⟩ : Part), 3, (lget row1 at0).Host, (lget row1 at0).Turn⟩ : Slot)).map e_Slot)] [0, 6] [6, 100000] [100000, 100001] [] (hc (ldr_ok e_Slot h12) (hc (set_ok e_Slot row1 at0 (⟨(⟨((lget row1 at0).Part).From, ((lget row1 at0).Part).To, ((lget row1 at0).Part).ID⟩ : Part), 3, (lget row1 at0).Host, (lget row1 at0).Turn⟩ : Slot)) (hc (Nat.zero_le at0.toNat) .nil))) (fun v3 hv => ?_)
      have hF := lt_elim hF hv
      exact metP (row, v3, box, box1) [(100000, ⟨0, true, true, true⟩), (100001, ⟨1, false, false, false⟩)] hF (by kernel_rfl)
    ·refine NR [] [0, 1, 5, 6, 7, 8, 22, 83] [5, 6, 8, 100000] [100000, 100001] [(83, .bool (decide (o.Kind = 6)))] .nil ?_
     refine Nif hF (fun hb hF => ?_) (fun hb hF => ?_)
     ·obtain ⟨x5, h13, hF⟩ := ob_elim hF
      refine VR [.callR [] [100001] [] [] (.agg (c_Fault x5))] [6, 7, 10] [6, 10, 100000] [100000, 100001] [] [(10, .ptr 10 0)] [(10, (c_Fault x5))] [] [] (hc (Pe.ren (assign_given_ok at0 o 3 row1 0 rc1 rn1 x5 h13) ⟨[], [(100000, 100001)], [], []⟩) .nil) ?_
      obtain ⟨x6, h14, hF⟩ := ob_elim hF
      refine VR [.callE [] [100001] [] [] (.tup []) ⟨[], [], [(100001, ⟨64, 6, 0, 0, rc1, rn1, 0, [], (x6.map e_Slot)⟩)], [], []⟩] [6, 10] [6, 10, 100000] [100000, 100001] [] [] [] [(100001, ⟨64, 6, 0, 0, rc1, rn1, 0, [], (x6.map e_Slot)⟩)] [] (hc (Pe.ren (assign_off_ok at0 row1 0 rc1 rn1 x6 h14) ⟨[], [(100000, 100001)], [], []⟩) .nil) ?_
      refine VR [] [6] [6, 100000] [100000, 100001] [] [] [(6, (c_Fault x5))] [] [] .nil ?_
      cases hF
      exact Wk_ret (hfin _ ⟨[100000, 100001], [100000], [100000, 100001], [], [], [(100000, ⟨0, true, true, true⟩), (100001, ⟨1, false, false, true⟩)], by kernel_rfl⟩)
     ·refine NR [] [0, 1, 5, 6, 7, 8, 22, 91] [5, 6, 8, 100000] [100000, 100001] [(91, .bool (decide (o.Kind = 7)))] .nil ?_
      refine Nif hF (fun hb hF => ?_) (fun hb hF => ?_)
      ·obtain ⟨h15, hF⟩ := asrt_elim hF
       refine NR [.av (e_Slot (lget row1 at0))] [0, 1, 5, 6, 8, 97] [5, 6, 8, 100000] [100000, 100001] [(97, .bool (!decide (((lget row1 at0).State) = 0)))] (hc (ldr_ok e_Slot h15) .nil) ?_
       refine Nif hF (fun hb hF => ?_) (fun hb hF => ?_)
       ·refine VR [] [6] [6, 100000] [100000, 100001] [] [] [(6, (c_Fault x))] [] [] .nil ?_
        cases hF
        exact Wk_ret (hfin _ ⟨[100000, 100001], [100000], [100000, 100001], [], [], [(100000, ⟨0, true, true, true⟩), (100001, ⟨1, false, false, true⟩)], by kernel_rfl⟩)
       ·refine NR [] [0, 1, 5, 6, 103] [5, 6, 100000] [100000, 100001] [(103, .bool (decide (999999998 < box1)))] .nil ?_
        refine Nif hF (fun hb hF => ?_) (fun hb hF => ?_)
        ·obtain ⟨x7, h16, hF⟩ := ob_elim hF
         refine VR [.callE [100000] [100000, 100001] [] [] (.agg (c_Fault x7.1)) ⟨[], [(100000, [.row 100000 0, .row 100001 0, .i box, .i box1])], [(100000, ⟨108, 3, 0, (x7.2.1.map e_Host).length, rc, rn, 0, [], (x7.2.1.map e_Host)⟩), (100001, ⟨64, 6, 0, (x7.2.2.map e_Slot).length, rc1, rn1, 0, [], (x7.2.2.map e_Slot)⟩)], [], []⟩] [6] [6, 100000] [100000, 100001] [] [] [(6, (c_Fault x7.1))] [(100000, ⟨108, 3, 0, (x7.2.1.map e_Host).length, rc, rn, 0, [], (x7.2.1.map e_Host)⟩), (100001, ⟨64, 6, 0, (x7.2.2.map e_Slot).length, rc1, rn1, 0, [], (x7.2.2.map e_Slot)⟩)] [] (hc (Pe.ren (assign_much_ok at0 o box box1 row row1 rk rc rn 0 rc1 rn1 x7 h16) ⟨[], [], [], []⟩) .nil) ?_
         cases hF
         exact Wk_ret (hfin _ ⟨[100000, 100001], [100000], [100000, 100001], [], [], [(100001, ⟨1, false, false, true⟩)], by kernel_rfl⟩)
        ·obtain ⟨x8, h17, hF⟩ := ob_elim hF
         obtain ⟨x9, h18, hF⟩ := ob_elim hF
         refine VD [.callE [] [100000, 100001] [] [] (.row 112 0) ⟨[], [], [(100000, ⟨108, 3, 0, rk, rc, rn, 0, [], (row.map e_Host)⟩), (100001, ⟨64, 6, 0, 0, rc1, rn1, 0, [], (row1.map e_Slot)⟩), (112, .o 34 3 0 (x8.map e_Part))], [], []⟩, .callE [] [112] [] [] (.tup [.row 125 0, .agg (c_Fault x9.2.1)]) ⟨[], [], [(112, ⟨34, 3, 0, (x9.2.2.map e_Part).length, 0, false, 0, [], (x9.2.2.map e_Part)⟩), (125, .o 34 3 0 (x9.1.map e_Part))], [], []⟩] [0, 1, 6, 11, 12] [6, 12, 100000] [125, 100000, 100001] [] [(11, .row 125 0), (12, .ptr 12 0)] [(12, (c_Fault x9.2.1))] [(125, .o 34 3 0 (x9.1.map e_Part))] [] (hc (Pe.ren (assign_Parts_v2_ok box box1 row row1 rk rc rn 0 rc1 rn1 x8 h17) ⟨[], [(9, 112)], [], []⟩) (hc (Pe.ren (parts_Split_v2_ok at0 o.Row box1 (w64 (box1 + 1)) x8 0 0 false x9 h18) ⟨[], [(100000, 112), (100000, 125)], [], []⟩) .nil)) ?_
         refine NR [] [0, 1, 6, 11, 12, 130] [6, 12, 100000] [125, 100000, 100001] [(130, .bool (!decide (x9.2.1.Code = 0)))] .nil ?_
         refine Nif hF (fun hb hF => ?_) (fun hb hF => ?_)
         ·refine VR [] [6] [6, 100000] [100000, 100001] [] [] [(6, (c_Fault x9.2.1))] [] [] .nil ?_
          cases hF
          exact Wk_ret (hfin _ ⟨[100000, 100001], [100000], [100000, 100001], [], [], [(100000, ⟨0, true, true, true⟩), (100001, ⟨1, false, false, true⟩)], by kernel_rfl⟩)
         ·obtain ⟨h19, hF⟩ := asrt_elim hF
          obtain ⟨h20, h21, hF⟩ := asrt2 hF
          obtain ⟨h22, hF⟩ := asrt_elim hF
          obtain ⟨x10, h23, hF⟩ := ob_elim hF
          refine VD [.av (e_Part (lget x9.1 at0)), .av (e_Part (lget x9.1 (w64 (at0 + 1)))), .callE [] [100001] [] [] (.row 100001 1) ⟨[], [], [(100001, .o 64 6 1 (x10.map e_Slot))], [], []⟩] [0, 6] [6, 100000] [100000, 100001] [] [] [(100000, [.row 100000 0, .row 100001 1, .i box, .i box1])] [(100001, .o 64 6 1 (x10.map e_Slot))] [] (hc (ixr_ok e_Part h19) (hc (ldr_ok e_Part h20) (hc (ixr_ok e_Part h21) (hc (ldr_ok e_Part h22) (hc (Pe.ren (slices_Replace_api_Slot_api_Slot_ok at0 (w64 (at0 + 1)) [(⟨(⟨(lget x9.1 at0).From, (lget x9.1 at0).To, (lget x9.1 at0).ID⟩ : Part), 0, 0, 0⟩ : Slot), (⟨(⟨(lget x9.1 (w64 (at0 + 1))).From, (lget x9.1 (w64 (at0 + 1))).To, (lget x9.1 (w64 (at0 + 1))).ID⟩ : Part), 0, 0, 0⟩ : Slot)] row1 0 rc1 rn1 x10 h23) ⟨[], [(100000, 100001)], [], []⟩) .nil))))) ?_
          refine VR [] [0, 6] [6, 100000] [100000, 100001] [] [] [(100000, [.row 100000 0, .row 100001 1, .i box, .i (w64 (box1 + 2))])] [] [] .nil ?_
          exact metP (row, x10, box, w64 (box1 + 2)) [(100000, ⟨0, true, true, true⟩)] hF (by kernel_rfl)
      ·refine NR [] [0, 1, 6, 7, 8, 162] [6, 8, 100000] [100000, 100001] [(162, .bool (decide (o.Kind = 8)))] .nil ?_
       refine Nif hF (fun hb hF => ?_) (fun hb hF => ?_)
       ·refine NR [.nat (row1.length : Int)] [0, 1, 6, 7, 8, 171] [6, 8, 100000] [100000, 100001] [(171, .bool (decide ((w64 (at0 + 1)) = (row1.length : Int))))] (hc (len_ok e_Slot row1) .nil) ?_
        refine Nif hF (fun hb hF => ?_) (fun hb hF => ?_)
        ·obtain ⟨x11, h24, hF⟩ := lt_split hF
         refine VR [.callB (.agg (c_Fault x11))] [6] [6, 100000] [100000, 100001] [] [] [(6, (c_Fault x11))] [] [] (hc (assign_fault_ok 6 (-1) x11 h24) .nil) ?_
         cases hF
         exact Wk_ret (hfin _ ⟨[100000, 100001], [100000], [100000, 100001], [], [], [(100000, ⟨0, true, true, true⟩), (100001, ⟨1, false, false, true⟩)], by kernel_rfl⟩)
        ·obtain ⟨h25, hF⟩ := asrt_elim hF
         obtain ⟨h26, h27, hF⟩ := asrt2 hF
         refine NR [.av (e_Slot (lget row1 at0)), .av (e_Slot (lget row1 (w64 (at0 + 1))))] [0, 1, 6, 7, 8, 189] [6, 8, 100000] [100000, 100001] [(189, .bool ((!decide (((lget row1 at0).State) = 0)) || (!decide (((lget row1 (w64 (at0 + 1))).State) = 0))))] (hc (ldr_ok e_Slot h25) (hc (fun (ga0 : (!(!decide (((lget row1 at0).State) = 0))) = true) => (ixr_ok e_Slot (h26 ga0))) (hc (fun (ga0 : (!(!decide (((lget row1 at0).State) = 0))) = true) => (ldr_ok e_Slot (h27 ga0))) .nil))) ?_
         refine Nif hF (fun hb hF => ?_) (fun hb hF => ?_)
         ·refine VR [] [6] [6, 100000] [100000, 100001] [] [] [(6, (c_Fault x))] [] [] .nil ?_
          cases hF
          exact Wk_ret (hfin _ ⟨[100000, 100001], [100000], [100000, 100001], [], [], [(100000, ⟨0, true, true, true⟩), (100001, ⟨1, false, false, true⟩)], by kernel_rfl⟩)
         ·obtain ⟨h28, hF⟩ := asrt_elim hF
          obtain ⟨h29, h30, hF⟩ := asrt2 hF
          refine VD [.av (e_Slot (lget row1 at0)), .av (e_Slot (lget row1 (w64 (at0 + 1))))] [0, 1, 6, 13] [6, 13, 100000] [100000, 100001] [] [(13, .ptr 13 0)] [(13, [.str (((lget row1 at0).Part).From), .str (((lget row1 (w64 (at0 + 1))).Part).To), .i box1])] [] [] (hc (ldr_ok e_Slot h28) (hc (ixr_ok e_Slot h29) (hc (ldr_ok e_Slot h30) .nil))) ?_
          obtain ⟨x12, h31, hF⟩ := ob_elim hF
          refine VD [.callE [] [100001] [] [] (.row 100001 1) ⟨[], [], [(100001, .o 64 6 1 (x12.map e_Slot))], [], []⟩] [0, 6] [6, 100000] [100000, 100001] [] [] [(100000, [.row 100000 0, .row 100001 1, .i box, .i box1])] [(100001, .o 64 6 1 (x12.map e_Slot))] [] (hc (Pe.ren (slices_Replace_api_Slot_api_Slot_ok at0 (w64 (at0 + 2)) [(⟨(⟨((lget row1 at0).Part).From, ((lget row1 (w64 (at0 + 1))).Part).To, box1⟩ : Part), 0, 0, 0⟩ : Slot)] row1 0 rc1 rn1 x12 h31) ⟨[], [(100000, 100001)], [], []⟩) .nil) ?_
          refine VR [] [0, 6] [6, 100000] [100000, 100001] [] [] [(100000, [.row 100000 0, .row 100001 1, .i box, .i (w64 (box1 + 1))])] [] [] .nil ?_
          exact metP (row, x12, box, w64 (box1 + 1)) [(100000, ⟨0, true, true, true⟩)] hF (by kernel_rfl)
       ·exact metP (row, row1, box, box1) [(100000, ⟨0, true, true, true⟩), (100001, ⟨1, false, false, false⟩)] hF (by kernel_rfl)
 ·intro v hF
  have hF : assign_does_J1 v = some r := hF
  unfold assign_does_J1 at hF
  refine NR [] [6, 243] [6, 100000] [100000, 100001] [(243, .bool ((decide (1000000000 < v.2.2.1)) || (decide (1000000000 < v.2.2.2))))] .nil ?_
  refine Nif hF (fun hb hF => ?_) (fun hb hF => ?_)
  ·obtain ⟨x1, h2, hF⟩ := lt_split hF
   refine VR [.callB (.agg (c_Fault x1))] [6] [6, 100000] [100000, 100001] [] [] [(6, (c_Fault x1))] [] [] (hc (assign_fault_ok 9 0 x1 h2) .nil) ?_
   cases hF
   exact Wk_ret (hfin _ ⟨[100000, 100001], [100000], [100000, 100001], [], [], [(100001, ⟨1, true, true, true⟩)], by kernel_rfl⟩)
  ·refine NR [] [6] [6, 100000] [100000, 100001] [] .nil ?_
   cases hF
   exact Wk_ret (hfin _ ⟨[100000, 100001], [100000], [100000, 100001], [], [], [(100001, ⟨1, true, true, true⟩)], by kernel_rfl⟩)

/- assign.Do -/
noncomputable def assign_Do (b : Board) (o : Order) : Option (List Host × List Slot × Int × Int × Fault) :=
 ob (assign_Check b) fun x =>
 ob (assign_own b) fun x1 =>
 ob (
  if (!decide (x.Code = 0)) = true then
   some (x1.1, x1.2.1, x1.2.2.1, x1.2.2.2, x)
  else
   if (decide (o.Kind = 1)) = true then
    ob (assign_come o.ID x1.2.2.1 x1.2.2.2 x1.1 x1.2.1) fun x2 =>
    some (x2.2.1, x1.2.1, x2.2.2.1, x2.2.2.2, x2.1)
   else
    if (decide (o.Kind = 2)) = true then
     ob (assign_lost o.ID x1.2.2.1 x1.2.2.2 x1.1 x1.2.1) fun x3 =>
     some (x3.2.1, x3.2.2, x1.2.2.1, x1.2.2.2, x3.1)
    else
     if ((decide (o.Kind < 1)) || (decide (8 < o.Kind))) = true then
      lt (assign_fault 4 0) fun x4 =>
      some (x1.1, x1.2.1, x1.2.2.1, x1.2.2.2, x4)
     else
      ob (assign_SlotAt (⟨x1.1, x1.2.1, x1.2.2.1, x1.2.2.2⟩ : Board) o.ID) fun x5 =>
      lt (assign_fault 6 (-1)) fun x6 =>
      if (decide (0 ≤ x5)) = true then
       ob (assign_does x5 o x1.2.2.1 x1.2.2.2 x1.1 x1.2.1) fun x7 =>
       some (x7.2.1, x7.2.2.1, x7.2.2.2.1, x7.2.2.2.2, x7.1)
      else
       some (x1.1, x1.2.1, x1.2.2.1, x1.2.2.2, x6)) fun (v : List Host × List Slot × Int × Int × Fault) =>
 if (!decide (v.2.2.2.2.Code = 0)) = true then
  some (([] : List Host), ([] : List Slot), 0, 0, v.2.2.2.2)
 else
  some (v.1, v.2.1, v.2.2.1, v.2.2.2.1, v.2.2.2.2)
theorem assign_Do_ok (b : Board) (o : Order) (r : List Host × List Slot × Int × Int × Fault) (hF : assign_Do b o = some r) : Pe Try.prog 53 S.none [.agg (c_Board b), .agg (c_Order o)] (.tup [.agg [.row 11 0, .row 20011 0, .i r.2.2.1, .i r.2.2.2.1], .agg (c_Fault r.2.2.2.2)]) ⟨[], [], [(11, ⟨108, 3, 0, (r.1.map e_Host).length, 0, false, 0, [], (r.1.map e_Host)⟩), (20011, ⟨64, 6, 0, (r.2.1.map e_Slot).length, 0, false, 0, [], (r.2.1.map e_Slot)⟩)], [], []⟩ := by
 refine PeN 57 [.cell 4 62, .cell 5 26] [62, 26] Ty.ok Fn.b53 Try.func53 ?_
 intro Q g hfin
 unfold assign_Do at hF
 refine VR [] [2, 3, 4, 5] [2, 3, 4, 5] [] [] [(2, .ptr 2 0), (3, .ptr 3 0), (4, .ptr 4 0), (5, .ptr 5 0)] [(2, (c_Board b)), (3, (c_Order o)), (4, [.nils, .nils, .i 0, .i 0]), (5, [.i 0, .i 0])] [] [] .nil ?_
 obtain ⟨x, h0, hF⟩ := ob_elim hF
 refine VR [.callB (.agg (c_Fault x))] [2, 3, 4, 5, 6] [2, 3, 4, 5, 6] [] [] [(6, .ptr 6 0)] [(6, (c_Fault x))] [] [] (hc (assign_Check_ok b x h0) .nil) ?_
 obtain ⟨x1, h1, hF⟩ := ob_elim hF
 refine VR [.callE [] [] [] [] (.agg [.row 11 0, .row 20011 0, .i x1.2.2.1, .i x1.2.2.2]) ⟨[], [], [(11, .o 108 3 0 (x1.1.map e_Host)), (20011, .o 64 6 0 (x1.2.1.map e_Slot))], [], []⟩] [2, 3, 4, 5, 6] [2, 3, 4, 5, 6] [11, 20011] [] [] [(2, [.row 11 0, .row 20011 0, .i x1.2.2.1, .i x1.2.2.2])] [(11, .o 108 3 0 (x1.1.map e_Host)), (20011, .o 64 6 0 (x1.2.1.map e_Slot))] [] (hc (Pe.ren (assign_own_ok b x1 h1) ⟨[], [(5, 11), (8, 20011)], [], []⟩) .nil) ?_
 refine Nblk ?_
 refine NR [] [2, 3, 4, 5, 6, 22] [2, 3, 4, 5, 6] [11, 20011] [(22, .bool (!decide (x.Code = 0)))] .nil ?_
 obtain ⟨v, hv, hF⟩ := ob_elim hF
 refine Nmeet (⟨[(2, .ptr 2 0), (4, .ptr 4 0), (5, .ptr 5 0), (6, .ptr 6 0)], [(2, [.row 11 0, .row 20011 0, .i v.2.2.1, .i v.2.2.2.1]), (4, [.nils, .nils, .i 0, .i 0]), (5, [.i 0, .i 0]), (6, (c_Fault v.2.2.2.2))], [(11, ⟨108, 3, 0, (v.1.map e_Host).length, 0, false, 0, [], (v.1.map e_Host)⟩), (20011, ⟨64, 6, 0, (v.2.1.map e_Slot).length, 0, false, 0, [], (v.2.1.map e_Slot)⟩)], [], []⟩ : S) ?_ ?_
 ·have hF := hv
  refine Nif hF (fun hb hF => ?_) (fun hb hF => ?_)
  ·cases hF
   exact met [(11, ⟨0, true, true, true⟩), (20011, ⟨0, true, true, true⟩)] (by kernel_rfl)
  ·refine NR [] [2, 3, 4, 5, 6, 26] [2, 3, 4, 5, 6] [11, 20011] [(26, .bool (decide (o.Kind = 1)))] .nil ?_
   refine Nif hF (fun hb hF => ?_) (fun hb hF => ?_)
   ·obtain ⟨x2, h2, hF⟩ := ob_elim hF
    refine VR [.callE [2] [11, 20011] [] [] (.agg (c_Fault x2.1)) ⟨[], [(2, [.row 11 1, .row 20011 0, .i x2.2.2.1, .i x2.2.2.2])], [(11, .o 108 3 1 (x2.2.1.map e_Host)), (20011, .o 64 6 0 (x1.2.1.map e_Slot))], [], []⟩] [2, 4, 5, 6] [2, 4, 5, 6] [11, 20011] [] [] [(2, [.row 11 1, .row 20011 0, .i x2.2.2.1, .i x2.2.2.2]), (6, (c_Fault x2.1))] [(11, .o 108 3 1 (x2.2.1.map e_Host))] [] (hc (Pe.ren (assign_come_ok o.ID x1.2.2.1 x1.2.2.2 x1.1 x1.2.1 0 0 false 0 0 false x2 h2) ⟨[(100000, 2)], [(100000, 11), (100001, 20011)], [], []⟩) .nil) ?_
    cases hF
    exact met [(11, ⟨0, true, true, true⟩), (20011, ⟨0, true, true, true⟩)] (by kernel_rfl)
   ·refine NR [] [2, 3, 4, 5, 6, 33] [2, 3, 4, 5, 6] [11, 20011] [(33, .bool (decide (o.Kind = 2)))] .nil ?_
    refine Nif hF (fun hb hF => ?_) (fun hb hF => ?_)
    ·obtain ⟨x3, h3, hF⟩ := ob_elim hF
     refine VR [.callE [2] [11, 20011] [] [] (.agg (c_Fault x3.1)) ⟨[], [(2, [.row 11 0, .row 20011 0, .i x1.2.2.1, .i x1.2.2.2])], [(11, .o 108 3 0 (x3.2.1.map e_Host)), (20011, .o 64 6 0 (x3.2.2.map e_Slot))], [], []⟩] [2, 4, 5, 6] [2, 4, 5, 6] [11, 20011] [] [] [(6, (c_Fault x3.1))] [(11, .o 108 3 0 (x3.2.1.map e_Host)), (20011, .o 64 6 0 (x3.2.2.map e_Slot))] [] (hc (Pe.ren (assign_lost_ok o.ID x1.2.2.1 x1.2.2.2 x1.1 x1.2.1 0 0 false 0 0 false x3 h3) ⟨[(100000, 2)], [(100000, 11), (100001, 20011)], [], []⟩) .nil) ?_
     cases hF
     exact met [(11, ⟨0, true, true, true⟩), (20011, ⟨0, true, true, true⟩)] (by kernel_rfl)
    ·refine NR [] [2, 3, 4, 5, 6, 40] [2, 3, 4, 5, 6] [11, 20011] [(40, .bool ((decide (o.Kind < 1)) || (decide (8 < o.Kind))))] .nil ?_
     refine Nif hF (fun hb hF => ?_) (fun hb hF => ?_)
     ·obtain ⟨x4, h4, hF⟩ := lt_split hF
      refine VR [.callB (.agg (c_Fault x4))] [2, 4, 5, 6] [2, 4, 5, 6] [11, 20011] [] [] [(6, (c_Fault x4))] [] [] (hc (assign_fault_ok 4 0 x4 h4) .nil) ?_
      cases hF
      exact met [(11, ⟨0, true, true, true⟩), (20011, ⟨0, true, true, true⟩)] (by kernel_rfl)
     ·obtain ⟨x5, h5, hF⟩ := ob_elim hF
      refine NR [.callB (.i x5)] [2, 3, 4, 5, 6, 7] [2, 3, 4, 5, 6] [11, 20011] [(7, .i x5)] (hc (assign_SlotAt_ok (⟨x1.1, x1.2.1, x1.2.2.1, x1.2.2.2⟩ : Board) o.ID x5 h5) .nil) ?_
      obtain ⟨x6, h6, hF⟩ := lt_split hF
      refine VR [.callB (.agg (c_Fault x6))] [2, 3, 4, 5, 6, 7] [2, 3, 4, 5, 6] [11, 20011] [] [] [(6, (c_Fault x6))] [] [] (hc (assign_fault_ok 6 (-1) x6 h6) .nil) ?_
      refine NR [] [2, 3, 4, 5, 6, 7, 18] [2, 3, 4, 5, 6] [11, 20011] [(18, .bool (decide (0 ≤ x5)))] .nil ?_
      refine Nif hF (fun hb hF => ?_) (fun hb hF => ?_)
      ·obtain ⟨x7, h7, hF⟩ := ob_elim hF
       refine VR [.callE [2] [11, 20011] [] [] (.agg (c_Fault x7.1)) ⟨[], [(2, [.row 11 0, .row 20011 1, .i x7.2.2.2.1, .i x7.2.2.2.2])], [(11, ⟨108, 3, 0, (x7.2.1.map e_Host).length, 0, false, 0, [], (x7.2.1.map e_Host)⟩), (20011, ⟨64, 6, 1, (x7.2.2.1.map e_Slot).length, 0, false, 0, [], (x7.2.2.1.map e_Slot)⟩)], [], []⟩] [2, 4, 5, 6] [2, 4, 5, 6] [11, 20011] [] [] [(2, [.row 11 0, .row 20011 1, .i x7.2.2.2.1, .i x7.2.2.2.2]), (6, (c_Fault x7.1))] [(11, ⟨108, 3, 0, (x7.2.1.map e_Host).length, 0, false, 0, [], (x7.2.1.map e_Host)⟩), (20011, ⟨64, 6, 1, (x7.2.2.1.map e_Slot).length, 0, false, 0, [], (x7.2.2.1.map e_Slot)⟩)] [] (hc (Pe.ren (assign_does_ok x5 o x1.2.2.1 x1.2.2.2 x1.1 x1.2.1 0 0 false 0 0 false x7 h7) ⟨[(100000, 2)], [(100000, 11), (100001, 20011)], [], []⟩) .nil) ?_
       cases hF
       exact met [(20011, ⟨0, true, true, true⟩)] (by kernel_rfl)
      ·cases hF
       exact met [(11, ⟨0, true, true, true⟩), (20011, ⟨0, true, true, true⟩)] (by kernel_rfl)
 ·refine NR [] [2, 4, 5, 6, 52] [2, 4, 5, 6] [11, 20011] [(52, .bool (!decide (v.2.2.2.2.Code = 0)))] .nil ?_
  refine Nif hF (fun hb hF => ?_) (fun hb hF => ?_)
  ·refine VD [] [4, 5] [4, 5] [] [] [] [(5, (c_Fault v.2.2.2.2))] [] [] .nil ?_
   cases hF
   refine Wk_nilrowB 4 0 60000 108 3 rfl rfl rfl rfl rfl ?_
   refine Wk_nilrowB 4 1 60001 64 6 rfl rfl rfl rfl rfl ?_
   refine Wk_ren' ⟨[], [(60000, 11), (60001, 20011)], [], []⟩ rfl ?_
   exact Wk_ret (hfin _ ⟨[11, 20011], [], [11, 20011], [], [], [(11, ⟨0, true, false, true⟩), (20011, ⟨0, true, false, true⟩)], by kernel_rfl⟩)
  ·refine VD [] [4, 5] [4, 5] [11, 20011] [] [] [(4, [.row 11 0, .row 20011 0, .i v.2.2.1, .i v.2.2.2.1]), (5, (c_Fault v.2.2.2.2))] [] [] .nil ?_
   cases hF
   exact Wk_ret (hfin _ ⟨[11, 20011], [], [11, 20011], [], [], [], by kernel_rfl⟩)

/- balance.Move -/
noncomputable def balance_Move_J1 (v2 : Board) : Option (Board × Fault) :=
 some (v2, (⟨0, 0⟩ : Fault))
noncomputable def balance_Move_B1 (v1 : List Order × Int) (v3 : List Host × List Slot × Int × Int × Int) : Option ((List Host × List Slot × Int × Int × Int) ⊕ (Board × Fault)) :=
 if (decide (v3.2.2.2.2 < v1.2)) = true then
  asrt (0 ≤ v3.2.2.2.2 ∧ v3.2.2.2.2 < (v1.1.length : Int)) <|
  ob (assign_Do (⟨v3.1, v3.2.1, v3.2.2.1, v3.2.2.2.1⟩ : Board) (⟨(lget v1.1 v3.2.2.2.2).Kind, (lget v1.1 v3.2.2.2.2).ID, (lget v1.1 v3.2.2.2.2).Host, (lget v1.1 v3.2.2.2.2).Turn, (lget v1.1 v3.2.2.2.2).Row⟩ : Order)) fun x3 =>
  if (!decide (x3.2.2.2.2.Code = 0)) = true then
   some (Sum.inr ((⟨([] : List Host), ([] : List Slot), 0, 0⟩ : Board), x3.2.2.2.2))
  else
   some (Sum.inl (x3.1, x3.2.1, x3.2.2.1, x3.2.2.2.1, w64 (v3.2.2.2.2 + 1)))
 else
  inrO (balance_Move_J1 (⟨v3.1, v3.2.1, v3.2.2.1, v3.2.2.2.1⟩ : Board))
noncomputable def balance_Move_L1 (v1 : List Order × Int) (v0 : List Host × List Slot × Int × Int × Int) : Option (Board × Fault) :=
 loopO (fun y => balance_Move_B1 v1 y) v0
noncomputable def balance_Move (b : Board) (o : Order) : Option (Board × Fault) :=
 ob (assign_Check b) fun x =>
 if (!decide (x.Code = 0)) = true then
  some ((⟨([] : List Host), ([] : List Slot), 0, 0⟩ : Board), x)
 else
  if (!decide (o.Kind = 9)) = true then
   lt (balance_fault 4 0) fun x1 =>
   some ((⟨([] : List Host), ([] : List Slot), 0, 0⟩ : Board), x1)
  else
   ob (assign_SlotAt b o.ID) fun x2 =>
   ob (
    if (decide (0 ≤ x2)) = true then
     asrt (0 ≤ x2 ∧ x2 < (b.Slots.length : Int)) <|
     asrt (0 ≤ x2 ∧ x2 < (b.Slots.length : Int)) <|
     some (⟨0, 0, (lget b.Slots x2).Host, (lget b.Slots x2).Turn, ([] : List UInt8)⟩ : Order)
    else
     some (⟨0, 0, 0, 0, ([] : List UInt8)⟩ : Order)) fun (v : Order) =>
   lt (([(⟨5, o.ID, 0, 0, ([] : List UInt8)⟩ : Order), (⟨6, o.ID, v.Host, v.Turn, ([] : List UInt8)⟩ : Order), (⟨3, o.ID, o.Host, 0, ([] : List UInt8)⟩ : Order), (⟨4, o.ID, o.Host, w64 (b.Turn + 1), ([] : List UInt8)⟩ : Order)], ([(⟨5, o.ID, 0, 0, ([] : List UInt8)⟩ : Order), (⟨6, o.ID, v.Host, v.Turn, ([] : List UInt8)⟩ : Order), (⟨3, o.ID, o.Host, 0, ([] : List UInt8)⟩ : Order), (⟨4, o.ID, o.Host, w64 (b.Turn + 1), ([] : List UInt8)⟩ : Order)].length : Int))) fun (v1 : List Order × Int) =>
   balance_Move_L1 v1 (b.Hosts, b.Slots, b.Turn, b.Next, 0)
theorem balance_Move_ok (b : Board) (o : Order) (r : Board × Fault) (hF : balance_Move b o = some r) : Pe Try.prog 64 S.none [.agg (c_Board b), .agg (c_Order o)] (.tup [.agg (c_Board r.1), .agg (c_Fault r.2)]) S.none := by
 refine PeN 88 [.cell 4 62, .cell 5 26] [62, 26] Ty.ok Fn.b64 Try.func64 ?_
 intro Q g hfin
 unfold balance_Move at hF
 refine VR [] [2, 3, 4, 5] [2, 3, 4, 5] [] [] [(2, .ptr 2 0), (3, .ptr 3 0), (4, .ptr 4 0), (5, .ptr 5 0)] [(2, (c_Board b)), (3, (c_Order o)), (4, [.nils, .nils, .i 0, .i 0]), (5, [.i 0, .i 0])] [] [] .nil ?_
 obtain ⟨x, h0, hF⟩ := ob_elim hF
 refine VR [.callB (.agg (c_Fault x))] [2, 3, 4, 5, 6] [2, 3, 4, 5, 6] [] [] [(6, .ptr 6 0)] [(6, (c_Fault x))] [] [] (hc (assign_Check_ok b x h0) .nil) ?_
 refine NR [] [2, 3, 4, 5, 6, 16] [2, 3, 4, 5, 6] [] [(16, .bool (!decide (x.Code = 0)))] .nil ?_
 refine Nif hF (fun hb hF => ?_) (fun hb hF => ?_)
 ·refine VD [] [4, 5] [4, 5] [] [] [] [(5, (c_Fault x))] [] [] .nil ?_
  cases hF
  exact Wk_ret (hfin _ ⟨[], [], [], [], [], [], by kernel_rfl⟩)
 ·refine NR [] [2, 3, 4, 5, 21] [2, 3, 4, 5] [] [(21, .bool (!decide (o.Kind = 9)))] .nil ?_
  refine Nif hF (fun hb hF => ?_) (fun hb hF => ?_)
  ·obtain ⟨x1, h1, hF⟩ := lt_split hF
   refine VR [.callB (.agg (c_Fault x1))] [4, 5] [4, 5] [] [] [] [(5, (c_Fault x1))] [] [] (hc (balance_fault_ok 4 0 x1 h1) .nil) ?_
   cases hF
   exact Wk_ret (hfin _ ⟨[], [], [], [], [], [], by kernel_rfl⟩)
  ·refine VR [] [2, 3, 4, 5, 7] [2, 3, 4, 5, 7] [] [] [(7, .ptr 7 0)] [(7, [.i 0, .i 0, .i 0, .i 0, .str []])] [] [] .nil ?_
   obtain ⟨x2, h2, hF⟩ := ob_elim hF
   refine NR [.callB (.i x2)] [2, 3, 4, 5, 7, 8] [2, 3, 4, 5, 7] [] [(8, .i x2)] (hc (assign_SlotAt_ok b o.ID x2 h2) .nil) ?_
   refine NR [] [2, 3, 4, 5, 7, 8, 30] [2, 3, 4, 5, 7] [] [(30, .bool (decide (0 ≤ x2)))] .nil ?_
   obtain ⟨v, hv, hF⟩ := ob_elim hF
   refine Nmeet (⟨[(2, .ptr 2 0), (3, .ptr 3 0), (4, .ptr 4 0), (5, .ptr 5 0), (7, .ptr 7 0)], [(2, (c_Board b)), (3, (c_Order o)), (4, [.nils, .nils, .i 0, .i 0]), (5, [.i 0, .i 0]), (7, (c_Order v))], [], [], []⟩ : S) ?_ ?_
   ·have hF := hv
    refine Nif hF (fun hb hF => ?_) (fun hb hF => ?_)
    ·obtain ⟨h3, hF⟩ := asrt_elim hF
     obtain ⟨h4, hF⟩ := asrt_elim hF
     refine VD [.av (e_Slot (lget b.Slots x2)), .av (e_Slot (lget b.Slots x2))] [2, 3, 4, 5, 7] [2, 3, 4, 5, 7] [] [] [] [(7, [.i 0, .i 0, .i ((lget b.Slots x2).Host), .i ((lget b.Slots x2).Turn), .str []])] [] [] (hc (idx_ok e_Slot h3) (hc (idx_ok e_Slot h4) .nil)) ?_
     cases hF
     exact met [] (by kernel_rfl)
    ·cases hF
     exact met [] (by kernel_rfl)
   ·refine NRL (([(⟨5, o.ID, 0, 0, ([] : List UInt8)⟩ : Order), (⟨6, o.ID, v.Host, v.Turn, ([] : List UInt8)⟩ : Order), (⟨3, o.ID, o.Host, 0, ([] : List UInt8)⟩ : Order), (⟨4, o.ID, o.Host, w64 (b.Turn + 1), ([] : List UInt8)⟩ : Order)], ([(⟨5, o.ID, 0, 0, ([] : List UInt8)⟩ : Order), (⟨6, o.ID, v.Host, v.Turn, ([] : List UInt8)⟩ : Order), (⟨3, o.ID, o.Host, 0, ([] : List UInt8)⟩ : Order), (⟨4, o.ID, o.Host, w64 (b.Turn + 1), ([] : List UInt8)⟩ : Order)].length : Int))) (fun v1 : List Order × Int => ([(68, .sl 5 (v1.1.map e_Order)), (69, .i v1.2), (70, .i 0)], [], [], [])) [.sealed, .nat ([(⟨5, o.ID, 0, 0, ([] : List UInt8)⟩ : Order), (⟨6, o.ID, v.Host, v.Turn, ([] : List UInt8)⟩ : Order), (⟨3, o.ID, o.Host, 0, ([] : List UInt8)⟩ : Order), (⟨4, o.ID, o.Host, w64 (b.Turn + 1), ([] : List UInt8)⟩ : Order)].length : Int)] [2, 4, 5, 68, 69, 70] [2, 4, 5] [] [] (hc (len_ok e_Order [(⟨5, o.ID, 0, 0, ([] : List UInt8)⟩ : Order), (⟨6, o.ID, v.Host, v.Turn, ([] : List UInt8)⟩ : Order), (⟨3, o.ID, o.Host, 0, ([] : List UInt8)⟩ : Order), (⟨4, o.ID, o.Host, w64 (b.Turn + 1), ([] : List UInt8)⟩ : Order)]) .nil) (fun v1 hv => ?_)
    have hF := lt_elim hF hv
    refine NmeetP (fun v2 : Board => (⟨[(2, .ptr 2 0), (4, .ptr 4 0), (5, .ptr 5 0)], [(2, (c_Board v2)), (4, [.nils, .nils, .i 0, .i 0]), (5, [.i 0, .i 0])], [], [], []⟩ : S)) (fun v2 => balance_Move_J1 v2 = some r) ?_ ?_
    ·refine Nblk ?_
     unfold balance_Move_L1 at hF
     refine Niter (fun v3 : List Host × List Slot × Int × Int × Int => (⟨[(2, .ptr 2 0), (4, .ptr 4 0), (5, .ptr 5 0), (68, .sl 5 (v1.1.map e_Order)), (69, .i v1.2), (70, .i v3.2.2.2.2)], [(2, [.sl 3 (v3.1.map e_Host), .sl 6 (v3.2.1.map e_Slot), .i v3.2.2.1, .i v3.2.2.2.1]), (4, [.nils, .nils, .i 0, .i 0]), (5, [.i 0, .i 0])], [], [], []⟩ : S)) [] hF (by kernel_rfl) ?_
     intro n1 v3 y1 hF ih1 dn1
     unfold balance_Move_B1 at hF
     refine NR [] [2, 4, 5, 68, 69, 70, 71] [2, 4, 5] [] [(71, .bool (decide (v3.2.2.2.2 < v1.2)))] .nil ?_
     refine Nif hF (fun hb hF => ?_) (fun hb hF => ?_)
     ·refine Nblk ?_
      obtain ⟨h5, hF⟩ := asrt_elim hF
      refine VR [.av (e_Order (lget v1.1 v3.2.2.2.2))] [2, 4, 5, 10, 68, 69, 70] [2, 4, 5, 10] [] [] [(10, .ptr 10 0)] [(10, (c_Order (lget v1.1 v3.2.2.2.2)))] [] [] (hc (idx_ok e_Order h5) .nil) ?_
      refine VR [] [2, 4, 5, 10, 11, 68, 69, 70] [2, 4, 5, 10, 11] [] [] [(11, .ptr 11 0)] [(11, [.i 0, .i 0])] [] [] .nil ?_
      obtain ⟨x3, h6, hF⟩ := ob_elim hF
      refine VR [.callE [] [] [] [] (.tup [.agg [.row 77 0, .row 20077 0, .i x3.2.2.1, .i x3.2.2.2.1], .agg (c_Fault x3.2.2.2.2)]) ⟨[], [], [(77, ⟨108, 3, 0, (x3.1.map e_Host).length, 0, false, 0, [], (x3.1.map e_Host)⟩), (20077, ⟨64, 6, 0, (x3.2.1.map e_Slot).length, 0, false, 0, [], (x3.2.1.map e_Slot)⟩)], [], []⟩] [2, 4, 5, 11, 68, 69, 70] [2, 4, 5, 11] [77, 20077] [] [] [(2, [.row 77 0, .row 20077 0, .i x3.2.2.1, .i x3.2.2.2.1]), (11, (c_Fault x3.2.2.2.2))] [(77, ⟨108, 3, 0, (x3.1.map e_Host).length, 0, false, 0, [], (x3.1.map e_Host)⟩), (20077, ⟨64, 6, 0, (x3.2.1.map e_Slot).length, 0, false, 0, [], (x3.2.1.map e_Slot)⟩)] [] (hc (Pe.ren (assign_Do_ok (⟨v3.1, v3.2.1, v3.2.2.1, v3.2.2.2.1⟩ : Board) (⟨(lget v1.1 v3.2.2.2.2).Kind, (lget v1.1 v3.2.2.2.2).ID, (lget v1.1 v3.2.2.2.2).Host, (lget v1.1 v3.2.2.2.2).Turn, (lget v1.1 v3.2.2.2.2).Row⟩ : Order) x3 h6) ⟨[], [(11, 77), (20011, 20077)], [], []⟩) .nil) ?_
      refine NR [] [2, 4, 5, 11, 68, 69, 70, 82] [2, 4, 5, 11] [77, 20077] [(82, .bool (!decide (x3.2.2.2.2.Code = 0)))] .nil ?_
      refine Nif hF (fun hb hF => ?_) (fun hb hF => ?_)
      ·refine VD [] [4, 5] [4, 5] [] [] [] [(5, (c_Fault x3.2.2.2.2))] [] [] .nil ?_
       have hF := ret_done hF dn1
       cases hF
       exact Wk_ret (hfin _ ⟨[], [], [], [], [], [], by kernel_rfl⟩)
      ·refine NR [] [2, 4, 5, 68, 69, 70] [2, 4, 5] [77, 20077] [(70, .i (w64 (v3.2.2.2.2 + 1)))] .nil ?_
       refine Wk_sealBX [] 2 rfl rfl ?_
       exact Nrnd [] hF ih1 (by kernel_rfl)
     ·refine Nexit rfl ?_
      have hF := inrO_done hF dn1
      exact metP (⟨v3.1, v3.2.1, v3.2.2.1, v3.2.2.2.1⟩ : Board) [] hF (by kernel_rfl)
    ·intro v2 hF
     have hF : balance_Move_J1 v2 = some r := hF
     unfold balance_Move_J1 at hF
     refine VR [] [4, 5] [4, 5] [] [] [] [(4, (c_Board v2))] [] [] .nil ?_
     cases hF
     exact Wk_ret (hfin _ ⟨[], [], [], [], [], [], by kernel_rfl⟩)

/- tabularyref.F -/
noncomputable def R_F (code : Int) (at0 : Int) : Fault :=
 (⟨code, at0⟩ : Fault)
theorem R_F_ok (code : Int) (at0 : Int) (r : Fault) (hF : R_F code at0 = r) : Pe Try.prog 22 S.none [.i code, .i at0] (.agg (c_Fault r)) S.none := by
 refine PeN 8 [.cell 4 26] [26] Ty.ok Fn.b22 Try.func22 ?_
 intro Q g hfin
 unfold R_F at hF
 refine VR [] [0, 1, 4] [4] [] [] [(4, .ptr 4 0)] [(4, [.i 0, .i 0])] [] [] .nil ?_
 refine VR [] [4] [4] [] [] [] [(4, [.i code, .i at0])] [] [] .nil ?_
 cases hF
 exact Wk_ret (hfin _ ⟨[], [], [], [], [], [], by kernel_rfl⟩)

/- tabularyref.Num -/
noncomputable def R_Num (num : Int) : Bool :=
 (decide (0 ≤ num)) && (decide (num ≤ 1000000000))
theorem R_Num_ok (num : Int) (r : Bool) (hF : R_Num num = r) : Pe Try.prog 24 S.none [.i num] (.bool r) S.none := by
 refine PeN 9 [.tmp 2] [4] Ty.ok Fn.b24 Try.func24 ?_
 intro Q g hfin
 unfold R_Num at hF
 refine NR [] [0] [] [] [] .nil ?_
 refine NR [] [2] [] [] [(2, .bool ((decide (0 ≤ num)) && (decide (num ≤ 1000000000))))] .nil ?_
 cases hF
 exact Wk_ret (hfin _ ⟨[], [], [], [], [], [], by kernel_rfl⟩)

/- tabularyref.One -/
noncomputable def R_One (num : Int) : Bool :=
 lt (R_Num num) fun x =>
 (decide (0 < num)) && x
theorem R_One_ok (num : Int) (r : Bool) (hF : R_One num = r) : Pe Try.prog 83 S.none [.i num] (.bool r) S.none := by
 refine PeN 9 [.tmp 2] [4] Ty.ok Fn.b83 Try.func83 ?_
 intro Q g hfin
 unfold R_One at hF
 refine NR [] [0] [] [] [] .nil ?_
 obtain ⟨x, h0, hF⟩ := lt_split hF
 refine NR [.callB (.bool x)] [2] [] [] [(2, .bool ((decide (0 < num)) && x))] (hc (fun (ga0 : (decide (0 < num)) = true) => (R_Num_ok num x h0)) .nil) ?_
 cases hF
 exact Wk_ret (hfin _ ⟨[], [], [], [], [], [], by kernel_rfl⟩)

/- tabularyref.PartsOf -/
noncomputable def R_PartsOf_J1 (v : List Part) : Option (List Part) :=
 some v
noncomputable def R_PartsOf_B1 (b : Board) (v1 : List Part × Int) : Option ((List Part × Int) ⊕ (List Part)) :=
 if (decide (v1.2 < (b.Slots.length : Int))) = true then
  asrt (0 ≤ v1.2 ∧ v1.2 < (b.Slots.length : Int)) <|
  asrt (((v1.1 ++ [(⟨((lget b.Slots v1.2).Part).From, ((lget b.Slots v1.2).Part).To, ((lget b.Slots v1.2).Part).ID⟩ : Part)]).length : Int) * 40 ≤ 140737488351232) <|
  lt ((v1.1 ++ [(⟨((lget b.Slots v1.2).Part).From, ((lget b.Slots v1.2).Part).To, ((lget b.Slots v1.2).Part).ID⟩ : Part)])) fun (v2 : List Part) =>
  some (Sum.inl (v2, w64 (v1.2 + 1)))
 else
  inrO (R_PartsOf_J1 v1.1)
noncomputable def R_PartsOf_L1 (b : Board) (v0 : List Part × Int) : Option (List Part) :=
 loopO (fun y => R_PartsOf_B1 b y) v0
noncomputable def R_PartsOf (b : Board) : Option (List Part) :=
 R_PartsOf_L1 b (([] : List Part), 0)
theorem R_PartsOf_ok (b : Board) (r : List Part) (hF : R_PartsOf b = some r) : Pe Try.prog 84 S.none [.agg (c_Board b)] (.row 20 0) ⟨[], [], [(20, .z 34 3 0 (r.map e_Part))], [], []⟩ := by
 refine PeN 22 [.tmp 2] [22] Ty.ok Fn.b84 Try.func84 ?_
 intro Q g hfin
 unfold R_PartsOf at hF
 refine VR [] [1] [1] [] [] [(1, .ptr 1 0)] [(1, (c_Board b))] [] [] .nil ?_
 refine NR [] [1, 3] [1] [] [(3, .nils)] .nil ?_
 refine NR [] [1, 3, 4] [1] [] [(4, .i 0)] .nil ?_
 refine NmeetP (fun v : List Part => (⟨[(3, .row 20 0)], [], [(20, .z 34 3 0 (v.map e_Part))], [], []⟩ : S)) (fun v => R_PartsOf_J1 v = some r) ?_ ?_
 ·refine Nblk ?_
  unfold R_PartsOf_L1 at hF
  refine Wk_nilrow 3 60000 34 3 rfl rfl rfl ?_
  refine Wk_trim (fs := [1, 3, 4]) (bs := [1]) (rs := [60000]) (ms := []) (aa := []) (nv := []) rfl ?_
  refine Wk_ren' ⟨[], [(60000, 20)], [], []⟩ rfl ?_
  refine Niter (fun v1 : List Part × Int => (⟨[(1, .ptr 1 0), (3, .row 20 0), (4, .i v1.2)], [(1, (c_Board b))], [(20, .z 34 3 0 (v1.1.map e_Part))], [], []⟩ : S)) [] hF (by kernel_rfl) ?_
  intro n1 v1 y1 hF ih1 dn1
  unfold R_PartsOf_B1 at hF
  refine NR [.nat (b.Slots.length : Int)] [1, 3, 4, 9] [1] [20] [(9, .bool (decide (v1.2 < (b.Slots.length : Int))))] (hc (len_ok e_Slot b.Slots) .nil) ?_
  refine Nif hF (fun hb hF => ?_) (fun hb hF => ?_)
  ·refine Nblk ?_
   obtain ⟨h0, h1, hF⟩ := asrt2 hF
   refine NRL ((v1.1 ++ [(⟨((lget b.Slots v1.2).Part).From, ((lget b.Slots v1.2).Part).To, ((lget b.Slots v1.2).Part).ID⟩ : Part)])) (fun v2 : List Part => ([(3, .row 20 1)], [], [(20, .z 34 3 1 (v2.map e_Part))], [])) [.av (e_Slot (lget b.Slots v1.2)), .sealed, .xs ((v1.1 ++ [(⟨((lget b.Slots v1.2).Part).From, ((lget b.Slots v1.2).Part).To, ((lget b.Slots v1.2).Part).ID⟩ : Part)]).map e_Part)] [1, 3, 4] [1] [20] [] (hc (idx_ok e_Slot h0) (hc (app_ok e_Part v1.1 [(⟨((lget b.Slots v1.2).Part).From, ((lget b.Slots v1.2).Part).To, ((lget b.Slots v1.2).Part).ID⟩ : Part)]) (hc (appl_ok e_Part h1) .nil))) (fun v2 hv => ?_)
   have hF := lt_elim hF hv
   refine NR [] [1, 3, 4] [1] [20] [(4, .i (w64 (v1.2 + 1)))] .nil ?_
   exact Nrnd [(20, ⟨0, true, true, false⟩)] hF ih1 (by kernel_rfl)
  ·refine Nexit rfl ?_
   have hF := inrO_done hF dn1
   exact metP v1.1 [] hF (by kernel_rfl)
 ·intro v hF
  have hF : R_PartsOf_J1 v = some r := hF
  unfold R_PartsOf_J1 at hF
  refine NR [] [2] [] [20] [(2, .row 20 0)] .nil ?_
  cases hF
  exact Wk_ret (hfin _ ⟨[20], [], [20], [], [], [], by kernel_rfl⟩)

/- tabularyref.PartsFault -/
noncomputable def R_PartsFault_J1 (v : Unit) : Option Fault :=
 some (⟨0, 0⟩ : Fault)
noncomputable def R_PartsFault_J2 (v1 : Int) (v2 : Unit) : Option (Int ⊕ Fault) :=
 some (Sum.inl (w64 (v1 + 1)))
noncomputable def R_PartsFault_B2 (l : List Part) (v1 : Int) (v3 : Int) : Option (Int ⊕ (Int ⊕ Fault)) :=
 if (decide (v3 < v1)) = true then
  asrt (0 ≤ v3 ∧ v3 < (l.length : Int)) <|
  if (decide (((lget l v3).ID) = ((lget l v1).ID))) = true then
   lt (R_F 10 v1) fun x7 =>
   some (Sum.inr (Sum.inr x7))
  else
   some (Sum.inl (w64 (v3 + 1)))
 else
  inrO (R_PartsFault_J2 v1 ())
noncomputable def R_PartsFault_L2 (l : List Part) (v1 : Int) (v0 : Int) : Option (Int ⊕ Fault) :=
 loopO (fun y => R_PartsFault_B2 l v1 y) v0
noncomputable def R_PartsFault_B1 (l : List Part) (v1 : Int) : Option (Int ⊕ Fault) :=
 if (decide (v1 < (l.length : Int))) = true then
  asrt (0 ≤ v1 ∧ v1 < (l.length : Int)) <|
  if ((decide (40 < (((lget l v1).From).length : Int))) || (decide (40 < (((lget l v1).To).length : Int)))) = true then
   lt (R_F 8 v1) fun x2 =>
   some (Sum.inr x2)
  else
   lt (R_Num ((lget l v1).ID)) fun x3 =>
   if (!x3) = true then
    lt (R_F 3 v1) fun x4 =>
    some (Sum.inr x4)
   else
    asrt ((decide (0 < v1)) = true → (!((decide (v1 = 0)) && (!decide (((lget l v1).From) = ([] : List UInt8))))) = true → 0 ≤ w64 (v1 - 1) ∧ w64 (v1 - 1) < (l.length : Int)) <|
    if (((decide (v1 = 0)) && (!decide (((lget l v1).From) = ([] : List UInt8)))) || ((decide (0 < v1)) && (!decide (((lget l v1).From) = ((lget l (w64 (v1 - 1))).To))))) = true then
     lt (R_F 5 v1) fun x5 =>
     some (Sum.inr x5)
    else
     if (((decide (v1 = (w64 ((l.length : Int) - 1)))) && (!decide (((lget l v1).To) = ([] : List UInt8)))) || ((decide (v1 < (w64 ((l.length : Int) - 1)))) && (!Op.bytesLess ((lget l v1).From) ((lget l v1).To)))) = true then
      lt (R_F 5 v1) fun x6 =>
      some (Sum.inr x6)
     else
      R_PartsFault_L2 l v1 0
 else
  inrO (R_PartsFault_J1 ())
noncomputable def R_PartsFault_L1 (l : List Part) (v0 : Int) : Option Fault :=
 loopO (fun y => R_PartsFault_B1 l y) v0
noncomputable def R_PartsFault (l : List Part) : Option Fault :=
 if (decide ((l.length : Int) = 0)) = true then
  lt (R_F 6 (-1)) fun x =>
  some x
 else
  if (decide (200 < (l.length : Int))) = true then
   lt (R_F 2 (-1)) fun x1 =>
   some x1
  else
   R_PartsFault_L1 l 0
theorem R_PartsFault_ok (l : List Part) (r : Fault) (hF : R_PartsFault l = some r) : Pe Try.prog 20 S.none [.sl 3 (l.map e_Part)] (.agg (c_Fault r)) S.none := by
 refine PeN 108 [.cell 2 26] [26] Ty.ok Fn.b20 Try.func20 ?_
 intro Q g hfin
 unfold R_PartsFault at hF
 refine VR [] [0, 2] [2] [] [] [(2, .ptr 2 0)] [(2, [.i 0, .i 0])] [] [] .nil ?_
 refine NR [.nat (l.length : Int)] [0, 2, 8] [2] [] [(8, .bool (decide ((l.length : Int) = 0)))] (hc (len_ok e_Part l) .nil) ?_
 refine Nif hF (fun hb hF => ?_) (fun hb hF => ?_)
 ·obtain ⟨x, h0, hF⟩ := lt_split hF
  refine VR [.callB (.agg (c_Fault x))] [2] [2] [] [] [] [(2, (c_Fault x))] [] [] (hc (R_F_ok 6 (-1) x h0) .nil) ?_
  cases hF
  exact Wk_ret (hfin _ ⟨[], [], [], [], [], [], by kernel_rfl⟩)
 ·refine NR [.nat (l.length : Int)] [0, 2, 12] [2] [] [(12, .bool (decide (200 < (l.length : Int))))] (hc (len_ok e_Part l) .nil) ?_
  refine Nif hF (fun hb hF => ?_) (fun hb hF => ?_)
  ·obtain ⟨x1, h1, hF⟩ := lt_split hF
   refine VR [.callB (.agg (c_Fault x1))] [2] [2] [] [] [] [(2, (c_Fault x1))] [] [] (hc (R_F_ok 2 (-1) x1 h1) .nil) ?_
   cases hF
   exact Wk_ret (hfin _ ⟨[], [], [], [], [], [], by kernel_rfl⟩)
  ·refine NR [] [0, 2, 3] [2] [] [(3, .i 0)] .nil ?_
   refine NmeetP (fun v : Unit => (⟨[(2, .ptr 2 0)], [(2, [.i 0, .i 0])], [], [], []⟩ : S)) (fun v => R_PartsFault_J1 v = some r) ?_ ?_
   ·refine Nblk ?_
    unfold R_PartsFault_L1 at hF
    refine Niter (fun v1 : Int => (⟨[(0, .sl 3 (l.map e_Part)), (2, .ptr 2 0), (3, .i v1)], [(2, [.i 0, .i 0])], [], [], []⟩ : S)) [] hF (by kernel_rfl) ?_
    intro n1 v1 y1 hF ih1 dn1
    unfold R_PartsFault_B1 at hF
    refine NR [.nat (l.length : Int)] [0, 2, 3, 17] [2] [] [(17, .bool (decide (v1 < (l.length : Int))))] (hc (len_ok e_Part l) .nil) ?_
    refine Nif hF (fun hb hF => ?_) (fun hb hF => ?_)
    ·refine Nblk ?_
     obtain ⟨h2, hF⟩ := asrt_elim hF
     refine VR [.av (e_Part (lget l v1))] [0, 2, 3, 4] [2, 4] [] [] [(4, .ptr 4 0)] [(4, (c_Part (lget l v1)))] [] [] (hc (idx_ok e_Part h2) .nil) ?_
     refine NR [] [0, 2, 3, 4, 33] [2, 4] [] [(33, .bool ((decide (40 < (((lget l v1).From).length : Int))) || (decide (40 < (((lget l v1).To).length : Int)))))] .nil ?_
     refine Nif hF (fun hb hF => ?_) (fun hb hF => ?_)
     ·obtain ⟨x2, h3, hF⟩ := lt_split hF
      refine VR [.callB (.agg (c_Fault x2))] [2] [2] [] [] [] [(2, (c_Fault x2))] [] [] (hc (R_F_ok 8 v1 x2 h3) .nil) ?_
      have hF := ret_done hF dn1
      cases hF
      exact Wk_ret (hfin _ ⟨[], [], [], [], [], [], by kernel_rfl⟩)
     ·obtain ⟨x3, h4, hF⟩ := lt_split hF
      refine NR [.callB (.bool x3)] [0, 2, 3, 4, 39] [2, 4] [] [(39, .bool (!x3))] (hc (R_Num_ok ((lget l v1).ID) x3 h4) .nil) ?_
      refine Nif hF (fun hb hF => ?_) (fun hb hF => ?_)
      ·obtain ⟨x4, h5, hF⟩ := lt_split hF
       refine VR [.callB (.agg (c_Fault x4))] [2] [2] [] [] [] [(2, (c_Fault x4))] [] [] (hc (R_F_ok 3 v1 x4 h5) .nil) ?_
       have hF := ret_done hF dn1
       cases hF
       exact Wk_ret (hfin _ ⟨[], [], [], [], [], [], by kernel_rfl⟩)
      ·obtain ⟨h6, hF⟩ := asrt_elim hF
       refine ND [.av (e_Part (lget l (w64 (v1 - 1))))] [0, 2, 3, 4, 63] [2, 4] [] [(63, .bool (((decide (v1 = 0)) && (!decide (((lget l v1).From) = ([] : List UInt8)))) || ((decide (0 < v1)) && (!decide (((lget l v1).From) = ((lget l (w64 (v1 - 1))).To))))))] (hc (fun (ga0 : (decide (0 < v1)) = true) (ga1 : (!((decide (v1 = 0)) && (!decide (((lget l v1).From) = ([] : List UInt8))))) = true) => (idx_ok e_Part (h6 ga0 ga1))) .nil) ?_
       refine Nif hF (fun hb hF => ?_) (fun hb hF => ?_)
       ·obtain ⟨x5, h7, hF⟩ := lt_split hF
        refine VR [.callB (.agg (c_Fault x5))] [2] [2] [] [] [] [(2, (c_Fault x5))] [] [] (hc (R_F_ok 5 v1 x5 h7) .nil) ?_
        have hF := ret_done hF dn1
        cases hF
        exact Wk_ret (hfin _ ⟨[], [], [], [], [], [], by kernel_rfl⟩)
       ·refine NR [.nat (l.length : Int), .nat (l.length : Int)] [0, 2, 3, 4, 89] [2, 4] [] [(89, .bool (((decide (v1 = (w64 ((l.length : Int) - 1)))) && (!decide (((lget l v1).To) = ([] : List UInt8)))) || ((decide (v1 < (w64 ((l.length : Int) - 1)))) && (!Op.bytesLess ((lget l v1).From) ((lget l v1).To)))))] (hc (len_ok e_Part l) (hc (fun (_ : (!((decide (v1 = (w64 ((l.length : Int) - 1)))) && (!decide (((lget l v1).To) = ([] : List UInt8))))) = true) => (len_ok e_Part l)) .nil)) ?_
        refine Nif hF (fun hb hF => ?_) (fun hb hF => ?_)
        ·obtain ⟨x6, h8, hF⟩ := lt_split hF
         refine VR [.callB (.agg (c_Fault x6))] [2] [2] [] [] [] [(2, (c_Fault x6))] [] [] (hc (R_F_ok 5 v1 x6 h8) .nil) ?_
         have hF := ret_done hF dn1
         cases hF
         exact Wk_ret (hfin _ ⟨[], [], [], [], [], [], by kernel_rfl⟩)
        ·refine NR [] [0, 2, 3, 4, 5] [2, 4] [] [(5, .i 0)] .nil ?_
         refine NmeetP (fun v2 : Unit => (⟨[(0, .sl 3 (l.map e_Part)), (2, .ptr 2 0), (3, .i v1)], [(2, [.i 0, .i 0])], [], [], []⟩ : S)) (fun v2 => R_PartsFault_J2 v1 v2 = some y1) ?_ ?_
         ·refine Nblk ?_
          unfold R_PartsFault_L2 at hF
          refine Niter (fun v3 : Int => (⟨[(0, .sl 3 (l.map e_Part)), (2, .ptr 2 0), (3, .i v1), (4, .ptr 4 0), (5, .i v3)], [(2, [.i 0, .i 0]), (4, (c_Part (lget l v1)))], [], [], []⟩ : S)) [] hF (by kernel_rfl) ?_
          intro n2 v3 y2 hF ih2 dn2
          unfold R_PartsFault_B2 at hF
          refine NR [] [0, 2, 3, 4, 5, 94] [2, 4] [] [(94, .bool (decide (v3 < v1)))] .nil ?_
          refine Nif hF (fun hb hF => ?_) (fun hb hF => ?_)
          ·refine Nblk ?_
           obtain ⟨h9, hF⟩ := asrt_elim hF
           refine ND [.av (e_Part (lget l v3))] [0, 2, 3, 4, 5, 104] [2, 4] [] [(104, .bool (decide (((lget l v3).ID) = ((lget l v1).ID))))] (hc (idx_ok e_Part h9) .nil) ?_
           refine Nif hF (fun hb hF => ?_) (fun hb hF => ?_)
           ·obtain ⟨x7, h10, hF⟩ := lt_split hF
            refine VR [.callB (.agg (c_Fault x7))] [2] [2] [] [] [] [(2, (c_Fault x7))] [] [] (hc (R_F_ok 10 v1 x7 h10) .nil) ?_
            have hF := ret_done hF dn2
            have hF := ret_done hF dn1
            cases hF
            exact Wk_ret (hfin _ ⟨[], [], [], [], [], [], by kernel_rfl⟩)
           ·refine NR [] [0, 2, 3, 4, 5] [2, 4] [] [(5, .i (w64 (v3 + 1)))] .nil ?_
            exact Nrnd [] hF ih2 (by kernel_rfl)
          ·refine Nexit rfl ?_
           have hF := inrO_done hF dn2
           exact metP () [] hF (by kernel_rfl)
         ·intro v2 hF
          have hF : R_PartsFault_J2 v1 v2 = some y1 := hF
          unfold R_PartsFault_J2 at hF
          refine NR [] [0, 2, 3] [2] [] [(3, .i (w64 (v1 + 1)))] .nil ?_
          exact Nrnd [] hF ih1 (by kernel_rfl)
    ·refine Nexit rfl ?_
     have hF := inrO_done hF dn1
     exact metP () [] hF (by kernel_rfl)
   ·intro v hF
    have hF : R_PartsFault_J1 v = some r := hF
    unfold R_PartsFault_J1 at hF
    refine NR [] [2] [2] [] [] .nil ?_
    cases hF
    exact Wk_ret (hfin _ ⟨[], [], [], [], [], [], by kernel_rfl⟩)

/- tabularyref.HostIn -/
noncomputable def R_HostIn_J1 (v : Unit) : Option Int :=
 some (-1)
noncomputable def R_HostIn_B1 (b : Board) (id : Int) (alive : Bool) (v1 : Int) : Option (Int ⊕ Int) :=
 if (decide (v1 < (b.Hosts.length : Int))) = true then
  asrt (0 ≤ v1 ∧ v1 < (b.Hosts.length : Int)) <|
  asrt ((decide (((lget b.Hosts v1).ID) = id)) = true → 0 ≤ v1 ∧ v1 < (b.Hosts.length : Int)) <|
  if ((decide (((lget b.Hosts v1).ID) = id)) && (((lget b.Hosts v1).Alive) || (!alive))) = true then
   some (Sum.inr v1)
  else
   some (Sum.inl (w64 (v1 + 1)))
 else
  inrO (R_HostIn_J1 ())
noncomputable def R_HostIn_L1 (b : Board) (id : Int) (alive : Bool) (v0 : Int) : Option Int :=
 loopO (fun y => R_HostIn_B1 b id alive y) v0
noncomputable def R_HostIn (b : Board) (id : Int) (alive : Bool) : Option Int :=
 R_HostIn_L1 b id alive 0
theorem R_HostIn_ok (b : Board) (id : Int) (alive : Bool) (r : Int) (hF : R_HostIn b id alive = some r) : Pe Try.prog 59 S.none [.agg (c_Board b), .i id, .bool alive] (.i r) S.none := by
 refine PeN 36 [.tmp 6] [3] Ty.ok Fn.b59 Try.func59 ?_
 intro Q g hfin
 unfold R_HostIn at hF
 refine VR [] [1, 2, 3] [3] [] [] [(3, .ptr 3 0)] [(3, (c_Board b))] [] [] .nil ?_
 refine NR [] [1, 2, 3, 7] [3] [] [(7, .i 0)] .nil ?_
 refine NmeetP (fun v : Unit => (S.none : S)) (fun v => R_HostIn_J1 v = some r) ?_ ?_
 ·refine Nblk ?_
  unfold R_HostIn_L1 at hF
  refine Niter (fun v1 : Int => (⟨[(1, .i id), (2, .bool alive), (3, .ptr 3 0), (7, .i v1)], [(3, (c_Board b))], [], [], []⟩ : S)) [] hF (by kernel_rfl) ?_
  intro n1 v1 y1 hF ih1 dn1
  unfold R_HostIn_B1 at hF
  refine NR [.nat (b.Hosts.length : Int)] [1, 2, 3, 7, 12] [3] [] [(12, .bool (decide (v1 < (b.Hosts.length : Int))))] (hc (len_ok e_Host b.Hosts) .nil) ?_
  refine Nif hF (fun hb hF => ?_) (fun hb hF => ?_)
  ·refine Nblk ?_
   obtain ⟨h0, h1, hF⟩ := asrt2 hF
   refine NR [.av (e_Host (lget b.Hosts v1)), .av (e_Host (lget b.Hosts v1))] [1, 2, 3, 7, 34] [3] [] [(34, .bool ((decide (((lget b.Hosts v1).ID) = id)) && (((lget b.Hosts v1).Alive) || (!alive))))] (hc (idx_ok e_Host h0) (hc (fun (ga0 : (decide (((lget b.Hosts v1).ID) = id)) = true) => (idx_ok e_Host (h1 ga0))) .nil)) ?_
   refine Nif hF (fun hb hF => ?_) (fun hb hF => ?_)
   ·refine NR [] [6] [] [] [(6, .i v1)] .nil ?_
    have hF := ret_done hF dn1
    cases hF
    exact Wk_ret (hfin _ ⟨[], [], [], [], [], [], by kernel_rfl⟩)
   ·refine NR [] [1, 2, 3, 7] [3] [] [(7, .i (w64 (v1 + 1)))] .nil ?_
    exact Nrnd [] hF ih1 (by kernel_rfl)
  ·refine Nexit rfl ?_
   have hF := inrO_done hF dn1
   exact metP () [] hF (by kernel_rfl)
 ·intro v hF
  have hF : R_HostIn_J1 v = some r := hF
  unfold R_HostIn_J1 at hF
  refine NR [] [6] [] [] [(6, .i (-1))] .nil ?_
  cases hF
  exact Wk_ret (hfin _ ⟨[], [], [], [], [], [], by kernel_rfl⟩)

/- tabularyref.SlotCode -/
noncomputable def R_SlotCode_J2 (v1 : Unit) : Option Int :=
 some 0
noncomputable def R_SlotCode_B1 (b : Board) (i : Int) (v2 : Int) : Option (Int ⊕ Int) :=
 if (decide (v2 < i)) = true then
  asrt ((decide (0 < ((lget b.Slots i).Turn))) = true → 0 ≤ v2 ∧ v2 < (b.Slots.length : Int)) <|
  if ((decide (0 < ((lget b.Slots i).Turn))) && (decide (((lget b.Slots v2).Turn) = ((lget b.Slots i).Turn)))) = true then
   some (Sum.inr 10)
  else
   some (Sum.inl (w64 (v2 + 1)))
 else
  inrO (R_SlotCode_J2 ())
noncomputable def R_SlotCode_L1 (b : Board) (i : Int) (v0 : Int) : Option Int :=
 loopO (fun y => R_SlotCode_B1 b i y) v0
noncomputable def R_SlotCode_J1 (b : Board) (i : Int) (v : Unit) : Option Int :=
 R_SlotCode_L1 b i 0
noncomputable def R_SlotCode (b : Board) (i : Int) : Option Int :=
 asrt (0 ≤ i ∧ i < (b.Slots.length : Int)) <|
 if ((((((decide (((lget b.Slots i).State) < 0)) || (decide (3 < ((lget b.Slots i).State)))) || (decide (((lget b.Slots i).Turn) < 0))) || (decide (b.Turn < ((lget b.Slots i).Turn)))) || (decide ((((lget b.Slots i).Part).ID) < 1))) || (decide (b.Next ≤ (((lget b.Slots i).Part).ID)))) = true then
  some 3
 else
  if (decide (((lget b.Slots i).State) = 0)) = true then
   if (!decide (((lget b.Slots i).Host) = 0)) = true then
    some 11
   else
    R_SlotCode_J1 b i ()
  else
   ob (R_HostIn b ((lget b.Slots i).Host) true) fun x =>
   if (decide (x < 0)) = true then
    some 6
   else
    if (decide (((lget b.Slots i).Turn) = 0)) = true then
     some 3
    else
     R_SlotCode_J1 b i ()
theorem R_SlotCode_ok (b : Board) (i : Int) (r : Int) (hF : R_SlotCode b i = some r) : Pe Try.prog 85 S.none [.agg (c_Board b), .i i] (.i r) S.none := by
 refine PeN 79 [.tmp 4] [3] Ty.ok Fn.b85 Try.func85 ?_
 intro Q g hfin
 unfold R_SlotCode at hF
 refine VR [] [1, 2] [2] [] [] [(2, .ptr 2 0)] [(2, (c_Board b))] [] [] .nil ?_
 obtain ⟨h0, hF⟩ := asrt_elim hF
 refine VR [.av (e_Slot (lget b.Slots i))] [1, 2, 5] [2, 5] [] [] [(5, .ptr 5 0)] [(5, [.str (((lget b.Slots i).Part).From), .str (((lget b.Slots i).Part).To), .i (((lget b.Slots i).Part).ID), .i ((lget b.Slots i).State), .i ((lget b.Slots i).Host), .i ((lget b.Slots i).Turn)])] [] [] (hc (idx_ok e_Slot h0) .nil) ?_
 refine NR [] [1, 2, 5, 45] [2, 5] [] [(45, .bool ((((((decide (((lget b.Slots i).State) < 0)) || (decide (3 < ((lget b.Slots i).State)))) || (decide (((lget b.Slots i).Turn) < 0))) || (decide (b.Turn < ((lget b.Slots i).Turn)))) || (decide ((((lget b.Slots i).Part).ID) < 1))) || (decide (b.Next ≤ (((lget b.Slots i).Part).ID)))))] .nil ?_
 refine Nif hF (fun hb hF => ?_) (fun hb hF => ?_)
 ·refine NR [] [4] [] [] [(4, .i 3)] .nil ?_
  cases hF
  exact Wk_ret (hfin _ ⟨[], [], [], [], [], [], by kernel_rfl⟩)
 ·refine NR [] [1, 2, 5, 48] [2, 5] [] [(48, .bool (decide (((lget b.Slots i).State) = 0)))] .nil ?_
  refine NmeetP (fun v : Unit => (⟨[(1, .i i), (2, .ptr 2 0), (5, .ptr 5 0)], [(2, (c_Board b)), (5, [.str (((lget b.Slots i).Part).From), .str (((lget b.Slots i).Part).To), .i (((lget b.Slots i).Part).ID), .i ((lget b.Slots i).State), .i ((lget b.Slots i).Host), .i ((lget b.Slots i).Turn)])], [], [], []⟩ : S)) (fun v => R_SlotCode_J1 b i v = some r) ?_ ?_
  ·refine Nif hF (fun hb hF => ?_) (fun hb hF => ?_)
   ·refine NR [] [1, 2, 5, 51] [2, 5] [] [(51, .bool (!decide (((lget b.Slots i).Host) = 0)))] .nil ?_
    refine Nif hF (fun hb hF => ?_) (fun hb hF => ?_)
    ·refine NR [] [4] [] [] [(4, .i 11)] .nil ?_
     cases hF
     exact Wk_ret (hfin _ ⟨[], [], [], [], [], [], by kernel_rfl⟩)
    ·exact metP () [] hF (by kernel_rfl)
   ·obtain ⟨x, h2, hF⟩ := ob_elim hF
    refine NR [.callB (.i x)] [1, 2, 5, 56] [2, 5] [] [(56, .bool (decide (x < 0)))] (hc (R_HostIn_ok b ((lget b.Slots i).Host) true x h2) .nil) ?_
    refine Nif hF (fun hb hF => ?_) (fun hb hF => ?_)
    ·refine NR [] [4] [] [] [(4, .i 6)] .nil ?_
     cases hF
     exact Wk_ret (hfin _ ⟨[], [], [], [], [], [], by kernel_rfl⟩)
    ·refine NR [] [1, 2, 5, 59] [2, 5] [] [(59, .bool (decide (((lget b.Slots i).Turn) = 0)))] .nil ?_
     refine Nif hF (fun hb hF => ?_) (fun hb hF => ?_)
     ·refine NR [] [4] [] [] [(4, .i 3)] .nil ?_
      cases hF
      exact Wk_ret (hfin _ ⟨[], [], [], [], [], [], by kernel_rfl⟩)
     ·exact metP () [] hF (by kernel_rfl)
  ·intro v hF
   have hF : R_SlotCode_J1 b i v = some r := hF
   unfold R_SlotCode_J1 at hF
   refine NR [] [1, 2, 5, 6] [2, 5] [] [(6, .i 0)] .nil ?_
   refine NmeetP (fun v1 : Unit => (S.none : S)) (fun v1 => R_SlotCode_J2 v1 = some r) ?_ ?_
   ·refine Nblk ?_
    unfold R_SlotCode_L1 at hF
    refine Niter (fun v2 : Int => (⟨[(1, .i i), (2, .ptr 2 0), (5, .ptr 5 0), (6, .i v2)], [(2, (c_Board b)), (5, [.str (((lget b.Slots i).Part).From), .str (((lget b.Slots i).Part).To), .i (((lget b.Slots i).Part).ID), .i ((lget b.Slots i).State), .i ((lget b.Slots i).Host), .i ((lget b.Slots i).Turn)])], [], [], []⟩ : S)) [] hF (by kernel_rfl) ?_
    intro n1 v2 y1 hF ih1 dn1
    unfold R_SlotCode_B1 at hF
    refine NR [] [1, 2, 5, 6, 62] [2, 5] [] [(62, .bool (decide (v2 < i)))] .nil ?_
    refine Nif hF (fun hb hF => ?_) (fun hb hF => ?_)
    ·refine Nblk ?_
     obtain ⟨h1, hF⟩ := asrt_elim hF
     refine ND [.av (e_Slot (lget b.Slots v2))] [1, 2, 5, 6, 78] [2, 5] [] [(78, .bool ((decide (0 < ((lget b.Slots i).Turn))) && (decide (((lget b.Slots v2).Turn) = ((lget b.Slots i).Turn)))))] (hc (fun (ga0 : (decide (0 < ((lget b.Slots i).Turn))) = true) => (idx_ok e_Slot (h1 ga0))) .nil) ?_
     refine Nif hF (fun hb hF => ?_) (fun hb hF => ?_)
     ·refine NR [] [4] [] [] [(4, .i 10)] .nil ?_
      have hF := ret_done hF dn1
      cases hF
      exact Wk_ret (hfin _ ⟨[], [], [], [], [], [], by kernel_rfl⟩)
     ·refine NR [] [1, 2, 5, 6] [2, 5] [] [(6, .i (w64 (v2 + 1)))] .nil ?_
      exact Nrnd [] hF ih1 (by kernel_rfl)
    ·refine Nexit rfl ?_
     have hF := inrO_done hF dn1
     exact metP () [] hF (by kernel_rfl)
   ·intro v1 hF
    have hF : R_SlotCode_J2 v1 = some r := hF
    unfold R_SlotCode_J2 at hF
    refine NR [] [4] [] [] [(4, .i 0)] .nil ?_
    cases hF
    exact Wk_ret (hfin _ ⟨[], [], [], [], [], [], by kernel_rfl⟩)

/- tabularyref.BoardFault -/
noncomputable def R_BoardFault_J2 (v1 : Unit) : Option Fault :=
 some (⟨0, 0⟩ : Fault)
noncomputable def R_BoardFault_B1 (b : Board) (v2 : Int) : Option (Int ⊕ Fault) :=
 if (decide (v2 < (b.Slots.length : Int))) = true then
  ob (R_SlotCode b v2) fun x7 =>
  if (!decide (x7 = 0)) = true then
   ob (R_SlotCode b v2) fun x8 =>
   lt (R_F x8 (w64 ((-2000) - (w64 (v2 + 1))))) fun x9 =>
   some (Sum.inr x9)
  else
   some (Sum.inl (w64 (v2 + 1)))
 else
  inrO (R_BoardFault_J2 ())
noncomputable def R_BoardFault_L1 (b : Board) (v0 : Int) : Option Fault :=
 loopO (fun y => R_BoardFault_B1 b y) v0
noncomputable def R_BoardFault_J1 (b : Board) (v : Unit) : Option Fault :=
 lt (R_Num b.Turn) fun x1 =>
 lt (R_One b.Next) fun x2 =>
 if ((!x1) || (!x2)) = true then
  lt (R_F 3 (-2)) fun x3 =>
  some x3
 else
  ob (R_PartsOf b) fun x4 =>
  ob (R_PartsFault x4) fun x5 =>
  if (!decide (x5.Code = 0)) = true then
   lt (R_F x5.Code (w64 (x5.At - 1000))) fun x6 =>
   some x6
  else
   R_BoardFault_L1 b 0
noncomputable def R_BoardFault_J3 (v3 : Int) (v4 : Unit) : Option (Int ⊕ Fault) :=
 some (Sum.inl (w64 (v3 + 1)))
noncomputable def R_BoardFault_B3 (b : Board) (v3 : Int) (v5 : Int) : Option (Int ⊕ (Int ⊕ Fault)) :=
 if (decide (v5 < v3)) = true then
  asrt (0 ≤ v5 ∧ v5 < (b.Hosts.length : Int)) <|
  asrt (0 ≤ v3 ∧ v3 < (b.Hosts.length : Int)) <|
  if (decide (((lget b.Hosts v5).ID) = ((lget b.Hosts v3).ID))) = true then
   lt (R_F 10 v3) fun x13 =>
   some (Sum.inr (Sum.inr x13))
  else
   some (Sum.inl (w64 (v5 + 1)))
 else
  inrO (R_BoardFault_J3 v3 ())
noncomputable def R_BoardFault_L3 (b : Board) (v3 : Int) (v0 : Int) : Option (Int ⊕ Fault) :=
 loopO (fun y => R_BoardFault_B3 b v3 y) v0
noncomputable def R_BoardFault_B2 (b : Board) (v3 : Int) : Option (Int ⊕ Fault) :=
 if (decide (v3 < (b.Hosts.length : Int))) = true then
  asrt (0 ≤ v3 ∧ v3 < (b.Hosts.length : Int)) <|
  lt (R_One ((lget b.Hosts v3).ID)) fun x10 =>
  asrt ((!(!x10)) = true → 0 ≤ v3 ∧ v3 < (b.Hosts.length : Int)) <|
  lt (R_One ((lget b.Hosts v3).Epoch)) fun x11 =>
  if ((!x10) || (!x11)) = true then
   lt (R_F 3 v3) fun x12 =>
   some (Sum.inr x12)
  else
   R_BoardFault_L3 b v3 0
 else
  inrO (R_BoardFault_J1 b ())
noncomputable def R_BoardFault_L2 (b : Board) (v0 : Int) : Option Fault :=
 loopO (fun y => R_BoardFault_B2 b y) v0
noncomputable def R_BoardFault (b : Board) : Option Fault :=
 if (decide (20 < (b.Hosts.length : Int))) = true then
  lt (R_F 2 (-1)) fun x =>
  some x
 else
  R_BoardFault_L2 b 0
theorem R_BoardFault_ok (b : Board) (r : Fault) (hF : R_BoardFault b = some r) : Pe Try.prog 42 S.none [.agg (c_Board b)] (.agg (c_Fault r)) S.none := by
 refine PeN 101 [.cell 2 26] [26] Ty.ok Fn.b42 Try.func42 ?_
 intro Q g hfin
 unfold R_BoardFault at hF
 refine VR [] [1, 2] [1, 2] [] [] [(1, .ptr 1 0), (2, .ptr 2 0)] [(1, (c_Board b)), (2, [.i 0, .i 0])] [] [] .nil ?_
 refine NR [.nat (b.Hosts.length : Int)] [1, 2, 10] [1, 2] [] [(10, .bool (decide (20 < (b.Hosts.length : Int))))] (hc (len_ok e_Host b.Hosts) .nil) ?_
 refine Nif hF (fun hb hF => ?_) (fun hb hF => ?_)
 ·obtain ⟨x, h0, hF⟩ := lt_split hF
  refine VR [.callB (.agg (c_Fault x))] [2] [2] [] [] [] [(2, (c_Fault x))] [] [] (hc (R_F_ok 2 (-1) x h0) .nil) ?_
  cases hF
  exact Wk_ret (hfin _ ⟨[], [], [], [], [], [], by kernel_rfl⟩)
 ·refine NR [] [1, 2, 3] [1, 2] [] [(3, .i 0)] .nil ?_
  refine NmeetP (fun v : Unit => (⟨[(1, .ptr 1 0), (2, .ptr 2 0)], [(1, (c_Board b)), (2, [.i 0, .i 0])], [], [], []⟩ : S)) (fun v => R_BoardFault_J1 b v = some r) ?_ ?_
  ·refine Nblk ?_
   unfold R_BoardFault_L2 at hF
   refine Niter (fun v3 : Int => (⟨[(1, .ptr 1 0), (2, .ptr 2 0), (3, .i v3)], [(1, (c_Board b)), (2, [.i 0, .i 0])], [], [], []⟩ : S)) [] hF (by kernel_rfl) ?_
   intro n1 v3 y1 hF ih1 dn1
   unfold R_BoardFault_B2 at hF
   refine NR [.nat (b.Hosts.length : Int)] [1, 2, 3, 16] [1, 2] [] [(16, .bool (decide (v3 < (b.Hosts.length : Int))))] (hc (len_ok e_Host b.Hosts) .nil) ?_
   refine Nif hF (fun hb hF => ?_) (fun hb hF => ?_)
   ·refine Nblk ?_
    obtain ⟨h10, hF⟩ := asrt_elim hF
    obtain ⟨x10, h11, hF⟩ := lt_split hF
    obtain ⟨h12, hF⟩ := asrt_elim hF
    obtain ⟨x11, h13, hF⟩ := lt_split hF
    refine NR [.av (e_Host (lget b.Hosts v3)), .callB (.bool x10), .av (e_Host (lget b.Hosts v3)), .callB (.bool x11)] [1, 2, 3, 36] [1, 2] [] [(36, .bool ((!x10) || (!x11)))] (hc (idx_ok e_Host h10) (hc (R_One_ok ((lget b.Hosts v3).ID) x10 h11) (hc (fun (ga0 : (!(!x10)) = true) => (idx_ok e_Host (h12 ga0))) (hc (fun (ga0 : (!(!x10)) = true) => (R_One_ok ((lget b.Hosts v3).Epoch) x11 h13)) .nil)))) ?_
    refine Nif hF (fun hb hF => ?_) (fun hb hF => ?_)
    ·obtain ⟨x12, h14, hF⟩ := lt_split hF
     refine VR [.callB (.agg (c_Fault x12))] [2] [2] [] [] [] [(2, (c_Fault x12))] [] [] (hc (R_F_ok 3 v3 x12 h14) .nil) ?_
     have hF := ret_done hF dn1
     cases hF
     exact Wk_ret (hfin _ ⟨[], [], [], [], [], [], by kernel_rfl⟩)
    ·refine NR [] [1, 2, 3, 4] [1, 2] [] [(4, .i 0)] .nil ?_
     refine NmeetP (fun v4 : Unit => (⟨[(1, .ptr 1 0), (2, .ptr 2 0), (3, .i v3)], [(1, (c_Board b)), (2, [.i 0, .i 0])], [], [], []⟩ : S)) (fun v4 => R_BoardFault_J3 v3 v4 = some y1) ?_ ?_
     ·refine Nblk ?_
      unfold R_BoardFault_L3 at hF
      refine Niter (fun v5 : Int => (⟨[(1, .ptr 1 0), (2, .ptr 2 0), (3, .i v3), (4, .i v5)], [(1, (c_Board b)), (2, [.i 0, .i 0])], [], [], []⟩ : S)) [] hF (by kernel_rfl) ?_
      intro n2 v5 y2 hF ih2 dn2
      unfold R_BoardFault_B3 at hF
      refine NR [] [1, 2, 3, 4, 41] [1, 2] [] [(41, .bool (decide (v5 < v3)))] .nil ?_
      refine Nif hF (fun hb hF => ?_) (fun hb hF => ?_)
      ·refine Nblk ?_
       obtain ⟨h15, h16, hF⟩ := asrt2 hF
       refine ND [.av (e_Host (lget b.Hosts v5)), .av (e_Host (lget b.Hosts v3))] [1, 2, 3, 4, 56] [1, 2] [] [(56, .bool (decide (((lget b.Hosts v5).ID) = ((lget b.Hosts v3).ID))))] (hc (idx_ok e_Host h15) (hc (idx_ok e_Host h16) .nil)) ?_
       refine Nif hF (fun hb hF => ?_) (fun hb hF => ?_)
       ·obtain ⟨x13, h17, hF⟩ := lt_split hF
        refine VR [.callB (.agg (c_Fault x13))] [2] [2] [] [] [] [(2, (c_Fault x13))] [] [] (hc (R_F_ok 10 v3 x13 h17) .nil) ?_
        have hF := ret_done hF dn2
        have hF := ret_done hF dn1
        cases hF
        exact Wk_ret (hfin _ ⟨[], [], [], [], [], [], by kernel_rfl⟩)
       ·refine NR [] [1, 2, 3, 4] [1, 2] [] [(4, .i (w64 (v5 + 1)))] .nil ?_
        exact Nrnd [] hF ih2 (by kernel_rfl)
      ·refine Nexit rfl ?_
       have hF := inrO_done hF dn2
       exact metP () [] hF (by kernel_rfl)
     ·intro v4 hF
      have hF : R_BoardFault_J3 v3 v4 = some y1 := hF
      unfold R_BoardFault_J3 at hF
      refine NR [] [1, 2, 3] [1, 2] [] [(3, .i (w64 (v3 + 1)))] .nil ?_
      exact Nrnd [] hF ih1 (by kernel_rfl)
   ·refine Nexit rfl ?_
    have hF := inrO_done hF dn1
    exact metP () [] hF (by kernel_rfl)
  ·intro v hF
   have hF : R_BoardFault_J1 b v = some r := hF
   unfold R_BoardFault_J1 at hF
   obtain ⟨x1, h1, hF⟩ := lt_split hF
   obtain ⟨x2, h2, hF⟩ := lt_split hF
   refine NR [.callB (.bool x1), .callB (.bool x2)] [1, 2, 68] [1, 2] [] [(68, .bool ((!x1) || (!x2)))] (hc (R_Num_ok b.Turn x1 h1) (hc (fun (ga0 : (!(!x1)) = true) => (R_One_ok b.Next x2 h2)) .nil)) ?_
   refine Nif hF (fun hb hF => ?_) (fun hb hF => ?_)
   ·obtain ⟨x3, h3, hF⟩ := lt_split hF
    refine VR [.callB (.agg (c_Fault x3))] [2] [2] [] [] [] [(2, (c_Fault x3))] [] [] (hc (R_F_ok 3 (-2) x3 h3) .nil) ?_
    cases hF
    exact Wk_ret (hfin _ ⟨[], [], [], [], [], [], by kernel_rfl⟩)
   ·obtain ⟨x4, h4, hF⟩ := ob_elim hF
    obtain ⟨x5, h5, hF⟩ := ob_elim hF
    refine VR [.callE [] [] [] [] (.row 71 0) ⟨[], [], [(71, .z 34 3 0 (x4.map e_Part))], [], []⟩, .callB (.agg (c_Fault x5))] [1, 2, 5] [1, 2, 5] [] [] [(5, .ptr 5 0)] [(5, (c_Fault x5))] [] [] (hc (Pe.ren (R_PartsOf_ok b x4 h4) ⟨[], [(20, 71)], [], []⟩) (hc (R_PartsFault_ok x4 x5 h5) .nil)) ?_
    refine NR [] [1, 2, 5, 75] [1, 2, 5] [] [(75, .bool (!decide (x5.Code = 0)))] .nil ?_
    refine Nif hF (fun hb hF => ?_) (fun hb hF => ?_)
    ·obtain ⟨x6, h6, hF⟩ := lt_split hF
     refine VR [.callB (.agg (c_Fault x6))] [2] [2] [] [] [] [(2, (c_Fault x6))] [] [] (hc (R_F_ok x5.Code (w64 (x5.At - 1000)) x6 h6) .nil) ?_
     cases hF
     exact Wk_ret (hfin _ ⟨[], [], [], [], [], [], by kernel_rfl⟩)
    ·refine NR [] [1, 2, 6] [1, 2] [] [(6, .i 0)] .nil ?_
     refine NmeetP (fun v1 : Unit => (⟨[(2, .ptr 2 0)], [(2, [.i 0, .i 0])], [], [], []⟩ : S)) (fun v1 => R_BoardFault_J2 v1 = some r) ?_ ?_
     ·refine Nblk ?_
      unfold R_BoardFault_L1 at hF
      refine Niter (fun v2 : Int => (⟨[(1, .ptr 1 0), (2, .ptr 2 0), (6, .i v2)], [(1, (c_Board b)), (2, [.i 0, .i 0])], [], [], []⟩ : S)) [] hF (by kernel_rfl) ?_
      intro n1 v2 y1 hF ih1 dn1
      unfold R_BoardFault_B1 at hF
      refine NR [.nat (b.Slots.length : Int)] [1, 2, 6, 86] [1, 2] [] [(86, .bool (decide (v2 < (b.Slots.length : Int))))] (hc (len_ok e_Slot b.Slots) .nil) ?_
      refine Nif hF (fun hb hF => ?_) (fun hb hF => ?_)
      ·refine Nblk ?_
       obtain ⟨x7, h7, hF⟩ := ob_elim hF
       refine NR [.callB (.i x7)] [1, 2, 6, 92] [1, 2] [] [(92, .bool (!decide (x7 = 0)))] (hc (R_SlotCode_ok b v2 x7 h7) .nil) ?_
       refine Nif hF (fun hb hF => ?_) (fun hb hF => ?_)
       ·obtain ⟨x8, h8, hF⟩ := ob_elim hF
        obtain ⟨x9, h9, hF⟩ := lt_split hF
        refine VR [.callB (.i x8), .callB (.agg (c_Fault x9))] [2] [2] [] [] [] [(2, (c_Fault x9))] [] [] (hc (R_SlotCode_ok b v2 x8 h8) (hc (R_F_ok x8 (w64 ((-2000) - (w64 (v2 + 1)))) x9 h9) .nil)) ?_
        have hF := ret_done hF dn1
        cases hF
        exact Wk_ret (hfin _ ⟨[], [], [], [], [], [], by kernel_rfl⟩)
       ·refine NR [] [1, 2, 6] [1, 2] [] [(6, .i (w64 (v2 + 1)))] .nil ?_
        exact Nrnd [] hF ih1 (by kernel_rfl)
      ·refine Nexit rfl ?_
       have hF := inrO_done hF dn1
       exact metP () [] hF (by kernel_rfl)
     ·intro v1 hF
      have hF : R_BoardFault_J2 v1 = some r := hF
      unfold R_BoardFault_J2 at hF
      refine NR [] [2] [2] [] [] .nil ?_
      cases hF
      exact Wk_ret (hfin _ ⟨[], [], [], [], [], [], by kernel_rfl⟩)

/- tabularyref.SameBoard -/
noncomputable def R_SameBoard_J2 (v1 : Unit) : Option Bool :=
 some true
noncomputable def R_SameBoard_B1 (a0 : Board) (b : Board) (v2 : Int) : Option (Int ⊕ Bool) :=
 if (decide (v2 < (a0.Slots.length : Int))) = true then
  asrt (0 ≤ v2 ∧ v2 < (a0.Slots.length : Int)) <|
  asrt (0 ≤ v2 ∧ v2 < (b.Slots.length : Int)) <|
  if (!(decide (((lget a0.Slots v2).Part).From = ((lget b.Slots v2).Part).From) && (decide (((lget a0.Slots v2).Part).To = ((lget b.Slots v2).Part).To) && (decide (((lget a0.Slots v2).Part).ID = ((lget b.Slots v2).Part).ID) && (decide ((lget a0.Slots v2).State = (lget b.Slots v2).State) && (decide ((lget a0.Slots v2).Host = (lget b.Slots v2).Host) && (decide ((lget a0.Slots v2).Turn = (lget b.Slots v2).Turn) && true))))))) = true then
   some (Sum.inr false)
  else
   some (Sum.inl (w64 (v2 + 1)))
 else
  inrO (R_SameBoard_J2 ())
noncomputable def R_SameBoard_L1 (a0 : Board) (b : Board) (v0 : Int) : Option Bool :=
 loopO (fun y => R_SameBoard_B1 a0 b y) v0
noncomputable def R_SameBoard_J1 (a0 : Board) (b : Board) (v : Unit) : Option Bool :=
 R_SameBoard_L1 a0 b 0
noncomputable def R_SameBoard_B2 (a0 : Board) (b : Board) (v3 : Int) : Option (Int ⊕ Bool) :=
 if (decide (v3 < (a0.Hosts.length : Int))) = true then
  asrt (0 ≤ v3 ∧ v3 < (a0.Hosts.length : Int)) <|
  asrt (0 ≤ v3 ∧ v3 < (b.Hosts.length : Int)) <|
  if (!(decide ((lget a0.Hosts v3).ID = (lget b.Hosts v3).ID) && (decide ((lget a0.Hosts v3).Epoch = (lget b.Hosts v3).Epoch) && ((((lget a0.Hosts v3).Alive) == ((lget b.Hosts v3).Alive)) && true)))) = true then
   some (Sum.inr false)
  else
   some (Sum.inl (w64 (v3 + 1)))
 else
  inrO (R_SameBoard_J1 a0 b ())
noncomputable def R_SameBoard_L2 (a0 : Board) (b : Board) (v0 : Int) : Option Bool :=
 loopO (fun y => R_SameBoard_B2 a0 b y) v0
noncomputable def R_SameBoard (a0 : Board) (b : Board) : Option Bool :=
 if ((((!decide (a0.Turn = b.Turn)) || (!decide (a0.Next = b.Next))) || (!decide ((a0.Hosts.length : Int) = (b.Hosts.length : Int)))) || (!decide ((a0.Slots.length : Int) = (b.Slots.length : Int)))) = true then
  some false
 else
  R_SameBoard_L2 a0 b 0

/- tabularyref.SlotIn -/
noncomputable def R_SlotIn_J1 (v : Unit) : Option Int :=
 some (-1)
noncomputable def R_SlotIn_B1 (b : Board) (id : Int) (v1 : Int) : Option (Int ⊕ Int) :=
 if (decide (v1 < (b.Slots.length : Int))) = true then
  asrt (0 ≤ v1 ∧ v1 < (b.Slots.length : Int)) <|
  if (decide ((((lget b.Slots v1).Part).ID) = id)) = true then
   some (Sum.inr v1)
  else
   some (Sum.inl (w64 (v1 + 1)))
 else
  inrO (R_SlotIn_J1 ())
noncomputable def R_SlotIn_L1 (b : Board) (id : Int) (v0 : Int) : Option Int :=
 loopO (fun y => R_SlotIn_B1 b id y) v0
noncomputable def R_SlotIn (b : Board) (id : Int) : Option Int :=
 R_SlotIn_L1 b id 0
theorem R_SlotIn_ok (b : Board) (id : Int) (r : Int) (hF : R_SlotIn b id = some r) : Pe Try.prog 65 S.none [.agg (c_Board b), .i id] (.i r) S.none := by
 refine PeN 23 [.tmp 4] [3] Ty.ok Fn.b65 Try.func65 ?_
 intro Q g hfin
 unfold R_SlotIn at hF
 refine VR [] [1, 2] [2] [] [] [(2, .ptr 2 0)] [(2, (c_Board b))] [] [] .nil ?_
 refine NR [] [1, 2, 5] [2] [] [(5, .i 0)] .nil ?_
 refine NmeetP (fun v : Unit => (S.none : S)) (fun v => R_SlotIn_J1 v = some r) ?_ ?_
 ·refine Nblk ?_
  unfold R_SlotIn_L1 at hF
  refine Niter (fun v1 : Int => (⟨[(1, .i id), (2, .ptr 2 0), (5, .i v1)], [(2, (c_Board b))], [], [], []⟩ : S)) [] hF (by kernel_rfl) ?_
  intro n1 v1 y1 hF ih1 dn1
  unfold R_SlotIn_B1 at hF
  refine NR [.nat (b.Slots.length : Int)] [1, 2, 5, 10] [2] [] [(10, .bool (decide (v1 < (b.Slots.length : Int))))] (hc (len_ok e_Slot b.Slots) .nil) ?_
  refine Nif hF (fun hb hF => ?_) (fun hb hF => ?_)
  ·refine Nblk ?_
   obtain ⟨h0, hF⟩ := asrt_elim hF
   refine NR [.av (e_Slot (lget b.Slots v1))] [1, 2, 5, 21] [2] [] [(21, .bool (decide ((((lget b.Slots v1).Part).ID) = id)))] (hc (idx_ok e_Slot h0) .nil) ?_
   refine Nif hF (fun hb hF => ?_) (fun hb hF => ?_)
   ·refine NR [] [4] [] [] [(4, .i v1)] .nil ?_
    have hF := ret_done hF dn1
    cases hF
    exact Wk_ret (hfin _ ⟨[], [], [], [], [], [], by kernel_rfl⟩)
   ·refine NR [] [1, 2, 5] [2] [] [(5, .i (w64 (v1 + 1)))] .nil ?_
    exact Nrnd [] hF ih1 (by kernel_rfl)
  ·refine Nexit rfl ?_
   have hF := inrO_done hF dn1
   exact metP () [] hF (by kernel_rfl)
 ·intro v hF
  have hF : R_SlotIn_J1 v = some r := hF
  unfold R_SlotIn_J1 at hF
  refine NR [] [4] [] [] [(4, .i (-1))] .nil ?_
  cases hF
  exact Wk_ret (hfin _ ⟨[], [], [], [], [], [], by kernel_rfl⟩)

/- tabularyref.InPart -/
noncomputable def R_InPart (p : Part) (row : List UInt8) : Bool :=
 lt ((!Op.bytesLess row p.From) && ((decide (p.To = ([] : List UInt8))) || (Op.bytesLess row p.To))) fun (v : Bool) =>
 v
theorem R_InPart_ok (p : Part) (row : List UInt8) (r : Bool) (hF : R_InPart p row = r) : Pe Try.prog 23 S.none [.agg (c_Part p), .str row] (.bool r) S.none := by
 refine PeN 20 [.tmp 4] [4] Ty.ok Fn.b23 Try.func23 ?_
 intro Q g hfin
 unfold R_InPart at hF
 refine VR [] [1, 2] [2] [] [] [(2, .ptr 2 0)] [(2, (c_Part p))] [] [] .nil ?_
 refine NRL ((!Op.bytesLess row p.From) && ((decide (p.To = ([] : List UInt8))) || (Op.bytesLess row p.To))) (fun v : Bool => ([(4, .bool v)], [], [], [])) [] [4] [] [] [] .nil (fun v hv => ?_)
 have hF := lt_elim hF hv
 cases hF
 exact Wk_ret (hfin _ ⟨[], [], [], [], [], [], by kernel_rfl⟩)

/- tabularyref.SlotsInstead -/
noncomputable def R_SlotsInstead (l : List Slot) (at0 : Int) (num : Int) (by0 : List Slot) : Option (List Slot) :=
 asrt (0 ≤ at0 ∧ at0 ≤ (l.length : Int)) <|
 asrt (((ltake l at0).length : Int) * 64 ≤ 140737488351232) <|
 asrt ((((ltake l at0) ++ by0).length : Int) * 64 ≤ 140737488351232) <|
 asrt (0 ≤ w64 (at0 + num) ∧ w64 (at0 + num) ≤ (l.length : Int)) <|
 asrt (((((ltake l at0) ++ by0) ++ (ldrop l (w64 (at0 + num)))).length : Int) * 64 ≤ 140737488351232) <|
 some (((ltake l at0) ++ by0) ++ (ldrop l (w64 (at0 + num))))
theorem R_SlotsInstead_ok (l : List Slot) (at0 : Int) (num : Int) (by0 : List Slot) (r : List Slot) (hF : R_SlotsInstead l at0 num by0 = some r) : Pe Try.prog 98 S.none [.sl 6 (l.map e_Slot), .i at0, .i num, .sl 6 (by0.map e_Slot)] (.row 13 3) ⟨[], [], [(13, .z 64 6 3 (r.map e_Slot))], [], []⟩ := by
 refine PeN 24 [.tmp 8] [60] Ty.ok Fn.b98 Try.func98 ?_
 intro Q g hfin
 unfold R_SlotsInstead at hF
 refine NR [] [0, 1, 2, 3] [] [] [] .nil ?_
 obtain ⟨h0, h1, hF⟩ := asrt2 hF
 refine VR [.xs ((ltake l at0).map e_Slot), .xs ((ltake l at0).map e_Slot)] [0, 1, 2, 3, 9] [] [13] [] [(9, .row 13 1)] [] [(13, .z 64 6 1 ((ltake l at0).map e_Slot))] [] (hc (sl01_ok e_Slot h0) (hc (app0_ok e_Slot (ltake l at0)) (hc (appl_ok e_Slot h1) .nil))) ?_
 obtain ⟨h2, hF⟩ := asrt_elim hF
 refine VR [.xs (((ltake l at0) ++ by0).map e_Slot)] [0, 1, 2, 9] [] [13] [] [(9, .row 13 2)] [] [(13, .z 64 6 2 (((ltake l at0) ++ by0).map e_Slot))] [] (hc (app_ok e_Slot (ltake l at0) by0) (hc (appl_ok e_Slot h2) .nil)) ?_
 obtain ⟨h3, h4, hF⟩ := asrt2 hF
 refine VR [.xs ((ldrop l (w64 (at0 + num))).map e_Slot), .xs ((((ltake l at0) ++ by0) ++ (ldrop l (w64 (at0 + num)))).map e_Slot)] [8] [] [13] [] [(8, .row 13 3)] [] [(13, .z 64 6 3 ((((ltake l at0) ++ by0) ++ (ldrop l (w64 (at0 + num)))).map e_Slot))] [] (hc (sl10_ok e_Slot h3) (hc (app_ok e_Slot ((ltake l at0) ++ by0) (ldrop l (w64 (at0 + num)))) (hc (appl_ok e_Slot h4) .nil))) ?_
 cases hF
 exact Wk_ret (hfin _ ⟨[13], [], [13], [], [], [], by kernel_rfl⟩)

end G
end Go.Proofs.Ytdjlninhfndjfaa
