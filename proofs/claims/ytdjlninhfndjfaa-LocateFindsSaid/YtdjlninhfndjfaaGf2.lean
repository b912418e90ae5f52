/- The program's functions as plain functions, and that they are these. Written by a program (dec2.py). -/
import Derived.Test.YtdjlninhfndjfaaGf1
namespace Go.Proofs.Ytdjlninhfndjfaa
open Go Go.Dm
set_option linter.unusedVariables false
set_option linter.unusedSimpArgs false
set_option maxRecDepth 100000
namespace G
/- tabularyref.Ordered -/
noncomputable def R_Ordered_J1 (x : Fault) (x1 : List Host × List Slot × Int × Int) (v1 : List Host) (v2 : List Slot) : Option (List Host × List Slot × Int × Int × Fault) :=
 some (v1, v2, x1.2.2.1, x1.2.2.2, x)
noncomputable def R_Ordered_B1 (o : Order) (x : Fault) (x1 : List Host × List Slot × Int × Int) (v1 : List Host) (v3 : List Slot × Int) : Option ((List Slot × Int) ⊕ (List Host × List Slot × Int × Int × Fault)) :=
 if (decide (v3.2 < (v3.1.length : Int))) = true then
  asrt (0 ≤ v3.2 ∧ v3.2 < (v3.1.length : Int)) <|
  asrt (0 ≤ v3.2 ∧ v3.2 < (v3.1.length : Int)) <|
  ob (
   if (decide (((lget v3.1 v3.2).Host) = o.ID)) = true then
    asrt (0 ≤ v3.2 ∧ v3.2 < (v3.1.length : Int)) <|
    asrt (0 ≤ v3.2 ∧ v3.2 < (v3.1.length : Int)) <|
    lt ((lset v3.1 v3.2 (⟨(⟨((lget v3.1 v3.2).Part).From, ((lget v3.1 v3.2).Part).To, ((lget v3.1 v3.2).Part).ID⟩ : Part), (lget v3.1 v3.2).State, 0, (lget v3.1 v3.2).Turn⟩ : Slot))) fun (v5 : List Slot) =>
    asrt (0 ≤ v3.2 ∧ v3.2 < (v5.length : Int)) <|
    asrt (0 ≤ v3.2 ∧ v3.2 < (v5.length : Int)) <|
    lt ((lset v5 v3.2 (⟨(⟨((lget v5 v3.2).Part).From, ((lget v5 v3.2).Part).To, ((lget v5 v3.2).Part).ID⟩ : Part), 0, (lget v5 v3.2).Host, (lget v5 v3.2).Turn⟩ : Slot))) fun (v6 : List Slot) =>
    some v6
   else
    some v3.1) fun (v4 : List Slot) =>
  some (Sum.inl (v4, w64 (v3.2 + 1)))
 else
  inrO (R_Ordered_J1 x x1 v1 v3.1)
noncomputable def R_Ordered_L1 (o : Order) (x : Fault) (x1 : List Host × List Slot × Int × Int) (v1 : List Host) (v0 : List Slot × Int) : Option (List Host × List Slot × Int × Int × Fault) :=
 loopO (fun y => R_Ordered_B1 o x x1 v1 y) v0
noncomputable def R_Ordered_J2 (x : Fault) (x1 : List Host × List Slot × Int × Int) (v7 : List Slot × Int × Int) : Option (List Host × List Slot × Int × Int × Fault) :=
 if (decide (1000000000 < v7.2.2)) = true then
  lt (R_F 9 0) fun x18 =>
  some (([] : List Host), ([] : List Slot), 0, 0, x18)
 else
  some (x1.1, v7.1, v7.2.1, v7.2.2, x)
noncomputable def R_Ordered (b : Board) (o : Order) : Option (List Host × List Slot × Int × Int × Fault) :=
 ob (R_BoardFault b) fun x =>
 if (!decide (x.Code = 0)) = true then
  some (([] : List Host), ([] : List Slot), 0, 0, x)
 else
  ob (R_CopyBoard b) fun x1 =>
  if ((decide (o.Kind < 1)) || (decide (8 < o.Kind))) = true then
   lt (R_F 4 0) fun x2 =>
   some (([] : List Host), ([] : List Slot), 0, 0, x2)
  else
   if (decide (o.Kind = 1)) = true then
    lt (R_One o.ID) fun x3 =>
    if (!x3) = true then
     lt (R_F 3 (-1)) fun x4 =>
     some (([] : List Host), ([] : List Slot), 0, 0, x4)
    else
     ob (R_HostIn b o.ID true) fun x5 =>
     if (decide (0 ≤ x5)) = true then
      lt (R_F 10 (-1)) fun x6 =>
      some (([] : List Host), ([] : List Slot), 0, 0, x6)
     else
      ob (R_HostIn b o.ID false) fun x7 =>
      if (decide (x7 < 0)) = true then
       if (decide (20 ≤ (b.Hosts.length : Int))) = true then
        lt (R_F 2 (-1)) fun x8 =>
        some (([] : List Host), ([] : List Slot), 0, 0, x8)
       else
        asrt (((x1.1 ++ [(⟨o.ID, 1, true⟩ : Host)]).length : Int) * 24 ≤ 140737488351232) <|
        some ((x1.1 ++ [(⟨o.ID, 1, true⟩ : Host)]), x1.2.1, x1.2.2.1, x1.2.2.2, x)
      else
       asrt (0 ≤ x7 ∧ x7 < (b.Hosts.length : Int)) <|
       if (decide (1000000000 ≤ ((lget b.Hosts x7).Epoch))) = true then
        lt (R_F 9 0) fun x9 =>
        some (([] : List Host), ([] : List Slot), 0, 0, x9)
       else
        asrt (0 ≤ x7 ∧ x7 < (b.Hosts.length : Int)) <|
        asrt (0 ≤ x7 ∧ x7 < (x1.1.length : Int)) <|
        asrt (0 ≤ x7 ∧ x7 < (x1.1.length : Int)) <|
        lt ((lset x1.1 x7 (⟨o.ID, w64 (((lget b.Hosts x7).Epoch) + 1), true⟩ : Host))) fun (v : List Host) =>
        some (v, x1.2.1, x1.2.2.1, x1.2.2.2, x)
   else
    if (decide (o.Kind = 2)) = true then
     ob (R_HostIn b o.ID true) fun x10 =>
     if (decide (x10 < 0)) = true then
      lt (R_F 6 (-1)) fun x11 =>
      some (([] : List Host), ([] : List Slot), 0, 0, x11)
     else
      asrt (0 ≤ x10 ∧ x10 < (x1.1.length : Int)) <|
      asrt (0 ≤ x10 ∧ x10 < (x1.1.length : Int)) <|
      lt ((lset x1.1 x10 (⟨(lget x1.1 x10).ID, (lget x1.1 x10).Epoch, false⟩ : Host))) fun (v1 : List Host) =>
      R_Ordered_L1 o x x1 v1 (x1.2.1, 0)
    else
     ob (R_SlotIn b o.ID) fun x12 =>
     if ((decide (x12 < 0)) || ((decide (o.Kind = 8)) && (decide ((b.Slots.length : Int) ≤ (w64 (x12 + 1)))))) = true then
      lt (R_F 6 (-1)) fun x13 =>
      some (([] : List Host), ([] : List Slot), 0, 0, x13)
     else
      asrt (0 ≤ x12 ∧ x12 < (b.Slots.length : Int)) <|
      ob (if (decide (o.Kind = 3)) = true then (R_HostIn b o.Host true) else some default) fun x14 =>
      if ((decide (o.Kind = 3)) && (decide (x14 < 0))) = true then
       lt (R_F 6 (-2)) fun x15 =>
       some (([] : List Host), ([] : List Slot), 0, 0, x15)
      else
       if (((decide (o.Kind = 4)) || (decide (o.Kind = 6))) && ((!decide (((lget b.Slots x12).Host) = o.Host)) || (!decide (((lget b.Slots x12).Turn) = o.Turn)))) = true then
        lt (R_F 12 (-1)) fun x16 =>
        some (([] : List Host), ([] : List Slot), 0, 0, x16)
       else
        asrt (0 ≤ o.Kind ∧ o.Kind < (([0, 0, 0, 0, 1, 2, 3, 0, 0] : List Int).length : Int)) <|
        asrt ((decide (o.Kind = 8)) = true → (!(!decide (((lget b.Slots x12).State) = (lget ([0, 0, 0, 0, 1, 2, 3, 0, 0] : List Int) o.Kind)))) = true → 0 ≤ w64 (x12 + 1) ∧ w64 (x12 + 1) < (b.Slots.length : Int)) <|
        if ((!decide (((lget b.Slots x12).State) = (lget ([0, 0, 0, 0, 1, 2, 3, 0, 0] : List Int) o.Kind))) || ((decide (o.Kind = 8)) && (!decide (((lget b.Slots (w64 (x12 + 1))).State) = 0)))) = true then
         lt (R_F 11 (-1)) fun x17 =>
         some (([] : List Host), ([] : List Slot), 0, 0, x17)
        else
         if (decide (o.Kind = 3)) = true then
          if (decide (1000000000 ≤ b.Turn)) = true then
           lt (R_F 9 0) fun x19 =>
           some (([] : List Host), ([] : List Slot), 0, 0, x19)
          else
           asrt (0 ≤ x12 ∧ x12 < (x1.2.1.length : Int)) <|
           asrt (0 ≤ x12 ∧ x12 < (x1.2.1.length : Int)) <|
           lt ((lset x1.2.1 x12 (⟨(⟨((lget b.Slots x12).Part).From, ((lget b.Slots x12).Part).To, ((lget b.Slots x12).Part).ID⟩ : Part), 1, o.Host, w64 (b.Turn + 1)⟩ : Slot))) fun (v8 : List Slot) =>
           R_Ordered_J2 x x1 (v8, w64 (b.Turn + 1), x1.2.2.2)
         else
          if (decide (o.Kind = 4)) = true then
           asrt (0 ≤ x12 ∧ x12 < (x1.2.1.length : Int)) <|
           asrt (0 ≤ x12 ∧ x12 < (x1.2.1.length : Int)) <|
           lt ((lset x1.2.1 x12 (⟨(⟨((lget x1.2.1 x12).Part).From, ((lget x1.2.1 x12).Part).To, ((lget x1.2.1 x12).Part).ID⟩ : Part), 2, (lget x1.2.1 x12).Host, (lget x1.2.1 x12).Turn⟩ : Slot))) fun (v9 : List Slot) =>
           R_Ordered_J2 x x1 (v9, x1.2.2.1, x1.2.2.2)
          else
           if (decide (o.Kind = 5)) = true then
            asrt (0 ≤ x12 ∧ x12 < (x1.2.1.length : Int)) <|
            asrt (0 ≤ x12 ∧ x12 < (x1.2.1.length : Int)) <|
            lt ((lset x1.2.1 x12 (⟨(⟨((lget x1.2.1 x12).Part).From, ((lget x1.2.1 x12).Part).To, ((lget x1.2.1 x12).Part).ID⟩ : Part), 3, (lget x1.2.1 x12).Host, (lget x1.2.1 x12).Turn⟩ : Slot))) fun (v10 : List Slot) =>
            R_Ordered_J2 x x1 (v10, x1.2.2.1, x1.2.2.2)
           else
            if (decide (o.Kind = 6)) = true then
             asrt (0 ≤ x12 ∧ x12 < (x1.2.1.length : Int)) <|
             asrt (0 ≤ x12 ∧ x12 < (x1.2.1.length : Int)) <|
             lt ((lset x1.2.1 x12 (⟨(⟨((lget b.Slots x12).Part).From, ((lget b.Slots x12).Part).To, ((lget b.Slots x12).Part).ID⟩ : Part), 0, 0, (lget b.Slots x12).Turn⟩ : Slot))) fun (v11 : List Slot) =>
             R_Ordered_J2 x x1 (v11, x1.2.2.1, x1.2.2.2)
            else
             if (decide (o.Kind = 7)) = true then
              if (decide (40 < (o.Row.length : Int))) = true then
               lt (R_F 8 (-2)) fun x20 =>
               some (([] : List Host), ([] : List Slot), 0, 0, x20)
              else
               lt (R_InPart (⟨((lget b.Slots x12).Part).From, ((lget b.Slots x12).Part).To, ((lget b.Slots x12).Part).ID⟩ : Part) o.Row) fun x21 =>
               if ((decide (o.Row = (((lget b.Slots x12).Part).From))) || (!x21)) = true then
                lt (R_F 5 (-2)) fun x22 =>
                some (([] : List Host), ([] : List Slot), 0, 0, x22)
               else
                if (decide (200 ≤ (b.Slots.length : Int))) = true then
                 lt (R_F 2 (-1)) fun x23 =>
                 some (([] : List Host), ([] : List Slot), 0, 0, x23)
                else
                 ob (R_SlotsInstead b.Slots x12 1 [(⟨(⟨((lget b.Slots x12).Part).From, o.Row, b.Next⟩ : Part), 0, 0, 0⟩ : Slot), (⟨(⟨o.Row, ((lget b.Slots x12).Part).To, w64 (b.Next + 1)⟩ : Part), 0, 0, 0⟩ : Slot)]) fun x24 =>
                 R_Ordered_J2 x x1 (x24, x1.2.2.1, w64 (b.Next + 2))
             else
              if (decide (o.Kind = 8)) = true then
               asrt (0 ≤ w64 (x12 + 1) ∧ w64 (x12 + 1) < (b.Slots.length : Int)) <|
               ob (R_SlotsInstead b.Slots x12 2 [(⟨(⟨((lget b.Slots x12).Part).From, ((lget b.Slots (w64 (x12 + 1))).Part).To, b.Next⟩ : Part), 0, 0, 0⟩ : Slot)]) fun x25 =>
               R_Ordered_J2 x x1 (x25, x1.2.2.1, w64 (b.Next + 1))
              else
               R_Ordered_J2 x x1 (x1.2.1, x1.2.2.1, x1.2.2.2)
theorem R_Ordered_ok (b : Board) (o : Order) (r : List Host × List Slot × Int × Int × Fault) (hF : R_Ordered b o = some r) : Pe Try.prog 55 ⟨[], [], [], [], []⟩ [.agg (c_Board b), .agg (c_Order o)] (.tup [.agg [.row 22 0, .row 20022 0, .i r.2.2.1, .i r.2.2.2.1], .agg [.i r.2.2.2.2.Code, .i r.2.2.2.2.At]]) ⟨[], [], [(22, .z 108 3 0 (r.1.map e_Host)), (20022, .z 64 6 0 (r.2.1.map e_Slot))], [], []⟩ := by
 refine Pe_of (N := 370) (res := [.cell 4 62, .cell 5 26]) (ts := [62, 26]) Ty.ok Fn.b55 Try.func55 rfl rfl rfl rfl rfl rfl ?_
 intro Q g hfin
 unfold R_Ordered at hF
 refine URs [] [2, 3, 4, 5] [2, 3, 4, 5] [] [] [(2, .ptr 2 0), (3, .ptr 3 0), (4, .ptr 4 0), (5, .ptr 5 0)] [(2, (c_Board b)), (3, (c_Order o)), (4, [.nils, .nils, .i 0, .i 0]), (5, [.i 0, .i 0])] [] [] .nil ?_
 refine Wk_seq ?_
 obtain ⟨x, h0, hF⟩ := ob_elim hF
 refine UR [.callB (.agg [.i x.Code, .i x.At])] [2, 3, 4, 5, 6] [2, 3, 4, 5, 6] [] [] [(6, .ptr 6 0)] [(6, [.i x.Code, .i x.At])] [] [] (.cons (R_BoardFault_ok b x h0) .nil) ?_
 refine Wk_seq ?_
 refine ZRs [] [2, 3, 4, 5, 6, 18] [2, 3, 4, 5, 6] [] [(18, .bool (!decide (x.Code = 0)))] .nil ?_
 refine Wk_split rfl (fun hb => ?_) (fun hb => ?_)
 ·have hF := ite_t hF hb
  refine UDs [] [4, 5] [4, 5] [] [] [] [(5, [.i x.Code, .i x.At])] [] [] .nil ?_
  have hF := some_elim hF
  refine Wk_nilrowB 4 0 60000 108 3 rfl rfl rfl rfl rfl ?_
  refine Wk_nilrowB 4 1 60001 64 6 rfl rfl rfl rfl rfl ?_
  refine Wk_ren' ⟨[], [(60000, 22), (60001, 20022)], [], []⟩ rfl ?_
  exact Wk_ret (hfin _ ⟨[22, 20022], [], [22, 20022], [], [], [], by first | (rw [← hF]; kernel_rfl) | kernel_rfl⟩)
 ·have hF := ite_f hF hb
  refine Wk_skip ?_
  refine Wk_seq ?_
  obtain ⟨x1, h1, hF⟩ := ob_elim hF
  refine UR [.callE [] [] [] [] (.agg [.row 22 1, .row 20022 1, .i x1.2.2.1, .i x1.2.2.2]) ⟨[], [], [(22, .z 108 3 1 (x1.1.map e_Host)), (20022, .z 64 6 1 (x1.2.1.map e_Slot))], [], []⟩] [2, 3, 4, 5, 6, 7] [2, 3, 4, 5, 6, 7] [22, 20022] [] [(7, .ptr 7 0)] [(7, [.row 22 1, .row 20022 1, .i x1.2.2.1, .i x1.2.2.2])] [(22, .z 108 3 1 (x1.1.map e_Host)), (20022, .z 64 6 1 (x1.2.1.map e_Slot))] [] (.cons (Pe.ren (R_CopyBoard_ok b x1 h1) ⟨[], [(5, 22), (9, 20022)], [], []⟩) .nil) ?_
  refine Wk_seq ?_
  refine ZRs [] [2, 3, 4, 5, 6, 7, 30] [2, 3, 4, 5, 6, 7] [22, 20022] [(30, .bool ((decide (o.Kind < 1)) || (decide (8 < o.Kind))))] .nil ?_
  refine Wk_split rfl (fun hb => ?_) (fun hb => ?_)
  ·have hF := ite_t hF hb
   refine Wk_seq ?_
   obtain ⟨x2, h2, hF⟩ := lt_split hF
   refine UR [.callB (.agg [.i x2.Code, .i x2.At])] [4, 5] [4, 5] [] [] [] [(5, [.i x2.Code, .i x2.At])] [] [] (.cons (R_F_ok 4 0 x2 h2) .nil) ?_
   have hF := some_elim hF
   refine Wk_nilrowB 4 0 60002 108 3 rfl rfl rfl rfl rfl ?_
   refine Wk_nilrowB 4 1 60003 64 6 rfl rfl rfl rfl rfl ?_
   refine Wk_ren' ⟨[], [(60002, 22), (60003, 20022)], [], []⟩ rfl ?_
   exact Wk_ret (hfin _ ⟨[22, 20022], [], [22, 20022], [], [], [], by first | (rw [← hF]; kernel_rfl) | kernel_rfl⟩)
  ·have hF := ite_f hF hb
   refine Wk_skip ?_
   refine Wk_seq ?_
   refine ZRs [] [2, 3, 4, 5, 6, 7, 35] [2, 3, 4, 5, 6, 7] [22, 20022] [(35, .bool (decide (o.Kind = 1)))] .nil ?_
   refine Wk_split rfl (fun hb => ?_) (fun hb => ?_)
   ·have hF := ite_t hF hb
    refine Wk_seq ?_
    refine Wk_seq ?_
    obtain ⟨x3, h3, hF⟩ := lt_split hF
    refine ZR [.callB (.bool x3)] [2, 3, 4, 5, 6, 7, 39] [2, 3, 4, 5, 6, 7] [22, 20022] [(39, .bool (!x3))] (.cons (R_One_ok o.ID x3 h3) .nil) ?_
    refine Wk_split rfl (fun hb => ?_) (fun hb => ?_)
    ·have hF := ite_t hF hb
     refine Wk_seq ?_
     obtain ⟨x4, h4, hF⟩ := lt_split hF
     refine UR [.callB (.agg [.i x4.Code, .i x4.At])] [4, 5] [4, 5] [] [] [] [(5, [.i x4.Code, .i x4.At])] [] [] (.cons (R_F_ok 3 (-1) x4 h4) .nil) ?_
     have hF := some_elim hF
     refine Wk_nilrowB 4 0 60004 108 3 rfl rfl rfl rfl rfl ?_
     refine Wk_nilrowB 4 1 60005 64 6 rfl rfl rfl rfl rfl ?_
     refine Wk_ren' ⟨[], [(60004, 22), (60005, 20022)], [], []⟩ rfl ?_
     exact Wk_ret (hfin _ ⟨[22, 20022], [], [22, 20022], [], [], [], by first | (rw [← hF]; kernel_rfl) | kernel_rfl⟩)
    ·have hF := ite_f hF hb
     refine Wk_skip ?_
     refine Wk_seq ?_
     refine Wk_seq ?_
     obtain ⟨x5, h5, hF⟩ := ob_elim hF
     refine ZR [.callB (.i x5)] [2, 3, 4, 5, 6, 7, 46] [2, 3, 4, 5, 6, 7] [22, 20022] [(46, .bool (decide (0 ≤ x5)))] (.cons (R_HostIn_ok b o.ID true x5 h5) .nil) ?_
     refine Wk_split rfl (fun hb => ?_) (fun hb => ?_)
     ·have hF := ite_t hF hb
      refine Wk_seq ?_
      obtain ⟨x6, h6, hF⟩ := lt_split hF
      refine UR [.callB (.agg [.i x6.Code, .i x6.At])] [4, 5] [4, 5] [] [] [] [(5, [.i x6.Code, .i x6.At])] [] [] (.cons (R_F_ok 10 (-1) x6 h6) .nil) ?_
      have hF := some_elim hF
      refine Wk_nilrowB 4 0 60006 108 3 rfl rfl rfl rfl rfl ?_
      refine Wk_nilrowB 4 1 60007 64 6 rfl rfl rfl rfl rfl ?_
      refine Wk_ren' ⟨[], [(60006, 22), (60007, 20022)], [], []⟩ rfl ?_
      exact Wk_ret (hfin _ ⟨[22, 20022], [], [22, 20022], [], [], [], by first | (rw [← hF]; kernel_rfl) | kernel_rfl⟩)
     ·have hF := ite_f hF hb
      refine Wk_skip ?_
      refine Wk_seq ?_
      obtain ⟨x7, h7, hF⟩ := ob_elim hF
      refine ZR [.callB (.i x7)] [2, 3, 4, 5, 6, 7, 8] [2, 3, 4, 5, 6, 7] [22, 20022] [(8, .i x7)] (.cons (R_HostIn_ok b o.ID false x7 h7) .nil) ?_
      refine Wk_seq ?_
      refine ZRs [] [2, 3, 4, 5, 6, 7, 8, 54] [2, 3, 4, 5, 6, 7] [22, 20022] [(54, .bool (decide (x7 < 0)))] .nil ?_
      refine Wk_split rfl (fun hb => ?_) (fun hb => ?_)
      ·have hF := ite_t hF hb
       refine Wk_seq ?_
       refine ZRs [.nat (b.Hosts.length : Int)] [3, 4, 5, 6, 7, 58] [3, 4, 5, 6, 7] [22, 20022] [(58, .bool (decide (20 ≤ (b.Hosts.length : Int))))] (.cons (len_ok e_Host b.Hosts) .nil) ?_
       refine Wk_split rfl (fun hb => ?_) (fun hb => ?_)
       ·have hF := ite_t hF hb
        refine Wk_seq ?_
        obtain ⟨x8, h8, hF⟩ := lt_split hF
        refine UR [.callB (.agg [.i x8.Code, .i x8.At])] [4, 5] [4, 5] [] [] [] [(5, [.i x8.Code, .i x8.At])] [] [] (.cons (R_F_ok 2 (-1) x8 h8) .nil) ?_
        have hF := some_elim hF
        refine Wk_nilrowB 4 0 60008 108 3 rfl rfl rfl rfl rfl ?_
        refine Wk_nilrowB 4 1 60009 64 6 rfl rfl rfl rfl rfl ?_
        refine Wk_ren' ⟨[], [(60008, 22), (60009, 20022)], [], []⟩ rfl ?_
        exact Wk_ret (hfin _ ⟨[22, 20022], [], [22, 20022], [], [], [], by first | (rw [← hF]; kernel_rfl) | kernel_rfl⟩)
       ·have hF := ite_f hF hb
        refine Wk_skip ?_
        refine Wk_seq ?_
        obtain ⟨h9, hF⟩ := asrt_elim hF
        refine UR [.sealed, .xs ((x1.1 ++ [(⟨o.ID, 1, true⟩ : Host)]).map e_Host)] [4, 5, 6, 7] [4, 5, 6, 7] [22, 20022] [] [] [(7, [.row 22 2, .row 20022 1, .i x1.2.2.1, .i x1.2.2.2])] [(22, ⟨108, 3, 2, 0, 0, true, 0, [], ((x1.1 ++ [(⟨o.ID, 1, true⟩ : Host)]).map e_Host)⟩)] [] (.cons (app_ok e_Host x1.1 [(⟨o.ID, 1, true⟩ : Host)]) (.cons (appl_ok e_Host h9) .nil)) ?_
        refine UDs [] [4, 5] [4, 5] [22, 20022] [] [] [(4, [.row 22 2, .row 20022 1, .i x1.2.2.1, .i x1.2.2.2]), (5, [.i x.Code, .i x.At])] [] [] .nil ?_
        have hF := some_elim hF
        exact Wk_ret (hfin _ ⟨[22, 20022], [], [22, 20022], [], [], [(22, ⟨0, true, true, false⟩), (20022, ⟨0, true, true, false⟩)], by first | (rw [← hF]; kernel_rfl) | kernel_rfl⟩)
      ·have hF := ite_f hF hb
       refine Wk_skip ?_
       refine Wk_seq ?_
       refine Wk_seq ?_
       obtain ⟨h10, hF⟩ := asrt_elim hF
       refine ZR [.av (e_Host (lget b.Hosts x7))] [2, 3, 4, 5, 6, 7, 8, 77] [2, 3, 4, 5, 6, 7] [22, 20022] [(77, .bool (decide (1000000000 ≤ ((lget b.Hosts x7).Epoch))))] (.cons (idx_ok e_Host h10) .nil) ?_
       refine Wk_split rfl (fun hb => ?_) (fun hb => ?_)
       ·have hF := ite_t hF hb
        refine Wk_seq ?_
        obtain ⟨x9, h11, hF⟩ := lt_split hF
        refine UR [.callB (.agg [.i x9.Code, .i x9.At])] [4, 5] [4, 5] [] [] [] [(5, [.i x9.Code, .i x9.At])] [] [] (.cons (R_F_ok 9 0 x9 h11) .nil) ?_
        have hF := some_elim hF
        refine Wk_nilrowB 4 0 60010 108 3 rfl rfl rfl rfl rfl ?_
        refine Wk_nilrowB 4 1 60011 64 6 rfl rfl rfl rfl rfl ?_
        refine Wk_ren' ⟨[], [(60010, 22), (60011, 20022)], [], []⟩ rfl ?_
        exact Wk_ret (hfin _ ⟨[22, 20022], [], [22, 20022], [], [], [], by first | (rw [← hF]; kernel_rfl) | kernel_rfl⟩)
       ·have hF := ite_f hF hb
        refine Wk_skip ?_
        refine Wk_seq ?_
        obtain ⟨h12, hF⟩ := asrt_elim hF
        obtain ⟨h13, hF⟩ := asrt_elim hF
        obtain ⟨h14, hF⟩ := asrt_elim hF
        refine WDL ((lset x1.1 x7 (⟨o.ID, w64 (((lget b.Hosts x7).Epoch) + 1), true⟩ : Host))) (fun v : List Host => ⟨[(4, .ptr 4 0), (5, .ptr 5 0), (6, .ptr 6 0), (7, .ptr 7 0)], [(4, [.nils, .nils, .i 0, .i 0]), (5, [.i 0, .i 0]), (6, [.i x.Code, .i x.At]), (7, [.row 22 1, .row 20022 1, .i x1.2.2.1, .i x1.2.2.2])], [(22, .z 108 3 1 (v.map e_Host)), (20022, .z 64 6 1 (x1.2.1.map e_Slot))], [], []⟩) [.av (e_Host (lget b.Hosts x7)), .av (e_Host (lget x1.1 x7)), .xs ((lset x1.1 x7 (⟨o.ID, w64 (((lget b.Hosts x7).Epoch) + 1), true⟩ : Host)).map e_Host)] [4, 5, 6, 7] [4, 5, 6, 7] [22, 20022] [] [] [] (.cons (idx_ok e_Host h12) (.cons (ixr_ok e_Host h13) (.cons (ldr_ok e_Host h14) (.cons (set_ok e_Host x1.1 x7 (⟨o.ID, w64 (((lget b.Hosts x7).Epoch) + 1), true⟩ : Host)) (.cons (Nat.zero_le x7.toNat) .nil))))) (by kernel_rfl) (fun v hv => ?_)
        have hF := lt_elim hF hv
        refine UDs [] [4, 5] [4, 5] [22, 20022] [] [] [(4, [.row 22 1, .row 20022 1, .i x1.2.2.1, .i x1.2.2.2]), (5, [.i x.Code, .i x.At])] [] [] .nil ?_
        have hF := some_elim hF
        exact Wk_ret (hfin _ ⟨[22, 20022], [], [22, 20022], [], [], [(22, ⟨0, true, true, false⟩), (20022, ⟨0, true, true, false⟩)], by first | (rw [← hF]; kernel_rfl) | kernel_rfl⟩)
   ·have hF := ite_f hF hb
    refine Wk_skip ?_
    refine Wk_seq ?_
    refine ZRs [] [2, 3, 4, 5, 6, 7, 98] [2, 3, 4, 5, 6, 7] [22, 20022] [(98, .bool (decide (o.Kind = 2)))] .nil ?_
    refine Wk_split rfl (fun hb => ?_) (fun hb => ?_)
    ·have hF := ite_t hF hb
     refine Wk_seq ?_
     obtain ⟨x10, h15, hF⟩ := ob_elim hF
     refine ZR [.callB (.i x10)] [3, 4, 5, 6, 7, 9] [3, 4, 5, 6, 7] [22, 20022] [(9, .i x10)] (.cons (R_HostIn_ok b o.ID true x10 h15) .nil) ?_
     refine Wk_seq ?_
     refine ZRs [] [3, 4, 5, 6, 7, 9, 104] [3, 4, 5, 6, 7] [22, 20022] [(104, .bool (decide (x10 < 0)))] .nil ?_
     refine Wk_split rfl (fun hb => ?_) (fun hb => ?_)
     ·have hF := ite_t hF hb
      refine Wk_seq ?_
      obtain ⟨x11, h16, hF⟩ := lt_split hF
      refine UR [.callB (.agg [.i x11.Code, .i x11.At])] [4, 5] [4, 5] [] [] [] [(5, [.i x11.Code, .i x11.At])] [] [] (.cons (R_F_ok 6 (-1) x11 h16) .nil) ?_
      have hF := some_elim hF
      refine Wk_nilrowB 4 0 60012 108 3 rfl rfl rfl rfl rfl ?_
      refine Wk_nilrowB 4 1 60013 64 6 rfl rfl rfl rfl rfl ?_
      refine Wk_ren' ⟨[], [(60012, 22), (60013, 20022)], [], []⟩ rfl ?_
      exact Wk_ret (hfin _ ⟨[22, 20022], [], [22, 20022], [], [], [], by first | (rw [← hF]; kernel_rfl) | kernel_rfl⟩)
     ·have hF := ite_f hF hb
      refine Wk_skip ?_
      refine Wk_seq ?_
      obtain ⟨h17, hF⟩ := asrt_elim hF
      obtain ⟨h18, hF⟩ := asrt_elim hF
      refine WRL ((lset x1.1 x10 (⟨(lget x1.1 x10).ID, (lget x1.1 x10).Epoch, false⟩ : Host))) (fun v1 : List Host => ⟨[(3, .ptr 3 0), (4, .ptr 4 0), (5, .ptr 5 0), (6, .ptr 6 0), (7, .ptr 7 0)], [(3, (c_Order o)), (4, [.nils, .nils, .i 0, .i 0]), (5, [.i 0, .i 0]), (6, [.i x.Code, .i x.At]), (7, [.row 22 1, .row 20022 1, .i x1.2.2.1, .i x1.2.2.2])], [(22, .z 108 3 1 (v1.map e_Host)), (20022, .z 64 6 1 (x1.2.1.map e_Slot))], [], []⟩) [.av (e_Host (lget x1.1 x10)), .xs ((lset x1.1 x10 (⟨(lget x1.1 x10).ID, (lget x1.1 x10).Epoch, false⟩ : Host)).map e_Host)] [3, 4, 5, 6, 7] [3, 4, 5, 6, 7] [22, 20022] [] [] [] (.cons (ixr_ok e_Host h17) (.cons (ldr_ok e_Host h18) (.cons (set_ok e_Host x1.1 x10 (⟨(lget x1.1 x10).ID, (lget x1.1 x10).Epoch, false⟩ : Host)) (.cons (Nat.zero_le x10.toNat) .nil)))) (by kernel_rfl) (fun v1 hv => ?_)
      have hF := lt_elim hF hv
      refine Wk_seq ?_
      refine ZRs [] [3, 4, 5, 6, 7, 10] [3, 4, 5, 6, 7] [22, 20022] [(10, .i 0)] .nil ?_
      refine Wk_meetP (fun v2 : List Slot => (⟨[(4, .ptr 4 0), (5, .ptr 5 0), (6, .ptr 6 0), (7, .ptr 7 0)], [(4, [.nils, .nils, .i 0, .i 0]), (5, [.i 0, .i 0]), (6, [.i x.Code, .i x.At]), (7, [.row 22 1, .row 20022 1, .i x1.2.2.1, .i x1.2.2.2])], [(22, .z 108 3 1 (v1.map e_Host)), (20022, .z 64 6 1 (v2.map e_Slot))], [], []⟩ : S)) (fun v2 => R_Ordered_J1 x x1 v1 v2 = some r) ?_ ?_
      ·refine Wk_block ?_
       unfold R_Ordered_L1 at hF
       refine Wk_trim (fs := [3, 4, 5, 6, 7, 10]) (bs := [3, 4, 5, 6, 7]) (rs := [22, 20022]) (ms := []) (aa := []) (nv := []) (t := (fun v3 : List Slot × Int => (⟨[(3, .ptr 3 0), (4, .ptr 4 0), (5, .ptr 5 0), (6, .ptr 6 0), (7, .ptr 7 0), (10, .i v3.2)], [(3, (c_Order o)), (4, [.nils, .nils, .i 0, .i 0]), (5, [.i 0, .i 0]), (6, [.i x.Code, .i x.At]), (7, [.row 22 1, .row 20022 1, .i x1.2.2.1, .i x1.2.2.2])], [(22, .z 108 3 1 (v1.map e_Host)), (20022, .z 64 6 1 (v3.1.map e_Slot))], [], []⟩ : S)) (x1.2.1, 0)) (by kernel_rfl) ?_
       refine Wk_iter (step := fun y => R_Ordered_B1 o x x1 v1 y) (r := r) (fun v3 : List Slot × Int => (⟨[(3, .ptr 3 0), (4, .ptr 4 0), (5, .ptr 5 0), (6, .ptr 6 0), (7, .ptr 7 0), (10, .i v3.2)], [(3, (c_Order o)), (4, [.nils, .nils, .i 0, .i 0]), (5, [.i 0, .i 0]), (6, [.i x.Code, .i x.At]), (7, [.row 22 1, .row 20022 1, .i x1.2.2.1, .i x1.2.2.2])], [(22, .z 108 3 1 (v1.map e_Host)), (20022, .z 64 6 1 (v3.1.map e_Slot))], [], []⟩ : S)) (x1.2.1, 0) hF ?_
       intro n1 v3 y1 hF ih1 dn1
       have hF : R_Ordered_B1 o x x1 v1 v3 = some y1 := hF
       unfold R_Ordered_B1 at hF
       refine Wk_seq ?_
       refine ZRs [.nat (v3.1.length : Int)] [3, 4, 5, 6, 7, 10, 116] [3, 4, 5, 6, 7] [22, 20022] [(116, .bool (decide (v3.2 < (v3.1.length : Int))))] (.cons (len_ok e_Slot v3.1) .nil) ?_
       refine Wk_split rfl (fun hb => ?_) (fun hb => ?_)
       ·have hF := ite_t hF hb
        refine Wk_skip ?_
        refine Wk_seq ?_
        refine Wk_block ?_
        refine Wk_seq ?_
        obtain ⟨h19, hF⟩ := asrt_elim hF
        obtain ⟨h20, hF⟩ := asrt_elim hF
        refine ZD [.av (e_Slot (lget v3.1 v3.2))] [3, 4, 5, 6, 7, 10, 127] [3, 4, 5, 6, 7] [22, 20022] [(127, .bool (decide (((lget v3.1 v3.2).Host) = o.ID)))] (.cons (ixr_ok e_Slot h19) (.cons (ldr_ok e_Slot h20) .nil)) ?_
        obtain ⟨v4, hv, hF⟩ := ob_elim hF
        refine Wk_meet (⟨[(3, .ptr 3 0), (4, .ptr 4 0), (5, .ptr 5 0), (6, .ptr 6 0), (7, .ptr 7 0), (10, .i v3.2)], [(3, (c_Order o)), (4, [.nils, .nils, .i 0, .i 0]), (5, [.i 0, .i 0]), (6, [.i x.Code, .i x.At]), (7, [.row 22 1, .row 20022 1, .i x1.2.2.1, .i x1.2.2.2])], [(22, .z 108 3 1 (v1.map e_Host)), (20022, .z 64 6 1 (v4.map e_Slot))], [], []⟩ : S) ?_ ?_
        ·have hF := hv
         refine Wk_split rfl (fun hb => ?_) (fun hb => ?_)
         ·have hF := ite_t hF hb
          refine Wk_seq ?_
          obtain ⟨h21, hF⟩ := asrt_elim hF
          obtain ⟨h22, hF⟩ := asrt_elim hF
          refine WRL ((lset v3.1 v3.2 (⟨(⟨((lget v3.1 v3.2).Part).From, ((lget v3.1 v3.2).Part).To, ((lget v3.1 v3.2).Part).ID⟩ : Part), (lget v3.1 v3.2).State, 0, (lget v3.1 v3.2).Turn⟩ : Slot))) (fun v5 : List Slot => ⟨[(3, .ptr 3 0), (4, .ptr 4 0), (5, .ptr 5 0), (6, .ptr 6 0), (7, .ptr 7 0), (10, .i v3.2)], [(3, (c_Order o)), (4, [.nils, .nils, .i 0, .i 0]), (5, [.i 0, .i 0]), (6, [.i x.Code, .i x.At]), (7, [.row 22 1, .row 20022 1, .i x1.2.2.1, .i x1.2.2.2])], [(22, .z 108 3 1 (v1.map e_Host)), (20022, .z 64 6 1 (v5.map e_Slot))], [], []⟩) [.av (e_Slot (lget v3.1 v3.2)), .xs ((lset v3.1 v3.2 (⟨(⟨((lget v3.1 v3.2).Part).From, ((lget v3.1 v3.2).Part).To, ((lget v3.1 v3.2).Part).ID⟩ : Part), (lget v3.1 v3.2).State, 0, (lget v3.1 v3.2).Turn⟩ : Slot)).map e_Slot)] [3, 4, 5, 6, 7, 10] [3, 4, 5, 6, 7] [22, 20022] [] [] [] (.cons (ixr_ok e_Slot h21) (.cons (ldr_ok e_Slot h22) (.cons (set_ok e_Slot v3.1 v3.2 (⟨(⟨((lget v3.1 v3.2).Part).From, ((lget v3.1 v3.2).Part).To, ((lget v3.1 v3.2).Part).ID⟩ : Part), (lget v3.1 v3.2).State, 0, (lget v3.1 v3.2).Turn⟩ : Slot)) (.cons (Nat.zero_le v3.2.toNat) .nil)))) (by kernel_rfl) (fun v5 hv => ?_)
          have hF := lt_elim hF hv
          obtain ⟨h23, hF⟩ := asrt_elim hF
          obtain ⟨h24, hF⟩ := asrt_elim hF
          refine WRL ((lset v5 v3.2 (⟨(⟨((lget v5 v3.2).Part).From, ((lget v5 v3.2).Part).To, ((lget v5 v3.2).Part).ID⟩ : Part), 0, (lget v5 v3.2).Host, (lget v5 v3.2).Turn⟩ : Slot))) (fun v6 : List Slot => ⟨[(3, .ptr 3 0), (4, .ptr 4 0), (5, .ptr 5 0), (6, .ptr 6 0), (7, .ptr 7 0), (10, .i v3.2)], [(3, (c_Order o)), (4, [.nils, .nils, .i 0, .i 0]), (5, [.i 0, .i 0]), (6, [.i x.Code, .i x.At]), (7, [.row 22 1, .row 20022 1, .i x1.2.2.1, .i x1.2.2.2])], [(22, .z 108 3 1 (v1.map e_Host)), (20022, .z 64 6 1 (v6.map e_Slot))], [], []⟩) [.av (e_Slot (lget v5 v3.2)), .xs ((lset v5 v3.2 (⟨(⟨((lget v5 v3.2).Part).From, ((lget v5 v3.2).Part).To, ((lget v5 v3.2).Part).ID⟩ : Part), 0, (lget v5 v3.2).Host, (lget v5 v3.2).Turn⟩ : Slot)).map e_Slot)] [3, 4, 5, 6, 7, 10] [3, 4, 5, 6, 7] [22, 20022] [] [] [] (.cons (ixr_ok e_Slot h23) (.cons (ldr_ok e_Slot h24) (.cons (set_ok e_Slot v5 v3.2 (⟨(⟨((lget v5 v3.2).Part).From, ((lget v5 v3.2).Part).To, ((lget v5 v3.2).Part).ID⟩ : Part), 0, (lget v5 v3.2).Host, (lget v5 v3.2).Turn⟩ : Slot)) (.cons (Nat.zero_le v3.2.toNat) .nil)))) (by kernel_rfl) (fun v6 hv => ?_)
          have hF := lt_elim hF hv
          exact Wk_met (fs := [3, 4, 5, 6, 7, 10]) (bs := [3, 4, 5, 6, 7]) (rs := [22, 20022]) (ms := []) (aa := []) (nv := []) (by first | (rw [← some_elim hF]; kernel_rfl) | kernel_rfl)
         ·have hF := ite_f hF hb
          refine Wk_skip ?_
          exact Wk_met (fs := [3, 4, 5, 6, 7, 10]) (bs := [3, 4, 5, 6, 7]) (rs := [22, 20022]) (ms := []) (aa := []) (nv := []) (by first | (rw [← some_elim hF]; kernel_rfl) | kernel_rfl)
        ·refine Wk_blk ?_
         refine ZR [] [3, 4, 5, 6, 7, 10] [3, 4, 5, 6, 7] [22, 20022] [(10, .i (w64 (v3.2 + 1)))] .nil ?_
         refine Wk_trim (fs := [3, 4, 5, 6, 7, 10]) (bs := [3, 4, 5, 6, 7]) (rs := [22, 20022]) (ms := []) (aa := []) (nv := []) ?_ (ih1 _ (some_elim hF).symm)
         kernel_rfl
       ·have hF := ite_f hF hb
        refine Wk_exit rfl ?_
        have hF := inrO_done hF dn1
        exact Wk_metP v3.1 [4, 5, 6, 7] [4, 5, 6, 7] [22, 20022] [] [] [] hF (by kernel_rfl)
      ·intro v2 hF
       have hF : R_Ordered_J1 x x1 v1 v2 = some r := hF
       unfold R_Ordered_J1 at hF
       refine UDs [] [4, 5] [4, 5] [22, 20022] [] [] [(4, [.row 22 1, .row 20022 1, .i x1.2.2.1, .i x1.2.2.2]), (5, [.i x.Code, .i x.At])] [] [] .nil ?_
       have hF := some_elim hF
       exact Wk_ret (hfin _ ⟨[22, 20022], [], [22, 20022], [], [], [(22, ⟨0, true, true, false⟩), (20022, ⟨0, true, true, false⟩)], by first | (rw [← hF]; kernel_rfl) | kernel_rfl⟩)
    ·have hF := ite_f hF hb
     refine Wk_skip ?_
     refine Wk_seq ?_
     obtain ⟨x12, h25, hF⟩ := ob_elim hF
     refine ZR [.callB (.i x12)] [2, 3, 4, 5, 6, 7, 11] [2, 3, 4, 5, 6, 7] [22, 20022] [(11, .i x12)] (.cons (R_SlotIn_ok b o.ID x12 h25) .nil) ?_
     refine Wk_seq ?_
     refine ZRs [.nat (b.Slots.length : Int)] [2, 3, 4, 5, 6, 7, 11, 158] [2, 3, 4, 5, 6, 7] [22, 20022] [(158, .bool ((decide (x12 < 0)) || ((decide (o.Kind = 8)) && (decide ((b.Slots.length : Int) ≤ (w64 (x12 + 1)))))))] (.cons (fun (_ : (decide (o.Kind = 8)) = true) (_ : (!(decide (x12 < 0))) = true) => (len_ok e_Slot b.Slots)) .nil) ?_
     refine Wk_split rfl (fun hb => ?_) (fun hb => ?_)
     ·have hF := ite_t hF hb
      refine Wk_seq ?_
      obtain ⟨x13, h26, hF⟩ := lt_split hF
      refine UR [.callB (.agg [.i x13.Code, .i x13.At])] [4, 5] [4, 5] [] [] [] [(5, [.i x13.Code, .i x13.At])] [] [] (.cons (R_F_ok 6 (-1) x13 h26) .nil) ?_
      have hF := some_elim hF
      refine Wk_nilrowB 4 0 60014 108 3 rfl rfl rfl rfl rfl ?_
      refine Wk_nilrowB 4 1 60015 64 6 rfl rfl rfl rfl rfl ?_
      refine Wk_ren' ⟨[], [(60014, 22), (60015, 20022)], [], []⟩ rfl ?_
      exact Wk_ret (hfin _ ⟨[22, 20022], [], [22, 20022], [], [], [], by first | (rw [← hF]; kernel_rfl) | kernel_rfl⟩)
     ·have hF := ite_f hF hb
      refine Wk_skip ?_
      refine Wk_seq ?_
      obtain ⟨h27, hF⟩ := asrt_elim hF
      refine UR [.av (e_Slot (lget b.Slots x12))] [2, 3, 4, 5, 6, 7, 11, 12] [2, 3, 4, 5, 6, 7, 12] [22, 20022] [] [(12, .ptr 12 0)] [(12, [.str (((lget b.Slots x12).Part).From), .str (((lget b.Slots x12).Part).To), .i (((lget b.Slots x12).Part).ID), .i ((lget b.Slots x12).State), .i ((lget b.Slots x12).Host), .i ((lget b.Slots x12).Turn)])] [] [] (.cons (idx_ok e_Slot h27) .nil) ?_
      refine Wk_seq ?_
      refine Wk_seq ?_
      obtain ⟨x14, h28, hF⟩ := ob_elim hF
      refine ZR [.callB (.i x14)] [2, 3, 4, 5, 6, 7, 11, 12, 175] [2, 3, 4, 5, 6, 7, 12] [22, 20022] [(175, .bool ((decide (o.Kind = 3)) && (decide (x14 < 0))))] (.cons (fun (ga0 : (decide (o.Kind = 3)) = true) => (R_HostIn_ok b o.Host true x14 (ite_t h28 ga0))) .nil) ?_
      refine Wk_split rfl (fun hb => ?_) (fun hb => ?_)
      ·have hF := ite_t hF hb
       refine Wk_seq ?_
       obtain ⟨x15, h29, hF⟩ := lt_split hF
       refine UR [.callB (.agg [.i x15.Code, .i x15.At])] [4, 5] [4, 5] [] [] [] [(5, [.i x15.Code, .i x15.At])] [] [] (.cons (R_F_ok 6 (-2) x15 h29) .nil) ?_
       have hF := some_elim hF
       refine Wk_nilrowB 4 0 60016 108 3 rfl rfl rfl rfl rfl ?_
       refine Wk_nilrowB 4 1 60017 64 6 rfl rfl rfl rfl rfl ?_
       refine Wk_ren' ⟨[], [(60016, 22), (60017, 20022)], [], []⟩ rfl ?_
       exact Wk_ret (hfin _ ⟨[22, 20022], [], [22, 20022], [], [], [], by first | (rw [← hF]; kernel_rfl) | kernel_rfl⟩)
      ·have hF := ite_f hF hb
       refine Wk_skip ?_
       refine Wk_seq ?_
       refine ZRs [] [2, 3, 4, 5, 6, 7, 11, 12, 199] [2, 3, 4, 5, 6, 7, 12] [22, 20022] [(199, .bool (((decide (o.Kind = 4)) || (decide (o.Kind = 6))) && ((!decide (((lget b.Slots x12).Host) = o.Host)) || (!decide (((lget b.Slots x12).Turn) = o.Turn)))))] .nil ?_
       refine Wk_split rfl (fun hb => ?_) (fun hb => ?_)
       ·have hF := ite_t hF hb
        refine Wk_seq ?_
        obtain ⟨x16, h30, hF⟩ := lt_split hF
        refine UR [.callB (.agg [.i x16.Code, .i x16.At])] [4, 5] [4, 5] [] [] [] [(5, [.i x16.Code, .i x16.At])] [] [] (.cons (R_F_ok 12 (-1) x16 h30) .nil) ?_
        have hF := some_elim hF
        refine Wk_nilrowB 4 0 60018 108 3 rfl rfl rfl rfl rfl ?_
        refine Wk_nilrowB 4 1 60019 64 6 rfl rfl rfl rfl rfl ?_
        refine Wk_ren' ⟨[], [(60018, 22), (60019, 20022)], [], []⟩ rfl ?_
        exact Wk_ret (hfin _ ⟨[22, 20022], [], [22, 20022], [], [], [], by first | (rw [← hF]; kernel_rfl) | kernel_rfl⟩)
       ·have hF := ite_f hF hb
        refine Wk_skip ?_
        refine ZRs [.sealed] [2, 3, 4, 5, 6, 7, 11, 12, 13] [2, 3, 4, 5, 6, 7, 12] [22, 20022] [(13, .sl 1 (([0, 0, 0, 0, 1, 2, 3, 0, 0] : List Int).map e_i64))] .nil ?_
        refine Wk_seq ?_
        refine Wk_seq ?_
        obtain ⟨h31, hF⟩ := asrt_elim hF
        obtain ⟨h32, hF⟩ := asrt_elim hF
        refine ZD [.av (e_i64 (lget ([0, 0, 0, 0, 1, 2, 3, 0, 0] : List Int) o.Kind)), .av (e_Slot (lget b.Slots (w64 (x12 + 1))))] [2, 3, 4, 5, 6, 7, 11, 12, 225] [2, 3, 4, 5, 6, 7, 12] [22, 20022] [(225, .bool ((!decide (((lget b.Slots x12).State) = (lget ([0, 0, 0, 0, 1, 2, 3, 0, 0] : List Int) o.Kind))) || ((decide (o.Kind = 8)) && (!decide (((lget b.Slots (w64 (x12 + 1))).State) = 0)))))] (.cons (idx_ok e_i64 h31) (.cons (fun (ga0 : (decide (o.Kind = 8)) = true) (ga1 : (!(!decide (((lget b.Slots x12).State) = (lget ([0, 0, 0, 0, 1, 2, 3, 0, 0] : List Int) o.Kind)))) = true) => (idx_ok e_Slot (h32 ga0 ga1))) .nil)) ?_
        refine Wk_split rfl (fun hb => ?_) (fun hb => ?_)
        ·have hF := ite_t hF hb
         refine Wk_seq ?_
         obtain ⟨x17, h33, hF⟩ := lt_split hF
         refine UR [.callB (.agg [.i x17.Code, .i x17.At])] [4, 5] [4, 5] [] [] [] [(5, [.i x17.Code, .i x17.At])] [] [] (.cons (R_F_ok 11 (-1) x17 h33) .nil) ?_
         have hF := some_elim hF
         refine Wk_nilrowB 4 0 60020 108 3 rfl rfl rfl rfl rfl ?_
         refine Wk_nilrowB 4 1 60021 64 6 rfl rfl rfl rfl rfl ?_
         refine Wk_ren' ⟨[], [(60020, 22), (60021, 20022)], [], []⟩ rfl ?_
         exact Wk_ret (hfin _ ⟨[22, 20022], [], [22, 20022], [], [], [], by first | (rw [← hF]; kernel_rfl) | kernel_rfl⟩)
        ·have hF := ite_f hF hb
         refine Wk_skip ?_
         refine Wk_seq ?_
         refine ZRs [] [2, 3, 4, 5, 6, 7, 11, 12, 229] [2, 3, 4, 5, 6, 7, 12] [22, 20022] [(229, .i o.Kind)] .nil ?_
         refine Wk_block ?_
         refine ZRs [] [2, 3, 4, 5, 6, 7, 11, 12, 229, 230] [2, 3, 4, 5, 6, 7, 12] [22, 20022] [(230, .bool (decide (o.Kind = 3)))] .nil ?_
         refine Wk_meetP (fun v7 : List Slot × Int × Int => (⟨[(4, .ptr 4 0), (5, .ptr 5 0), (6, .ptr 6 0), (7, .ptr 7 0)], [(4, [.nils, .nils, .i 0, .i 0]), (5, [.i 0, .i 0]), (6, [.i x.Code, .i x.At]), (7, [.row 22 1, .row 20022 0, .i v7.2.1, .i v7.2.2])], [(22, .z 108 3 1 (x1.1.map e_Host)), (20022, .z 64 6 0 (v7.1.map e_Slot))], [], []⟩ : S)) (fun v7 => R_Ordered_J2 x x1 v7 = some r) ?_ ?_
         ·refine Wk_split rfl (fun hb => ?_) (fun hb => ?_)
          ·have hF := ite_t hF hb
           refine Wk_seq ?_
           refine ZRs [] [2, 3, 4, 5, 6, 7, 11, 12, 234] [2, 3, 4, 5, 6, 7, 12] [22, 20022] [(234, .bool (decide (1000000000 ≤ b.Turn)))] .nil ?_
           refine Wk_split rfl (fun hb => ?_) (fun hb => ?_)
           ·have hF := ite_t hF hb
            refine Wk_seq ?_
            obtain ⟨x19, h35, hF⟩ := lt_split hF
            refine UR [.callB (.agg [.i x19.Code, .i x19.At])] [4, 5] [4, 5] [] [] [] [(5, [.i x19.Code, .i x19.At])] [] [] (.cons (R_F_ok 9 0 x19 h35) .nil) ?_
            have hF := some_elim hF
            refine Wk_nilrowB 4 0 60024 108 3 rfl rfl rfl rfl rfl ?_
            refine Wk_nilrowB 4 1 60025 64 6 rfl rfl rfl rfl rfl ?_
            refine Wk_ren' ⟨[], [(60024, 22), (60025, 20022)], [], []⟩ rfl ?_
            exact Wk_ret (hfin _ ⟨[22, 20022], [], [22, 20022], [], [], [], by first | (rw [← hF]; kernel_rfl) | kernel_rfl⟩)
           ·have hF := ite_f hF hb
            refine Wk_skip ?_
            refine URs [] [3, 4, 5, 6, 7, 11, 12] [3, 4, 5, 6, 7, 12] [22, 20022] [] [] [(7, [.row 22 1, .row 20022 1, .i (w64 (b.Turn + 1)), .i x1.2.2.2])] [] [] .nil ?_
            obtain ⟨h36, hF⟩ := asrt_elim hF
            obtain ⟨h37, hF⟩ := asrt_elim hF
            refine WRL ((lset x1.2.1 x12 (⟨(⟨((lget b.Slots x12).Part).From, ((lget b.Slots x12).Part).To, ((lget b.Slots x12).Part).ID⟩ : Part), 1, o.Host, w64 (b.Turn + 1)⟩ : Slot))) (fun v8 : List Slot => ⟨[(4, .ptr 4 0), (5, .ptr 5 0), (6, .ptr 6 0), (7, .ptr 7 0)], [(4, [.nils, .nils, .i 0, .i 0]), (5, [.i 0, .i 0]), (6, [.i x.Code, .i x.At]), (7, [.row 22 1, .row 20022 1, .i (w64 (b.Turn + 1)), .i x1.2.2.2])], [(22, .z 108 3 1 (x1.1.map e_Host)), (20022, .z 64 6 1 (v8.map e_Slot))], [], []⟩) [.av (e_Slot (lget x1.2.1 x12)), .xs ((lset x1.2.1 x12 (⟨(⟨((lget b.Slots x12).Part).From, ((lget b.Slots x12).Part).To, ((lget b.Slots x12).Part).ID⟩ : Part), 1, o.Host, w64 (b.Turn + 1)⟩ : Slot)).map e_Slot)] [4, 5, 6, 7] [4, 5, 6, 7] [22, 20022] [] [] [] (.cons (ixr_ok e_Slot h36) (.cons (ldr_ok e_Slot h37) (.cons (set_ok e_Slot x1.2.1 x12 (⟨(⟨((lget b.Slots x12).Part).From, ((lget b.Slots x12).Part).To, ((lget b.Slots x12).Part).ID⟩ : Part), 1, o.Host, w64 (b.Turn + 1)⟩ : Slot)) (.cons (Nat.zero_le x12.toNat) .nil)))) (by kernel_rfl) (fun v8 hv => ?_)
            have hF := lt_elim hF hv
            exact Wk_metP (v8, w64 (b.Turn + 1), x1.2.2.2) [4, 5, 6, 7] [4, 5, 6, 7] [22, 20022] [] [] [(20022, ⟨0, true, true, false⟩)] hF (by kernel_rfl)
          ·have hF := ite_f hF hb
           refine ZRs [] [2, 3, 4, 5, 6, 7, 11, 12, 229, 252] [2, 3, 4, 5, 6, 7, 12] [22, 20022] [(252, .bool (decide (o.Kind = 4)))] .nil ?_
           refine Wk_split rfl (fun hb => ?_) (fun hb => ?_)
           ·have hF := ite_t hF hb
            obtain ⟨h38, hF⟩ := asrt_elim hF
            obtain ⟨h39, hF⟩ := asrt_elim hF
            refine WRL ((lset x1.2.1 x12 (⟨(⟨((lget x1.2.1 x12).Part).From, ((lget x1.2.1 x12).Part).To, ((lget x1.2.1 x12).Part).ID⟩ : Part), 2, (lget x1.2.1 x12).Host, (lget x1.2.1 x12).Turn⟩ : Slot))) (fun v9 : List Slot => ⟨[(4, .ptr 4 0), (5, .ptr 5 0), (6, .ptr 6 0), (7, .ptr 7 0)], [(4, [.nils, .nils, .i 0, .i 0]), (5, [.i 0, .i 0]), (6, [.i x.Code, .i x.At]), (7, [.row 22 1, .row 20022 1, .i x1.2.2.1, .i x1.2.2.2])], [(22, .z 108 3 1 (x1.1.map e_Host)), (20022, .z 64 6 1 (v9.map e_Slot))], [], []⟩) [.av (e_Slot (lget x1.2.1 x12)), .xs ((lset x1.2.1 x12 (⟨(⟨((lget x1.2.1 x12).Part).From, ((lget x1.2.1 x12).Part).To, ((lget x1.2.1 x12).Part).ID⟩ : Part), 2, (lget x1.2.1 x12).Host, (lget x1.2.1 x12).Turn⟩ : Slot)).map e_Slot)] [4, 5, 6, 7] [4, 5, 6, 7] [22, 20022] [] [] [] (.cons (ixr_ok e_Slot h38) (.cons (ldr_ok e_Slot h39) (.cons (set_ok e_Slot x1.2.1 x12 (⟨(⟨((lget x1.2.1 x12).Part).From, ((lget x1.2.1 x12).Part).To, ((lget x1.2.1 x12).Part).ID⟩ : Part), 2, (lget x1.2.1 x12).Host, (lget x1.2.1 x12).Turn⟩ : Slot)) (.cons (Nat.zero_le x12.toNat) .nil)))) (by kernel_rfl) (fun v9 hv => ?_)
            have hF := lt_elim hF hv
            exact Wk_metP (v9, x1.2.2.1, x1.2.2.2) [4, 5, 6, 7] [4, 5, 6, 7] [22, 20022] [] [] [(20022, ⟨0, true, true, false⟩)] hF (by kernel_rfl)
           ·have hF := ite_f hF hb
            refine ZRs [] [2, 3, 4, 5, 6, 7, 11, 12, 229, 259] [2, 3, 4, 5, 6, 7, 12] [22, 20022] [(259, .bool (decide (o.Kind = 5)))] .nil ?_
            refine Wk_split rfl (fun hb => ?_) (fun hb => ?_)
            ·have hF := ite_t hF hb
             obtain ⟨h40, hF⟩ := asrt_elim hF
             obtain ⟨h41, hF⟩ := asrt_elim hF
             refine WRL ((lset x1.2.1 x12 (⟨(⟨((lget x1.2.1 x12).Part).From, ((lget x1.2.1 x12).Part).To, ((lget x1.2.1 x12).Part).ID⟩ : Part), 3, (lget x1.2.1 x12).Host, (lget x1.2.1 x12).Turn⟩ : Slot))) (fun v10 : List Slot => ⟨[(4, .ptr 4 0), (5, .ptr 5 0), (6, .ptr 6 0), (7, .ptr 7 0)], [(4, [.nils, .nils, .i 0, .i 0]), (5, [.i 0, .i 0]), (6, [.i x.Code, .i x.At]), (7, [.row 22 1, .row 20022 1, .i x1.2.2.1, .i x1.2.2.2])], [(22, .z 108 3 1 (x1.1.map e_Host)), (20022, .z 64 6 1 (v10.map e_Slot))], [], []⟩) [.av (e_Slot (lget x1.2.1 x12)), .xs ((lset x1.2.1 x12 (⟨(⟨((lget x1.2.1 x12).Part).From, ((lget x1.2.1 x12).Part).To, ((lget x1.2.1 x12).Part).ID⟩ : Part), 3, (lget x1.2.1 x12).Host, (lget x1.2.1 x12).Turn⟩ : Slot)).map e_Slot)] [4, 5, 6, 7] [4, 5, 6, 7] [22, 20022] [] [] [] (.cons (ixr_ok e_Slot h40) (.cons (ldr_ok e_Slot h41) (.cons (set_ok e_Slot x1.2.1 x12 (⟨(⟨((lget x1.2.1 x12).Part).From, ((lget x1.2.1 x12).Part).To, ((lget x1.2.1 x12).Part).ID⟩ : Part), 3, (lget x1.2.1 x12).Host, (lget x1.2.1 x12).Turn⟩ : Slot)) (.cons (Nat.zero_le x12.toNat) .nil)))) (by kernel_rfl) (fun v10 hv => ?_)
             have hF := lt_elim hF hv
             exact Wk_metP (v10, x1.2.2.1, x1.2.2.2) [4, 5, 6, 7] [4, 5, 6, 7] [22, 20022] [] [] [(20022, ⟨0, true, true, false⟩)] hF (by kernel_rfl)
            ·have hF := ite_f hF hb
             refine ZRs [] [2, 3, 4, 5, 6, 7, 11, 12, 229, 266] [2, 3, 4, 5, 6, 7, 12] [22, 20022] [(266, .bool (decide (o.Kind = 6)))] .nil ?_
             refine Wk_split rfl (fun hb => ?_) (fun hb => ?_)
             ·have hF := ite_t hF hb
              obtain ⟨h42, hF⟩ := asrt_elim hF
              obtain ⟨h43, hF⟩ := asrt_elim hF
              refine WRL ((lset x1.2.1 x12 (⟨(⟨((lget b.Slots x12).Part).From, ((lget b.Slots x12).Part).To, ((lget b.Slots x12).Part).ID⟩ : Part), 0, 0, (lget b.Slots x12).Turn⟩ : Slot))) (fun v11 : List Slot => ⟨[(4, .ptr 4 0), (5, .ptr 5 0), (6, .ptr 6 0), (7, .ptr 7 0)], [(4, [.nils, .nils, .i 0, .i 0]), (5, [.i 0, .i 0]), (6, [.i x.Code, .i x.At]), (7, [.row 22 1, .row 20022 1, .i x1.2.2.1, .i x1.2.2.2])], [(22, .z 108 3 1 (x1.1.map e_Host)), (20022, .z 64 6 1 (v11.map e_Slot))], [], []⟩) [.av (e_Slot (lget x1.2.1 x12)), .xs ((lset x1.2.1 x12 (⟨(⟨((lget b.Slots x12).Part).From, ((lget b.Slots x12).Part).To, ((lget b.Slots x12).Part).ID⟩ : Part), 0, 0, (lget b.Slots x12).Turn⟩ : Slot)).map e_Slot)] [4, 5, 6, 7] [4, 5, 6, 7] [22, 20022] [] [] [] (.cons (ixr_ok e_Slot h42) (.cons (ldr_ok e_Slot h43) (.cons (set_ok e_Slot x1.2.1 x12 (⟨(⟨((lget b.Slots x12).Part).From, ((lget b.Slots x12).Part).To, ((lget b.Slots x12).Part).ID⟩ : Part), 0, 0, (lget b.Slots x12).Turn⟩ : Slot)) (.cons (Nat.zero_le x12.toNat) .nil)))) (by kernel_rfl) (fun v11 hv => ?_)
              have hF := lt_elim hF hv
              exact Wk_metP (v11, x1.2.2.1, x1.2.2.2) [4, 5, 6, 7] [4, 5, 6, 7] [22, 20022] [] [] [(20022, ⟨0, true, true, false⟩)] hF (by kernel_rfl)
             ·have hF := ite_f hF hb
              refine ZRs [] [2, 3, 4, 5, 6, 7, 11, 12, 229, 277] [2, 3, 4, 5, 6, 7, 12] [22, 20022] [(277, .bool (decide (o.Kind = 7)))] .nil ?_
              refine Wk_split rfl (fun hb => ?_) (fun hb => ?_)
              ·have hF := ite_t hF hb
               refine Wk_seq ?_
               refine ZRs [] [2, 3, 4, 5, 6, 7, 11, 12, 282] [2, 3, 4, 5, 6, 7, 12] [22, 20022] [(282, .bool (decide (40 < (o.Row.length : Int))))] .nil ?_
               refine Wk_split rfl (fun hb => ?_) (fun hb => ?_)
               ·have hF := ite_t hF hb
                refine Wk_seq ?_
                obtain ⟨x20, h44, hF⟩ := lt_split hF
                refine UR [.callB (.agg [.i x20.Code, .i x20.At])] [4, 5] [4, 5] [] [] [] [(5, [.i x20.Code, .i x20.At])] [] [] (.cons (R_F_ok 8 (-2) x20 h44) .nil) ?_
                have hF := some_elim hF
                refine Wk_nilrowB 4 0 60026 108 3 rfl rfl rfl rfl rfl ?_
                refine Wk_nilrowB 4 1 60027 64 6 rfl rfl rfl rfl rfl ?_
                refine Wk_ren' ⟨[], [(60026, 22), (60027, 20022)], [], []⟩ rfl ?_
                exact Wk_ret (hfin _ ⟨[22, 20022], [], [22, 20022], [], [], [], by first | (rw [← hF]; kernel_rfl) | kernel_rfl⟩)
               ·have hF := ite_f hF hb
                refine Wk_skip ?_
                refine Wk_seq ?_
                refine Wk_seq ?_
                obtain ⟨x21, h45, hF⟩ := lt_split hF
                refine ZR [.callB (.bool x21)] [2, 3, 4, 5, 6, 7, 11, 12, 298] [2, 3, 4, 5, 6, 7, 12] [22, 20022] [(298, .bool ((decide (o.Row = (((lget b.Slots x12).Part).From))) || (!x21)))] (.cons (fun (ga0 : (!(decide (o.Row = (((lget b.Slots x12).Part).From)))) = true) => (R_InPart_ok (⟨((lget b.Slots x12).Part).From, ((lget b.Slots x12).Part).To, ((lget b.Slots x12).Part).ID⟩ : Part) o.Row x21 h45)) .nil) ?_
                refine Wk_split rfl (fun hb => ?_) (fun hb => ?_)
                ·have hF := ite_t hF hb
                 refine Wk_seq ?_
                 obtain ⟨x22, h46, hF⟩ := lt_split hF
                 refine UR [.callB (.agg [.i x22.Code, .i x22.At])] [4, 5] [4, 5] [] [] [] [(5, [.i x22.Code, .i x22.At])] [] [] (.cons (R_F_ok 5 (-2) x22 h46) .nil) ?_
                 have hF := some_elim hF
                 refine Wk_nilrowB 4 0 60028 108 3 rfl rfl rfl rfl rfl ?_
                 refine Wk_nilrowB 4 1 60029 64 6 rfl rfl rfl rfl rfl ?_
                 refine Wk_ren' ⟨[], [(60028, 22), (60029, 20022)], [], []⟩ rfl ?_
                 exact Wk_ret (hfin _ ⟨[22, 20022], [], [22, 20022], [], [], [], by first | (rw [← hF]; kernel_rfl) | kernel_rfl⟩)
                ·have hF := ite_f hF hb
                 refine Wk_skip ?_
                 refine Wk_seq ?_
                 refine ZRs [.nat (b.Slots.length : Int)] [2, 3, 4, 5, 6, 7, 11, 12, 304] [2, 3, 4, 5, 6, 7, 12] [22, 20022] [(304, .bool (decide (200 ≤ (b.Slots.length : Int))))] (.cons (len_ok e_Slot b.Slots) .nil) ?_
                 refine Wk_split rfl (fun hb => ?_) (fun hb => ?_)
                 ·have hF := ite_t hF hb
                  refine Wk_seq ?_
                  obtain ⟨x23, h47, hF⟩ := lt_split hF
                  refine UR [.callB (.agg [.i x23.Code, .i x23.At])] [4, 5] [4, 5] [] [] [] [(5, [.i x23.Code, .i x23.At])] [] [] (.cons (R_F_ok 2 (-1) x23 h47) .nil) ?_
                  have hF := some_elim hF
                  refine Wk_nilrowB 4 0 60030 108 3 rfl rfl rfl rfl rfl ?_
                  refine Wk_nilrowB 4 1 60031 64 6 rfl rfl rfl rfl rfl ?_
                  refine Wk_ren' ⟨[], [(60030, 22), (60031, 20022)], [], []⟩ rfl ?_
                  exact Wk_ret (hfin _ ⟨[22, 20022], [], [22, 20022], [], [], [], by first | (rw [← hF]; kernel_rfl) | kernel_rfl⟩)
                 ·have hF := ite_f hF hb
                  refine Wk_skip ?_
                  refine URs [] [2, 3, 4, 5, 6, 7, 11, 12] [2, 3, 4, 5, 6, 7, 12] [22, 20022] [] [] [(7, [.row 22 1, .row 20022 1, .i x1.2.2.1, .i (w64 (b.Next + 2))])] [] [] .nil ?_
                  obtain ⟨x24, h48, hF⟩ := ob_elim hF
                  refine UR [.sealed, .callE [] [] [] [] (.row 334 3) ⟨[], [], [(334, .z 64 6 3 (x24.map e_Slot))], [], []⟩] [4, 5, 6, 7] [4, 5, 6, 7] [22, 334] [] [] [(7, [.row 22 1, .row 334 3, .i x1.2.2.1, .i (w64 (b.Next + 2))])] [(334, .z 64 6 3 (x24.map e_Slot))] [] (.cons (Pe.ren (R_SlotsInstead_ok b.Slots x12 1 [(⟨(⟨((lget b.Slots x12).Part).From, o.Row, b.Next⟩ : Part), 0, 0, 0⟩ : Slot), (⟨(⟨o.Row, ((lget b.Slots x12).Part).To, w64 (b.Next + 1)⟩ : Part), 0, 0, 0⟩ : Slot)] x24 h48) ⟨[], [(13, 334)], [], []⟩) .nil) ?_
                  refine Wk_trim (fs := [4, 5, 6, 7]) (bs := [4, 5, 6, 7]) (rs := [22, 334]) (ms := []) (aa := []) (nv := []) rfl ?_
                  refine Wk_ren' ⟨[], [(334, 20022)], [], []⟩ rfl ?_
                  exact Wk_metP (x24, x1.2.2.1, w64 (b.Next + 2)) [4, 5, 6, 7] [4, 5, 6, 7] [22, 20022] [] [] [(20022, ⟨0, true, true, false⟩)] hF (by kernel_rfl)
              ·have hF := ite_f hF hb
               refine ZRs [] [2, 4, 5, 6, 7, 11, 12, 336] [2, 4, 5, 6, 7, 12] [22, 20022] [(336, .bool (decide (o.Kind = 8)))] .nil ?_
               refine Wk_split rfl (fun hb => ?_) (fun hb => ?_)
               ·have hF := ite_t hF hb
                refine URs [] [2, 4, 5, 6, 7, 11, 12] [2, 4, 5, 6, 7, 12] [22, 20022] [] [] [(7, [.row 22 1, .row 20022 1, .i x1.2.2.1, .i (w64 (b.Next + 1))])] [] [] .nil ?_
                obtain ⟨h49, hF⟩ := asrt_elim hF
                obtain ⟨x25, h50, hF⟩ := ob_elim hF
                refine UD [.av (e_Slot (lget b.Slots (w64 (x12 + 1)))), .sealed, .callE [] [] [] [] (.row 361 3) ⟨[], [], [(361, .z 64 6 3 (x25.map e_Slot))], [], []⟩] [4, 5, 6, 7] [4, 5, 6, 7] [22, 361] [] [] [(7, [.row 22 1, .row 361 3, .i x1.2.2.1, .i (w64 (b.Next + 1))])] [(361, .z 64 6 3 (x25.map e_Slot))] [] (.cons (idx_ok e_Slot h49) (.cons (Pe.ren (R_SlotsInstead_ok b.Slots x12 2 [(⟨(⟨((lget b.Slots x12).Part).From, ((lget b.Slots (w64 (x12 + 1))).Part).To, b.Next⟩ : Part), 0, 0, 0⟩ : Slot)] x25 h50) ⟨[], [(13, 361)], [], []⟩) .nil)) ?_
                refine Wk_trim (fs := [4, 5, 6, 7]) (bs := [4, 5, 6, 7]) (rs := [22, 361]) (ms := []) (aa := []) (nv := []) rfl ?_
                refine Wk_ren' ⟨[], [(361, 20022)], [], []⟩ rfl ?_
                exact Wk_metP (x25, x1.2.2.1, w64 (b.Next + 1)) [4, 5, 6, 7] [4, 5, 6, 7] [22, 20022] [] [] [(20022, ⟨0, true, true, false⟩)] hF (by kernel_rfl)
               ·have hF := ite_f hF hb
                refine Wk_skip ?_
                exact Wk_metP (x1.2.1, x1.2.2.1, x1.2.2.2) [4, 5, 6, 7] [4, 5, 6, 7] [22, 20022] [] [] [(20022, ⟨0, true, true, false⟩)] hF (by kernel_rfl)
         ·intro v7 hF
          have hF : R_Ordered_J2 x x1 v7 = some r := hF
          unfold R_Ordered_J2 at hF
          refine Wk_blk ?_
          refine Wk_seq ?_
          refine ZRs [] [4, 5, 6, 7, 365] [4, 5, 6, 7] [22, 20022] [(365, .bool (decide (1000000000 < v7.2.2)))] .nil ?_
          refine Wk_split rfl (fun hb => ?_) (fun hb => ?_)
          ·have hF := ite_t hF hb
           refine Wk_seq ?_
           obtain ⟨x18, h34, hF⟩ := lt_split hF
           refine UR [.callB (.agg [.i x18.Code, .i x18.At])] [4, 5] [4, 5] [] [] [] [(5, [.i x18.Code, .i x18.At])] [] [] (.cons (R_F_ok 9 0 x18 h34) .nil) ?_
           have hF := some_elim hF
           refine Wk_nilrowB 4 0 60022 108 3 rfl rfl rfl rfl rfl ?_
           refine Wk_nilrowB 4 1 60023 64 6 rfl rfl rfl rfl rfl ?_
           refine Wk_ren' ⟨[], [(60022, 22), (60023, 20022)], [], []⟩ rfl ?_
           exact Wk_ret (hfin _ ⟨[22, 20022], [], [22, 20022], [], [], [], by first | (rw [← hF]; kernel_rfl) | kernel_rfl⟩)
          ·have hF := ite_f hF hb
           refine Wk_skip ?_
           refine UDs [] [4, 5] [4, 5] [22, 20022] [] [] [(4, [.row 22 1, .row 20022 0, .i v7.2.1, .i v7.2.2]), (5, [.i x.Code, .i x.At])] [] [] .nil ?_
           have hF := some_elim hF
           exact Wk_ret (hfin _ ⟨[22, 20022], [], [22, 20022], [], [], [(22, ⟨0, true, true, false⟩)], by first | (rw [← hF]; kernel_rfl) | kernel_rfl⟩)

/- tabularyref.Boards -/
noncomputable def R_Boards_v1_J1 (v1 : List Board × List Fault) : Option (List Board × List Fault) :=
 some (v1.1, v1.2)
noncomputable def R_Boards_v1_B1 (orders : List Order) (v2 : List Board × List Fault × Int) : Option ((List Board × List Fault × Int) ⊕ (List Board × List Fault)) :=
 if (decide (v2.2.2 < (orders.length : Int))) = true then
  asrt (0 ≤ v2.2.2 ∧ v2.2.2 < (v2.1.length : Int)) <|
  asrt (0 ≤ v2.2.2 ∧ v2.2.2 < (v2.1.length : Int)) <|
  asrt (0 ≤ v2.2.2 ∧ v2.2.2 < (orders.length : Int)) <|
  ob (R_Ordered (⟨(lget v2.1 v2.2.2).Hosts, (lget v2.1 v2.2.2).Slots, (lget v2.1 v2.2.2).Turn, (lget v2.1 v2.2.2).Next⟩ : Board) (⟨(lget orders v2.2.2).Kind, (lget orders v2.2.2).ID, (lget orders v2.2.2).Host, (lget orders v2.2.2).Turn, (lget orders v2.2.2).Row⟩ : Order)) fun x =>
  asrt (((v2.2.1 ++ [x.2.2.2.2]).length : Int) * 16 ≤ 140737488351232) <|
  ob (
   if (!decide (x.2.2.2.2.Code = 0)) = true then
    asrt (0 ≤ v2.2.2 ∧ v2.2.2 < (v2.1.length : Int)) <|
    asrt (0 ≤ v2.2.2 ∧ v2.2.2 < (v2.1.length : Int)) <|
    some ((lget v2.1 v2.2.2).Hosts, (lget v2.1 v2.2.2).Slots, (lget v2.1 v2.2.2).Turn, (lget v2.1 v2.2.2).Next)
   else
    some (x.1, x.2.1, x.2.2.1, x.2.2.2.1)) fun (v3 : List Host × List Slot × Int × Int) =>
  asrt (((v2.1 ++ [(⟨v3.1, v3.2.1, v3.2.2.1, v3.2.2.2⟩ : Board)]).length : Int) * 64 ≤ 140737488351232) <|
  some (Sum.inl ((v2.1 ++ [(⟨v3.1, v3.2.1, v3.2.2.1, v3.2.2.2⟩ : Board)]), (v2.2.1 ++ [x.2.2.2.2]), w64 (v2.2.2 + 1)))
 else
  inrO (R_Boards_v1_J1 (v2.1, v2.2.1))
noncomputable def R_Boards_v1_L1 (orders : List Order) (v0 : List Board × List Fault × Int) : Option (List Board × List Fault) :=
 loopO (fun y => R_Boards_v1_B1 orders y) v0
noncomputable def R_Boards_v1 (orders : List Order) : Option (List Board × List Fault) :=
 lt ([(⟨([] : List Host), [(⟨(⟨([] : List UInt8), ([] : List UInt8), 1⟩ : Part), 0, 0, 0⟩ : Slot)], 0, 2⟩ : Board)]) fun (v : List Board) =>
 R_Boards_v1_L1 orders (v, ([] : List Fault), 0)
theorem R_Boards_v1_ok (orders : List Order) (r : List Board × List Fault) (hF : R_Boards_v1 orders = some r) : Pe Try.prog 33 S.none [.sl 5 (orders.map e_Order)] (.tup [.sl 4 (r.1.map e_Board), .sl 2 (r.2.map e_Fault)]) S.none := by
 refine Pe_of (N := 49) (res := [.tmp 2, .tmp 3]) (ts := [54, 55]) Ty.ok Fn.b33 Try.func33 rfl rfl rfl rfl rfl rfl ?_
 intro Q g hfin
 unfold R_Boards_v1 at hF
 refine ZRs [] [0] [] [] [] .nil ?_
 refine Wk_seq ?_
 refine WRL ([(⟨([] : List Host), [(⟨(⟨([] : List UInt8), ([] : List UInt8), 1⟩ : Part), 0, 0, 0⟩ : Slot)], 0, 2⟩ : Board)]) (fun v : List Board => ⟨[(0, .sl 5 (orders.map e_Order)), (4, .row 13 0)], [], [(13, .z 62 4 0 (v.map e_Board))], [], []⟩) [] [0, 4] [] [13] [] [] [] .nil (by kernel_rfl) (fun v hv => ?_)
 have hF := lt_elim hF hv
 refine ZRs [] [0, 4, 5] [] [13] [(5, .nils)] .nil ?_
 refine Wk_seq ?_
 refine ZRs [] [0, 4, 5, 6] [] [13] [(6, .i 0)] .nil ?_
 refine Wk_meetP (fun v1 : List Board × List Fault => (⟨[(4, .row 13 0), (5, .row 35 0)], [], [(13, .z 62 4 0 (v1.1.map e_Board)), (35, .z 26 2 0 (v1.2.map e_Fault))], [], []⟩ : S)) (fun v1 => R_Boards_v1_J1 v1 = some r) ?_ ?_
 ·refine Wk_block ?_
  unfold R_Boards_v1_L1 at hF
  refine Wk_nilrow 5 60000 26 2 rfl rfl rfl ?_
  refine Wk_trim (fs := [0, 4, 5, 6]) (bs := []) (rs := [13, 60000]) (ms := []) (aa := []) (nv := []) rfl ?_
  refine Wk_ren' ⟨[], [(60000, 35)], [], []⟩ rfl ?_
  refine Wk_trim (fs := [0, 4, 5, 6]) (bs := []) (rs := [13, 35]) (ms := []) (aa := []) (nv := []) (t := (fun v2 : List Board × List Fault × Int => (⟨[(0, .sl 5 (orders.map e_Order)), (4, .row 13 0), (5, .row 35 0), (6, .i v2.2.2)], [], [(13, .z 62 4 0 (v2.1.map e_Board)), (35, .z 26 2 0 (v2.2.1.map e_Fault))], [], []⟩ : S)) (v, ([] : List Fault), 0)) (by kernel_rfl) ?_
  refine Wk_iter (step := fun y => R_Boards_v1_B1 orders y) (r := r) (fun v2 : List Board × List Fault × Int => (⟨[(0, .sl 5 (orders.map e_Order)), (4, .row 13 0), (5, .row 35 0), (6, .i v2.2.2)], [], [(13, .z 62 4 0 (v2.1.map e_Board)), (35, .z 26 2 0 (v2.2.1.map e_Fault))], [], []⟩ : S)) (v, ([] : List Fault), 0) hF ?_
  intro n1 v2 y1 hF ih1 dn1
  have hF : R_Boards_v1_B1 orders v2 = some y1 := hF
  unfold R_Boards_v1_B1 at hF
  refine Wk_seq ?_
  refine ZRs [.nat (orders.length : Int)] [0, 4, 5, 6, 17] [] [13, 35] [(17, .bool (decide (v2.2.2 < (orders.length : Int))))] (.cons (len_ok e_Order orders) .nil) ?_
  refine Wk_split rfl (fun hb => ?_) (fun hb => ?_)
  ·have hF := ite_t hF hb
   refine Wk_skip ?_
   refine Wk_seq ?_
   refine Wk_block ?_
   refine Wk_seq ?_
   obtain ⟨h0, hF⟩ := asrt_elim hF
   obtain ⟨h1, hF⟩ := asrt_elim hF
   obtain ⟨h2, hF⟩ := asrt_elim hF
   obtain ⟨x, h3, hF⟩ := ob_elim hF
   refine UD [.av (e_Board (lget v2.1 v2.2.2)), .av (e_Order (lget orders v2.2.2)), .callE [] [] [] [] (.tup [.agg [.row 29 0, .row 20029 0, .i x.2.2.1, .i x.2.2.2.1], .agg [.i x.2.2.2.2.Code, .i x.2.2.2.2.At]]) ⟨[], [], [(29, .z 108 3 0 (x.1.map e_Host)), (20029, .z 64 6 0 (x.2.1.map e_Slot))], [], []⟩] [0, 4, 5, 6, 7, 8] [7, 8] [13, 29, 35, 20029] [] [(7, .ptr 7 0), (8, .ptr 8 0)] [(7, [.row 29 0, .row 20029 0, .i x.2.2.1, .i x.2.2.2.1]), (8, [.i x.2.2.2.2.Code, .i x.2.2.2.2.At])] [(29, .z 108 3 0 (x.1.map e_Host)), (20029, .z 64 6 0 (x.2.1.map e_Slot))] [] (.cons (ixr_ok e_Board h0) (.cons (ldr_ok e_Board h1) (.cons (idx_ok e_Order h2) (.cons (Pe.ren (R_Ordered_ok (⟨(lget v2.1 v2.2.2).Hosts, (lget v2.1 v2.2.2).Slots, (lget v2.1 v2.2.2).Turn, (lget v2.1 v2.2.2).Next⟩ : Board) (⟨(lget orders v2.2.2).Kind, (lget orders v2.2.2).ID, (lget orders v2.2.2).Host, (lget orders v2.2.2).Turn, (lget orders v2.2.2).Row⟩ : Order) x h3) ⟨[], [(22, 29), (20022, 20029)], [], []⟩) .nil)))) ?_
   refine Wk_seq ?_
   obtain ⟨h4, hF⟩ := asrt_elim hF
   refine UR [.sealed, .xs ((v2.2.1 ++ [x.2.2.2.2]).map e_Fault)] [0, 4, 5, 6, 7, 8] [7, 8] [13, 29, 35, 20029] [] [(5, .row 35 1)] [] [(35, .z 26 2 1 ((v2.2.1 ++ [x.2.2.2.2]).map e_Fault))] [] (.cons (app_ok e_Fault v2.2.1 [x.2.2.2.2]) (.cons (appl_ok e_Fault h4) .nil)) ?_
   refine Wk_seq ?_
   refine ZRs [] [0, 4, 5, 6, 7, 38] [7] [13, 29, 35, 20029] [(38, .bool (!decide (x.2.2.2.2.Code = 0)))] .nil ?_
   obtain ⟨v3, hv, hF⟩ := ob_elim hF
   refine Wk_meet (⟨[(0, .sl 5 (orders.map e_Order)), (4, .row 13 0), (5, .row 35 1), (6, .i v2.2.2), (7, .ptr 7 0)], [(7, [.sl 3 (v3.1.map e_Host), .sl 6 (v3.2.1.map e_Slot), .i v3.2.2.1, .i v3.2.2.2])], [(13, .z 62 4 0 (v2.1.map e_Board)), (35, .z 26 2 1 ((v2.2.1 ++ [x.2.2.2.2]).map e_Fault))], [], []⟩ : S) ?_ ?_
   ·have hF := hv
    refine Wk_split rfl (fun hb => ?_) (fun hb => ?_)
    ·have hF := ite_t hF hb
     obtain ⟨h5, hF⟩ := asrt_elim hF
     obtain ⟨h6, hF⟩ := asrt_elim hF
     refine UR [.av (e_Board (lget v2.1 v2.2.2))] [0, 4, 5, 6, 7] [7] [13, 35] [] [] [(7, (c_Board (lget v2.1 v2.2.2)))] [] [] (.cons (ixr_ok e_Board h5) (.cons (ldr_ok e_Board h6) .nil)) ?_
     exact Wk_met (fs := [0, 4, 5, 6, 7]) (bs := [7]) (rs := [13, 35]) (ms := []) (aa := []) (nv := []) (by first | (rw [← some_elim hF]; kernel_rfl) | kernel_rfl)
    ·have hF := ite_f hF hb
     refine Wk_skip ?_
     refine Wk_sealBX [] 7 rfl rfl ?_
     exact Wk_met (fs := [0, 4, 5, 6, 7]) (bs := [7]) (rs := [13, 35]) (ms := []) (aa := []) (nv := []) (by first | (rw [← some_elim hF]; kernel_rfl) | kernel_rfl)
   ·obtain ⟨h7, hF⟩ := asrt_elim hF
    refine UR [.sealed, .xs ((v2.1 ++ [(⟨v3.1, v3.2.1, v3.2.2.1, v3.2.2.2⟩ : Board)]).map e_Board)] [0, 4, 5, 6] [] [13, 35] [] [(4, .row 13 1)] [] [(13, ⟨62, 4, 1, 0, 0, true, 0, [], ((v2.1 ++ [(⟨v3.1, v3.2.1, v3.2.2.1, v3.2.2.2⟩ : Board)]).map e_Board)⟩)] [] (.cons (app_ok e_Board v2.1 [(⟨v3.1, v3.2.1, v3.2.2.1, v3.2.2.2⟩ : Board)]) (.cons (appl_ok e_Board h7) .nil)) ?_
    refine Wk_blk ?_
    refine ZR [] [0, 4, 5, 6] [] [13, 35] [(6, .i (w64 (v2.2.2 + 1)))] .nil ?_
    refine Wk_trim (fs := [0, 4, 5, 6]) (bs := []) (rs := [13, 35]) (ms := []) (aa := []) (nv := [(13, ⟨0, true, true, false⟩), (35, ⟨0, true, true, false⟩)]) ?_ (ih1 _ (some_elim hF).symm)
    kernel_rfl
  ·have hF := ite_f hF hb
   refine Wk_exit rfl ?_
   have hF := inrO_done hF dn1
   exact Wk_metP (v2.1, v2.2.1) [4, 5] [] [13, 35] [] [] [] hF (by kernel_rfl)
 ·intro v1 hF
  have hF : R_Boards_v1_J1 v1 = some r := hF
  unfold R_Boards_v1_J1 at hF
  refine ZRs [] [2, 3] [] [13, 35] [(2, .row 13 0), (3, .row 35 0)] .nil ?_
  have hF := some_elim hF
  exact Wk_ret (hfin _ ⟨[], [], [], [], [], [], by first | (rw [← hF]; kernel_rfl) | kernel_rfl⟩)

/- tabularyref.SlotOf -/
noncomputable def R_SlotOf_J1 (v : Unit) : Option Slot :=
 some (⟨(⟨([] : List UInt8), ([] : List UInt8), 0⟩ : Part), 0, 0, 0⟩ : Slot)
noncomputable def R_SlotOf_B1 (b : Board) (row : List UInt8) (v1 : Int) : Option (Int ⊕ Slot) :=
 if (decide (v1 < (b.Slots.length : Int))) = true then
  asrt (0 ≤ v1 ∧ v1 < (b.Slots.length : Int)) <|
  lt (R_InPart (⟨((lget b.Slots v1).Part).From, ((lget b.Slots v1).Part).To, ((lget b.Slots v1).Part).ID⟩ : Part) row) fun x =>
  if x = true then
   asrt (0 ≤ v1 ∧ v1 < (b.Slots.length : Int)) <|
   some (Sum.inr (⟨(⟨((lget b.Slots v1).Part).From, ((lget b.Slots v1).Part).To, ((lget b.Slots v1).Part).ID⟩ : Part), (lget b.Slots v1).State, (lget b.Slots v1).Host, (lget b.Slots v1).Turn⟩ : Slot))
  else
   some (Sum.inl (w64 (v1 + 1)))
 else
  inrO (R_SlotOf_J1 ())
noncomputable def R_SlotOf_L1 (b : Board) (row : List UInt8) (v0 : Int) : Option Slot :=
 loopO (fun y => R_SlotOf_B1 b row y) v0
noncomputable def R_SlotOf (b : Board) (row : List UInt8) : Option Slot :=
 R_SlotOf_L1 b row 0
theorem R_SlotOf_ok (b : Board) (row : List UInt8) (r : Slot) (hF : R_SlotOf b row = some r) : Pe Try.prog 34 S.none [.agg (c_Board b), .str row] (.agg (c_Slot r)) S.none := by
 refine Pe_of (N := 27) (res := [.cell 4 64]) (ts := [64]) Ty.ok Fn.b34 Try.func34 rfl rfl rfl rfl rfl rfl ?_
 intro Q g hfin
 unfold R_SlotOf at hF
 refine URs [] [1, 2, 4] [2, 4] [] [] [(2, .ptr 2 0), (4, .ptr 4 0)] [(2, (c_Board b)), (4, [.str [], .str [], .i 0, .i 0, .i 0, .i 0])] [] [] .nil ?_
 refine Wk_seq ?_
 refine ZRs [] [1, 2, 4, 5] [2, 4] [] [(5, .i 0)] .nil ?_
 refine Wk_meetP (fun v : Unit => (⟨[(4, .ptr 4 0)], [(4, [.str [], .str [], .i 0, .i 0, .i 0, .i 0])], [], [], []⟩ : S)) (fun v => R_SlotOf_J1 v = some r) ?_ ?_
 ·refine Wk_block ?_
  unfold R_SlotOf_L1 at hF
  refine Wk_trim (fs := [1, 2, 4, 5]) (bs := [2, 4]) (rs := []) (ms := []) (aa := []) (nv := []) (t := (fun v1 : Int => (⟨[(1, .str row), (2, .ptr 2 0), (4, .ptr 4 0), (5, .i v1)], [(2, (c_Board b)), (4, [.str [], .str [], .i 0, .i 0, .i 0, .i 0])], [], [], []⟩ : S)) 0) (by kernel_rfl) ?_
  refine Wk_iter (step := fun y => R_SlotOf_B1 b row y) (r := r) (fun v1 : Int => (⟨[(1, .str row), (2, .ptr 2 0), (4, .ptr 4 0), (5, .i v1)], [(2, (c_Board b)), (4, [.str [], .str [], .i 0, .i 0, .i 0, .i 0])], [], [], []⟩ : S)) 0 hF ?_
  intro n1 v1 y1 hF ih1 dn1
  have hF : R_SlotOf_B1 b row v1 = some y1 := hF
  unfold R_SlotOf_B1 at hF
  refine Wk_seq ?_
  refine ZRs [.nat (b.Slots.length : Int)] [1, 2, 4, 5, 10] [2, 4] [] [(10, .bool (decide (v1 < (b.Slots.length : Int))))] (.cons (len_ok e_Slot b.Slots) .nil) ?_
  refine Wk_split rfl (fun hb => ?_) (fun hb => ?_)
  ·have hF := ite_t hF hb
   refine Wk_skip ?_
   refine Wk_seq ?_
   refine Wk_block ?_
   refine Wk_seq ?_
   obtain ⟨h0, hF⟩ := asrt_elim hF
   obtain ⟨x, h1, hF⟩ := lt_split hF
   refine ZR [.av (e_Slot (lget b.Slots v1)), .callB (.bool x)] [1, 2, 4, 5, 20] [2, 4] [] [(20, .bool x)] (.cons (idx_ok e_Slot h0) (.cons (R_InPart_ok (⟨((lget b.Slots v1).Part).From, ((lget b.Slots v1).Part).To, ((lget b.Slots v1).Part).ID⟩ : Part) row x h1) .nil)) ?_
   refine Wk_split rfl (fun hb => ?_) (fun hb => ?_)
   ·have hF := ite_t hF hb
    refine Wk_seq ?_
    obtain ⟨h2, hF⟩ := asrt_elim hF
    refine UR [.av (e_Slot (lget b.Slots v1))] [4] [4] [] [] [] [(4, [.str (((lget b.Slots v1).Part).From), .str (((lget b.Slots v1).Part).To), .i (((lget b.Slots v1).Part).ID), .i ((lget b.Slots v1).State), .i ((lget b.Slots v1).Host), .i ((lget b.Slots v1).Turn)])] [] [] (.cons (idx_ok e_Slot h2) .nil) ?_
    have hF := ret_done hF dn1
    have hF := some_elim hF
    exact Wk_ret (hfin _ ⟨[], [], [], [], [], [], by first | (rw [← hF]; kernel_rfl) | kernel_rfl⟩)
   ·have hF := ite_f hF hb
    refine Wk_skip ?_
    refine Wk_blk ?_
    refine ZR [] [1, 2, 4, 5] [2, 4] [] [(5, .i (w64 (v1 + 1)))] .nil ?_
    refine Wk_trim (fs := [1, 2, 4, 5]) (bs := [2, 4]) (rs := []) (ms := []) (aa := []) (nv := []) ?_ (ih1 _ (some_elim hF).symm)
    kernel_rfl
  ·have hF := ite_f hF hb
   refine Wk_exit rfl ?_
   have hF := inrO_done hF dn1
   exact Wk_metP () [4] [4] [] [] [] [] hF (by kernel_rfl)
 ·intro v hF
  have hF : R_SlotOf_J1 v = some r := hF
  unfold R_SlotOf_J1 at hF
  refine ZRs [] [4] [4] [] [] .nil ?_
  have hF := some_elim hF
  exact Wk_ret (hfin _ ⟨[], [], [], [], [], [], by first | (rw [← hF]; kernel_rfl) | kernel_rfl⟩)

/- tabularyref.KnownCode -/
noncomputable def R_KnownCode (k0 : Known) : Int :=
 if ((decide (40 < (k0.Part.From.length : Int))) || (decide (40 < (k0.Part.To.length : Int)))) = true then
  8
 else
  if ((!decide (k0.Part.To = ([] : List UInt8))) && (!Op.bytesLess k0.Part.From k0.Part.To)) = true then
   5
  else
   0
theorem R_KnownCode_ok (k0 : Known) (r : Int) (hF : R_KnownCode k0 = r) : Pe Try.prog 48 S.none [.agg (c_Known k0)] (.i r) S.none := by
 refine Pe_of (N := 28) (res := [.tmp 2]) (ts := [3]) Ty.ok Fn.b48 Try.func48 rfl rfl rfl rfl rfl rfl ?_
 intro Q g hfin
 unfold R_KnownCode at hF
 refine URs [] [1] [1] [] [] [(1, .ptr 1 0)] [(1, (c_Known k0))] [] [] .nil ?_
 refine Wk_seq ?_
 refine ZRs [] [1, 14] [1] [] [(14, .bool ((decide (40 < (k0.Part.From.length : Int))) || (decide (40 < (k0.Part.To.length : Int)))))] .nil ?_
 refine Wk_split rfl (fun hb => ?_) (fun hb => ?_)
 ·have hF := ite_t hF hb
  refine ZRs [] [2] [] [] [(2, .i 8)] .nil ?_
  exact Wk_ret (hfin _ ⟨[], [], [], [], [], [], by first | (rw [← hF]; kernel_rfl) | kernel_rfl⟩)
 ·have hF := ite_f hF hb
  refine Wk_skip ?_
  refine Wk_seq ?_
  refine ZRs [] [27] [] [] [(27, .bool ((!decide (k0.Part.To = ([] : List UInt8))) && (!Op.bytesLess k0.Part.From k0.Part.To)))] .nil ?_
  refine Wk_split rfl (fun hb => ?_) (fun hb => ?_)
  ·have hF := ite_t hF hb
   refine ZRs [] [2] [] [] [(2, .i 5)] .nil ?_
   exact Wk_ret (hfin _ ⟨[], [], [], [], [], [], by first | (rw [← hF]; kernel_rfl) | kernel_rfl⟩)
  ·have hF := ite_f hF hb
   refine Wk_skip ?_
   refine ZRs [] [2] [] [] [(2, .i 0)] .nil ?_
   exact Wk_ret (hfin _ ⟨[], [], [], [], [], [], by first | (rw [← hF]; kernel_rfl) | kernel_rfl⟩)

/- tabularyref.KnownFault -/
noncomputable def R_KnownFault_J1 (v : Unit) : Option Fault :=
 some (⟨0, 0⟩ : Fault)
noncomputable def R_KnownFault_J2 (v1 : Int) (v2 : Unit) : Option (Int ⊕ Fault) :=
 some (Sum.inl (w64 (v1 + 1)))
noncomputable def R_KnownFault_B2 (l : List Known) (v1 : Int) (v3 : Int) : Option (Int ⊕ (Int ⊕ Fault)) :=
 if (decide (v3 < v1)) = true then
  asrt (0 ≤ v3 ∧ v3 < (l.length : Int)) <|
  asrt ((!(decide ((((lget l v3).Part).To) = ([] : List UInt8)))) = true → 0 ≤ v3 ∧ v3 < (l.length : Int)) <|
  asrt ((!(decide ((((lget l v3).Part).To) = ([] : List UInt8)))) = true → 0 ≤ v1 ∧ v1 < (l.length : Int)) <|
  if ((decide ((((lget l v3).Part).To) = ([] : List UInt8))) || (Op.bytesLess (((lget l v1).Part).From) (((lget l v3).Part).To))) = true then
   lt (R_F 10 v1) fun x4 =>
   some (Sum.inr (Sum.inr x4))
  else
   some (Sum.inl (w64 (v3 + 1)))
 else
  inrO (R_KnownFault_J2 v1 ())
noncomputable def R_KnownFault_L2 (l : List Known) (v1 : Int) (v0 : Int) : Option (Int ⊕ Fault) :=
 loopO (fun y => R_KnownFault_B2 l v1 y) v0
noncomputable def R_KnownFault_B1 (l : List Known) (v1 : Int) : Option (Int ⊕ Fault) :=
 if (decide (v1 < (l.length : Int))) = true then
  asrt (0 ≤ v1 ∧ v1 < (l.length : Int)) <|
  lt (R_KnownCode (⟨(⟨((lget l v1).Part).From, ((lget l v1).Part).To, ((lget l v1).Part).ID⟩ : Part), (lget l v1).Host, (lget l v1).Turn⟩ : Known)) fun x1 =>
  if (!decide (x1 = 0)) = true then
   asrt (0 ≤ v1 ∧ v1 < (l.length : Int)) <|
   lt (R_KnownCode (⟨(⟨((lget l v1).Part).From, ((lget l v1).Part).To, ((lget l v1).Part).ID⟩ : Part), (lget l v1).Host, (lget l v1).Turn⟩ : Known)) fun x2 =>
   lt (R_F x2 v1) fun x3 =>
   some (Sum.inr x3)
  else
   R_KnownFault_L2 l v1 0
 else
  inrO (R_KnownFault_J1 ())
noncomputable def R_KnownFault_L1 (l : List Known) (v0 : Int) : Option Fault :=
 loopO (fun y => R_KnownFault_B1 l y) v0
noncomputable def R_KnownFault (l : List Known) : Option Fault :=
 if (decide (200 < (l.length : Int))) = true then
  lt (R_F 2 (-1)) fun x =>
  some x
 else
  R_KnownFault_L1 l 0
theorem R_KnownFault_ok (l : List Known) (r : Fault) (hF : R_KnownFault l = some r) : Pe Try.prog 36 S.none [.sl 5 (l.map e_Known)] (.agg [.i r.Code, .i r.At]) S.none := by
 refine Pe_of (N := 58) (res := [.cell 2 26]) (ts := [26]) Ty.ok Fn.b36 Try.func36 rfl rfl rfl rfl rfl rfl ?_
 intro Q g hfin
 unfold R_KnownFault at hF
 refine URs [] [0, 2] [2] [] [] [(2, .ptr 2 0)] [(2, [.i 0, .i 0])] [] [] .nil ?_
 refine Wk_seq ?_
 refine ZRs [.nat (l.length : Int)] [0, 2, 7] [2] [] [(7, .bool (decide (200 < (l.length : Int))))] (.cons (len_ok e_Known l) .nil) ?_
 refine Wk_split rfl (fun hb => ?_) (fun hb => ?_)
 ·have hF := ite_t hF hb
  refine Wk_seq ?_
  obtain ⟨x, h0, hF⟩ := lt_split hF
  refine UR [.callB (.agg [.i x.Code, .i x.At])] [2] [2] [] [] [] [(2, [.i x.Code, .i x.At])] [] [] (.cons (R_F_ok 2 (-1) x h0) .nil) ?_
  have hF := some_elim hF
  exact Wk_ret (hfin _ ⟨[], [], [], [], [], [], by first | (rw [← hF]; kernel_rfl) | kernel_rfl⟩)
 ·have hF := ite_f hF hb
  refine Wk_skip ?_
  refine Wk_seq ?_
  refine ZRs [] [0, 2, 3] [2] [] [(3, .i 0)] .nil ?_
  refine Wk_meetP (fun v : Unit => (⟨[(2, .ptr 2 0)], [(2, [.i 0, .i 0])], [], [], []⟩ : S)) (fun v => R_KnownFault_J1 v = some r) ?_ ?_
  ·refine Wk_block ?_
   unfold R_KnownFault_L1 at hF
   refine Wk_trim (fs := [0, 2, 3]) (bs := [2]) (rs := []) (ms := []) (aa := []) (nv := []) (t := (fun v1 : Int => (⟨[(0, .sl 5 (l.map e_Known)), (2, .ptr 2 0), (3, .i v1)], [(2, [.i 0, .i 0])], [], [], []⟩ : S)) 0) (by kernel_rfl) ?_
   refine Wk_iter (step := fun y => R_KnownFault_B1 l y) (r := r) (fun v1 : Int => (⟨[(0, .sl 5 (l.map e_Known)), (2, .ptr 2 0), (3, .i v1)], [(2, [.i 0, .i 0])], [], [], []⟩ : S)) 0 hF ?_
   intro n1 v1 y1 hF ih1 dn1
   have hF : R_KnownFault_B1 l v1 = some y1 := hF
   unfold R_KnownFault_B1 at hF
   refine Wk_seq ?_
   refine ZRs [.nat (l.length : Int)] [0, 2, 3, 12] [2] [] [(12, .bool (decide (v1 < (l.length : Int))))] (.cons (len_ok e_Known l) .nil) ?_
   refine Wk_split rfl (fun hb => ?_) (fun hb => ?_)
   ·have hF := ite_t hF hb
    refine Wk_skip ?_
    refine Wk_seq ?_
    refine Wk_block ?_
    refine Wk_seq ?_
    refine Wk_seq ?_
    obtain ⟨h1, hF⟩ := asrt_elim hF
    obtain ⟨x1, h2, hF⟩ := lt_split hF
    refine ZR [.av (e_Known (lget l v1)), .callB (.i x1)] [0, 2, 3, 20] [2] [] [(20, .bool (!decide (x1 = 0)))] (.cons (idx_ok e_Known h1) (.cons (R_KnownCode_ok (⟨(⟨((lget l v1).Part).From, ((lget l v1).Part).To, ((lget l v1).Part).ID⟩ : Part), (lget l v1).Host, (lget l v1).Turn⟩ : Known) x1 h2) .nil)) ?_
    refine Wk_split rfl (fun hb => ?_) (fun hb => ?_)
    ·have hF := ite_t hF hb
     refine Wk_seq ?_
     obtain ⟨h3, hF⟩ := asrt_elim hF
     obtain ⟨x2, h4, hF⟩ := lt_split hF
     obtain ⟨x3, h5, hF⟩ := lt_split hF
     refine UR [.av (e_Known (lget l v1)), .callB (.i x2), .callB (.agg [.i x3.Code, .i x3.At])] [2] [2] [] [] [] [(2, [.i x3.Code, .i x3.At])] [] [] (.cons (idx_ok e_Known h3) (.cons (R_KnownCode_ok (⟨(⟨((lget l v1).Part).From, ((lget l v1).Part).To, ((lget l v1).Part).ID⟩ : Part), (lget l v1).Host, (lget l v1).Turn⟩ : Known) x2 h4) (.cons (R_F_ok x2 v1 x3 h5) .nil))) ?_
     have hF := ret_done hF dn1
     have hF := some_elim hF
     exact Wk_ret (hfin _ ⟨[], [], [], [], [], [], by first | (rw [← hF]; kernel_rfl) | kernel_rfl⟩)
    ·have hF := ite_f hF hb
     refine Wk_skip ?_
     refine ZRs [] [0, 2, 3, 4] [2] [] [(4, .i 0)] .nil ?_
     refine Wk_meetP (fun v2 : Unit => (⟨[(0, .sl 5 (l.map e_Known)), (2, .ptr 2 0), (3, .i v1)], [(2, [.i 0, .i 0])], [], [], []⟩ : S)) (fun v2 => R_KnownFault_J2 v1 v2 = some y1) ?_ ?_
     ·refine Wk_block ?_
      unfold R_KnownFault_L2 at hF
      refine Wk_trim (fs := [0, 2, 3, 4]) (bs := [2]) (rs := []) (ms := []) (aa := []) (nv := []) (t := (fun v3 : Int => (⟨[(0, .sl 5 (l.map e_Known)), (2, .ptr 2 0), (3, .i v1), (4, .i v3)], [(2, [.i 0, .i 0])], [], [], []⟩ : S)) 0) (by kernel_rfl) ?_
      refine Wk_iter (step := fun y => R_KnownFault_B2 l v1 y) (r := y1) (fun v3 : Int => (⟨[(0, .sl 5 (l.map e_Known)), (2, .ptr 2 0), (3, .i v1), (4, .i v3)], [(2, [.i 0, .i 0])], [], [], []⟩ : S)) 0 hF ?_
      intro n2 v3 y2 hF ih2 dn2
      have hF : R_KnownFault_B2 l v1 v3 = some y2 := hF
      unfold R_KnownFault_B2 at hF
      refine Wk_seq ?_
      refine ZRs [] [0, 2, 3, 4, 30] [2] [] [(30, .bool (decide (v3 < v1)))] .nil ?_
      refine Wk_split rfl (fun hb => ?_) (fun hb => ?_)
      ·have hF := ite_t hF hb
       refine Wk_skip ?_
       refine Wk_seq ?_
       refine Wk_block ?_
       refine Wk_seq ?_
       obtain ⟨h6, hF⟩ := asrt_elim hF
       obtain ⟨h7, hF⟩ := asrt_elim hF
       obtain ⟨h8, hF⟩ := asrt_elim hF
       refine ZD [.av (e_Known (lget l v3)), .av (e_Known (lget l v3)), .av (e_Known (lget l v1))] [0, 2, 3, 4, 54] [2] [] [(54, .bool ((decide ((((lget l v3).Part).To) = ([] : List UInt8))) || (Op.bytesLess (((lget l v1).Part).From) (((lget l v3).Part).To))))] (.cons (idx_ok e_Known h6) (.cons (fun (ga0 : (!(decide ((((lget l v3).Part).To) = ([] : List UInt8)))) = true) => (idx_ok e_Known (h7 ga0))) (.cons (fun (ga0 : (!(decide ((((lget l v3).Part).To) = ([] : List UInt8)))) = true) => (idx_ok e_Known (h8 ga0))) .nil))) ?_
       refine Wk_split rfl (fun hb => ?_) (fun hb => ?_)
       ·have hF := ite_t hF hb
        refine Wk_seq ?_
        obtain ⟨x4, h9, hF⟩ := lt_split hF
        refine UR [.callB (.agg [.i x4.Code, .i x4.At])] [2] [2] [] [] [] [(2, [.i x4.Code, .i x4.At])] [] [] (.cons (R_F_ok 10 v1 x4 h9) .nil) ?_
        have hF := ret_done hF dn2
        have hF := ret_done hF dn1
        have hF := some_elim hF
        exact Wk_ret (hfin _ ⟨[], [], [], [], [], [], by first | (rw [← hF]; kernel_rfl) | kernel_rfl⟩)
       ·have hF := ite_f hF hb
        refine Wk_skip ?_
        refine Wk_blk ?_
        refine ZR [] [0, 2, 3, 4] [2] [] [(4, .i (w64 (v3 + 1)))] .nil ?_
        refine Wk_trim (fs := [0, 2, 3, 4]) (bs := [2]) (rs := []) (ms := []) (aa := []) (nv := []) ?_ (ih2 _ (some_elim hF).symm)
        kernel_rfl
      ·have hF := ite_f hF hb
       refine Wk_exit rfl ?_
       have hF := inrO_done hF dn2
       exact Wk_metP () [0, 2, 3] [2] [] [] [] [] hF (by kernel_rfl)
     ·intro v2 hF
      have hF : R_KnownFault_J2 v1 v2 = some y1 := hF
      unfold R_KnownFault_J2 at hF
      refine Wk_blk ?_
      refine ZR [] [0, 2, 3] [2] [] [(3, .i (w64 (v1 + 1)))] .nil ?_
      refine Wk_trim (fs := [0, 2, 3]) (bs := [2]) (rs := []) (ms := []) (aa := []) (nv := []) ?_ (ih1 _ (some_elim hF).symm)
      kernel_rfl
   ·have hF := ite_f hF hb
    refine Wk_exit rfl ?_
    have hF := inrO_done hF dn1
    exact Wk_metP () [2] [2] [] [] [] [] hF (by kernel_rfl)
  ·intro v hF
   have hF : R_KnownFault_J1 v = some r := hF
   unfold R_KnownFault_J1 at hF
   refine ZRs [] [2] [2] [] [] .nil ?_
   have hF := some_elim hF
   exact Wk_ret (hfin _ ⟨[], [], [], [], [], [], by first | (rw [← hF]; kernel_rfl) | kernel_rfl⟩)

/- tabularylaw.LocateFinds -/
noncomputable def law_LocateFinds_J1 (v : Unit) : Option Bool :=
 some true
noncomputable def law_LocateFinds_J2 (v1 : List Known × Int) (v2 : List Known) : Option ((List Known × Int) ⊕ Bool) :=
 some (Sum.inl (v2, w64 (v1.2 + 1)))
noncomputable def law_LocateFinds_B1 (orders : List Order) (rows : List (List UInt8)) (x1 : List Board × List Fault) (v1 : List Known × Int) : Option ((List Known × Int) ⊕ Bool) :=
 if (decide (v1.2 < (rows.length : Int))) = true then
  asrt (0 ≤ (0 : Int) ∧ 0 < (x1.1.length : Int)) <|
  ob (
   if (decide (0 < (orders.length : Int))) = true then
    asrt ((rows.length : Int) ≠ 0) <|
    asrt (0 ≤ w64 (1 + (w64 (Int.tdiv (w64 (v1.2 * (orders.length : Int))) (rows.length : Int)))) ∧ w64 (1 + (w64 (Int.tdiv (w64 (v1.2 * (orders.length : Int))) (rows.length : Int)))) < (x1.1.length : Int)) <|
    lt (((lget x1.1 (w64 (1 + (w64 (Int.tdiv (w64 (v1.2 * (orders.length : Int))) (rows.length : Int)))))).Hosts, (lget x1.1 (w64 (1 + (w64 (Int.tdiv (w64 (v1.2 * (orders.length : Int))) (rows.length : Int)))))).Slots, (lget x1.1 (w64 (1 + (w64 (Int.tdiv (w64 (v1.2 * (orders.length : Int))) (rows.length : Int)))))).Turn, (lget x1.1 (w64 (1 + (w64 (Int.tdiv (w64 (v1.2 * (orders.length : Int))) (rows.length : Int)))))).Next)) fun (v4 : List Host × List Slot × Int × Int) =>
    some (⟨v4.1, v4.2.1, v4.2.2.1, v4.2.2.2⟩ : Board)
   else
    some (⟨(lget x1.1 0).Hosts, (lget x1.1 0).Slots, (lget x1.1 0).Turn, (lget x1.1 0).Next⟩ : Board)) fun (v3 : Board) =>
  asrt (0 ≤ v1.2 ∧ v1.2 < (rows.length : Int)) <|
  ob (R_SlotOf v3 (lget rows v1.2)) fun x2 =>
  asrt (0 ≤ v1.2 ∧ v1.2 < (rows.length : Int)) <|
  ob (locate_Find_v1 v3 v1.1 (lget rows v1.2)) fun x3 =>
  ob (if (!((decide (x3.2.2.1 < 1)) || (decide (2 < x3.2.2.1)))) = true then (R_KnownFault x3.1) else some default) fun x4 =>
  if ((((decide (x3.2.2.1 < 1)) || (decide (2 < x3.2.2.1))) || (!decide (x4.Code = 0))) || (!((decide (x3.2.2.2.Code = 0)) == (decide (x2.State = 2))))) = true then
   some (Sum.inr false)
  else
   if (!decide (x3.2.2.2.Code = 0)) = true then
    law_LocateFinds_J2 v1 x3.1
   else
    asrt ((!((!decide (x3.2.1.Host = x2.Host)) || (!decide (x3.2.1.Turn = x2.Turn)))) = true → 0 ≤ v1.2 ∧ v1.2 < (rows.length : Int)) <|
    lt (R_InPart x3.2.1.Part (lget rows v1.2)) fun x5 =>
    if (((!decide (x3.2.1.Host = x2.Host)) || (!decide (x3.2.1.Turn = x2.Turn))) || (!x5)) = true then
     some (Sum.inr false)
    else
     asrt (0 ≤ v1.2 ∧ v1.2 < (rows.length : Int)) <|
     ob (locate_Find_v1 v3 x3.1 (lget rows v1.2)) fun x6 =>
     ob (if (!(((!decide (x6.2.2.2.Code = 0)) || (!decide (x6.2.2.1 = 1))) || (!(decide (x6.2.1.Part.From = x3.2.1.Part.From) && (decide (x6.2.1.Part.To = x3.2.1.Part.To) && (decide (x6.2.1.Part.ID = x3.2.1.Part.ID) && (decide (x6.2.1.Host = x3.2.1.Host) && (decide (x6.2.1.Turn = x3.2.1.Turn) && true)))))))) = true then (R_SameKnown x6.1 x3.1) else some default) fun x7 =>
     if ((((!decide (x6.2.2.2.Code = 0)) || (!decide (x6.2.2.1 = 1))) || (!(decide (x6.2.1.Part.From = x3.2.1.Part.From) && (decide (x6.2.1.Part.To = x3.2.1.Part.To) && (decide (x6.2.1.Part.ID = x3.2.1.Part.ID) && (decide (x6.2.1.Host = x3.2.1.Host) && (decide (x6.2.1.Turn = x3.2.1.Turn) && true))))))) || (!x7)) = true then
      some (Sum.inr false)
     else
      law_LocateFinds_J2 v1 x3.1
 else
  inrO (law_LocateFinds_J1 ())
noncomputable def law_LocateFinds_L1 (orders : List Order) (rows : List (List UInt8)) (x1 : List Board × List Fault) (v0 : List Known × Int) : Option Bool :=
 loopO (fun y => law_LocateFinds_B1 orders rows x1 y) v0
noncomputable def law_LocateFinds (orders : List Order) (rows : List (List UInt8)) : Option Bool :=
 ob (law_locateBegun) fun x =>
 if (!x) = true then
  some false
 else
  if ((decide (150 < (orders.length : Int))) || (decide (150 < (rows.length : Int)))) = true then
   some true
  else
   ob (R_Boards_v1 orders) fun x1 =>
   law_LocateFinds_L1 orders rows x1 (([] : List Known), 0)
theorem law_LocateFinds_ok (orders : List Order) (rows : List (List UInt8)) (r : Bool) (hF : law_LocateFinds orders rows = some r) : Pe Try.prog 6 S.none [.sl 5 (orders.map e_Order), .sl 1 (rows.map e_str)] (.bool r) S.none := by
 refine Pe_of (N := 150) (res := [.tmp 4]) (ts := [4]) Ty.ok Fn.b6 Try.func6 rfl rfl rfl rfl rfl rfl ?_
 intro Q g hfin
 unfold law_LocateFinds at hF
 refine ZRs [] [0, 1] [] [] [] .nil ?_
 refine Wk_seq ?_
 refine Wk_seq ?_
 obtain ⟨x, h0, hF⟩ := ob_elim hF
 refine ZR [.callB (.bool x)] [0, 1, 18] [] [] [(18, .bool (!x))] (.cons (law_locateBegun_ok  x h0) .nil) ?_
 refine Wk_split rfl (fun hb => ?_) (fun hb => ?_)
 ·have hF := ite_t hF hb
  refine ZRs [] [4] [] [] [(4, .bool false)] .nil ?_
  have hF := some_elim hF
  exact Wk_ret (hfin _ ⟨[], [], [], [], [], [], by first | (rw [← hF]; kernel_rfl) | kernel_rfl⟩)
 ·have hF := ite_f hF hb
  refine Wk_skip ?_
  refine Wk_seq ?_
  refine ZRs [.nat (orders.length : Int), .nat (rows.length : Int)] [0, 1, 26] [] [] [(26, .bool ((decide (150 < (orders.length : Int))) || (decide (150 < (rows.length : Int)))))] (.cons (len_ok e_Order orders) (.cons (fun (_ : (!(decide (150 < (orders.length : Int)))) = true) => (len_ok e_str rows)) .nil)) ?_
  refine Wk_split rfl (fun hb => ?_) (fun hb => ?_)
  ·have hF := ite_t hF hb
   refine ZRs [] [4] [] [] [(4, .bool true)] .nil ?_
   have hF := some_elim hF
   exact Wk_ret (hfin _ ⟨[], [], [], [], [], [], by first | (rw [← hF]; kernel_rfl) | kernel_rfl⟩)
  ·have hF := ite_f hF hb
   refine Wk_skip ?_
   refine Wk_seq ?_
   obtain ⟨x1, h1, hF⟩ := ob_elim hF
   refine ZR [.call (.tup [.sl 4 (x1.1.map e_Board), .sl 2 (x1.2.map e_Fault)])] [0, 1, 5] [] [] [(5, .sl 4 (x1.1.map e_Board))] (.cons (R_Boards_v1_ok orders x1 h1) .nil) ?_
   refine ZRs [] [0, 1, 5, 7] [] [] [(7, .nils)] .nil ?_
   refine Wk_seq ?_
   refine ZRs [] [0, 1, 5, 7, 8] [] [] [(8, .i 0)] .nil ?_
   refine Wk_meetP (fun v : Unit => (⟨[], [], [], [], []⟩ : S)) (fun v => law_LocateFinds_J1 v = some r) ?_ ?_
   ·refine Wk_block ?_
    unfold law_LocateFinds_L1 at hF
    refine Wk_coe 7 (.sl 5 (([] : List Known).map e_Known)) rfl (.cell rfl (CoeS.nils 5)) ?_
    refine Wk_trim (fs := [0, 1, 5, 7, 8]) (bs := []) (rs := []) (ms := []) (aa := []) (nv := []) (t := (fun v1 : List Known × Int => (⟨[(0, .sl 5 (orders.map e_Order)), (1, .sl 1 (rows.map e_str)), (5, .sl 4 (x1.1.map e_Board)), (7, .sl 5 (v1.1.map e_Known)), (8, .i v1.2)], [], [], [], []⟩ : S)) (([] : List Known), 0)) (by kernel_rfl) ?_
    refine Wk_iter (step := fun y => law_LocateFinds_B1 orders rows x1 y) (r := r) (fun v1 : List Known × Int => (⟨[(0, .sl 5 (orders.map e_Order)), (1, .sl 1 (rows.map e_str)), (5, .sl 4 (x1.1.map e_Board)), (7, .sl 5 (v1.1.map e_Known)), (8, .i v1.2)], [], [], [], []⟩ : S)) (([] : List Known), 0) hF ?_
    intro n1 v1 y1 hF ih1 dn1
    have hF : law_LocateFinds_B1 orders rows x1 v1 = some y1 := hF
    unfold law_LocateFinds_B1 at hF
    refine Wk_seq ?_
    refine ZRs [.nat (rows.length : Int)] [0, 1, 5, 7, 8, 35] [] [] [(35, .bool (decide (v1.2 < (rows.length : Int))))] (.cons (len_ok e_str rows) .nil) ?_
    refine Wk_split rfl (fun hb => ?_) (fun hb => ?_)
    ·have hF := ite_t hF hb
     refine Wk_skip ?_
     refine Wk_seq ?_
     refine Wk_meetP (fun v2 : List Known => (⟨[(0, .sl 5 (orders.map e_Order)), (1, .sl 1 (rows.map e_str)), (5, .sl 4 (x1.1.map e_Board)), (7, .sl 5 (v2.map e_Known)), (8, .i v1.2)], [], [], [], []⟩ : S)) (fun v2 => law_LocateFinds_J2 v1 v2 = some y1) ?_ ?_
     ·refine Wk_block ?_
      refine Wk_seq ?_
      obtain ⟨h2, hF⟩ := asrt_elim hF
      refine UR [.av (e_Board (lget x1.1 0))] [0, 1, 5, 7, 8, 9] [9] [] [] [(9, .ptr 9 0)] [(9, (c_Board (lget x1.1 0)))] [] [] (.cons (idx_ok e_Board h2) .nil) ?_
      refine Wk_seq ?_
      refine ZRs [.nat (orders.length : Int)] [0, 1, 5, 7, 8, 9, 43] [9] [] [(43, .bool (decide (0 < (orders.length : Int))))] (.cons (len_ok e_Order orders) .nil) ?_
      obtain ⟨v3, hv, hF⟩ := ob_elim hF
      refine Wk_meet (⟨[(0, .sl 5 (orders.map e_Order)), (1, .sl 1 (rows.map e_str)), (5, .sl 4 (x1.1.map e_Board)), (7, .sl 5 (v1.1.map e_Known)), (8, .i v1.2), (9, .ptr 9 0)], [(9, (c_Board v3))], [], [], []⟩ : S) ?_ ?_
      ·have hF := hv
       refine Wk_split rfl (fun hb => ?_) (fun hb => ?_)
       ·have hF := ite_t hF hb
        obtain ⟨h3, hF⟩ := asrt_elim hF
        obtain ⟨h4, hF⟩ := asrt_elim hF
        refine WRL (((lget x1.1 (w64 (1 + (w64 (Int.tdiv (w64 (v1.2 * (orders.length : Int))) (rows.length : Int)))))).Hosts, (lget x1.1 (w64 (1 + (w64 (Int.tdiv (w64 (v1.2 * (orders.length : Int))) (rows.length : Int)))))).Slots, (lget x1.1 (w64 (1 + (w64 (Int.tdiv (w64 (v1.2 * (orders.length : Int))) (rows.length : Int)))))).Turn, (lget x1.1 (w64 (1 + (w64 (Int.tdiv (w64 (v1.2 * (orders.length : Int))) (rows.length : Int)))))).Next)) (fun v4 : List Host × List Slot × Int × Int => ⟨[(0, .sl 5 (orders.map e_Order)), (1, .sl 1 (rows.map e_str)), (5, .sl 4 (x1.1.map e_Board)), (7, .sl 5 (v1.1.map e_Known)), (8, .i v1.2), (9, .ptr 9 0)], [(9, [.sl 3 (v4.1.map e_Host), .sl 6 (v4.2.1.map e_Slot), .i v4.2.2.1, .i v4.2.2.2])], [], [], []⟩) [.nat (orders.length : Int), .nat (rows.length : Int), .av (e_Board (lget x1.1 (w64 (1 + (w64 (Int.tdiv (w64 (v1.2 * (orders.length : Int))) (rows.length : Int)))))))] [0, 1, 5, 7, 8, 9] [9] [] [] [] [] (.cons (len_ok e_Order orders) (.cons (len_ok e_str rows) (.cons h3 (.cons (idx_ok e_Board h4) .nil)))) (by kernel_rfl) (fun v4 hv => ?_)
        have hF := lt_elim hF hv
        exact Wk_met (fs := [0, 1, 5, 7, 8, 9]) (bs := [9]) (rs := []) (ms := []) (aa := []) (nv := []) (by first | (rw [← some_elim hF]; kernel_rfl) | kernel_rfl)
       ·have hF := ite_f hF hb
        refine Wk_skip ?_
        exact Wk_met (fs := [0, 1, 5, 7, 8, 9]) (bs := [9]) (rs := []) (ms := []) (aa := []) (nv := []) (by first | (rw [← some_elim hF]; kernel_rfl) | kernel_rfl)
      ·refine Wk_seq ?_
       obtain ⟨h5, hF⟩ := asrt_elim hF
       obtain ⟨x2, h6, hF⟩ := ob_elim hF
       refine UD [.av (e_str (lget rows v1.2)), .callB (.agg (c_Slot x2))] [0, 1, 5, 7, 8, 9, 10] [9, 10] [] [] [(10, .ptr 10 0)] [(10, (c_Slot x2))] [] [] (.cons (idx_ok e_str h5) (.cons (R_SlotOf_ok v3 (lget rows v1.2) x2 h6) .nil)) ?_
       refine Wk_seq ?_
       obtain ⟨h7, hF⟩ := asrt_elim hF
       obtain ⟨x3, h8, hF⟩ := ob_elim hF
       refine UD [.av (e_str (lget rows v1.2)), .call (.tup [.sl 5 (x3.1.map e_Known), .agg [.str x3.2.1.Part.From, .str x3.2.1.Part.To, .i x3.2.1.Part.ID, .i x3.2.1.Host, .i x3.2.1.Turn], .i x3.2.2.1, .agg [.i x3.2.2.2.Code, .i x3.2.2.2.At]])] [0, 1, 5, 8, 9, 10, 11, 12, 13, 14] [9, 10, 12, 14] [] [] [(11, .sl 5 (x3.1.map e_Known)), (12, .ptr 12 0), (13, .i x3.2.2.1), (14, .ptr 14 0)] [(12, [.str x3.2.1.Part.From, .str x3.2.1.Part.To, .i x3.2.1.Part.ID, .i x3.2.1.Host, .i x3.2.1.Turn]), (14, [.i x3.2.2.2.Code, .i x3.2.2.2.At])] [] [] (.cons (idx_ok e_str h7) (.cons (locate_Find_v1_ok v3 v1.1 (lget rows v1.2) x3 h8) .nil)) ?_
       refine Wk_seq ?_
       refine Wk_seq ?_
       obtain ⟨x4, h9, hF⟩ := ob_elim hF
       refine ZR [.callB (.agg [.i x4.Code, .i x4.At])] [0, 1, 5, 8, 9, 10, 11, 12, 14, 93] [9, 10, 12, 14] [] [(93, .bool ((((decide (x3.2.2.1 < 1)) || (decide (2 < x3.2.2.1))) || (!decide (x4.Code = 0))) || (!((decide (x3.2.2.2.Code = 0)) == (decide (x2.State = 2))))))] (.cons (fun (ga0 : (!((decide (x3.2.2.1 < 1)) || (decide (2 < x3.2.2.1)))) = true) => (R_KnownFault_ok x3.1 x4 (ite_t h9 ga0))) .nil) ?_
       refine Wk_split rfl (fun hb => ?_) (fun hb => ?_)
       ·have hF := ite_t hF hb
        refine ZRs [] [4] [] [] [(4, .bool false)] .nil ?_
        have hF := ret_done hF dn1
        have hF := some_elim hF
        exact Wk_ret (hfin _ ⟨[], [], [], [], [], [], by first | (rw [← hF]; kernel_rfl) | kernel_rfl⟩)
       ·have hF := ite_f hF hb
        refine Wk_skip ?_
        refine ZRs [] [0, 1, 5, 7, 8, 9, 10, 12, 14] [9, 10, 12, 14] [] [(7, .sl 5 (x3.1.map e_Known))] .nil ?_
        refine Wk_seq ?_
        refine ZRs [] [0, 1, 5, 7, 8, 9, 10, 12, 14, 97] [9, 10, 12, 14] [] [(97, .bool (!decide (x3.2.2.2.Code = 0)))] .nil ?_
        refine Wk_split rfl (fun hb => ?_) (fun hb => ?_)
        ·have hF := ite_t hF hb
         refine Wk_exit rfl ?_
         exact Wk_metP x3.1 [0, 1, 5, 7, 8] [] [] [] [] [] hF (by kernel_rfl)
        ·have hF := ite_f hF hb
         refine Wk_skip ?_
         refine Wk_seq ?_
         refine Wk_seq ?_
         obtain ⟨h10, hF⟩ := asrt_elim hF
         obtain ⟨x5, h11, hF⟩ := lt_split hF
         refine ZD [.av (e_str (lget rows v1.2)), .callB (.bool x5)] [0, 1, 5, 7, 8, 9, 12, 14, 119] [9, 12, 14] [] [(119, .bool (((!decide (x3.2.1.Host = x2.Host)) || (!decide (x3.2.1.Turn = x2.Turn))) || (!x5)))] (.cons (fun (ga0 : (!((!decide (x3.2.1.Host = x2.Host)) || (!decide (x3.2.1.Turn = x2.Turn)))) = true) => (idx_ok e_str (h10 ga0))) (.cons (fun (ga0 : (!((!decide (x3.2.1.Host = x2.Host)) || (!decide (x3.2.1.Turn = x2.Turn)))) = true) => (R_InPart_ok x3.2.1.Part (lget rows v1.2) x5 h11)) .nil)) ?_
         refine Wk_split rfl (fun hb => ?_) (fun hb => ?_)
         ·have hF := ite_t hF hb
          refine ZRs [] [4] [] [] [(4, .bool false)] .nil ?_
          have hF := ret_done hF dn1
          have hF := some_elim hF
          exact Wk_ret (hfin _ ⟨[], [], [], [], [], [], by first | (rw [← hF]; kernel_rfl) | kernel_rfl⟩)
         ·have hF := ite_f hF hb
          refine Wk_skip ?_
          refine Wk_seq ?_
          obtain ⟨h12, hF⟩ := asrt_elim hF
          obtain ⟨x6, h13, hF⟩ := ob_elim hF
          refine UD [.av (e_str (lget rows v1.2)), .call (.tup [.sl 5 (x6.1.map e_Known), .agg [.str x6.2.1.Part.From, .str x6.2.1.Part.To, .i x6.2.1.Part.ID, .i x6.2.1.Host, .i x6.2.1.Turn], .i x6.2.2.1, .agg [.i x6.2.2.2.Code, .i x6.2.2.2.At]])] [0, 1, 5, 7, 8, 12, 13, 14, 15, 16] [12, 14, 16] [] [] [(13, .i x6.2.2.1), (15, .sl 5 (x6.1.map e_Known)), (16, .ptr 16 0)] [(14, [.i x6.2.2.2.Code, .i x6.2.2.2.At]), (16, [.str x6.2.1.Part.From, .str x6.2.1.Part.To, .i x6.2.1.Part.ID, .i x6.2.1.Host, .i x6.2.1.Turn])] [] [] (.cons (idx_ok e_str h12) (.cons (locate_Find_v1_ok v3 x3.1 (lget rows v1.2) x6 h13) .nil)) ?_
          refine Wk_seq ?_
          obtain ⟨x7, h14, hF⟩ := ob_elim hF
          refine ZR [.callB (.bool x7)] [0, 1, 5, 7, 8, 149] [] [] [(149, .bool ((((!decide (x6.2.2.2.Code = 0)) || (!decide (x6.2.2.1 = 1))) || (!(decide (x6.2.1.Part.From = x3.2.1.Part.From) && (decide (x6.2.1.Part.To = x3.2.1.Part.To) && (decide (x6.2.1.Part.ID = x3.2.1.Part.ID) && (decide (x6.2.1.Host = x3.2.1.Host) && (decide (x6.2.1.Turn = x3.2.1.Turn) && true))))))) || (!x7)))] (.cons (fun (ga0 : (!(((!decide (x6.2.2.2.Code = 0)) || (!decide (x6.2.2.1 = 1))) || (!(decide (x6.2.1.Part.From = x3.2.1.Part.From) && (decide (x6.2.1.Part.To = x3.2.1.Part.To) && (decide (x6.2.1.Part.ID = x3.2.1.Part.ID) && (decide (x6.2.1.Host = x3.2.1.Host) && (decide (x6.2.1.Turn = x3.2.1.Turn) && true)))))))) = true) => (R_SameKnown_ok x6.1 x3.1 x7 (ite_t h14 ga0))) .nil) ?_
          refine Wk_split rfl (fun hb => ?_) (fun hb => ?_)
          ·have hF := ite_t hF hb
           refine ZRs [] [4] [] [] [(4, .bool false)] .nil ?_
           have hF := ret_done hF dn1
           have hF := some_elim hF
           exact Wk_ret (hfin _ ⟨[], [], [], [], [], [], by first | (rw [← hF]; kernel_rfl) | kernel_rfl⟩)
          ·have hF := ite_f hF hb
           refine Wk_skip ?_
           refine Wk_blk ?_
           exact Wk_metP x3.1 [0, 1, 5, 7, 8] [] [] [] [] [] hF (by kernel_rfl)
     ·intro v2 hF
      have hF : law_LocateFinds_J2 v1 v2 = some y1 := hF
      unfold law_LocateFinds_J2 at hF
      refine ZR [] [0, 1, 5, 7, 8] [] [] [(8, .i (w64 (v1.2 + 1)))] .nil ?_
      refine Wk_trim (fs := [0, 1, 5, 7, 8]) (bs := []) (rs := []) (ms := []) (aa := []) (nv := []) ?_ (ih1 _ (some_elim hF).symm)
      kernel_rfl
    ·have hF := ite_f hF hb
     refine Wk_exit rfl ?_
     have hF := inrO_done hF dn1
     exact Wk_metP () [] [] [] [] [] [] hF (by kernel_rfl)
   ·intro v hF
    have hF : law_LocateFinds_J1 v = some r := hF
    unfold law_LocateFinds_J1 at hF
    refine ZRs [] [4] [] [] [(4, .bool true)] .nil ?_
    have hF := some_elim hF
    exact Wk_ret (hfin _ ⟨[], [], [], [], [], [], by first | (rw [← hF]; kernel_rfl) | kernel_rfl⟩)

/- tabularylaw.vastBoard -/
noncomputable def law_vastBoard (b : Board) : Bool :=
 lt ((decide (100 < (b.Hosts.length : Int))) || (decide (400 < (b.Slots.length : Int)))) fun (v : Bool) =>
 v
theorem law_vastBoard_ok (b : Board) (r : Bool) (hF : law_vastBoard b = r) : Pe Try.prog 38 S.none [.agg (c_Board b)] (.bool r) S.none := by
 refine Pe_of (N := 13) (res := [.tmp 2]) (ts := [4]) Ty.ok Fn.b38 Try.func38 rfl rfl rfl rfl rfl rfl ?_
 intro Q g hfin
 unfold law_vastBoard at hF
 refine URs [] [1] [1] [] [] [(1, .ptr 1 0)] [(1, (c_Board b))] [] [] .nil ?_
 refine Wk_seq ?_
 refine WRL ((decide (100 < (b.Hosts.length : Int))) || (decide (400 < (b.Slots.length : Int)))) (fun v : Bool => ⟨[(2, .bool v)], [], [], [], []⟩) [.nat (b.Hosts.length : Int), .nat (b.Slots.length : Int)] [2] [] [] [] [] [] (.cons (len_ok e_Host b.Hosts) (.cons (fun (_ : (!(decide (100 < (b.Hosts.length : Int)))) = true) => (len_ok e_Slot b.Slots)) .nil)) (by kernel_rfl) (fun v hv => ?_)
 have hF := lt_elim hF hv
 exact Wk_ret (hfin _ ⟨[], [], [], [], [], [], by first | (rw [← hF]; kernel_rfl) | kernel_rfl⟩)

/- tabularylaw.ownKnown -/
noncomputable def law_ownKnown (l : List Known) : Option (List Known) :=
 asrt ((l.length : Int) * 56 ≤ 140737488351232) <|
 some l
theorem law_ownKnown_ok (l : List Known) (r : List Known) (hF : law_ownKnown l = some r) : Pe Try.prog 40 ⟨[], [], [], [], []⟩ [.sl 5 (l.map e_Known)] (.row 4 1) ⟨[], [], [(4, .z 67 5 1 (r.map e_Known))], [], []⟩ := by
 refine Pe_of (N := 5) (res := [.tmp 2]) (ts := [58]) Ty.ok Fn.b40 Try.func40 rfl rfl rfl rfl rfl rfl ?_
 intro Q g hfin
 unfold law_ownKnown at hF
 refine ZRs [] [0] [] [] [] .nil ?_
 refine Wk_seq ?_
 obtain ⟨h0, hF⟩ := asrt_elim hF
 refine UR [.xs (l.map e_Known)] [2] [] [4] [] [(2, .row 4 1)] [] [(4, .z 67 5 1 (l.map e_Known))] [] (.cons (app0_ok e_Known l) (.cons (appl_ok e_Known h0) .nil)) ?_
 have hF := some_elim hF
 exact Wk_ret (hfin _ ⟨[4], [], [4], [], [], [], by first | (rw [← hF]; kernel_rfl) | kernel_rfl⟩)

/- tabularylaw.ownKnown -/
noncomputable def law_ownKnown_v1 (l : List Known) : Option (List Known) :=
 asrt ((l.length : Int) * 56 ≤ 140737488351232) <|
 some l
theorem law_ownKnown_v1_ok (l : List Known) (r : List Known) (hF : law_ownKnown_v1 l = some r) : Pe Try.prog 40 S.none [.sl 5 (l.map e_Known)] (.sl 5 (r.map e_Known)) S.none := by
 refine Pe_of (N := 5) (res := [.tmp 2]) (ts := [58]) Ty.ok Fn.b40 Try.func40 rfl rfl rfl rfl rfl rfl ?_
 intro Q g hfin
 unfold law_ownKnown_v1 at hF
 refine ZRs [] [0] [] [] [] .nil ?_
 refine Wk_seq ?_
 obtain ⟨h0, hF⟩ := asrt_elim hF
 refine UR [.xs (l.map e_Known)] [2] [] [4] [] [(2, .row 4 1)] [] [(4, .z 67 5 1 (l.map e_Known))] [] (.cons (app0_ok e_Known l) (.cons (appl_ok e_Known h0) .nil)) ?_
 have hF := some_elim hF
 exact Wk_ret (hfin _ ⟨[], [], [], [], [], [], by first | (rw [← hF]; kernel_rfl) | kernel_rfl⟩)

/- locate.Serves -/
noncomputable def locate_Serves (b : Board) (host : Int) (turn : Int) (row : List UInt8) : Option (Bool × Fault) :=
 ob (assign_Check b) fun x =>
 if (!decide (x.Code = 0)) = true then
  some (false, x)
 else
  ob (locate_serves b host turn row) fun x1 =>
  some (x1, (⟨0, 0⟩ : Fault))
theorem locate_Serves_ok (b : Board) (host : Int) (turn : Int) (row : List UInt8) (r : Bool × Fault) (hF : locate_Serves b host turn row = some r) : Pe Try.prog 41 S.none [.agg (c_Board b), .i host, .i turn, .str row] (.tup [.bool r.1, .agg [.i r.2.Code, .i r.2.At]]) S.none := by
 refine Pe_of (N := 23) (res := [.tmp 8, .cell 9 26]) (ts := [4, 26]) Ty.ok Fn.b41 Try.func41 rfl rfl rfl rfl rfl rfl ?_
 intro Q g hfin
 unfold locate_Serves at hF
 refine URs [] [1, 2, 3, 4, 9] [4, 9] [] [] [(4, .ptr 4 0), (9, .ptr 9 0)] [(4, (c_Board b)), (9, [.i 0, .i 0])] [] [] .nil ?_
 refine Wk_seq ?_
 refine Wk_seq ?_
 obtain ⟨x, h0, hF⟩ := ob_elim hF
 refine UR [.callB (.agg [.i x.Code, .i x.At])] [1, 2, 3, 4, 9, 10] [4, 9, 10] [] [] [(10, .ptr 10 0)] [(10, [.i x.Code, .i x.At])] [] [] (.cons (assign_Check_ok b x h0) .nil) ?_
 refine ZRs [] [1, 2, 3, 4, 9, 10, 15] [4, 9, 10] [] [(15, .bool (!decide (x.Code = 0)))] .nil ?_
 refine Wk_split rfl (fun hb => ?_) (fun hb => ?_)
 ·have hF := ite_t hF hb
  refine UDs [] [8, 9] [9] [] [] [(8, .bool false)] [(9, [.i x.Code, .i x.At])] [] [] .nil ?_
  have hF := some_elim hF
  exact Wk_ret (hfin _ ⟨[], [], [], [], [], [], by first | (rw [← hF]; kernel_rfl) | kernel_rfl⟩)
 ·have hF := ite_f hF hb
  refine Wk_skip ?_
  refine Wk_seq ?_
  obtain ⟨x1, h1, hF⟩ := ob_elim hF
  refine ZR [.callB (.bool x1)] [8, 9] [9] [] [(8, .bool x1)] (.cons (locate_serves_ok b host turn row x1 h1) .nil) ?_
  have hF := some_elim hF
  exact Wk_ret (hfin _ ⟨[], [], [], [], [], [], by first | (rw [← hF]; kernel_rfl) | kernel_rfl⟩)

/- tabularyref.SameBoard -/
noncomputable def R_SameBoard_J2 (v1 : Unit) : Option Bool :=
 some true
noncomputable def R_SameBoard_B1 (a0 : Board) (b : Board) (v2 : Int) : Option (Int ⊕ Bool) :=
 if (decide (v2 < (a0.Slots.length : Int))) = true then
  asrt (0 ≤ v2 ∧ v2 < (a0.Slots.length : Int)) <|
  asrt (0 ≤ v2 ∧ v2 < (b.Slots.length : Int)) <|
  if (!(decide (((lget a0.Slots v2).Part).From = ((lget b.Slots v2).Part).From) && (decide (((lget a0.Slots v2).Part).To = ((lget b.Slots v2).Part).To) && (decide (((lget a0.Slots v2).Part).ID = ((lget b.Slots v2).Part).ID) && (decide ((lget a0.Slots v2).State = (lget b.Slots v2).State) && (decide ((lget a0.Slots v2).Host = (lget b.Slots v2).Host) && (decide ((lget a0.Slots v2).Turn = (lget b.Slots v2).Turn) && true))))))) = true then
   some (Sum.inr false)
  else
   some (Sum.inl (w64 (v2 + 1)))
 else
  inrO (R_SameBoard_J2 ())
noncomputable def R_SameBoard_L1 (a0 : Board) (b : Board) (v0 : Int) : Option Bool :=
 loopO (fun y => R_SameBoard_B1 a0 b y) v0
noncomputable def R_SameBoard_J1 (a0 : Board) (b : Board) (v : Unit) : Option Bool :=
 R_SameBoard_L1 a0 b 0
noncomputable def R_SameBoard_B2 (a0 : Board) (b : Board) (v3 : Int) : Option (Int ⊕ Bool) :=
 if (decide (v3 < (a0.Hosts.length : Int))) = true then
  asrt (0 ≤ v3 ∧ v3 < (a0.Hosts.length : Int)) <|
  asrt (0 ≤ v3 ∧ v3 < (b.Hosts.length : Int)) <|
  if (!(decide ((lget a0.Hosts v3).ID = (lget b.Hosts v3).ID) && (decide ((lget a0.Hosts v3).Epoch = (lget b.Hosts v3).Epoch) && ((((lget a0.Hosts v3).Alive) == ((lget b.Hosts v3).Alive)) && true)))) = true then
   some (Sum.inr false)
  else
   some (Sum.inl (w64 (v3 + 1)))
 else
  inrO (R_SameBoard_J1 a0 b ())
noncomputable def R_SameBoard_L2 (a0 : Board) (b : Board) (v0 : Int) : Option Bool :=
 loopO (fun y => R_SameBoard_B2 a0 b y) v0
noncomputable def R_SameBoard (a0 : Board) (b : Board) : Option Bool :=
 if ((((!decide (a0.Turn = b.Turn)) || (!decide (a0.Next = b.Next))) || (!decide ((a0.Hosts.length : Int) = (b.Hosts.length : Int)))) || (!decide ((a0.Slots.length : Int) = (b.Slots.length : Int)))) = true then
  some false
 else
  R_SameBoard_L2 a0 b 0
theorem R_SameBoard_ok (a0 : Board) (b : Board) (r : Bool) (hF : R_SameBoard a0 b = some r) : Pe Try.prog 43 S.none [.agg (c_Board a0), .agg (c_Board b)] (.bool r) S.none := by
 refine Pe_of (N := 73) (res := [.tmp 4]) (ts := [4]) Ty.ok Fn.b43 Try.func43 rfl rfl rfl rfl rfl rfl ?_
 intro Q g hfin
 unfold R_SameBoard at hF
 refine URs [] [2, 3] [2, 3] [] [] [(2, .ptr 2 0), (3, .ptr 3 0)] [(2, (c_Board a0)), (3, (c_Board b))] [] [] .nil ?_
 refine Wk_seq ?_
 refine ZRs [.nat (a0.Hosts.length : Int), .nat (b.Hosts.length : Int), .nat (a0.Slots.length : Int), .nat (b.Slots.length : Int)] [2, 3, 36] [2, 3] [] [(36, .bool ((((!decide (a0.Turn = b.Turn)) || (!decide (a0.Next = b.Next))) || (!decide ((a0.Hosts.length : Int) = (b.Hosts.length : Int)))) || (!decide ((a0.Slots.length : Int) = (b.Slots.length : Int)))))] (.cons (fun (_ : (!((!decide (a0.Turn = b.Turn)) || (!decide (a0.Next = b.Next)))) = true) => (len_ok e_Host a0.Hosts)) (.cons (fun (_ : (!((!decide (a0.Turn = b.Turn)) || (!decide (a0.Next = b.Next)))) = true) => (len_ok e_Host b.Hosts)) (.cons (fun (_ : (!(((!decide (a0.Turn = b.Turn)) || (!decide (a0.Next = b.Next))) || (!decide ((a0.Hosts.length : Int) = (b.Hosts.length : Int))))) = true) => (len_ok e_Slot a0.Slots)) (.cons (fun (_ : (!(((!decide (a0.Turn = b.Turn)) || (!decide (a0.Next = b.Next))) || (!decide ((a0.Hosts.length : Int) = (b.Hosts.length : Int))))) = true) => (len_ok e_Slot b.Slots)) .nil)))) ?_
 refine Wk_split rfl (fun hb => ?_) (fun hb => ?_)
 ·have hF := ite_t hF hb
  refine ZRs [] [4] [] [] [(4, .bool false)] .nil ?_
  have hF := some_elim hF
  exact Wk_ret (hfin _ ⟨[], [], [], [], [], [], by first | (rw [← hF]; kernel_rfl) | kernel_rfl⟩)
 ·have hF := ite_f hF hb
  refine Wk_skip ?_
  refine Wk_seq ?_
  refine ZRs [] [2, 3, 5] [2, 3] [] [(5, .i 0)] .nil ?_
  refine Wk_meetP (fun v : Unit => (⟨[(2, .ptr 2 0), (3, .ptr 3 0)], [(2, (c_Board a0)), (3, (c_Board b))], [], [], []⟩ : S)) (fun v => R_SameBoard_J1 a0 b v = some r) ?_ ?_
  ·refine Wk_block ?_
   unfold R_SameBoard_L2 at hF
   refine Wk_trim (fs := [2, 3, 5]) (bs := [2, 3]) (rs := []) (ms := []) (aa := []) (nv := []) (t := (fun v3 : Int => (⟨[(2, .ptr 2 0), (3, .ptr 3 0), (5, .i v3)], [(2, (c_Board a0)), (3, (c_Board b))], [], [], []⟩ : S)) 0) (by kernel_rfl) ?_
   refine Wk_iter (step := fun y => R_SameBoard_B2 a0 b y) (r := r) (fun v3 : Int => (⟨[(2, .ptr 2 0), (3, .ptr 3 0), (5, .i v3)], [(2, (c_Board a0)), (3, (c_Board b))], [], [], []⟩ : S)) 0 hF ?_
   intro n1 v3 y1 hF ih1 dn1
   have hF : R_SameBoard_B2 a0 b v3 = some y1 := hF
   unfold R_SameBoard_B2 at hF
   refine Wk_seq ?_
   refine ZRs [.nat (a0.Hosts.length : Int)] [2, 3, 5, 41] [2, 3] [] [(41, .bool (decide (v3 < (a0.Hosts.length : Int))))] (.cons (len_ok e_Host a0.Hosts) .nil) ?_
   refine Wk_split rfl (fun hb => ?_) (fun hb => ?_)
   ·have hF := ite_t hF hb
    refine Wk_skip ?_
    refine Wk_seq ?_
    refine Wk_block ?_
    refine Wk_seq ?_
    obtain ⟨h2, hF⟩ := asrt_elim hF
    obtain ⟨h3, hF⟩ := asrt_elim hF
    refine ZD [.av (e_Host (lget a0.Hosts v3)), .av (e_Host (lget b.Hosts v3))] [2, 3, 5, 54] [2, 3] [] [(54, .bool (!(decide ((lget a0.Hosts v3).ID = (lget b.Hosts v3).ID) && (decide ((lget a0.Hosts v3).Epoch = (lget b.Hosts v3).Epoch) && ((((lget a0.Hosts v3).Alive) == ((lget b.Hosts v3).Alive)) && true)))))] (.cons (idx_ok e_Host h2) (.cons (idx_ok e_Host h3) .nil)) ?_
    refine Wk_split rfl (fun hb => ?_) (fun hb => ?_)
    ·have hF := ite_t hF hb
     refine ZRs [] [4] [] [] [(4, .bool false)] .nil ?_
     have hF := ret_done hF dn1
     have hF := some_elim hF
     exact Wk_ret (hfin _ ⟨[], [], [], [], [], [], by first | (rw [← hF]; kernel_rfl) | kernel_rfl⟩)
    ·have hF := ite_f hF hb
     refine Wk_skip ?_
     refine Wk_blk ?_
     refine ZR [] [2, 3, 5] [2, 3] [] [(5, .i (w64 (v3 + 1)))] .nil ?_
     refine Wk_trim (fs := [2, 3, 5]) (bs := [2, 3]) (rs := []) (ms := []) (aa := []) (nv := []) ?_ (ih1 _ (some_elim hF).symm)
     kernel_rfl
   ·have hF := ite_f hF hb
    refine Wk_exit rfl ?_
    have hF := inrO_done hF dn1
    exact Wk_metP () [2, 3] [2, 3] [] [] [] [] hF (by kernel_rfl)
  ·intro v hF
   have hF : R_SameBoard_J1 a0 b v = some r := hF
   unfold R_SameBoard_J1 at hF
   refine Wk_seq ?_
   refine ZRs [] [2, 3, 6] [2, 3] [] [(6, .i 0)] .nil ?_
   refine Wk_meetP (fun v1 : Unit => (⟨[], [], [], [], []⟩ : S)) (fun v1 => R_SameBoard_J2 v1 = some r) ?_ ?_
   ·refine Wk_block ?_
    unfold R_SameBoard_L1 at hF
    refine Wk_trim (fs := [2, 3, 6]) (bs := [2, 3]) (rs := []) (ms := []) (aa := []) (nv := []) (t := (fun v2 : Int => (⟨[(2, .ptr 2 0), (3, .ptr 3 0), (6, .i v2)], [(2, (c_Board a0)), (3, (c_Board b))], [], [], []⟩ : S)) 0) (by kernel_rfl) ?_
    refine Wk_iter (step := fun y => R_SameBoard_B1 a0 b y) (r := r) (fun v2 : Int => (⟨[(2, .ptr 2 0), (3, .ptr 3 0), (6, .i v2)], [(2, (c_Board a0)), (3, (c_Board b))], [], [], []⟩ : S)) 0 hF ?_
    intro n1 v2 y1 hF ih1 dn1
    have hF : R_SameBoard_B1 a0 b v2 = some y1 := hF
    unfold R_SameBoard_B1 at hF
    refine Wk_seq ?_
    refine ZRs [.nat (a0.Slots.length : Int)] [2, 3, 6, 59] [2, 3] [] [(59, .bool (decide (v2 < (a0.Slots.length : Int))))] (.cons (len_ok e_Slot a0.Slots) .nil) ?_
    refine Wk_split rfl (fun hb => ?_) (fun hb => ?_)
    ·have hF := ite_t hF hb
     refine Wk_skip ?_
     refine Wk_seq ?_
     refine Wk_block ?_
     refine Wk_seq ?_
     obtain ⟨h0, hF⟩ := asrt_elim hF
     obtain ⟨h1, hF⟩ := asrt_elim hF
     refine ZD [.av (e_Slot (lget a0.Slots v2)), .av (e_Slot (lget b.Slots v2))] [2, 3, 6, 72] [2, 3] [] [(72, .bool (!(decide (((lget a0.Slots v2).Part).From = ((lget b.Slots v2).Part).From) && (decide (((lget a0.Slots v2).Part).To = ((lget b.Slots v2).Part).To) && (decide (((lget a0.Slots v2).Part).ID = ((lget b.Slots v2).Part).ID) && (decide ((lget a0.Slots v2).State = (lget b.Slots v2).State) && (decide ((lget a0.Slots v2).Host = (lget b.Slots v2).Host) && (decide ((lget a0.Slots v2).Turn = (lget b.Slots v2).Turn) && true))))))))] (.cons (idx_ok e_Slot h0) (.cons (idx_ok e_Slot h1) .nil)) ?_
     refine Wk_split rfl (fun hb => ?_) (fun hb => ?_)
     ·have hF := ite_t hF hb
      refine ZRs [] [4] [] [] [(4, .bool false)] .nil ?_
      have hF := ret_done hF dn1
      have hF := some_elim hF
      exact Wk_ret (hfin _ ⟨[], [], [], [], [], [], by first | (rw [← hF]; kernel_rfl) | kernel_rfl⟩)
     ·have hF := ite_f hF hb
      refine Wk_skip ?_
      refine Wk_blk ?_
      refine ZR [] [2, 3, 6] [2, 3] [] [(6, .i (w64 (v2 + 1)))] .nil ?_
      refine Wk_trim (fs := [2, 3, 6]) (bs := [2, 3]) (rs := []) (ms := []) (aa := []) (nv := []) ?_ (ih1 _ (some_elim hF).symm)
      kernel_rfl
    ·have hF := ite_f hF hb
     refine Wk_exit rfl ?_
     have hF := inrO_done hF dn1
     exact Wk_metP () [] [] [] [] [] [] hF (by kernel_rfl)
   ·intro v1 hF
    have hF : R_SameBoard_J2 v1 = some r := hF
    unfold R_SameBoard_J2 at hF
    refine ZRs [] [4] [] [] [(4, .bool true)] .nil ?_
    have hF := some_elim hF
    exact Wk_ret (hfin _ ⟨[], [], [], [], [], [], by first | (rw [← hF]; kernel_rfl) | kernel_rfl⟩)

/- tabularyref.Meets -/
noncomputable def R_Meets (a0 : Part) (b : Part) : Bool :=
 lt (((decide (a0.To = ([] : List UInt8))) || (Op.bytesLess b.From a0.To)) && ((decide (b.To = ([] : List UInt8))) || (Op.bytesLess a0.From b.To))) fun (v : Bool) =>
 v
theorem R_Meets_ok (a0 : Part) (b : Part) (r : Bool) (hF : R_Meets a0 b = r) : Pe Try.prog 86 S.none [.agg (c_Part a0), .agg (c_Part b)] (.bool r) S.none := by
 refine Pe_of (N := 27) (res := [.tmp 4]) (ts := [4]) Ty.ok Fn.b86 Try.func86 rfl rfl rfl rfl rfl rfl ?_
 intro Q g hfin
 unfold R_Meets at hF
 refine URs [] [2, 3] [2, 3] [] [] [(2, .ptr 2 0), (3, .ptr 3 0)] [(2, (c_Part a0)), (3, (c_Part b))] [] [] .nil ?_
 refine Wk_seq ?_
 refine WRL (((decide (a0.To = ([] : List UInt8))) || (Op.bytesLess b.From a0.To)) && ((decide (b.To = ([] : List UInt8))) || (Op.bytesLess a0.From b.To))) (fun v : Bool => ⟨[(4, .bool v)], [], [], [], []⟩) [] [4] [] [] [] [] [] .nil (by kernel_rfl) (fun v hv => ?_)
 have hF := lt_elim hF hv
 exact Wk_ret (hfin _ ⟨[], [], [], [], [], [], by first | (rw [← hF]; kernel_rfl) | kernel_rfl⟩)

/- tabularyref.Learnt -/
noncomputable def R_Learnt_v1_J2 (v1 : List Known) : Option (List Known) :=
 some v1
noncomputable def R_Learnt_v1_B1 (l : List Known) (k0 : Known) (v2 : List Known × Int) : Option ((List Known × Int) ⊕ (List Known)) :=
 if (decide (v2.2 < (l.length : Int))) = true then
  asrt (0 ≤ v2.2 ∧ v2.2 < (l.length : Int)) <|
  lt (R_Meets (⟨((lget l v2.2).Part).From, ((lget l v2.2).Part).To, ((lget l v2.2).Part).ID⟩ : Part) k0.Part) fun x =>
  asrt ((!x) = true → 0 ≤ v2.2 ∧ v2.2 < (l.length : Int)) <|
  ob (
   if ((!x) && (Op.bytesLess k0.Part.From (((lget l v2.2).Part).From))) = true then
    asrt (0 ≤ v2.2 ∧ v2.2 < (l.length : Int)) <|
    asrt (((v2.1 ++ [(⟨(⟨((lget l v2.2).Part).From, ((lget l v2.2).Part).To, ((lget l v2.2).Part).ID⟩ : Part), (lget l v2.2).Host, (lget l v2.2).Turn⟩ : Known)]).length : Int) * 56 ≤ 140737488351232) <|
    lt ((v2.1 ++ [(⟨(⟨((lget l v2.2).Part).From, ((lget l v2.2).Part).To, ((lget l v2.2).Part).ID⟩ : Part), (lget l v2.2).Host, (lget l v2.2).Turn⟩ : Known)])) fun (v4 : List Known) =>
    some v4
   else
    some v2.1) fun (v3 : List Known) =>
  some (Sum.inl (v3, w64 (v2.2 + 1)))
 else
  inrO (R_Learnt_v1_J2 v2.1)
noncomputable def R_Learnt_v1_L1 (l : List Known) (k0 : Known) (v0 : List Known × Int) : Option (List Known) :=
 loopO (fun y => R_Learnt_v1_B1 l k0 y) v0
noncomputable def R_Learnt_v1_J1 (l : List Known) (k0 : Known) (v : List Known) : Option (List Known) :=
 asrt (((v ++ [k0]).length : Int) * 56 ≤ 140737488351232) <|
 R_Learnt_v1_L1 l k0 ((v ++ [k0]), 0)
noncomputable def R_Learnt_v1_B2 (l : List Known) (k0 : Known) (v5 : List Known × Int) : Option ((List Known × Int) ⊕ (List Known)) :=
 if (decide (v5.2 < (l.length : Int))) = true then
  asrt (0 ≤ v5.2 ∧ v5.2 < (l.length : Int)) <|
  lt (R_Meets (⟨((lget l v5.2).Part).From, ((lget l v5.2).Part).To, ((lget l v5.2).Part).ID⟩ : Part) k0.Part) fun x1 =>
  asrt ((!x1) = true → 0 ≤ v5.2 ∧ v5.2 < (l.length : Int)) <|
  ob (
   if ((!x1) && (Op.bytesLess (((lget l v5.2).Part).From) k0.Part.From)) = true then
    asrt (0 ≤ v5.2 ∧ v5.2 < (l.length : Int)) <|
    asrt (((v5.1 ++ [(⟨(⟨((lget l v5.2).Part).From, ((lget l v5.2).Part).To, ((lget l v5.2).Part).ID⟩ : Part), (lget l v5.2).Host, (lget l v5.2).Turn⟩ : Known)]).length : Int) * 56 ≤ 140737488351232) <|
    lt ((v5.1 ++ [(⟨(⟨((lget l v5.2).Part).From, ((lget l v5.2).Part).To, ((lget l v5.2).Part).ID⟩ : Part), (lget l v5.2).Host, (lget l v5.2).Turn⟩ : Known)])) fun (v7 : List Known) =>
    some v7
   else
    some v5.1) fun (v6 : List Known) =>
  some (Sum.inl (v6, w64 (v5.2 + 1)))
 else
  inrO (R_Learnt_v1_J1 l k0 v5.1)
noncomputable def R_Learnt_v1_L2 (l : List Known) (k0 : Known) (v0 : List Known × Int) : Option (List Known) :=
 loopO (fun y => R_Learnt_v1_B2 l k0 y) v0
noncomputable def R_Learnt_v1 (l : List Known) (k0 : Known) : Option (List Known) :=
 R_Learnt_v1_L2 l k0 (([] : List Known), 0)
theorem R_Learnt_v1_ok (l : List Known) (k0 : Known) (r : List Known) (hF : R_Learnt_v1 l k0 = some r) : Pe Try.prog 44 S.none [.sl 5 (l.map e_Known), .agg (c_Known k0)] (.sl 5 (r.map e_Known)) S.none := by
 refine Pe_of (N := 81) (res := [.tmp 4]) (ts := [58]) Ty.ok Fn.b44 Try.func44 rfl rfl rfl rfl rfl rfl ?_
 intro Q g hfin
 unfold R_Learnt_v1 at hF
 refine URs [] [0, 3] [3] [] [] [(3, .ptr 3 0)] [(3, (c_Known k0))] [] [] .nil ?_
 refine ZRs [] [0, 3, 5] [3] [] [(5, .nils)] .nil ?_
 refine Wk_seq ?_
 refine ZRs [] [0, 3, 5, 6] [3] [] [(6, .i 0)] .nil ?_
 refine Wk_meetP (fun v : List Known => (⟨[(0, .sl 5 (l.map e_Known)), (3, .ptr 3 0), (5, .row 41 0)], [(3, (c_Known k0))], [(41, .z 67 5 0 (v.map e_Known))], [], []⟩ : S)) (fun v => R_Learnt_v1_J1 l k0 v = some r) ?_ ?_
 ·refine Wk_block ?_
  unfold R_Learnt_v1_L2 at hF
  refine Wk_nilrow 5 60000 67 5 rfl rfl rfl ?_
  refine Wk_trim (fs := [0, 3, 5, 6]) (bs := [3]) (rs := [60000]) (ms := []) (aa := []) (nv := []) rfl ?_
  refine Wk_ren' ⟨[], [(60000, 41)], [], []⟩ rfl ?_
  refine Wk_trim (fs := [0, 3, 5, 6]) (bs := [3]) (rs := [41]) (ms := []) (aa := []) (nv := []) (t := (fun v5 : List Known × Int => (⟨[(0, .sl 5 (l.map e_Known)), (3, .ptr 3 0), (5, .row 41 0), (6, .i v5.2)], [(3, (c_Known k0))], [(41, .z 67 5 0 (v5.1.map e_Known))], [], []⟩ : S)) (([] : List Known), 0)) (by kernel_rfl) ?_
  refine Wk_iter (step := fun y => R_Learnt_v1_B2 l k0 y) (r := r) (fun v5 : List Known × Int => (⟨[(0, .sl 5 (l.map e_Known)), (3, .ptr 3 0), (5, .row 41 0), (6, .i v5.2)], [(3, (c_Known k0))], [(41, .z 67 5 0 (v5.1.map e_Known))], [], []⟩ : S)) (([] : List Known), 0) hF ?_
  intro n1 v5 y1 hF ih1 dn1
  have hF : R_Learnt_v1_B2 l k0 v5 = some y1 := hF
  unfold R_Learnt_v1_B2 at hF
  refine Wk_seq ?_
  refine ZRs [.nat (l.length : Int)] [0, 3, 5, 6, 11] [3] [41] [(11, .bool (decide (v5.2 < (l.length : Int))))] (.cons (len_ok e_Known l) .nil) ?_
  refine Wk_split rfl (fun hb => ?_) (fun hb => ?_)
  ·have hF := ite_t hF hb
   refine Wk_skip ?_
   refine Wk_seq ?_
   refine Wk_block ?_
   refine Wk_seq ?_
   obtain ⟨h6, hF⟩ := asrt_elim hF
   obtain ⟨x1, h7, hF⟩ := lt_split hF
   obtain ⟨h8, hF⟩ := asrt_elim hF
   refine ZD [.av (e_Known (lget l v5.2)), .callB (.bool x1), .av (e_Known (lget l v5.2))] [0, 3, 5, 6, 34] [3] [41] [(34, .bool ((!x1) && (Op.bytesLess (((lget l v5.2).Part).From) k0.Part.From)))] (.cons (idx_ok e_Known h6) (.cons (R_Meets_ok (⟨((lget l v5.2).Part).From, ((lget l v5.2).Part).To, ((lget l v5.2).Part).ID⟩ : Part) k0.Part x1 h7) (.cons (fun (ga0 : (!x1) = true) => (idx_ok e_Known (h8 ga0))) .nil))) ?_
   obtain ⟨v6, hv, hF⟩ := ob_elim hF
   refine Wk_meet (⟨[(0, .sl 5 (l.map e_Known)), (3, .ptr 3 0), (5, .row 41 0), (6, .i v5.2)], [(3, (c_Known k0))], [(41, .z 67 5 0 (v6.map e_Known))], [], []⟩ : S) ?_ ?_
   ·have hF := hv
    refine Wk_split rfl (fun hb => ?_) (fun hb => ?_)
    ·have hF := ite_t hF hb
     obtain ⟨h9, hF⟩ := asrt_elim hF
     obtain ⟨h10, hF⟩ := asrt_elim hF
     refine WRL ((v5.1 ++ [(⟨(⟨((lget l v5.2).Part).From, ((lget l v5.2).Part).To, ((lget l v5.2).Part).ID⟩ : Part), (lget l v5.2).Host, (lget l v5.2).Turn⟩ : Known)])) (fun v7 : List Known => ⟨[(0, .sl 5 (l.map e_Known)), (3, .ptr 3 0), (5, .row 41 1), (6, .i v5.2)], [(3, (c_Known k0))], [(41, .z 67 5 1 (v7.map e_Known))], [], []⟩) [.av (e_Known (lget l v5.2)), .sealed, .xs ((v5.1 ++ [(⟨(⟨((lget l v5.2).Part).From, ((lget l v5.2).Part).To, ((lget l v5.2).Part).ID⟩ : Part), (lget l v5.2).Host, (lget l v5.2).Turn⟩ : Known)]).map e_Known)] [0, 3, 5, 6] [3] [41] [] [] [] (.cons (idx_ok e_Known h9) (.cons (app_ok e_Known v5.1 [(⟨(⟨((lget l v5.2).Part).From, ((lget l v5.2).Part).To, ((lget l v5.2).Part).ID⟩ : Part), (lget l v5.2).Host, (lget l v5.2).Turn⟩ : Known)]) (.cons (appl_ok e_Known h10) .nil))) (by kernel_rfl) (fun v7 hv => ?_)
     have hF := lt_elim hF hv
     exact Wk_met (fs := [0, 3, 5, 6]) (bs := [3]) (rs := [41]) (ms := []) (aa := []) (nv := [(41, ⟨0, true, true, false⟩)]) (by first | (rw [← some_elim hF]; kernel_rfl) | kernel_rfl)
    ·have hF := ite_f hF hb
     refine Wk_skip ?_
     exact Wk_met (fs := [0, 3, 5, 6]) (bs := [3]) (rs := [41]) (ms := []) (aa := []) (nv := []) (by first | (rw [← some_elim hF]; kernel_rfl) | kernel_rfl)
   ·refine Wk_blk ?_
    refine ZR [] [0, 3, 5, 6] [3] [41] [(6, .i (w64 (v5.2 + 1)))] .nil ?_
    refine Wk_trim (fs := [0, 3, 5, 6]) (bs := [3]) (rs := [41]) (ms := []) (aa := []) (nv := []) ?_ (ih1 _ (some_elim hF).symm)
    kernel_rfl
  ·have hF := ite_f hF hb
   refine Wk_exit rfl ?_
   have hF := inrO_done hF dn1
   exact Wk_metP v5.1 [0, 3, 5] [3] [41] [] [] [] hF (by kernel_rfl)
 ·intro v hF
  have hF : R_Learnt_v1_J1 l k0 v = some r := hF
  unfold R_Learnt_v1_J1 at hF
  refine Wk_seq ?_
  obtain ⟨h0, hF⟩ := asrt_elim hF
  refine UR [.sealed, .xs ((v ++ [k0]).map e_Known)] [0, 3, 5] [3] [41] [] [(5, .row 41 1)] [] [(41, .z 67 5 1 ((v ++ [k0]).map e_Known))] [] (.cons (app_ok e_Known v [k0]) (.cons (appl_ok e_Known h0) .nil)) ?_
  refine Wk_seq ?_
  refine ZRs [] [0, 3, 5, 7] [3] [41] [(7, .i 0)] .nil ?_
  refine Wk_meetP (fun v1 : List Known => (⟨[(5, .row 41 0)], [], [(41, .z 67 5 0 (v1.map e_Known))], [], []⟩ : S)) (fun v1 => R_Learnt_v1_J2 v1 = some r) ?_ ?_
  ·refine Wk_block ?_
   unfold R_Learnt_v1_L1 at hF
   refine Wk_trim (fs := [0, 3, 5, 7]) (bs := [3]) (rs := [41]) (ms := []) (aa := []) (nv := [(41, ⟨0, true, true, false⟩)]) (t := (fun v2 : List Known × Int => (⟨[(0, .sl 5 (l.map e_Known)), (3, .ptr 3 0), (5, .row 41 0), (7, .i v2.2)], [(3, (c_Known k0))], [(41, .z 67 5 0 (v2.1.map e_Known))], [], []⟩ : S)) ((v ++ [k0]), 0)) (by kernel_rfl) ?_
   refine Wk_iter (step := fun y => R_Learnt_v1_B1 l k0 y) (r := r) (fun v2 : List Known × Int => (⟨[(0, .sl 5 (l.map e_Known)), (3, .ptr 3 0), (5, .row 41 0), (7, .i v2.2)], [(3, (c_Known k0))], [(41, .z 67 5 0 (v2.1.map e_Known))], [], []⟩ : S)) ((v ++ [k0]), 0) hF ?_
   intro n1 v2 y1 hF ih1 dn1
   have hF : R_Learnt_v1_B1 l k0 v2 = some y1 := hF
   unfold R_Learnt_v1_B1 at hF
   refine Wk_seq ?_
   refine ZRs [.nat (l.length : Int)] [0, 3, 5, 7, 49] [3] [41] [(49, .bool (decide (v2.2 < (l.length : Int))))] (.cons (len_ok e_Known l) .nil) ?_
   refine Wk_split rfl (fun hb => ?_) (fun hb => ?_)
   ·have hF := ite_t hF hb
    refine Wk_skip ?_
    refine Wk_seq ?_
    refine Wk_block ?_
    refine Wk_seq ?_
    obtain ⟨h1, hF⟩ := asrt_elim hF
    obtain ⟨x, h2, hF⟩ := lt_split hF
    obtain ⟨h3, hF⟩ := asrt_elim hF
    refine ZD [.av (e_Known (lget l v2.2)), .callB (.bool x), .av (e_Known (lget l v2.2))] [0, 3, 5, 7, 72] [3] [41] [(72, .bool ((!x) && (Op.bytesLess k0.Part.From (((lget l v2.2).Part).From))))] (.cons (idx_ok e_Known h1) (.cons (R_Meets_ok (⟨((lget l v2.2).Part).From, ((lget l v2.2).Part).To, ((lget l v2.2).Part).ID⟩ : Part) k0.Part x h2) (.cons (fun (ga0 : (!x) = true) => (idx_ok e_Known (h3 ga0))) .nil))) ?_
    obtain ⟨v3, hv, hF⟩ := ob_elim hF
    refine Wk_meet (⟨[(0, .sl 5 (l.map e_Known)), (3, .ptr 3 0), (5, .row 41 0), (7, .i v2.2)], [(3, (c_Known k0))], [(41, .z 67 5 0 (v3.map e_Known))], [], []⟩ : S) ?_ ?_
    ·have hF := hv
     refine Wk_split rfl (fun hb => ?_) (fun hb => ?_)
     ·have hF := ite_t hF hb
      obtain ⟨h4, hF⟩ := asrt_elim hF
      obtain ⟨h5, hF⟩ := asrt_elim hF
      refine WRL ((v2.1 ++ [(⟨(⟨((lget l v2.2).Part).From, ((lget l v2.2).Part).To, ((lget l v2.2).Part).ID⟩ : Part), (lget l v2.2).Host, (lget l v2.2).Turn⟩ : Known)])) (fun v4 : List Known => ⟨[(0, .sl 5 (l.map e_Known)), (3, .ptr 3 0), (5, .row 41 1), (7, .i v2.2)], [(3, (c_Known k0))], [(41, .z 67 5 1 (v4.map e_Known))], [], []⟩) [.av (e_Known (lget l v2.2)), .sealed, .xs ((v2.1 ++ [(⟨(⟨((lget l v2.2).Part).From, ((lget l v2.2).Part).To, ((lget l v2.2).Part).ID⟩ : Part), (lget l v2.2).Host, (lget l v2.2).Turn⟩ : Known)]).map e_Known)] [0, 3, 5, 7] [3] [41] [] [] [] (.cons (idx_ok e_Known h4) (.cons (app_ok e_Known v2.1 [(⟨(⟨((lget l v2.2).Part).From, ((lget l v2.2).Part).To, ((lget l v2.2).Part).ID⟩ : Part), (lget l v2.2).Host, (lget l v2.2).Turn⟩ : Known)]) (.cons (appl_ok e_Known h5) .nil))) (by kernel_rfl) (fun v4 hv => ?_)
      have hF := lt_elim hF hv
      exact Wk_met (fs := [0, 3, 5, 7]) (bs := [3]) (rs := [41]) (ms := []) (aa := []) (nv := [(41, ⟨0, true, true, false⟩)]) (by first | (rw [← some_elim hF]; kernel_rfl) | kernel_rfl)
     ·have hF := ite_f hF hb
      refine Wk_skip ?_
      exact Wk_met (fs := [0, 3, 5, 7]) (bs := [3]) (rs := [41]) (ms := []) (aa := []) (nv := []) (by first | (rw [← some_elim hF]; kernel_rfl) | kernel_rfl)
    ·refine Wk_blk ?_
     refine ZR [] [0, 3, 5, 7] [3] [41] [(7, .i (w64 (v2.2 + 1)))] .nil ?_
     refine Wk_trim (fs := [0, 3, 5, 7]) (bs := [3]) (rs := [41]) (ms := []) (aa := []) (nv := []) ?_ (ih1 _ (some_elim hF).symm)
     kernel_rfl
   ·have hF := ite_f hF hb
    refine Wk_exit rfl ?_
    have hF := inrO_done hF dn1
    exact Wk_metP v2.1 [5] [] [41] [] [] [] hF (by kernel_rfl)
  ·intro v1 hF
   have hF : R_Learnt_v1_J2 v1 = some r := hF
   unfold R_Learnt_v1_J2 at hF
   refine ZRs [] [4] [] [41] [(4, .row 41 0)] .nil ?_
   have hF := some_elim hF
   exact Wk_ret (hfin _ ⟨[], [], [], [], [], [], by first | (rw [← hF]; kernel_rfl) | kernel_rfl⟩)

end G
end Go.Proofs.Ytdjlninhfndjfaa
