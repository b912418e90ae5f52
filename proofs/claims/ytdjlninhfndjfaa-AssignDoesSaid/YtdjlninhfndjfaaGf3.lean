/- The program's functions as plain functions, and that they are these. Written by a program (dec2.py). -/
import Derived.Test.YtdjlninhfndjfaaGf2
namespace Go.Proofs.Ytdjlninhfndjfaa
open Go Go.Dm
set_option linter.unusedVariables false
set_option linter.unusedSimpArgs false
set_option maxRecDepth 100000
namespace G
/- tabularyref.Ordered -/
noncomputable def R_Ordered_v1_J1 (x : Fault) (x1 : List Host × List Slot × Int × Int) (v1 : List Host) (v2 : List Slot) : Option (Board × Fault) :=
 some ((⟨v1, v2, x1.2.2.1, x1.2.2.2⟩ : Board), x)
noncomputable def R_Ordered_v1_B1 (o : Order) (x : Fault) (x1 : List Host × List Slot × Int × Int) (v1 : List Host) (v3 : List Slot × Int) : Option ((List Slot × Int) ⊕ (Board × Fault)) :=
 if (decide (v3.2 < (v3.1.length : Int))) = true then
  asrt (0 ≤ v3.2 ∧ v3.2 < (v3.1.length : Int)) <|
  asrt (0 ≤ v3.2 ∧ v3.2 < (v3.1.length : Int)) <|
  ob (
   if (decide (((lget v3.1 v3.2).Host) = o.ID)) = true then
    asrt (0 ≤ v3.2 ∧ v3.2 < (v3.1.length : Int)) <|
    asrt (0 ≤ v3.2 ∧ v3.2 < (v3.1.length : Int)) <|
    lt ((lset v3.1 v3.2 (⟨(⟨((lget v3.1 v3.2).Part).From, ((lget v3.1 v3.2).Part).To, ((lget v3.1 v3.2).Part).ID⟩ : Part), (lget v3.1 v3.2).State, 0, (lget v3.1 v3.2).Turn⟩ : Slot))) fun (v5 : List Slot) =>
    asrt (0 ≤ v3.2 ∧ v3.2 < (v5.length : Int)) <|
    asrt (0 ≤ v3.2 ∧ v3.2 < (v5.length : Int)) <|
    lt ((lset v5 v3.2 (⟨(⟨((lget v5 v3.2).Part).From, ((lget v5 v3.2).Part).To, ((lget v5 v3.2).Part).ID⟩ : Part), 0, (lget v5 v3.2).Host, (lget v5 v3.2).Turn⟩ : Slot))) fun (v6 : List Slot) =>
    some v6
   else
    some v3.1) fun (v4 : List Slot) =>
  some (Sum.inl (v4, w64 (v3.2 + 1)))
 else
  inrO (R_Ordered_v1_J1 x x1 v1 v3.1)
noncomputable def R_Ordered_v1_L1 (o : Order) (x : Fault) (x1 : List Host × List Slot × Int × Int) (v1 : List Host) (v0 : List Slot × Int) : Option (Board × Fault) :=
 loopO (fun y => R_Ordered_v1_B1 o x x1 v1 y) v0
noncomputable def R_Ordered_v1_J2 (x : Fault) (x1 : List Host × List Slot × Int × Int) (v7 : List Slot × Int × Int) : Option (Board × Fault) :=
 if (decide (1000000000 < v7.2.2)) = true then
  lt (R_F 9 0) fun x18 =>
  some ((⟨([] : List Host), ([] : List Slot), 0, 0⟩ : Board), x18)
 else
  some ((⟨x1.1, v7.1, v7.2.1, v7.2.2⟩ : Board), x)
noncomputable def R_Ordered_v1 (b : Board) (o : Order) : Option (Board × Fault) :=
 ob (R_BoardFault b) fun x =>
 if (!decide (x.Code = 0)) = true then
  some ((⟨([] : List Host), ([] : List Slot), 0, 0⟩ : Board), x)
 else
  ob (R_CopyBoard b) fun x1 =>
  if ((decide (o.Kind < 1)) || (decide (8 < o.Kind))) = true then
   lt (R_F 4 0) fun x2 =>
   some ((⟨([] : List Host), ([] : List Slot), 0, 0⟩ : Board), x2)
  else
   if (decide (o.Kind = 1)) = true then
    lt (R_One o.ID) fun x3 =>
    if (!x3) = true then
     lt (R_F 3 (-1)) fun x4 =>
     some ((⟨([] : List Host), ([] : List Slot), 0, 0⟩ : Board), x4)
    else
     ob (R_HostIn b o.ID true) fun x5 =>
     if (decide (0 ≤ x5)) = true then
      lt (R_F 10 (-1)) fun x6 =>
      some ((⟨([] : List Host), ([] : List Slot), 0, 0⟩ : Board), x6)
     else
      ob (R_HostIn b o.ID false) fun x7 =>
      if (decide (x7 < 0)) = true then
       if (decide (20 ≤ (b.Hosts.length : Int))) = true then
        lt (R_F 2 (-1)) fun x8 =>
        some ((⟨([] : List Host), ([] : List Slot), 0, 0⟩ : Board), x8)
       else
        asrt (((x1.1 ++ [(⟨o.ID, 1, true⟩ : Host)]).length : Int) * 24 ≤ 140737488351232) <|
        some ((⟨(x1.1 ++ [(⟨o.ID, 1, true⟩ : Host)]), x1.2.1, x1.2.2.1, x1.2.2.2⟩ : Board), x)
      else
       asrt (0 ≤ x7 ∧ x7 < (b.Hosts.length : Int)) <|
       if (decide (1000000000 ≤ ((lget b.Hosts x7).Epoch))) = true then
        lt (R_F 9 0) fun x9 =>
        some ((⟨([] : List Host), ([] : List Slot), 0, 0⟩ : Board), x9)
       else
        asrt (0 ≤ x7 ∧ x7 < (b.Hosts.length : Int)) <|
        asrt (0 ≤ x7 ∧ x7 < (x1.1.length : Int)) <|
        asrt (0 ≤ x7 ∧ x7 < (x1.1.length : Int)) <|
        lt ((lset x1.1 x7 (⟨o.ID, w64 (((lget b.Hosts x7).Epoch) + 1), true⟩ : Host))) fun (v : List Host) =>
        some ((⟨v, x1.2.1, x1.2.2.1, x1.2.2.2⟩ : Board), x)
   else
    if (decide (o.Kind = 2)) = true then
     ob (R_HostIn b o.ID true) fun x10 =>
     if (decide (x10 < 0)) = true then
      lt (R_F 6 (-1)) fun x11 =>
      some ((⟨([] : List Host), ([] : List Slot), 0, 0⟩ : Board), x11)
     else
      asrt (0 ≤ x10 ∧ x10 < (x1.1.length : Int)) <|
      asrt (0 ≤ x10 ∧ x10 < (x1.1.length : Int)) <|
      lt ((lset x1.1 x10 (⟨(lget x1.1 x10).ID, (lget x1.1 x10).Epoch, false⟩ : Host))) fun (v1 : List Host) =>
      R_Ordered_v1_L1 o x x1 v1 (x1.2.1, 0)
    else
     ob (R_SlotIn b o.ID) fun x12 =>
     if ((decide (x12 < 0)) || ((decide (o.Kind = 8)) && (decide ((b.Slots.length : Int) ≤ (w64 (x12 + 1)))))) = true then
      lt (R_F 6 (-1)) fun x13 =>
      some ((⟨([] : List Host), ([] : List Slot), 0, 0⟩ : Board), x13)
     else
      asrt (0 ≤ x12 ∧ x12 < (b.Slots.length : Int)) <|
      ob (if (decide (o.Kind = 3)) = true then (R_HostIn b o.Host true) else some default) fun x14 =>
      if ((decide (o.Kind = 3)) && (decide (x14 < 0))) = true then
       lt (R_F 6 (-2)) fun x15 =>
       some ((⟨([] : List Host), ([] : List Slot), 0, 0⟩ : Board), x15)
      else
       if (((decide (o.Kind = 4)) || (decide (o.Kind = 6))) && ((!decide (((lget b.Slots x12).Host) = o.Host)) || (!decide (((lget b.Slots x12).Turn) = o.Turn)))) = true then
        lt (R_F 12 (-1)) fun x16 =>
        some ((⟨([] : List Host), ([] : List Slot), 0, 0⟩ : Board), x16)
       else
        asrt (0 ≤ o.Kind ∧ o.Kind < (([0, 0, 0, 0, 1, 2, 3, 0, 0] : List Int).length : Int)) <|
        asrt ((decide (o.Kind = 8)) = true → (!(!decide (((lget b.Slots x12).State) = (lget ([0, 0, 0, 0, 1, 2, 3, 0, 0] : List Int) o.Kind)))) = true → 0 ≤ w64 (x12 + 1) ∧ w64 (x12 + 1) < (b.Slots.length : Int)) <|
        if ((!decide (((lget b.Slots x12).State) = (lget ([0, 0, 0, 0, 1, 2, 3, 0, 0] : List Int) o.Kind))) || ((decide (o.Kind = 8)) && (!decide (((lget b.Slots (w64 (x12 + 1))).State) = 0)))) = true then
         lt (R_F 11 (-1)) fun x17 =>
         some ((⟨([] : List Host), ([] : List Slot), 0, 0⟩ : Board), x17)
        else
         if (decide (o.Kind = 3)) = true then
          if (decide (1000000000 ≤ b.Turn)) = true then
           lt (R_F 9 0) fun x19 =>
           some ((⟨([] : List Host), ([] : List Slot), 0, 0⟩ : Board), x19)
          else
           asrt (0 ≤ x12 ∧ x12 < (x1.2.1.length : Int)) <|
           asrt (0 ≤ x12 ∧ x12 < (x1.2.1.length : Int)) <|
           lt ((lset x1.2.1 x12 (⟨(⟨((lget b.Slots x12).Part).From, ((lget b.Slots x12).Part).To, ((lget b.Slots x12).Part).ID⟩ : Part), 1, o.Host, w64 (b.Turn + 1)⟩ : Slot))) fun (v8 : List Slot) =>
           R_Ordered_v1_J2 x x1 (v8, w64 (b.Turn + 1), x1.2.2.2)
         else
          if (decide (o.Kind = 4)) = true then
           asrt (0 ≤ x12 ∧ x12 < (x1.2.1.length : Int)) <|
           asrt (0 ≤ x12 ∧ x12 < (x1.2.1.length : Int)) <|
           lt ((lset x1.2.1 x12 (⟨(⟨((lget x1.2.1 x12).Part).From, ((lget x1.2.1 x12).Part).To, ((lget x1.2.1 x12).Part).ID⟩ : Part), 2, (lget x1.2.1 x12).Host, (lget x1.2.1 x12).Turn⟩ : Slot))) fun (v9 : List Slot) =>
           R_Ordered_v1_J2 x x1 (v9, x1.2.2.1, x1.2.2.2)
          else
           if (decide (o.Kind = 5)) = true then
            asrt (0 ≤ x12 ∧ x12 < (x1.2.1.length : Int)) <|
            asrt (0 ≤ x12 ∧ x12 < (x1.2.1.length : Int)) <|
            lt ((lset x1.2.1 x12 (⟨(⟨((lget x1.2.1 x12).Part).From, ((lget x1.2.1 x12).Part).To, ((lget x1.2.1 x12).Part).ID⟩ : Part), 3, (lget x1.2.1 x12).Host, (lget x1.2.1 x12).Turn⟩ : Slot))) fun (v10 : List Slot) =>
            R_Ordered_v1_J2 x x1 (v10, x1.2.2.1, x1.2.2.2)
           else
            if (decide (o.Kind = 6)) = true then
             asrt (0 ≤ x12 ∧ x12 < (x1.2.1.length : Int)) <|
             asrt (0 ≤ x12 ∧ x12 < (x1.2.1.length : Int)) <|
             lt ((lset x1.2.1 x12 (⟨(⟨((lget b.Slots x12).Part).From, ((lget b.Slots x12).Part).To, ((lget b.Slots x12).Part).ID⟩ : Part), 0, 0, (lget b.Slots x12).Turn⟩ : Slot))) fun (v11 : List Slot) =>
             R_Ordered_v1_J2 x x1 (v11, x1.2.2.1, x1.2.2.2)
            else
             if (decide (o.Kind = 7)) = true then
              if (decide (40 < (o.Row.length : Int))) = true then
               lt (R_F 8 (-2)) fun x20 =>
               some ((⟨([] : List Host), ([] : List Slot), 0, 0⟩ : Board), x20)
              else
               lt (R_InPart (⟨((lget b.Slots x12).Part).From, ((lget b.Slots x12).Part).To, ((lget b.Slots x12).Part).ID⟩ : Part) o.Row) fun x21 =>
               if ((decide (o.Row = (((lget b.Slots x12).Part).From))) || (!x21)) = true then
                lt (R_F 5 (-2)) fun x22 =>
                some ((⟨([] : List Host), ([] : List Slot), 0, 0⟩ : Board), x22)
               else
                if (decide (200 ≤ (b.Slots.length : Int))) = true then
                 lt (R_F 2 (-1)) fun x23 =>
                 some ((⟨([] : List Host), ([] : List Slot), 0, 0⟩ : Board), x23)
                else
                 ob (R_SlotsInstead b.Slots x12 1 [(⟨(⟨((lget b.Slots x12).Part).From, o.Row, b.Next⟩ : Part), 0, 0, 0⟩ : Slot), (⟨(⟨o.Row, ((lget b.Slots x12).Part).To, w64 (b.Next + 1)⟩ : Part), 0, 0, 0⟩ : Slot)]) fun x24 =>
                 R_Ordered_v1_J2 x x1 (x24, x1.2.2.1, w64 (b.Next + 2))
             else
              if (decide (o.Kind = 8)) = true then
               asrt (0 ≤ w64 (x12 + 1) ∧ w64 (x12 + 1) < (b.Slots.length : Int)) <|
               ob (R_SlotsInstead b.Slots x12 2 [(⟨(⟨((lget b.Slots x12).Part).From, ((lget b.Slots (w64 (x12 + 1))).Part).To, b.Next⟩ : Part), 0, 0, 0⟩ : Slot)]) fun x25 =>
               R_Ordered_v1_J2 x x1 (x25, x1.2.2.1, w64 (b.Next + 1))
              else
               R_Ordered_v1_J2 x x1 (x1.2.1, x1.2.2.1, x1.2.2.2)
theorem R_Ordered_v1_ok (b : Board) (o : Order) (r : Board × Fault) (hF : R_Ordered_v1 b o = some r) : Pe Try.prog 55 S.none [.agg (c_Board b), .agg (c_Order o)] (.tup [.agg (c_Board r.1), .agg [.i r.2.Code, .i r.2.At]]) S.none := by
 refine Pe_of (N := 370) (res := [.cell 4 62, .cell 5 26]) (ts := [62, 26]) Ty.ok Fn.b55 Try.func55 rfl rfl rfl rfl rfl rfl ?_
 intro Q g hfin
 unfold R_Ordered_v1 at hF
 refine URs [] [2, 3, 4, 5] [2, 3, 4, 5] [] [] [(2, .ptr 2 0), (3, .ptr 3 0), (4, .ptr 4 0), (5, .ptr 5 0)] [(2, (c_Board b)), (3, (c_Order o)), (4, [.nils, .nils, .i 0, .i 0]), (5, [.i 0, .i 0])] [] [] .nil ?_
 refine Wk_seq ?_
 obtain ⟨x, h0, hF⟩ := ob_elim hF
 refine UR [.callB (.agg [.i x.Code, .i x.At])] [2, 3, 4, 5, 6] [2, 3, 4, 5, 6] [] [] [(6, .ptr 6 0)] [(6, [.i x.Code, .i x.At])] [] [] (.cons (R_BoardFault_ok b x h0) .nil) ?_
 refine Wk_seq ?_
 refine ZRs [] [2, 3, 4, 5, 6, 18] [2, 3, 4, 5, 6] [] [(18, .bool (!decide (x.Code = 0)))] .nil ?_
 refine Wk_split rfl (fun hb => ?_) (fun hb => ?_)
 ·have hF := ite_t hF hb
  refine UDs [] [4, 5] [4, 5] [] [] [] [(5, [.i x.Code, .i x.At])] [] [] .nil ?_
  have hF := some_elim hF
  exact Wk_ret (hfin _ ⟨[], [], [], [], [], [], by first | (rw [← hF]; kernel_rfl) | kernel_rfl⟩)
 ·have hF := ite_f hF hb
  refine Wk_skip ?_
  refine Wk_seq ?_
  obtain ⟨x1, h1, hF⟩ := ob_elim hF
  refine UR [.callE [] [] [] [] (.agg [.row 22 1, .row 20022 1, .i x1.2.2.1, .i x1.2.2.2]) ⟨[], [], [(22, .z 108 3 1 (x1.1.map e_Host)), (20022, .z 64 6 1 (x1.2.1.map e_Slot))], [], []⟩] [2, 3, 4, 5, 6, 7] [2, 3, 4, 5, 6, 7] [22, 20022] [] [(7, .ptr 7 0)] [(7, [.row 22 1, .row 20022 1, .i x1.2.2.1, .i x1.2.2.2])] [(22, .z 108 3 1 (x1.1.map e_Host)), (20022, .z 64 6 1 (x1.2.1.map e_Slot))] [] (.cons (Pe.ren (R_CopyBoard_ok b x1 h1) ⟨[], [(5, 22), (9, 20022)], [], []⟩) .nil) ?_
  refine Wk_seq ?_
  refine ZRs [] [2, 3, 4, 5, 6, 7, 30] [2, 3, 4, 5, 6, 7] [22, 20022] [(30, .bool ((decide (o.Kind < 1)) || (decide (8 < o.Kind))))] .nil ?_
  refine Wk_split rfl (fun hb => ?_) (fun hb => ?_)
  ·have hF := ite_t hF hb
   refine Wk_seq ?_
   obtain ⟨x2, h2, hF⟩ := lt_split hF
   refine UR [.callB (.agg [.i x2.Code, .i x2.At])] [4, 5] [4, 5] [] [] [] [(5, [.i x2.Code, .i x2.At])] [] [] (.cons (R_F_ok 4 0 x2 h2) .nil) ?_
   have hF := some_elim hF
   exact Wk_ret (hfin _ ⟨[], [], [], [], [], [], by first | (rw [← hF]; kernel_rfl) | kernel_rfl⟩)
  ·have hF := ite_f hF hb
   refine Wk_skip ?_
   refine Wk_seq ?_
   refine ZRs [] [2, 3, 4, 5, 6, 7, 35] [2, 3, 4, 5, 6, 7] [22, 20022] [(35, .bool (decide (o.Kind = 1)))] .nil ?_
   refine Wk_split rfl (fun hb => ?_) (fun hb => ?_)
   ·have hF := ite_t hF hb
    refine Wk_seq ?_
    refine Wk_seq ?_
    obtain ⟨x3, h3, hF⟩ := lt_split hF
    refine ZR [.callB (.bool x3)] [2, 3, 4, 5, 6, 7, 39] [2, 3, 4, 5, 6, 7] [22, 20022] [(39, .bool (!x3))] (.cons (R_One_ok o.ID x3 h3) .nil) ?_
    refine Wk_split rfl (fun hb => ?_) (fun hb => ?_)
    ·have hF := ite_t hF hb
     refine Wk_seq ?_
     obtain ⟨x4, h4, hF⟩ := lt_split hF
     refine UR [.callB (.agg [.i x4.Code, .i x4.At])] [4, 5] [4, 5] [] [] [] [(5, [.i x4.Code, .i x4.At])] [] [] (.cons (R_F_ok 3 (-1) x4 h4) .nil) ?_
     have hF := some_elim hF
     exact Wk_ret (hfin _ ⟨[], [], [], [], [], [], by first | (rw [← hF]; kernel_rfl) | kernel_rfl⟩)
    ·have hF := ite_f hF hb
     refine Wk_skip ?_
     refine Wk_seq ?_
     refine Wk_seq ?_
     obtain ⟨x5, h5, hF⟩ := ob_elim hF
     refine ZR [.callB (.i x5)] [2, 3, 4, 5, 6, 7, 46] [2, 3, 4, 5, 6, 7] [22, 20022] [(46, .bool (decide (0 ≤ x5)))] (.cons (R_HostIn_ok b o.ID true x5 h5) .nil) ?_
     refine Wk_split rfl (fun hb => ?_) (fun hb => ?_)
     ·have hF := ite_t hF hb
      refine Wk_seq ?_
      obtain ⟨x6, h6, hF⟩ := lt_split hF
      refine UR [.callB (.agg [.i x6.Code, .i x6.At])] [4, 5] [4, 5] [] [] [] [(5, [.i x6.Code, .i x6.At])] [] [] (.cons (R_F_ok 10 (-1) x6 h6) .nil) ?_
      have hF := some_elim hF
      exact Wk_ret (hfin _ ⟨[], [], [], [], [], [], by first | (rw [← hF]; kernel_rfl) | kernel_rfl⟩)
     ·have hF := ite_f hF hb
      refine Wk_skip ?_
      refine Wk_seq ?_
      obtain ⟨x7, h7, hF⟩ := ob_elim hF
      refine ZR [.callB (.i x7)] [2, 3, 4, 5, 6, 7, 8] [2, 3, 4, 5, 6, 7] [22, 20022] [(8, .i x7)] (.cons (R_HostIn_ok b o.ID false x7 h7) .nil) ?_
      refine Wk_seq ?_
      refine ZRs [] [2, 3, 4, 5, 6, 7, 8, 54] [2, 3, 4, 5, 6, 7] [22, 20022] [(54, .bool (decide (x7 < 0)))] .nil ?_
      refine Wk_split rfl (fun hb => ?_) (fun hb => ?_)
      ·have hF := ite_t hF hb
       refine Wk_seq ?_
       refine ZRs [.nat (b.Hosts.length : Int)] [3, 4, 5, 6, 7, 58] [3, 4, 5, 6, 7] [22, 20022] [(58, .bool (decide (20 ≤ (b.Hosts.length : Int))))] (.cons (len_ok e_Host b.Hosts) .nil) ?_
       refine Wk_split rfl (fun hb => ?_) (fun hb => ?_)
       ·have hF := ite_t hF hb
        refine Wk_seq ?_
        obtain ⟨x8, h8, hF⟩ := lt_split hF
        refine UR [.callB (.agg [.i x8.Code, .i x8.At])] [4, 5] [4, 5] [] [] [] [(5, [.i x8.Code, .i x8.At])] [] [] (.cons (R_F_ok 2 (-1) x8 h8) .nil) ?_
        have hF := some_elim hF
        exact Wk_ret (hfin _ ⟨[], [], [], [], [], [], by first | (rw [← hF]; kernel_rfl) | kernel_rfl⟩)
       ·have hF := ite_f hF hb
        refine Wk_skip ?_
        refine Wk_seq ?_
        obtain ⟨h9, hF⟩ := asrt_elim hF
        refine UR [.sealed, .xs ((x1.1 ++ [(⟨o.ID, 1, true⟩ : Host)]).map e_Host)] [4, 5, 6, 7] [4, 5, 6, 7] [22, 20022] [] [] [(7, [.row 22 2, .row 20022 1, .i x1.2.2.1, .i x1.2.2.2])] [(22, ⟨108, 3, 2, 0, 0, true, 0, [], ((x1.1 ++ [(⟨o.ID, 1, true⟩ : Host)]).map e_Host)⟩)] [] (.cons (app_ok e_Host x1.1 [(⟨o.ID, 1, true⟩ : Host)]) (.cons (appl_ok e_Host h9) .nil)) ?_
        refine UDs [] [4, 5] [4, 5] [22, 20022] [] [] [(4, [.row 22 2, .row 20022 1, .i x1.2.2.1, .i x1.2.2.2]), (5, [.i x.Code, .i x.At])] [] [] .nil ?_
        have hF := some_elim hF
        exact Wk_ret (hfin _ ⟨[], [], [], [], [], [], by first | (rw [← hF]; kernel_rfl) | kernel_rfl⟩)
      ·have hF := ite_f hF hb
       refine Wk_skip ?_
       refine Wk_seq ?_
       refine Wk_seq ?_
       obtain ⟨h10, hF⟩ := asrt_elim hF
       refine ZR [.av (e_Host (lget b.Hosts x7))] [2, 3, 4, 5, 6, 7, 8, 77] [2, 3, 4, 5, 6, 7] [22, 20022] [(77, .bool (decide (1000000000 ≤ ((lget b.Hosts x7).Epoch))))] (.cons (idx_ok e_Host h10) .nil) ?_
       refine Wk_split rfl (fun hb => ?_) (fun hb => ?_)
       ·have hF := ite_t hF hb
        refine Wk_seq ?_
        obtain ⟨x9, h11, hF⟩ := lt_split hF
        refine UR [.callB (.agg [.i x9.Code, .i x9.At])] [4, 5] [4, 5] [] [] [] [(5, [.i x9.Code, .i x9.At])] [] [] (.cons (R_F_ok 9 0 x9 h11) .nil) ?_
        have hF := some_elim hF
        exact Wk_ret (hfin _ ⟨[], [], [], [], [], [], by first | (rw [← hF]; kernel_rfl) | kernel_rfl⟩)
       ·have hF := ite_f hF hb
        refine Wk_skip ?_
        refine Wk_seq ?_
        obtain ⟨h12, hF⟩ := asrt_elim hF
        obtain ⟨h13, hF⟩ := asrt_elim hF
        obtain ⟨h14, hF⟩ := asrt_elim hF
        refine WDL ((lset x1.1 x7 (⟨o.ID, w64 (((lget b.Hosts x7).Epoch) + 1), true⟩ : Host))) (fun v : List Host => ⟨[(4, .ptr 4 0), (5, .ptr 5 0), (6, .ptr 6 0), (7, .ptr 7 0)], [(4, [.nils, .nils, .i 0, .i 0]), (5, [.i 0, .i 0]), (6, [.i x.Code, .i x.At]), (7, [.row 22 1, .row 20022 1, .i x1.2.2.1, .i x1.2.2.2])], [(22, .z 108 3 1 (v.map e_Host)), (20022, .z 64 6 1 (x1.2.1.map e_Slot))], [], []⟩) [.av (e_Host (lget b.Hosts x7)), .av (e_Host (lget x1.1 x7)), .xs ((lset x1.1 x7 (⟨o.ID, w64 (((lget b.Hosts x7).Epoch) + 1), true⟩ : Host)).map e_Host)] [4, 5, 6, 7] [4, 5, 6, 7] [22, 20022] [] [] [] (.cons (idx_ok e_Host h12) (.cons (ixr_ok e_Host h13) (.cons (ldr_ok e_Host h14) (.cons (set_ok e_Host x1.1 x7 (⟨o.ID, w64 (((lget b.Hosts x7).Epoch) + 1), true⟩ : Host)) (.cons (Nat.zero_le x7.toNat) .nil))))) (by kernel_rfl) (fun v hv => ?_)
        have hF := lt_elim hF hv
        refine UDs [] [4, 5] [4, 5] [22, 20022] [] [] [(4, [.row 22 1, .row 20022 1, .i x1.2.2.1, .i x1.2.2.2]), (5, [.i x.Code, .i x.At])] [] [] .nil ?_
        have hF := some_elim hF
        exact Wk_ret (hfin _ ⟨[], [], [], [], [], [], by first | (rw [← hF]; kernel_rfl) | kernel_rfl⟩)
   ·have hF := ite_f hF hb
    refine Wk_skip ?_
    refine Wk_seq ?_
    refine ZRs [] [2, 3, 4, 5, 6, 7, 98] [2, 3, 4, 5, 6, 7] [22, 20022] [(98, .bool (decide (o.Kind = 2)))] .nil ?_
    refine Wk_split rfl (fun hb => ?_) (fun hb => ?_)
    ·have hF := ite_t hF hb
     refine Wk_seq ?_
     obtain ⟨x10, h15, hF⟩ := ob_elim hF
     refine ZR [.callB (.i x10)] [3, 4, 5, 6, 7, 9] [3, 4, 5, 6, 7] [22, 20022] [(9, .i x10)] (.cons (R_HostIn_ok b o.ID true x10 h15) .nil) ?_
     refine Wk_seq ?_
     refine ZRs [] [3, 4, 5, 6, 7, 9, 104] [3, 4, 5, 6, 7] [22, 20022] [(104, .bool (decide (x10 < 0)))] .nil ?_
     refine Wk_split rfl (fun hb => ?_) (fun hb => ?_)
     ·have hF := ite_t hF hb
      refine Wk_seq ?_
      obtain ⟨x11, h16, hF⟩ := lt_split hF
      refine UR [.callB (.agg [.i x11.Code, .i x11.At])] [4, 5] [4, 5] [] [] [] [(5, [.i x11.Code, .i x11.At])] [] [] (.cons (R_F_ok 6 (-1) x11 h16) .nil) ?_
      have hF := some_elim hF
      exact Wk_ret (hfin _ ⟨[], [], [], [], [], [], by first | (rw [← hF]; kernel_rfl) | kernel_rfl⟩)
     ·have hF := ite_f hF hb
      refine Wk_skip ?_
      refine Wk_seq ?_
      obtain ⟨h17, hF⟩ := asrt_elim hF
      obtain ⟨h18, hF⟩ := asrt_elim hF
      refine WRL ((lset x1.1 x10 (⟨(lget x1.1 x10).ID, (lget x1.1 x10).Epoch, false⟩ : Host))) (fun v1 : List Host => ⟨[(3, .ptr 3 0), (4, .ptr 4 0), (5, .ptr 5 0), (6, .ptr 6 0), (7, .ptr 7 0)], [(3, (c_Order o)), (4, [.nils, .nils, .i 0, .i 0]), (5, [.i 0, .i 0]), (6, [.i x.Code, .i x.At]), (7, [.row 22 1, .row 20022 1, .i x1.2.2.1, .i x1.2.2.2])], [(22, .z 108 3 1 (v1.map e_Host)), (20022, .z 64 6 1 (x1.2.1.map e_Slot))], [], []⟩) [.av (e_Host (lget x1.1 x10)), .xs ((lset x1.1 x10 (⟨(lget x1.1 x10).ID, (lget x1.1 x10).Epoch, false⟩ : Host)).map e_Host)] [3, 4, 5, 6, 7] [3, 4, 5, 6, 7] [22, 20022] [] [] [] (.cons (ixr_ok e_Host h17) (.cons (ldr_ok e_Host h18) (.cons (set_ok e_Host x1.1 x10 (⟨(lget x1.1 x10).ID, (lget x1.1 x10).Epoch, false⟩ : Host)) (.cons (Nat.zero_le x10.toNat) .nil)))) (by kernel_rfl) (fun v1 hv => ?_)
      have hF := lt_elim hF hv
      refine Wk_seq ?_
      refine ZRs [] [3, 4, 5, 6, 7, 10] [3, 4, 5, 6, 7] [22, 20022] [(10, .i 0)] .nil ?_
      refine Wk_meetP (fun v2 : List Slot => (⟨[(4, .ptr 4 0), (5, .ptr 5 0), (6, .ptr 6 0), (7, .ptr 7 0)], [(4, [.nils, .nils, .i 0, .i 0]), (5, [.i 0, .i 0]), (6, [.i x.Code, .i x.At]), (7, [.row 22 1, .row 20022 1, .i x1.2.2.1, .i x1.2.2.2])], [(22, .z 108 3 1 (v1.map e_Host)), (20022, .z 64 6 1 (v2.map e_Slot))], [], []⟩ : S)) (fun v2 => R_Ordered_v1_J1 x x1 v1 v2 = some r) ?_ ?_
      ·refine Wk_block ?_
       unfold R_Ordered_v1_L1 at hF
       refine Wk_trim (fs := [3, 4, 5, 6, 7, 10]) (bs := [3, 4, 5, 6, 7]) (rs := [22, 20022]) (ms := []) (aa := []) (nv := []) (t := (fun v3 : List Slot × Int => (⟨[(3, .ptr 3 0), (4, .ptr 4 0), (5, .ptr 5 0), (6, .ptr 6 0), (7, .ptr 7 0), (10, .i v3.2)], [(3, (c_Order o)), (4, [.nils, .nils, .i 0, .i 0]), (5, [.i 0, .i 0]), (6, [.i x.Code, .i x.At]), (7, [.row 22 1, .row 20022 1, .i x1.2.2.1, .i x1.2.2.2])], [(22, .z 108 3 1 (v1.map e_Host)), (20022, .z 64 6 1 (v3.1.map e_Slot))], [], []⟩ : S)) (x1.2.1, 0)) (by kernel_rfl) ?_
       refine Wk_iter (step := fun y => R_Ordered_v1_B1 o x x1 v1 y) (r := r) (fun v3 : List Slot × Int => (⟨[(3, .ptr 3 0), (4, .ptr 4 0), (5, .ptr 5 0), (6, .ptr 6 0), (7, .ptr 7 0), (10, .i v3.2)], [(3, (c_Order o)), (4, [.nils, .nils, .i 0, .i 0]), (5, [.i 0, .i 0]), (6, [.i x.Code, .i x.At]), (7, [.row 22 1, .row 20022 1, .i x1.2.2.1, .i x1.2.2.2])], [(22, .z 108 3 1 (v1.map e_Host)), (20022, .z 64 6 1 (v3.1.map e_Slot))], [], []⟩ : S)) (x1.2.1, 0) hF ?_
       intro n1 v3 y1 hF ih1 dn1
       have hF : R_Ordered_v1_B1 o x x1 v1 v3 = some y1 := hF
       unfold R_Ordered_v1_B1 at hF
       refine Wk_seq ?_
       refine ZRs [.nat (v3.1.length : Int)] [3, 4, 5, 6, 7, 10, 116] [3, 4, 5, 6, 7] [22, 20022] [(116, .bool (decide (v3.2 < (v3.1.length : Int))))] (.cons (len_ok e_Slot v3.1) .nil) ?_
       refine Wk_split rfl (fun hb => ?_) (fun hb => ?_)
       ·have hF := ite_t hF hb
        refine Wk_skip ?_
        refine Wk_seq ?_
        refine Wk_block ?_
        refine Wk_seq ?_
        obtain ⟨h19, hF⟩ := asrt_elim hF
        obtain ⟨h20, hF⟩ := asrt_elim hF
        refine ZD [.av (e_Slot (lget v3.1 v3.2))] [3, 4, 5, 6, 7, 10, 127] [3, 4, 5, 6, 7] [22, 20022] [(127, .bool (decide (((lget v3.1 v3.2).Host) = o.ID)))] (.cons (ixr_ok e_Slot h19) (.cons (ldr_ok e_Slot h20) .nil)) ?_
        obtain ⟨v4, hv, hF⟩ := ob_elim hF
        refine Wk_meet (⟨[(3, .ptr 3 0), (4, .ptr 4 0), (5, .ptr 5 0), (6, .ptr 6 0), (7, .ptr 7 0), (10, .i v3.2)], [(3, (c_Order o)), (4, [.nils, .nils, .i 0, .i 0]), (5, [.i 0, .i 0]), (6, [.i x.Code, .i x.At]), (7, [.row 22 1, .row 20022 1, .i x1.2.2.1, .i x1.2.2.2])], [(22, .z 108 3 1 (v1.map e_Host)), (20022, .z 64 6 1 (v4.map e_Slot))], [], []⟩ : S) ?_ ?_
        ·have hF := hv
         refine Wk_split rfl (fun hb => ?_) (fun hb => ?_)
         ·have hF := ite_t hF hb
          refine Wk_seq ?_
          obtain ⟨h21, hF⟩ := asrt_elim hF
          obtain ⟨h22, hF⟩ := asrt_elim hF
          refine WRL ((lset v3.1 v3.2 (⟨(⟨((lget v3.1 v3.2).Part).From, ((lget v3.1 v3.2).Part).To, ((lget v3.1 v3.2).Part).ID⟩ : Part), (lget v3.1 v3.2).State, 0, (lget v3.1 v3.2).Turn⟩ : Slot))) (fun v5 : List Slot => ⟨[(3, .ptr 3 0), (4, .ptr 4 0), (5, .ptr 5 0), (6, .ptr 6 0), (7, .ptr 7 0), (10, .i v3.2)], [(3, (c_Order o)), (4, [.nils, .nils, .i 0, .i 0]), (5, [.i 0, .i 0]), (6, [.i x.Code, .i x.At]), (7, [.row 22 1, .row 20022 1, .i x1.2.2.1, .i x1.2.2.2])], [(22, .z 108 3 1 (v1.map e_Host)), (20022, .z 64 6 1 (v5.map e_Slot))], [], []⟩) [.av (e_Slot (lget v3.1 v3.2)), .xs ((lset v3.1 v3.2 (⟨(⟨((lget v3.1 v3.2).Part).From, ((lget v3.1 v3.2).Part).To, ((lget v3.1 v3.2).Part).ID⟩ : Part), (lget v3.1 v3.2).State, 0, (lget v3.1 v3.2).Turn⟩ : Slot)).map e_Slot)] [3, 4, 5, 6, 7, 10] [3, 4, 5, 6, 7] [22, 20022] [] [] [] (.cons (ixr_ok e_Slot h21) (.cons (ldr_ok e_Slot h22) (.cons (set_ok e_Slot v3.1 v3.2 (⟨(⟨((lget v3.1 v3.2).Part).From, ((lget v3.1 v3.2).Part).To, ((lget v3.1 v3.2).Part).ID⟩ : Part), (lget v3.1 v3.2).State, 0, (lget v3.1 v3.2).Turn⟩ : Slot)) (.cons (Nat.zero_le v3.2.toNat) .nil)))) (by kernel_rfl) (fun v5 hv => ?_)
          have hF := lt_elim hF hv
          obtain ⟨h23, hF⟩ := asrt_elim hF
          obtain ⟨h24, hF⟩ := asrt_elim hF
          refine WRL ((lset v5 v3.2 (⟨(⟨((lget v5 v3.2).Part).From, ((lget v5 v3.2).Part).To, ((lget v5 v3.2).Part).ID⟩ : Part), 0, (lget v5 v3.2).Host, (lget v5 v3.2).Turn⟩ : Slot))) (fun v6 : List Slot => ⟨[(3, .ptr 3 0), (4, .ptr 4 0), (5, .ptr 5 0), (6, .ptr 6 0), (7, .ptr 7 0), (10, .i v3.2)], [(3, (c_Order o)), (4, [.nils, .nils, .i 0, .i 0]), (5, [.i 0, .i 0]), (6, [.i x.Code, .i x.At]), (7, [.row 22 1, .row 20022 1, .i x1.2.2.1, .i x1.2.2.2])], [(22, .z 108 3 1 (v1.map e_Host)), (20022, .z 64 6 1 (v6.map e_Slot))], [], []⟩) [.av (e_Slot (lget v5 v3.2)), .xs ((lset v5 v3.2 (⟨(⟨((lget v5 v3.2).Part).From, ((lget v5 v3.2).Part).To, ((lget v5 v3.2).Part).ID⟩ : Part), 0, (lget v5 v3.2).Host, (lget v5 v3.2).Turn⟩ : Slot)).map e_Slot)] [3, 4, 5, 6, 7, 10] [3, 4, 5, 6, 7] [22, 20022] [] [] [] (.cons (ixr_ok e_Slot h23) (.cons (ldr_ok e_Slot h24) (.cons (set_ok e_Slot v5 v3.2 (⟨(⟨((lget v5 v3.2).Part).From, ((lget v5 v3.2).Part).To, ((lget v5 v3.2).Part).ID⟩ : Part), 0, (lget v5 v3.2).Host, (lget v5 v3.2).Turn⟩ : Slot)) (.cons (Nat.zero_le v3.2.toNat) .nil)))) (by kernel_rfl) (fun v6 hv => ?_)
          have hF := lt_elim hF hv
          exact Wk_met (fs := [3, 4, 5, 6, 7, 10]) (bs := [3, 4, 5, 6, 7]) (rs := [22, 20022]) (ms := []) (aa := []) (nv := []) (by first | (rw [← some_elim hF]; kernel_rfl) | kernel_rfl)
         ·have hF := ite_f hF hb
          refine Wk_skip ?_
          exact Wk_met (fs := [3, 4, 5, 6, 7, 10]) (bs := [3, 4, 5, 6, 7]) (rs := [22, 20022]) (ms := []) (aa := []) (nv := []) (by first | (rw [← some_elim hF]; kernel_rfl) | kernel_rfl)
        ·refine Wk_blk ?_
         refine ZR [] [3, 4, 5, 6, 7, 10] [3, 4, 5, 6, 7] [22, 20022] [(10, .i (w64 (v3.2 + 1)))] .nil ?_
         refine Wk_trim (fs := [3, 4, 5, 6, 7, 10]) (bs := [3, 4, 5, 6, 7]) (rs := [22, 20022]) (ms := []) (aa := []) (nv := []) ?_ (ih1 _ (some_elim hF).symm)
         kernel_rfl
       ·have hF := ite_f hF hb
        refine Wk_exit rfl ?_
        have hF := inrO_done hF dn1
        exact Wk_metP v3.1 [4, 5, 6, 7] [4, 5, 6, 7] [22, 20022] [] [] [] hF (by kernel_rfl)
      ·intro v2 hF
       have hF : R_Ordered_v1_J1 x x1 v1 v2 = some r := hF
       unfold R_Ordered_v1_J1 at hF
       refine UDs [] [4, 5] [4, 5] [22, 20022] [] [] [(4, [.row 22 1, .row 20022 1, .i x1.2.2.1, .i x1.2.2.2]), (5, [.i x.Code, .i x.At])] [] [] .nil ?_
       have hF := some_elim hF
       exact Wk_ret (hfin _ ⟨[], [], [], [], [], [], by first | (rw [← hF]; kernel_rfl) | kernel_rfl⟩)
    ·have hF := ite_f hF hb
     refine Wk_skip ?_
     refine Wk_seq ?_
     obtain ⟨x12, h25, hF⟩ := ob_elim hF
     refine ZR [.callB (.i x12)] [2, 3, 4, 5, 6, 7, 11] [2, 3, 4, 5, 6, 7] [22, 20022] [(11, .i x12)] (.cons (R_SlotIn_ok b o.ID x12 h25) .nil) ?_
     refine Wk_seq ?_
     refine ZRs [.nat (b.Slots.length : Int)] [2, 3, 4, 5, 6, 7, 11, 158] [2, 3, 4, 5, 6, 7] [22, 20022] [(158, .bool ((decide (x12 < 0)) || ((decide (o.Kind = 8)) && (decide ((b.Slots.length : Int) ≤ (w64 (x12 + 1)))))))] (.cons (fun (_ : (decide (o.Kind = 8)) = true) (_ : (!(decide (x12 < 0))) = true) => (len_ok e_Slot b.Slots)) .nil) ?_
     refine Wk_split rfl (fun hb => ?_) (fun hb => ?_)
     ·have hF := ite_t hF hb
      refine Wk_seq ?_
      obtain ⟨x13, h26, hF⟩ := lt_split hF
      refine UR [.callB (.agg [.i x13.Code, .i x13.At])] [4, 5] [4, 5] [] [] [] [(5, [.i x13.Code, .i x13.At])] [] [] (.cons (R_F_ok 6 (-1) x13 h26) .nil) ?_
      have hF := some_elim hF
      exact Wk_ret (hfin _ ⟨[], [], [], [], [], [], by first | (rw [← hF]; kernel_rfl) | kernel_rfl⟩)
     ·have hF := ite_f hF hb
      refine Wk_skip ?_
      refine Wk_seq ?_
      obtain ⟨h27, hF⟩ := asrt_elim hF
      refine UR [.av (e_Slot (lget b.Slots x12))] [2, 3, 4, 5, 6, 7, 11, 12] [2, 3, 4, 5, 6, 7, 12] [22, 20022] [] [(12, .ptr 12 0)] [(12, [.str (((lget b.Slots x12).Part).From), .str (((lget b.Slots x12).Part).To), .i (((lget b.Slots x12).Part).ID), .i ((lget b.Slots x12).State), .i ((lget b.Slots x12).Host), .i ((lget b.Slots x12).Turn)])] [] [] (.cons (idx_ok e_Slot h27) .nil) ?_
      refine Wk_seq ?_
      refine Wk_seq ?_
      obtain ⟨x14, h28, hF⟩ := ob_elim hF
      refine ZR [.callB (.i x14)] [2, 3, 4, 5, 6, 7, 11, 12, 175] [2, 3, 4, 5, 6, 7, 12] [22, 20022] [(175, .bool ((decide (o.Kind = 3)) && (decide (x14 < 0))))] (.cons (fun (ga0 : (decide (o.Kind = 3)) = true) => (R_HostIn_ok b o.Host true x14 (ite_t h28 ga0))) .nil) ?_
      refine Wk_split rfl (fun hb => ?_) (fun hb => ?_)
      ·have hF := ite_t hF hb
       refine Wk_seq ?_
       obtain ⟨x15, h29, hF⟩ := lt_split hF
       refine UR [.callB (.agg [.i x15.Code, .i x15.At])] [4, 5] [4, 5] [] [] [] [(5, [.i x15.Code, .i x15.At])] [] [] (.cons (R_F_ok 6 (-2) x15 h29) .nil) ?_
       have hF := some_elim hF
       exact Wk_ret (hfin _ ⟨[], [], [], [], [], [], by first | (rw [← hF]; kernel_rfl) | kernel_rfl⟩)
      ·have hF := ite_f hF hb
       refine Wk_skip ?_
       refine Wk_seq ?_
       refine ZRs [] [2, 3, 4, 5, 6, 7, 11, 12, 199] [2, 3, 4, 5, 6, 7, 12] [22, 20022] [(199, .bool (((decide (o.Kind = 4)) || (decide (o.Kind = 6))) && ((!decide (((lget b.Slots x12).Host) = o.Host)) || (!decide (((lget b.Slots x12).Turn) = o.Turn)))))] .nil ?_
       refine Wk_split rfl (fun hb => ?_) (fun hb => ?_)
       ·have hF := ite_t hF hb
        refine Wk_seq ?_
        obtain ⟨x16, h30, hF⟩ := lt_split hF
        refine UR [.callB (.agg [.i x16.Code, .i x16.At])] [4, 5] [4, 5] [] [] [] [(5, [.i x16.Code, .i x16.At])] [] [] (.cons (R_F_ok 12 (-1) x16 h30) .nil) ?_
        have hF := some_elim hF
        exact Wk_ret (hfin _ ⟨[], [], [], [], [], [], by first | (rw [← hF]; kernel_rfl) | kernel_rfl⟩)
       ·have hF := ite_f hF hb
        refine Wk_skip ?_
        refine ZRs [.sealed] [2, 3, 4, 5, 6, 7, 11, 12, 13] [2, 3, 4, 5, 6, 7, 12] [22, 20022] [(13, .sl 1 (([0, 0, 0, 0, 1, 2, 3, 0, 0] : List Int).map e_i64))] .nil ?_
        refine Wk_seq ?_
        refine Wk_seq ?_
        obtain ⟨h31, hF⟩ := asrt_elim hF
        obtain ⟨h32, hF⟩ := asrt_elim hF
        refine ZD [.av (e_i64 (lget ([0, 0, 0, 0, 1, 2, 3, 0, 0] : List Int) o.Kind)), .av (e_Slot (lget b.Slots (w64 (x12 + 1))))] [2, 3, 4, 5, 6, 7, 11, 12, 225] [2, 3, 4, 5, 6, 7, 12] [22, 20022] [(225, .bool ((!decide (((lget b.Slots x12).State) = (lget ([0, 0, 0, 0, 1, 2, 3, 0, 0] : List Int) o.Kind))) || ((decide (o.Kind = 8)) && (!decide (((lget b.Slots (w64 (x12 + 1))).State) = 0)))))] (.cons (idx_ok e_i64 h31) (.cons (fun (ga0 : (decide (o.Kind = 8)) = true) (ga1 : (!(!decide (((lget b.Slots x12).State) = (lget ([0, 0, 0, 0, 1, 2, 3, 0, 0] : List Int) o.Kind)))) = true) => (idx_ok e_Slot (h32 ga0 ga1))) .nil)) ?_
        refine Wk_split rfl (fun hb => ?_) (fun hb => ?_)
        ·have hF := ite_t hF hb
         refine Wk_seq ?_
         obtain ⟨x17, h33, hF⟩ := lt_split hF
         refine UR [.callB (.agg [.i x17.Code, .i x17.At])] [4, 5] [4, 5] [] [] [] [(5, [.i x17.Code, .i x17.At])] [] [] (.cons (R_F_ok 11 (-1) x17 h33) .nil) ?_
         have hF := some_elim hF
         exact Wk_ret (hfin _ ⟨[], [], [], [], [], [], by first | (rw [← hF]; kernel_rfl) | kernel_rfl⟩)
        ·have hF := ite_f hF hb
         refine Wk_skip ?_
         refine Wk_seq ?_
         refine ZRs [] [2, 3, 4, 5, 6, 7, 11, 12, 229] [2, 3, 4, 5, 6, 7, 12] [22, 20022] [(229, .i o.Kind)] .nil ?_
         refine Wk_block ?_
         refine ZRs [] [2, 3, 4, 5, 6, 7, 11, 12, 229, 230] [2, 3, 4, 5, 6, 7, 12] [22, 20022] [(230, .bool (decide (o.Kind = 3)))] .nil ?_
         refine Wk_meetP (fun v7 : List Slot × Int × Int => (⟨[(4, .ptr 4 0), (5, .ptr 5 0), (6, .ptr 6 0), (7, .ptr 7 0)], [(4, [.nils, .nils, .i 0, .i 0]), (5, [.i 0, .i 0]), (6, [.i x.Code, .i x.At]), (7, [.row 22 1, .row 20022 0, .i v7.2.1, .i v7.2.2])], [(22, .z 108 3 1 (x1.1.map e_Host)), (20022, .z 64 6 0 (v7.1.map e_Slot))], [], []⟩ : S)) (fun v7 => R_Ordered_v1_J2 x x1 v7 = some r) ?_ ?_
         ·refine Wk_split rfl (fun hb => ?_) (fun hb => ?_)
          ·have hF := ite_t hF hb
           refine Wk_seq ?_
           refine ZRs [] [2, 3, 4, 5, 6, 7, 11, 12, 234] [2, 3, 4, 5, 6, 7, 12] [22, 20022] [(234, .bool (decide (1000000000 ≤ b.Turn)))] .nil ?_
           refine Wk_split rfl (fun hb => ?_) (fun hb => ?_)
           ·have hF := ite_t hF hb
            refine Wk_seq ?_
            obtain ⟨x19, h35, hF⟩ := lt_split hF
            refine UR [.callB (.agg [.i x19.Code, .i x19.At])] [4, 5] [4, 5] [] [] [] [(5, [.i x19.Code, .i x19.At])] [] [] (.cons (R_F_ok 9 0 x19 h35) .nil) ?_
            have hF := some_elim hF
            exact Wk_ret (hfin _ ⟨[], [], [], [], [], [], by first | (rw [← hF]; kernel_rfl) | kernel_rfl⟩)
           ·have hF := ite_f hF hb
            refine Wk_skip ?_
            refine URs [] [3, 4, 5, 6, 7, 11, 12] [3, 4, 5, 6, 7, 12] [22, 20022] [] [] [(7, [.row 22 1, .row 20022 1, .i (w64 (b.Turn + 1)), .i x1.2.2.2])] [] [] .nil ?_
            obtain ⟨h36, hF⟩ := asrt_elim hF
            obtain ⟨h37, hF⟩ := asrt_elim hF
            refine WRL ((lset x1.2.1 x12 (⟨(⟨((lget b.Slots x12).Part).From, ((lget b.Slots x12).Part).To, ((lget b.Slots x12).Part).ID⟩ : Part), 1, o.Host, w64 (b.Turn + 1)⟩ : Slot))) (fun v8 : List Slot => ⟨[(4, .ptr 4 0), (5, .ptr 5 0), (6, .ptr 6 0), (7, .ptr 7 0)], [(4, [.nils, .nils, .i 0, .i 0]), (5, [.i 0, .i 0]), (6, [.i x.Code, .i x.At]), (7, [.row 22 1, .row 20022 1, .i (w64 (b.Turn + 1)), .i x1.2.2.2])], [(22, .z 108 3 1 (x1.1.map e_Host)), (20022, .z 64 6 1 (v8.map e_Slot))], [], []⟩) [.av (e_Slot (lget x1.2.1 x12)), .xs ((lset x1.2.1 x12 (⟨(⟨((lget b.Slots x12).Part).From, ((lget b.Slots x12).Part).To, ((lget b.Slots x12).Part).ID⟩ : Part), 1, o.Host, w64 (b.Turn + 1)⟩ : Slot)).map e_Slot)] [4, 5, 6, 7] [4, 5, 6, 7] [22, 20022] [] [] [] (.cons (ixr_ok e_Slot h36) (.cons (ldr_ok e_Slot h37) (.cons (set_ok e_Slot x1.2.1 x12 (⟨(⟨((lget b.Slots x12).Part).From, ((lget b.Slots x12).Part).To, ((lget b.Slots x12).Part).ID⟩ : Part), 1, o.Host, w64 (b.Turn + 1)⟩ : Slot)) (.cons (Nat.zero_le x12.toNat) .nil)))) (by kernel_rfl) (fun v8 hv => ?_)
            have hF := lt_elim hF hv
            exact Wk_metP (v8, w64 (b.Turn + 1), x1.2.2.2) [4, 5, 6, 7] [4, 5, 6, 7] [22, 20022] [] [] [(20022, ⟨0, true, true, false⟩)] hF (by kernel_rfl)
          ·have hF := ite_f hF hb
           refine ZRs [] [2, 3, 4, 5, 6, 7, 11, 12, 229, 252] [2, 3, 4, 5, 6, 7, 12] [22, 20022] [(252, .bool (decide (o.Kind = 4)))] .nil ?_
           refine Wk_split rfl (fun hb => ?_) (fun hb => ?_)
           ·have hF := ite_t hF hb
            obtain ⟨h38, hF⟩ := asrt_elim hF
            obtain ⟨h39, hF⟩ := asrt_elim hF
            refine WRL ((lset x1.2.1 x12 (⟨(⟨((lget x1.2.1 x12).Part).From, ((lget x1.2.1 x12).Part).To, ((lget x1.2.1 x12).Part).ID⟩ : Part), 2, (lget x1.2.1 x12).Host, (lget x1.2.1 x12).Turn⟩ : Slot))) (fun v9 : List Slot => ⟨[(4, .ptr 4 0), (5, .ptr 5 0), (6, .ptr 6 0), (7, .ptr 7 0)], [(4, [.nils, .nils, .i 0, .i 0]), (5, [.i 0, .i 0]), (6, [.i x.Code, .i x.At]), (7, [.row 22 1, .row 20022 1, .i x1.2.2.1, .i x1.2.2.2])], [(22, .z 108 3 1 (x1.1.map e_Host)), (20022, .z 64 6 1 (v9.map e_Slot))], [], []⟩) [.av (e_Slot (lget x1.2.1 x12)), .xs ((lset x1.2.1 x12 (⟨(⟨((lget x1.2.1 x12).Part).From, ((lget x1.2.1 x12).Part).To, ((lget x1.2.1 x12).Part).ID⟩ : Part), 2, (lget x1.2.1 x12).Host, (lget x1.2.1 x12).Turn⟩ : Slot)).map e_Slot)] [4, 5, 6, 7] [4, 5, 6, 7] [22, 20022] [] [] [] (.cons (ixr_ok e_Slot h38) (.cons (ldr_ok e_Slot h39) (.cons (set_ok e_Slot x1.2.1 x12 (⟨(⟨((lget x1.2.1 x12).Part).From, ((lget x1.2.1 x12).Part).To, ((lget x1.2.1 x12).Part).ID⟩ : Part), 2, (lget x1.2.1 x12).Host, (lget x1.2.1 x12).Turn⟩ : Slot)) (.cons (Nat.zero_le x12.toNat) .nil)))) (by kernel_rfl) (fun v9 hv => ?_)
            have hF := lt_elim hF hv
            exact Wk_metP (v9, x1.2.2.1, x1.2.2.2) [4, 5, 6, 7] [4, 5, 6, 7] [22, 20022] [] [] [(20022, ⟨0, true, true, false⟩)] hF (by kernel_rfl)
           ·have hF := ite_f hF hb
            refine ZRs [] [2, 3, 4, 5, 6, 7, 11, 12, 229, 259] [2, 3, 4, 5, 6, 7, 12] [22, 20022] [(259, .bool (decide (o.Kind = 5)))] .nil ?_
            refine Wk_split rfl (fun hb => ?_) (fun hb => ?_)
            ·have hF := ite_t hF hb
             obtain ⟨h40, hF⟩ := asrt_elim hF
             obtain ⟨h41, hF⟩ := asrt_elim hF
             refine WRL ((lset x1.2.1 x12 (⟨(⟨((lget x1.2.1 x12).Part).From, ((lget x1.2.1 x12).Part).To, ((lget x1.2.1 x12).Part).ID⟩ : Part), 3, (lget x1.2.1 x12).Host, (lget x1.2.1 x12).Turn⟩ : Slot))) (fun v10 : List Slot => ⟨[(4, .ptr 4 0), (5, .ptr 5 0), (6, .ptr 6 0), (7, .ptr 7 0)], [(4, [.nils, .nils, .i 0, .i 0]), (5, [.i 0, .i 0]), (6, [.i x.Code, .i x.At]), (7, [.row 22 1, .row 20022 1, .i x1.2.2.1, .i x1.2.2.2])], [(22, .z 108 3 1 (x1.1.map e_Host)), (20022, .z 64 6 1 (v10.map e_Slot))], [], []⟩) [.av (e_Slot (lget x1.2.1 x12)), .xs ((lset x1.2.1 x12 (⟨(⟨((lget x1.2.1 x12).Part).From, ((lget x1.2.1 x12).Part).To, ((lget x1.2.1 x12).Part).ID⟩ : Part), 3, (lget x1.2.1 x12).Host, (lget x1.2.1 x12).Turn⟩ : Slot)).map e_Slot)] [4, 5, 6, 7] [4, 5, 6, 7] [22, 20022] [] [] [] (.cons (ixr_ok e_Slot h40) (.cons (ldr_ok e_Slot h41) (.cons (set_ok e_Slot x1.2.1 x12 (⟨(⟨((lget x1.2.1 x12).Part).From, ((lget x1.2.1 x12).Part).To, ((lget x1.2.1 x12).Part).ID⟩ : Part), 3, (lget x1.2.1 x12).Host, (lget x1.2.1 x12).Turn⟩ : Slot)) (.cons (Nat.zero_le x12.toNat) .nil)))) (by kernel_rfl) (fun v10 hv => ?_)
             have hF := lt_elim hF hv
             exact Wk_metP (v10, x1.2.2.1, x1.2.2.2) [4, 5, 6, 7] [4, 5, 6, 7] [22, 20022] [] [] [(20022, ⟨0, true, true, false⟩)] hF (by kernel_rfl)
            ·have hF := ite_f hF hb
             refine ZRs [] [2, 3, 4, 5, 6, 7, 11, 12, 229, 266] [2, 3, 4, 5, 6, 7, 12] [22, 20022] [(266, .bool (decide (o.Kind = 6)))] .nil ?_
             refine Wk_split rfl (fun hb => ?_) (fun hb => ?_)
             ·have hF := ite_t hF hb
              obtain ⟨h42, hF⟩ := asrt_elim hF
              obtain ⟨h43, hF⟩ := asrt_elim hF
              refine WRL ((lset x1.2.1 x12 (⟨(⟨((lget b.Slots x12).Part).From, ((lget b.Slots x12).Part).To, ((lget b.Slots x12).Part).ID⟩ : Part), 0, 0, (lget b.Slots x12).Turn⟩ : Slot))) (fun v11 : List Slot => ⟨[(4, .ptr 4 0), (5, .ptr 5 0), (6, .ptr 6 0), (7, .ptr 7 0)], [(4, [.nils, .nils, .i 0, .i 0]), (5, [.i 0, .i 0]), (6, [.i x.Code, .i x.At]), (7, [.row 22 1, .row 20022 1, .i x1.2.2.1, .i x1.2.2.2])], [(22, .z 108 3 1 (x1.1.map e_Host)), (20022, .z 64 6 1 (v11.map e_Slot))], [], []⟩) [.av (e_Slot (lget x1.2.1 x12)), .xs ((lset x1.2.1 x12 (⟨(⟨((lget b.Slots x12).Part).From, ((lget b.Slots x12).Part).To, ((lget b.Slots x12).Part).ID⟩ : Part), 0, 0, (lget b.Slots x12).Turn⟩ : Slot)).map e_Slot)] [4, 5, 6, 7] [4, 5, 6, 7] [22, 20022] [] [] [] (.cons (ixr_ok e_Slot h42) (.cons (ldr_ok e_Slot h43) (.cons (set_ok e_Slot x1.2.1 x12 (⟨(⟨((lget b.Slots x12).Part).From, ((lget b.Slots x12).Part).To, ((lget b.Slots x12).Part).ID⟩ : Part), 0, 0, (lget b.Slots x12).Turn⟩ : Slot)) (.cons (Nat.zero_le x12.toNat) .nil)))) (by kernel_rfl) (fun v11 hv => ?_)
              have hF := lt_elim hF hv
              exact Wk_metP (v11, x1.2.2.1, x1.2.2.2) [4, 5, 6, 7] [4, 5, 6, 7] [22, 20022] [] [] [(20022, ⟨0, true, true, false⟩)] hF (by kernel_rfl)
             ·have hF := ite_f hF hb
              refine ZRs [] [2, 3, 4, 5, 6, 7, 11, 12, 229, 277] [2, 3, 4, 5, 6, 7, 12] [22, 20022] [(277, .bool (decide (o.Kind = 7)))] .nil ?_
              refine Wk_split rfl (fun hb => ?_) (fun hb => ?_)
              ·have hF := ite_t hF hb
               refine Wk_seq ?_
               refine ZRs [] [2, 3, 4, 5, 6, 7, 11, 12, 282] [2, 3, 4, 5, 6, 7, 12] [22, 20022] [(282, .bool (decide (40 < (o.Row.length : Int))))] .nil ?_
               refine Wk_split rfl (fun hb => ?_) (fun hb => ?_)
               ·have hF := ite_t hF hb
                refine Wk_seq ?_
                obtain ⟨x20, h44, hF⟩ := lt_split hF
                refine UR [.callB (.agg [.i x20.Code, .i x20.At])] [4, 5] [4, 5] [] [] [] [(5, [.i x20.Code, .i x20.At])] [] [] (.cons (R_F_ok 8 (-2) x20 h44) .nil) ?_
                have hF := some_elim hF
                exact Wk_ret (hfin _ ⟨[], [], [], [], [], [], by first | (rw [← hF]; kernel_rfl) | kernel_rfl⟩)
               ·have hF := ite_f hF hb
                refine Wk_skip ?_
                refine Wk_seq ?_
                refine Wk_seq ?_
                obtain ⟨x21, h45, hF⟩ := lt_split hF
                refine ZR [.callB (.bool x21)] [2, 3, 4, 5, 6, 7, 11, 12, 298] [2, 3, 4, 5, 6, 7, 12] [22, 20022] [(298, .bool ((decide (o.Row = (((lget b.Slots x12).Part).From))) || (!x21)))] (.cons (fun (ga0 : (!(decide (o.Row = (((lget b.Slots x12).Part).From)))) = true) => (R_InPart_ok (⟨((lget b.Slots x12).Part).From, ((lget b.Slots x12).Part).To, ((lget b.Slots x12).Part).ID⟩ : Part) o.Row x21 h45)) .nil) ?_
                refine Wk_split rfl (fun hb => ?_) (fun hb => ?_)
                ·have hF := ite_t hF hb
                 refine Wk_seq ?_
                 obtain ⟨x22, h46, hF⟩ := lt_split hF
                 refine UR [.callB (.agg [.i x22.Code, .i x22.At])] [4, 5] [4, 5] [] [] [] [(5, [.i x22.Code, .i x22.At])] [] [] (.cons (R_F_ok 5 (-2) x22 h46) .nil) ?_
                 have hF := some_elim hF
                 exact Wk_ret (hfin _ ⟨[], [], [], [], [], [], by first | (rw [← hF]; kernel_rfl) | kernel_rfl⟩)
                ·have hF := ite_f hF hb
                 refine Wk_skip ?_
                 refine Wk_seq ?_
                 refine ZRs [.nat (b.Slots.length : Int)] [2, 3, 4, 5, 6, 7, 11, 12, 304] [2, 3, 4, 5, 6, 7, 12] [22, 20022] [(304, .bool (decide (200 ≤ (b.Slots.length : Int))))] (.cons (len_ok e_Slot b.Slots) .nil) ?_
                 refine Wk_split rfl (fun hb => ?_) (fun hb => ?_)
                 ·have hF := ite_t hF hb
                  refine Wk_seq ?_
                  obtain ⟨x23, h47, hF⟩ := lt_split hF
                  refine UR [.callB (.agg [.i x23.Code, .i x23.At])] [4, 5] [4, 5] [] [] [] [(5, [.i x23.Code, .i x23.At])] [] [] (.cons (R_F_ok 2 (-1) x23 h47) .nil) ?_
                  have hF := some_elim hF
                  exact Wk_ret (hfin _ ⟨[], [], [], [], [], [], by first | (rw [← hF]; kernel_rfl) | kernel_rfl⟩)
                 ·have hF := ite_f hF hb
                  refine Wk_skip ?_
                  refine URs [] [2, 3, 4, 5, 6, 7, 11, 12] [2, 3, 4, 5, 6, 7, 12] [22, 20022] [] [] [(7, [.row 22 1, .row 20022 1, .i x1.2.2.1, .i (w64 (b.Next + 2))])] [] [] .nil ?_
                  obtain ⟨x24, h48, hF⟩ := ob_elim hF
                  refine UR [.sealed, .callE [] [] [] [] (.row 334 3) ⟨[], [], [(334, .z 64 6 3 (x24.map e_Slot))], [], []⟩] [4, 5, 6, 7] [4, 5, 6, 7] [22, 334] [] [] [(7, [.row 22 1, .row 334 3, .i x1.2.2.1, .i (w64 (b.Next + 2))])] [(334, .z 64 6 3 (x24.map e_Slot))] [] (.cons (Pe.ren (R_SlotsInstead_ok b.Slots x12 1 [(⟨(⟨((lget b.Slots x12).Part).From, o.Row, b.Next⟩ : Part), 0, 0, 0⟩ : Slot), (⟨(⟨o.Row, ((lget b.Slots x12).Part).To, w64 (b.Next + 1)⟩ : Part), 0, 0, 0⟩ : Slot)] x24 h48) ⟨[], [(13, 334)], [], []⟩) .nil) ?_
                  refine Wk_trim (fs := [4, 5, 6, 7]) (bs := [4, 5, 6, 7]) (rs := [22, 334]) (ms := []) (aa := []) (nv := []) rfl ?_
                  refine Wk_ren' ⟨[], [(334, 20022)], [], []⟩ rfl ?_
                  exact Wk_metP (x24, x1.2.2.1, w64 (b.Next + 2)) [4, 5, 6, 7] [4, 5, 6, 7] [22, 20022] [] [] [(20022, ⟨0, true, true, false⟩)] hF (by kernel_rfl)
              ·have hF := ite_f hF hb
               refine ZRs [] [2, 4, 5, 6, 7, 11, 12, 336] [2, 4, 5, 6, 7, 12] [22, 20022] [(336, .bool (decide (o.Kind = 8)))] .nil ?_
               refine Wk_split rfl (fun hb => ?_) (fun hb => ?_)
               ·have hF := ite_t hF hb
                refine URs [] [2, 4, 5, 6, 7, 11, 12] [2, 4, 5, 6, 7, 12] [22, 20022] [] [] [(7, [.row 22 1, .row 20022 1, .i x1.2.2.1, .i (w64 (b.Next + 1))])] [] [] .nil ?_
                obtain ⟨h49, hF⟩ := asrt_elim hF
                obtain ⟨x25, h50, hF⟩ := ob_elim hF
                refine UD [.av (e_Slot (lget b.Slots (w64 (x12 + 1)))), .sealed, .callE [] [] [] [] (.row 361 3) ⟨[], [], [(361, .z 64 6 3 (x25.map e_Slot))], [], []⟩] [4, 5, 6, 7] [4, 5, 6, 7] [22, 361] [] [] [(7, [.row 22 1, .row 361 3, .i x1.2.2.1, .i (w64 (b.Next + 1))])] [(361, .z 64 6 3 (x25.map e_Slot))] [] (.cons (idx_ok e_Slot h49) (.cons (Pe.ren (R_SlotsInstead_ok b.Slots x12 2 [(⟨(⟨((lget b.Slots x12).Part).From, ((lget b.Slots (w64 (x12 + 1))).Part).To, b.Next⟩ : Part), 0, 0, 0⟩ : Slot)] x25 h50) ⟨[], [(13, 361)], [], []⟩) .nil)) ?_
                refine Wk_trim (fs := [4, 5, 6, 7]) (bs := [4, 5, 6, 7]) (rs := [22, 361]) (ms := []) (aa := []) (nv := []) rfl ?_
                refine Wk_ren' ⟨[], [(361, 20022)], [], []⟩ rfl ?_
                exact Wk_metP (x25, x1.2.2.1, w64 (b.Next + 1)) [4, 5, 6, 7] [4, 5, 6, 7] [22, 20022] [] [] [(20022, ⟨0, true, true, false⟩)] hF (by kernel_rfl)
               ·have hF := ite_f hF hb
                refine Wk_skip ?_
                exact Wk_metP (x1.2.1, x1.2.2.1, x1.2.2.2) [4, 5, 6, 7] [4, 5, 6, 7] [22, 20022] [] [] [(20022, ⟨0, true, true, false⟩)] hF (by kernel_rfl)
         ·intro v7 hF
          have hF : R_Ordered_v1_J2 x x1 v7 = some r := hF
          unfold R_Ordered_v1_J2 at hF
          refine Wk_blk ?_
          refine Wk_seq ?_
          refine ZRs [] [4, 5, 6, 7, 365] [4, 5, 6, 7] [22, 20022] [(365, .bool (decide (1000000000 < v7.2.2)))] .nil ?_
          refine Wk_split rfl (fun hb => ?_) (fun hb => ?_)
          ·have hF := ite_t hF hb
           refine Wk_seq ?_
           obtain ⟨x18, h34, hF⟩ := lt_split hF
           refine UR [.callB (.agg [.i x18.Code, .i x18.At])] [4, 5] [4, 5] [] [] [] [(5, [.i x18.Code, .i x18.At])] [] [] (.cons (R_F_ok 9 0 x18 h34) .nil) ?_
           have hF := some_elim hF
           exact Wk_ret (hfin _ ⟨[], [], [], [], [], [], by first | (rw [← hF]; kernel_rfl) | kernel_rfl⟩)
          ·have hF := ite_f hF hb
           refine Wk_skip ?_
           refine UDs [] [4, 5] [4, 5] [22, 20022] [] [] [(4, [.row 22 1, .row 20022 0, .i v7.2.1, .i v7.2.2]), (5, [.i x.Code, .i x.At])] [] [] .nil ?_
           have hF := some_elim hF
           exact Wk_ret (hfin _ ⟨[], [], [], [], [], [], by first | (rw [← hF]; kernel_rfl) | kernel_rfl⟩)

/- tabularyref.LoadOf -/
noncomputable def R_LoadOf_J1 (v : Int) : Option Int :=
 some v
noncomputable def R_LoadOf_B1 (b : Board) (id : Int) (v1 : Int × Int) : Option ((Int × Int) ⊕ Int) :=
 if (decide (v1.2 < (b.Slots.length : Int))) = true then
  asrt (0 ≤ v1.2 ∧ v1.2 < (b.Slots.length : Int)) <|
  asrt ((decide (0 < ((lget b.Slots v1.2).State))) = true → 0 ≤ v1.2 ∧ v1.2 < (b.Slots.length : Int)) <|
  ob (
   if ((decide (0 < ((lget b.Slots v1.2).State))) && (decide (((lget b.Slots v1.2).Host) = id))) = true then
    some (w64 (v1.1 + 1))
   else
    some v1.1) fun (v2 : Int) =>
  some (Sum.inl (v2, w64 (v1.2 + 1)))
 else
  inrO (R_LoadOf_J1 v1.1)
noncomputable def R_LoadOf_L1 (b : Board) (id : Int) (v0 : Int × Int) : Option Int :=
 loopO (fun y => R_LoadOf_B1 b id y) v0
noncomputable def R_LoadOf (b : Board) (id : Int) : Option Int :=
 R_LoadOf_L1 b id (0, 0)
theorem R_LoadOf_ok (b : Board) (id : Int) (r : Int) (hF : R_LoadOf b id = some r) : Pe Try.prog 99 S.none [.agg (c_Board b), .i id] (.i r) S.none := by
 refine Pe_of (N := 34) (res := [.tmp 4]) (ts := [3]) Ty.ok Fn.b99 Try.func99 rfl rfl rfl rfl rfl rfl ?_
 intro Q g hfin
 unfold R_LoadOf at hF
 refine URs [] [1, 2] [2] [] [] [(2, .ptr 2 0)] [(2, (c_Board b))] [] [] .nil ?_
 refine ZRs [] [1, 2, 5] [2] [] [(5, .i 0)] .nil ?_
 refine Wk_seq ?_
 refine ZRs [] [1, 2, 5, 6] [2] [] [(6, .i 0)] .nil ?_
 refine Wk_meetP (fun v : Int => (⟨[(5, .i v)], [], [], [], []⟩ : S)) (fun v => R_LoadOf_J1 v = some r) ?_ ?_
 ·refine Wk_block ?_
  unfold R_LoadOf_L1 at hF
  refine Wk_trim (fs := [1, 2, 5, 6]) (bs := [2]) (rs := []) (ms := []) (aa := []) (nv := []) (t := (fun v1 : Int × Int => (⟨[(1, .i id), (2, .ptr 2 0), (5, .i v1.1), (6, .i v1.2)], [(2, (c_Board b))], [], [], []⟩ : S)) (0, 0)) (by kernel_rfl) ?_
  refine Wk_iter (step := fun y => R_LoadOf_B1 b id y) (r := r) (fun v1 : Int × Int => (⟨[(1, .i id), (2, .ptr 2 0), (5, .i v1.1), (6, .i v1.2)], [(2, (c_Board b))], [], [], []⟩ : S)) (0, 0) hF ?_
  intro n1 v1 y1 hF ih1 dn1
  have hF : R_LoadOf_B1 b id v1 = some y1 := hF
  unfold R_LoadOf_B1 at hF
  refine Wk_seq ?_
  refine ZRs [.nat (b.Slots.length : Int)] [1, 2, 5, 6, 11] [2] [] [(11, .bool (decide (v1.2 < (b.Slots.length : Int))))] (.cons (len_ok e_Slot b.Slots) .nil) ?_
  refine Wk_split rfl (fun hb => ?_) (fun hb => ?_)
  ·have hF := ite_t hF hb
   refine Wk_skip ?_
   refine Wk_seq ?_
   refine Wk_block ?_
   refine Wk_seq ?_
   obtain ⟨h0, hF⟩ := asrt_elim hF
   obtain ⟨h1, hF⟩ := asrt_elim hF
   refine ZR [.av (e_Slot (lget b.Slots v1.2)), .av (e_Slot (lget b.Slots v1.2))] [1, 2, 5, 6, 30] [2] [] [(30, .bool ((decide (0 < ((lget b.Slots v1.2).State))) && (decide (((lget b.Slots v1.2).Host) = id))))] (.cons (idx_ok e_Slot h0) (.cons (fun (ga0 : (decide (0 < ((lget b.Slots v1.2).State))) = true) => (idx_ok e_Slot (h1 ga0))) .nil)) ?_
   obtain ⟨v2, hv, hF⟩ := ob_elim hF
   refine Wk_meet (⟨[(1, .i id), (2, .ptr 2 0), (5, .i v2), (6, .i v1.2)], [(2, (c_Board b))], [], [], []⟩ : S) ?_ ?_
   ·have hF := hv
    refine Wk_split rfl (fun hb => ?_) (fun hb => ?_)
    ·have hF := ite_t hF hb
     refine ZR [] [1, 2, 5, 6] [2] [] [(5, .i (w64 (v1.1 + 1)))] .nil ?_
     exact Wk_met (fs := [1, 2, 5, 6]) (bs := [2]) (rs := []) (ms := []) (aa := []) (nv := []) (by first | (rw [← some_elim hF]; kernel_rfl) | kernel_rfl)
    ·have hF := ite_f hF hb
     refine Wk_skip ?_
     exact Wk_met (fs := [1, 2, 5, 6]) (bs := [2]) (rs := []) (ms := []) (aa := []) (nv := []) (by first | (rw [← some_elim hF]; kernel_rfl) | kernel_rfl)
   ·refine Wk_blk ?_
    refine ZR [] [1, 2, 5, 6] [2] [] [(6, .i (w64 (v1.2 + 1)))] .nil ?_
    refine Wk_trim (fs := [1, 2, 5, 6]) (bs := [2]) (rs := []) (ms := []) (aa := []) (nv := []) ?_ (ih1 _ (some_elim hF).symm)
    kernel_rfl
  ·have hF := ite_f hF hb
   refine Wk_exit rfl ?_
   have hF := inrO_done hF dn1
   exact Wk_metP v1.1 [5] [] [] [] [] [] hF (by kernel_rfl)
 ·intro v hF
  have hF : R_LoadOf_J1 v = some r := hF
  unfold R_LoadOf_J1 at hF
  refine ZRs [] [4] [] [] [(4, .i v)] .nil ?_
  have hF := some_elim hF
  exact Wk_ret (hfin _ ⟨[], [], [], [], [], [], by first | (rw [← hF]; kernel_rfl) | kernel_rfl⟩)

/- tabularyref.DueOrders -/
noncomputable def R_DueOrders_v1_J1 (v : List Order) : Option (List Order) :=
 some v
noncomputable def R_DueOrders_v1_J2 (v1 : List Order × List Slot × Int) (v2 : List Order × List Slot) : Option ((List Order × List Slot × Int) ⊕ (List Order)) :=
 some (Sum.inl (v2.1, v2.2, w64 (v1.2.2 + 1)))
noncomputable def R_DueOrders_v1_J3 (v1 : List Order × List Slot × Int) (v3 : Int) : Option ((List Order × List Slot × Int) ⊕ (List Order)) :=
 if (decide (0 < v3)) = true then
  asrt (0 ≤ v1.2.2 ∧ v1.2.2 < (v1.2.1.length : Int)) <|
  asrt (0 ≤ v1.2.2 ∧ v1.2.2 < (v1.2.1.length : Int)) <|
  lt ((lset v1.2.1 v1.2.2 (⟨(⟨((lget v1.2.1 v1.2.2).Part).From, ((lget v1.2.1 v1.2.2).Part).To, ((lget v1.2.1 v1.2.2).Part).ID⟩ : Part), 1, (lget v1.2.1 v1.2.2).Host, (lget v1.2.1 v1.2.2).Turn⟩ : Slot))) fun (v4 : List Slot) =>
  asrt (0 ≤ v1.2.2 ∧ v1.2.2 < (v4.length : Int)) <|
  asrt (0 ≤ v1.2.2 ∧ v1.2.2 < (v4.length : Int)) <|
  lt ((lset v4 v1.2.2 (⟨(⟨((lget v4 v1.2.2).Part).From, ((lget v4 v1.2.2).Part).To, ((lget v4 v1.2.2).Part).ID⟩ : Part), (lget v4 v1.2.2).State, v3, (lget v4 v1.2.2).Turn⟩ : Slot))) fun (v5 : List Slot) =>
  asrt (0 ≤ v1.2.2 ∧ v1.2.2 < (v5.length : Int)) <|
  asrt (0 ≤ v1.2.2 ∧ v1.2.2 < (v5.length : Int)) <|
  asrt (((v1.1 ++ [(⟨3, ((lget v5 v1.2.2).Part).ID, v3, 0, ([] : List UInt8)⟩ : Order)]).length : Int) * 48 ≤ 140737488351232) <|
  lt ((v1.1 ++ [(⟨3, ((lget v5 v1.2.2).Part).ID, v3, 0, ([] : List UInt8)⟩ : Order)])) fun (v6 : List Order) =>
  R_DueOrders_v1_J2 v1 (v6, v5)
 else
  R_DueOrders_v1_J2 v1 (v1.1, v1.2.1)
noncomputable def R_DueOrders_v1_B2 (x : List Host × List Slot × Int × Int) (v1 : List Order × List Slot × Int) (v7 : Int × Int) : Option ((Int × Int) ⊕ ((List Order × List Slot × Int) ⊕ (List Order))) :=
 if (decide (v7.2 < (x.1.length : Int))) = true then
  asrt (0 ≤ v7.2 ∧ v7.2 < (x.1.length : Int)) <|
  asrt (0 ≤ v7.2 ∧ v7.2 < (x.1.length : Int)) <|
  ob (if (!(decide (v7.1 = 0))) = true then (if ((lget x.1 v7.2).Alive) = true then (R_LoadOf (⟨x.1, v1.2.1, x.2.2.1, x.2.2.2⟩ : Board) ((lget x.1 v7.2).ID)) else some default) else some default) fun x1 =>
  ob (if (!(decide (v7.1 = 0))) = true then (if ((lget x.1 v7.2).Alive) = true then (R_LoadOf (⟨x.1, v1.2.1, x.2.2.1, x.2.2.2⟩ : Board) v7.1) else some default) else some default) fun x2 =>
  ob (if (!((decide (v7.1 = 0)) || (decide (x1 < x2)))) = true then (if ((lget x.1 v7.2).Alive) = true then (R_LoadOf (⟨x.1, v1.2.1, x.2.2.1, x.2.2.2⟩ : Board) ((lget x.1 v7.2).ID)) else some default) else some default) fun x3 =>
  ob (if (!((decide (v7.1 = 0)) || (decide (x1 < x2)))) = true then (if ((lget x.1 v7.2).Alive) = true then (R_LoadOf (⟨x.1, v1.2.1, x.2.2.1, x.2.2.2⟩ : Board) v7.1) else some default) else some default) fun x4 =>
  ob (
   if (((lget x.1 v7.2).Alive) && (((decide (v7.1 = 0)) || (decide (x1 < x2))) || ((decide (x3 = x4)) && (decide (((lget x.1 v7.2).ID) < v7.1))))) = true then
    some ((lget x.1 v7.2).ID)
   else
    some v7.1) fun (v8 : Int) =>
  some (Sum.inl (v8, w64 (v7.2 + 1)))
 else
  inrO (R_DueOrders_v1_J3 v1 v7.1)
noncomputable def R_DueOrders_v1_L2 (x : List Host × List Slot × Int × Int) (v1 : List Order × List Slot × Int) (v0 : Int × Int) : Option ((List Order × List Slot × Int) ⊕ (List Order)) :=
 loopO (fun y => R_DueOrders_v1_B2 x v1 y) v0
noncomputable def R_DueOrders_v1_B1 (x : List Host × List Slot × Int × Int) (v1 : List Order × List Slot × Int) : Option ((List Order × List Slot × Int) ⊕ (List Order)) :=
 if (decide (v1.2.2 < (v1.2.1.length : Int))) = true then
  asrt (0 ≤ v1.2.2 ∧ v1.2.2 < (v1.2.1.length : Int)) <|
  asrt (0 ≤ v1.2.2 ∧ v1.2.2 < (v1.2.1.length : Int)) <|
  if (!decide (((lget v1.2.1 v1.2.2).State) = 0)) = true then
   R_DueOrders_v1_J2 v1 (v1.1, v1.2.1)
  else
   R_DueOrders_v1_L2 x v1 (0, 0)
 else
  inrO (R_DueOrders_v1_J1 v1.1)
noncomputable def R_DueOrders_v1_L1 (x : List Host × List Slot × Int × Int) (v0 : List Order × List Slot × Int) : Option (List Order) :=
 loopO (fun y => R_DueOrders_v1_B1 x y) v0
noncomputable def R_DueOrders_v1 (b : Board) : Option (List Order) :=
 ob (R_CopyBoard b) fun x =>
 R_DueOrders_v1_L1 x (([] : List Order), x.2.1, 0)
theorem R_DueOrders_v1_ok (b : Board) (r : List Order) (hF : R_DueOrders_v1 b = some r) : Pe Try.prog 57 S.none [.agg (c_Board b)] (.sl 5 (r.map e_Order)) S.none := by
 refine Pe_of (N := 97) (res := [.tmp 2]) (ts := [53]) Ty.ok Fn.b57 Try.func57 rfl rfl rfl rfl rfl rfl ?_
 intro Q g hfin
 unfold R_DueOrders_v1 at hF
 refine URs [] [1] [1] [] [] [(1, .ptr 1 0)] [(1, (c_Board b))] [] [] .nil ?_
 refine ZRs [] [1, 3] [1] [] [(3, .nils)] .nil ?_
 refine Wk_seq ?_
 obtain ⟨x, h0, hF⟩ := ob_elim hF
 refine UR [.callE [] [] [] [] (.agg [.row 10 1, .row 20010 1, .i x.2.2.1, .i x.2.2.2]) ⟨[], [], [(10, .z 108 3 1 (x.1.map e_Host)), (20010, .z 64 6 1 (x.2.1.map e_Slot))], [], []⟩] [3, 4] [4] [10, 20010] [] [(4, .ptr 4 0)] [(4, [.row 10 1, .row 20010 1, .i x.2.2.1, .i x.2.2.2])] [(10, .z 108 3 1 (x.1.map e_Host)), (20010, .z 64 6 1 (x.2.1.map e_Slot))] [] (.cons (Pe.ren (R_CopyBoard_ok b x h0) ⟨[], [(5, 10), (9, 20010)], [], []⟩) .nil) ?_
 refine Wk_seq ?_
 refine ZRs [] [3, 4, 5] [4] [10, 20010] [(5, .i 0)] .nil ?_
 refine Wk_meetP (fun v : List Order => (⟨[(3, .row 95 0)], [], [(95, .z 91 5 0 (v.map e_Order))], [], []⟩ : S)) (fun v => R_DueOrders_v1_J1 v = some r) ?_ ?_
 ·refine Wk_block ?_
  unfold R_DueOrders_v1_L1 at hF
  refine Wk_nilrow 3 60000 91 5 rfl rfl rfl ?_
  refine Wk_trim (fs := [3, 4, 5]) (bs := [4]) (rs := [10, 20010, 60000]) (ms := []) (aa := []) (nv := []) rfl ?_
  refine Wk_ren' ⟨[], [(60000, 95)], [], []⟩ rfl ?_
  refine Wk_trim (fs := [3, 4, 5]) (bs := [4]) (rs := [10, 95, 20010]) (ms := []) (aa := []) (nv := []) (t := (fun v1 : List Order × List Slot × Int => (⟨[(3, .row 95 0), (4, .ptr 4 0), (5, .i v1.2.2)], [(4, [.row 10 1, .row 20010 1, .i x.2.2.1, .i x.2.2.2])], [(10, .z 108 3 1 (x.1.map e_Host)), (95, .z 91 5 0 (v1.1.map e_Order)), (20010, .z 64 6 1 (v1.2.1.map e_Slot))], [], []⟩ : S)) (([] : List Order), x.2.1, 0)) (by kernel_rfl) ?_
  refine Wk_iter (step := fun y => R_DueOrders_v1_B1 x y) (r := r) (fun v1 : List Order × List Slot × Int => (⟨[(3, .row 95 0), (4, .ptr 4 0), (5, .i v1.2.2)], [(4, [.row 10 1, .row 20010 1, .i x.2.2.1, .i x.2.2.2])], [(10, .z 108 3 1 (x.1.map e_Host)), (95, .z 91 5 0 (v1.1.map e_Order)), (20010, .z 64 6 1 (v1.2.1.map e_Slot))], [], []⟩ : S)) (([] : List Order), x.2.1, 0) hF ?_
  intro n1 v1 y1 hF ih1 dn1
  have hF : R_DueOrders_v1_B1 x v1 = some y1 := hF
  unfold R_DueOrders_v1_B1 at hF
  refine Wk_seq ?_
  refine ZRs [.nat (v1.2.1.length : Int)] [3, 4, 5, 15] [4] [10, 95, 20010] [(15, .bool (decide (v1.2.2 < (v1.2.1.length : Int))))] (.cons (len_ok e_Slot v1.2.1) .nil) ?_
  refine Wk_split rfl (fun hb => ?_) (fun hb => ?_)
  ·have hF := ite_t hF hb
   refine Wk_skip ?_
   refine Wk_seq ?_
   refine Wk_meetP (fun v2 : List Order × List Slot => (⟨[(3, .row 95 0), (4, .ptr 4 0), (5, .i v1.2.2)], [(4, [.row 10 1, .row 20010 1, .i x.2.2.1, .i x.2.2.2])], [(10, .z 108 3 1 (x.1.map e_Host)), (95, .z 91 5 0 (v2.1.map e_Order)), (20010, .z 64 6 1 (v2.2.map e_Slot))], [], []⟩ : S)) (fun v2 => R_DueOrders_v1_J2 v1 v2 = some y1) ?_ ?_
   ·refine Wk_block ?_
    refine Wk_seq ?_
    refine Wk_seq ?_
    obtain ⟨h1, hF⟩ := asrt_elim hF
    obtain ⟨h2, hF⟩ := asrt_elim hF
    refine ZR [.av (e_Slot (lget v1.2.1 v1.2.2))] [3, 4, 5, 24] [4] [10, 95, 20010] [(24, .bool (!decide (((lget v1.2.1 v1.2.2).State) = 0)))] (.cons (ixr_ok e_Slot h1) (.cons (ldr_ok e_Slot h2) .nil)) ?_
    refine Wk_split rfl (fun hb => ?_) (fun hb => ?_)
    ·have hF := ite_t hF hb
     refine Wk_exit rfl ?_
     exact Wk_metP (v1.1, v1.2.1) [3, 4, 5] [4] [10, 95, 20010] [] [] [] hF (by kernel_rfl)
    ·have hF := ite_f hF hb
     refine Wk_skip ?_
     refine ZRs [] [3, 4, 5, 6] [4] [10, 95, 20010] [(6, .i 0)] .nil ?_
     refine Wk_seq ?_
     refine ZRs [] [3, 4, 5, 6, 7] [4] [10, 95, 20010] [(7, .i 0)] .nil ?_
     refine Wk_meetP (fun v3 : Int => (⟨[(3, .row 95 0), (4, .ptr 4 0), (5, .i v1.2.2), (6, .i v3)], [(4, [.row 10 1, .row 20010 1, .i x.2.2.1, .i x.2.2.2])], [(10, .z 108 3 1 (x.1.map e_Host)), (95, .z 91 5 0 (v1.1.map e_Order)), (20010, .z 64 6 1 (v1.2.1.map e_Slot))], [], []⟩ : S)) (fun v3 => R_DueOrders_v1_J3 v1 v3 = some y1) ?_ ?_
     ·refine Wk_block ?_
      unfold R_DueOrders_v1_L2 at hF
      refine Wk_trim (fs := [3, 4, 5, 6, 7]) (bs := [4]) (rs := [10, 95, 20010]) (ms := []) (aa := []) (nv := []) (t := (fun v7 : Int × Int => (⟨[(3, .row 95 0), (4, .ptr 4 0), (5, .i v1.2.2), (6, .i v7.1), (7, .i v7.2)], [(4, [.row 10 1, .row 20010 1, .i x.2.2.1, .i x.2.2.2])], [(10, .z 108 3 1 (x.1.map e_Host)), (95, .z 91 5 0 (v1.1.map e_Order)), (20010, .z 64 6 1 (v1.2.1.map e_Slot))], [], []⟩ : S)) (0, 0)) (by kernel_rfl) ?_
      refine Wk_iter (step := fun y => R_DueOrders_v1_B2 x v1 y) (r := y1) (fun v7 : Int × Int => (⟨[(3, .row 95 0), (4, .ptr 4 0), (5, .i v1.2.2), (6, .i v7.1), (7, .i v7.2)], [(4, [.row 10 1, .row 20010 1, .i x.2.2.1, .i x.2.2.2])], [(10, .z 108 3 1 (x.1.map e_Host)), (95, .z 91 5 0 (v1.1.map e_Order)), (20010, .z 64 6 1 (v1.2.1.map e_Slot))], [], []⟩ : S)) (0, 0) hF ?_
      intro n2 v7 y2 hF ih2 dn2
      have hF : R_DueOrders_v1_B2 x v1 v7 = some y2 := hF
      unfold R_DueOrders_v1_B2 at hF
      refine Wk_seq ?_
      refine ZRs [.nat (x.1.length : Int)] [3, 4, 5, 6, 7, 29] [4] [10, 95, 20010] [(29, .bool (decide (v7.2 < (x.1.length : Int))))] (.cons (len_ok e_Host x.1) .nil) ?_
      refine Wk_split rfl (fun hb => ?_) (fun hb => ?_)
      ·have hF := ite_t hF hb
       refine Wk_skip ?_
       refine Wk_seq ?_
       refine Wk_block ?_
       refine Wk_seq ?_
       obtain ⟨h10, hF⟩ := asrt_elim hF
       obtain ⟨h11, hF⟩ := asrt_elim hF
       refine UR [.av (e_Host (lget x.1 v7.2))] [3, 4, 5, 6, 7, 8] [4, 8] [10, 95, 20010] [] [(8, .ptr 8 0)] [(8, (c_Host (lget x.1 v7.2)))] [] [] (.cons (ixr_ok e_Host h10) (.cons (ldr_ok e_Host h11) .nil)) ?_
       refine Wk_seq ?_
       obtain ⟨x1, h12, hF⟩ := ob_elim hF
       obtain ⟨x2, h13, hF⟩ := ob_elim hF
       obtain ⟨x3, h14, hF⟩ := ob_elim hF
       obtain ⟨x4, h15, hF⟩ := ob_elim hF
       refine ZD [.callB (.i x1), .callB (.i x2), .callB (.i x3), .callB (.i x4)] [3, 4, 5, 6, 7, 8, 68] [4, 8] [10, 95, 20010] [(68, .bool (((lget x.1 v7.2).Alive) && (((decide (v7.1 = 0)) || (decide (x1 < x2))) || ((decide (x3 = x4)) && (decide (((lget x.1 v7.2).ID) < v7.1))))))] (.cons (fun (ga0 : (!(decide (v7.1 = 0))) = true) (ga1 : ((lget x.1 v7.2).Alive) = true) => (R_LoadOf_ok (⟨x.1, v1.2.1, x.2.2.1, x.2.2.2⟩ : Board) ((lget x.1 v7.2).ID) x1 (ite_t (ite_t h12 ga0) ga1))) (.cons (fun (ga0 : (!(decide (v7.1 = 0))) = true) (ga1 : ((lget x.1 v7.2).Alive) = true) => (R_LoadOf_ok (⟨x.1, v1.2.1, x.2.2.1, x.2.2.2⟩ : Board) v7.1 x2 (ite_t (ite_t h13 ga0) ga1))) (.cons (fun (ga0 : (!((decide (v7.1 = 0)) || (decide (x1 < x2)))) = true) (ga1 : ((lget x.1 v7.2).Alive) = true) => (R_LoadOf_ok (⟨x.1, v1.2.1, x.2.2.1, x.2.2.2⟩ : Board) ((lget x.1 v7.2).ID) x3 (ite_t (ite_t h14 ga0) ga1))) (.cons (fun (ga0 : (!((decide (v7.1 = 0)) || (decide (x1 < x2)))) = true) (ga1 : ((lget x.1 v7.2).Alive) = true) => (R_LoadOf_ok (⟨x.1, v1.2.1, x.2.2.1, x.2.2.2⟩ : Board) v7.1 x4 (ite_t (ite_t h15 ga0) ga1))) .nil)))) ?_
       obtain ⟨v8, hv, hF⟩ := ob_elim hF
       refine Wk_meet (⟨[(3, .row 95 0), (4, .ptr 4 0), (5, .i v1.2.2), (6, .i v8), (7, .i v7.2)], [(4, [.row 10 1, .row 20010 1, .i x.2.2.1, .i x.2.2.2])], [(10, .z 108 3 1 (x.1.map e_Host)), (95, .z 91 5 0 (v1.1.map e_Order)), (20010, .z 64 6 1 (v1.2.1.map e_Slot))], [], []⟩ : S) ?_ ?_
       ·have hF := hv
        refine Wk_split rfl (fun hb => ?_) (fun hb => ?_)
        ·have hF := ite_t hF hb
         refine ZR [] [3, 4, 5, 6, 7] [4] [10, 95, 20010] [(6, .i ((lget x.1 v7.2).ID))] .nil ?_
         exact Wk_met (fs := [3, 4, 5, 6, 7]) (bs := [4]) (rs := [10, 95, 20010]) (ms := []) (aa := []) (nv := []) (by first | (rw [← some_elim hF]; kernel_rfl) | kernel_rfl)
        ·have hF := ite_f hF hb
         refine Wk_skip ?_
         exact Wk_met (fs := [3, 4, 5, 6, 7]) (bs := [4]) (rs := [10, 95, 20010]) (ms := []) (aa := []) (nv := []) (by first | (rw [← some_elim hF]; kernel_rfl) | kernel_rfl)
       ·refine Wk_blk ?_
        refine ZR [] [3, 4, 5, 6, 7] [4] [10, 95, 20010] [(7, .i (w64 (v7.2 + 1)))] .nil ?_
        refine Wk_trim (fs := [3, 4, 5, 6, 7]) (bs := [4]) (rs := [10, 95, 20010]) (ms := []) (aa := []) (nv := []) ?_ (ih2 _ (some_elim hF).symm)
        kernel_rfl
      ·have hF := ite_f hF hb
       refine Wk_exit rfl ?_
       have hF := inrO_done hF dn2
       exact Wk_metP v7.1 [3, 4, 5, 6] [4] [10, 95, 20010] [] [] [] hF (by kernel_rfl)
     ·intro v3 hF
      have hF : R_DueOrders_v1_J3 v1 v3 = some y1 := hF
      unfold R_DueOrders_v1_J3 at hF
      refine ZRs [] [3, 4, 5, 6, 72] [4] [10, 95, 20010] [(72, .bool (decide (0 < v3)))] .nil ?_
      refine Wk_split rfl (fun hb => ?_) (fun hb => ?_)
      ·have hF := ite_t hF hb
       refine Wk_seq ?_
       obtain ⟨h3, hF⟩ := asrt_elim hF
       obtain ⟨h4, hF⟩ := asrt_elim hF
       refine WRL ((lset v1.2.1 v1.2.2 (⟨(⟨((lget v1.2.1 v1.2.2).Part).From, ((lget v1.2.1 v1.2.2).Part).To, ((lget v1.2.1 v1.2.2).Part).ID⟩ : Part), 1, (lget v1.2.1 v1.2.2).Host, (lget v1.2.1 v1.2.2).Turn⟩ : Slot))) (fun v4 : List Slot => ⟨[(3, .row 95 0), (4, .ptr 4 0), (5, .i v1.2.2), (6, .i v3)], [(4, [.row 10 1, .row 20010 1, .i x.2.2.1, .i x.2.2.2])], [(10, .z 108 3 1 (x.1.map e_Host)), (95, .z 91 5 0 (v1.1.map e_Order)), (20010, .z 64 6 1 (v4.map e_Slot))], [], []⟩) [.av (e_Slot (lget v1.2.1 v1.2.2)), .xs ((lset v1.2.1 v1.2.2 (⟨(⟨((lget v1.2.1 v1.2.2).Part).From, ((lget v1.2.1 v1.2.2).Part).To, ((lget v1.2.1 v1.2.2).Part).ID⟩ : Part), 1, (lget v1.2.1 v1.2.2).Host, (lget v1.2.1 v1.2.2).Turn⟩ : Slot)).map e_Slot)] [3, 4, 5, 6] [4] [10, 95, 20010] [] [] [] (.cons (ixr_ok e_Slot h3) (.cons (ldr_ok e_Slot h4) (.cons (set_ok e_Slot v1.2.1 v1.2.2 (⟨(⟨((lget v1.2.1 v1.2.2).Part).From, ((lget v1.2.1 v1.2.2).Part).To, ((lget v1.2.1 v1.2.2).Part).ID⟩ : Part), 1, (lget v1.2.1 v1.2.2).Host, (lget v1.2.1 v1.2.2).Turn⟩ : Slot)) (.cons (Nat.zero_le v1.2.2.toNat) .nil)))) (by kernel_rfl) (fun v4 hv => ?_)
       have hF := lt_elim hF hv
       refine Wk_seq ?_
       obtain ⟨h5, hF⟩ := asrt_elim hF
       obtain ⟨h6, hF⟩ := asrt_elim hF
       refine WRL ((lset v4 v1.2.2 (⟨(⟨((lget v4 v1.2.2).Part).From, ((lget v4 v1.2.2).Part).To, ((lget v4 v1.2.2).Part).ID⟩ : Part), (lget v4 v1.2.2).State, v3, (lget v4 v1.2.2).Turn⟩ : Slot))) (fun v5 : List Slot => ⟨[(3, .row 95 0), (4, .ptr 4 0), (5, .i v1.2.2), (6, .i v3)], [(4, [.row 10 1, .row 20010 1, .i x.2.2.1, .i x.2.2.2])], [(10, .z 108 3 1 (x.1.map e_Host)), (95, .z 91 5 0 (v1.1.map e_Order)), (20010, .z 64 6 1 (v5.map e_Slot))], [], []⟩) [.av (e_Slot (lget v4 v1.2.2)), .xs ((lset v4 v1.2.2 (⟨(⟨((lget v4 v1.2.2).Part).From, ((lget v4 v1.2.2).Part).To, ((lget v4 v1.2.2).Part).ID⟩ : Part), (lget v4 v1.2.2).State, v3, (lget v4 v1.2.2).Turn⟩ : Slot)).map e_Slot)] [3, 4, 5, 6] [4] [10, 95, 20010] [] [] [] (.cons (ixr_ok e_Slot h5) (.cons (ldr_ok e_Slot h6) (.cons (set_ok e_Slot v4 v1.2.2 (⟨(⟨((lget v4 v1.2.2).Part).From, ((lget v4 v1.2.2).Part).To, ((lget v4 v1.2.2).Part).ID⟩ : Part), (lget v4 v1.2.2).State, v3, (lget v4 v1.2.2).Turn⟩ : Slot)) (.cons (Nat.zero_le v1.2.2.toNat) .nil)))) (by kernel_rfl) (fun v5 hv => ?_)
       have hF := lt_elim hF hv
       obtain ⟨h7, hF⟩ := asrt_elim hF
       obtain ⟨h8, hF⟩ := asrt_elim hF
       obtain ⟨h9, hF⟩ := asrt_elim hF
       refine WRL ((v1.1 ++ [(⟨3, ((lget v5 v1.2.2).Part).ID, v3, 0, ([] : List UInt8)⟩ : Order)])) (fun v6 : List Order => ⟨[(3, .row 95 1), (4, .ptr 4 0), (5, .i v1.2.2)], [(4, [.row 10 1, .row 20010 1, .i x.2.2.1, .i x.2.2.2])], [(10, .z 108 3 1 (x.1.map e_Host)), (95, .z 91 5 1 (v6.map e_Order)), (20010, .z 64 6 1 (v5.map e_Slot))], [], []⟩) [.av (e_Slot (lget v5 v1.2.2)), .sealed, .xs ((v1.1 ++ [(⟨3, ((lget v5 v1.2.2).Part).ID, v3, 0, ([] : List UInt8)⟩ : Order)]).map e_Order)] [3, 4, 5] [4] [10, 95, 20010] [] [] [] (.cons (ixr_ok e_Slot h7) (.cons (ldr_ok e_Slot h8) (.cons (app_ok e_Order v1.1 [(⟨3, ((lget v5 v1.2.2).Part).ID, v3, 0, ([] : List UInt8)⟩ : Order)]) (.cons (appl_ok e_Order h9) .nil)))) (by kernel_rfl) (fun v6 hv => ?_)
       have hF := lt_elim hF hv
       refine Wk_blk ?_
       exact Wk_metP (v6, v5) [3, 4, 5] [4] [10, 95, 20010] [] [] [(95, ⟨0, true, true, false⟩)] hF (by kernel_rfl)
      ·have hF := ite_f hF hb
       refine Wk_skip ?_
       refine Wk_blk ?_
       exact Wk_metP (v1.1, v1.2.1) [3, 4, 5] [4] [10, 95, 20010] [] [] [] hF (by kernel_rfl)
   ·intro v2 hF
    have hF : R_DueOrders_v1_J2 v1 v2 = some y1 := hF
    unfold R_DueOrders_v1_J2 at hF
    refine ZR [] [3, 4, 5] [4] [10, 95, 20010] [(5, .i (w64 (v1.2.2 + 1)))] .nil ?_
    refine Wk_trim (fs := [3, 4, 5]) (bs := [4]) (rs := [10, 95, 20010]) (ms := []) (aa := []) (nv := []) ?_ (ih1 _ (some_elim hF).symm)
    kernel_rfl
  ·have hF := ite_f hF hb
   refine Wk_exit rfl ?_
   have hF := inrO_done hF dn1
   exact Wk_metP v1.1 [3] [] [95] [] [] [] hF (by kernel_rfl)
 ·intro v hF
  have hF : R_DueOrders_v1_J1 v = some r := hF
  unfold R_DueOrders_v1_J1 at hF
  refine ZRs [] [2] [] [95] [(2, .row 95 0)] .nil ?_
  have hF := some_elim hF
  exact Wk_ret (hfin _ ⟨[], [], [], [], [], [], by first | (rw [← hF]; kernel_rfl) | kernel_rfl⟩)

/- tabularylaw.AssignDoes -/
noncomputable def law_AssignDoes (b : Board) (o : Order) : Option Bool :=
 ob (law_assignBegun) fun x =>
 if (!x) = true then
  some false
 else
  lt (law_vastBoard b) fun x1 =>
  if x1 = true then
   some true
  else
   ob (R_CopyBoard_v1 b) fun x2 =>
   ob (assign_Check x2) fun x3 =>
   ob (assign_Do_v1 x2 o) fun x4 =>
   ob (assign_Due_v1 x2) fun x5 =>
   ob (R_BoardFault b) fun x6 =>
   ob (R_SameBoard x2 b) fun x7 =>
   if (((!x7) || (!(decide (x3.Code = x6.Code) && (decide (x3.At = x6.At) && true)))) || (!(decide (x5.2.Code = x6.Code) && (decide (x5.2.At = x6.At) && true)))) = true then
    some false
   else
    ob (R_Ordered_v1 b o) fun x8 =>
    ob (if (!(!(decide (x4.2.Code = x8.2.Code) && (decide (x4.2.At = x8.2.At) && true)))) = true then (R_SameBoard x4.1 x8.1) else some default) fun x9 =>
    if ((!(decide (x4.2.Code = x8.2.Code) && (decide (x4.2.At = x8.2.At) && true))) || (!x9)) = true then
     some false
    else
     if (!decide (x6.Code = 0)) = true then
      some (decide ((x5.1.length : Int) = 0))
     else
      ob (R_DueOrders_v1 b) fun x10 =>
      ob (R_SameOrders x5.1 x10) fun x11 =>
      some x11
theorem law_AssignDoes_ok (b : Board) (o : Order) (r : Bool) (hF : law_AssignDoes b o = some r) : Pe Try.prog 9 S.none [.agg (c_Board b), .agg (c_Order o)] (.bool r) S.none := by
 refine Pe_of (N := 74) (res := [.tmp 4]) (ts := [4]) Ty.ok Fn.b9 Try.func9 rfl rfl rfl rfl rfl rfl ?_
 intro Q g hfin
 unfold law_AssignDoes at hF
 refine URs [] [2, 3] [2, 3] [] [] [(2, .ptr 2 0), (3, .ptr 3 0)] [(2, (c_Board b)), (3, (c_Order o))] [] [] .nil ?_
 refine Wk_seq ?_
 refine Wk_seq ?_
 obtain ⟨x, h0, hF⟩ := ob_elim hF
 refine ZR [.callB (.bool x)] [2, 3, 15] [2, 3] [] [(15, .bool (!x))] (.cons (law_assignBegun_ok  x h0) .nil) ?_
 refine Wk_split rfl (fun hb => ?_) (fun hb => ?_)
 ·have hF := ite_t hF hb
  refine ZRs [] [4] [] [] [(4, .bool false)] .nil ?_
  have hF := some_elim hF
  exact Wk_ret (hfin _ ⟨[], [], [], [], [], [], by first | (rw [← hF]; kernel_rfl) | kernel_rfl⟩)
 ·have hF := ite_f hF hb
  refine Wk_skip ?_
  refine Wk_seq ?_
  refine Wk_seq ?_
  obtain ⟨x1, h1, hF⟩ := lt_split hF
  refine ZR [.callB (.bool x1)] [2, 3, 17] [2, 3] [] [(17, .bool x1)] (.cons (law_vastBoard_ok b x1 h1) .nil) ?_
  refine Wk_split rfl (fun hb => ?_) (fun hb => ?_)
  ·have hF := ite_t hF hb
   refine ZRs [] [4] [] [] [(4, .bool true)] .nil ?_
   have hF := some_elim hF
   exact Wk_ret (hfin _ ⟨[], [], [], [], [], [], by first | (rw [← hF]; kernel_rfl) | kernel_rfl⟩)
  ·have hF := ite_f hF hb
   refine Wk_skip ?_
   refine Wk_seq ?_
   obtain ⟨x2, h2, hF⟩ := ob_elim hF
   refine UR [.call (.agg (c_Board x2))] [2, 3, 5] [2, 3, 5] [] [] [(5, .ptr 5 0)] [(5, (c_Board x2))] [] [] (.cons (R_CopyBoard_v1_ok b x2 h2) .nil) ?_
   refine Wk_seq ?_
   obtain ⟨x3, h3, hF⟩ := ob_elim hF
   refine UR [.callB (.agg [.i x3.Code, .i x3.At])] [2, 3, 5, 6] [2, 3, 5, 6] [] [] [(6, .ptr 6 0)] [(6, [.i x3.Code, .i x3.At])] [] [] (.cons (assign_Check_ok x2 x3 h3) .nil) ?_
   refine Wk_seq ?_
   obtain ⟨x4, h4, hF⟩ := ob_elim hF
   refine UR [.call (.tup [.agg (c_Board x4.1), .agg [.i x4.2.Code, .i x4.2.At]])] [2, 3, 5, 6, 7, 8] [2, 3, 5, 6, 7, 8] [] [] [(7, .ptr 7 0), (8, .ptr 8 0)] [(7, (c_Board x4.1)), (8, [.i x4.2.Code, .i x4.2.At])] [] [] (.cons (assign_Do_v1_ok x2 o x4 h4) .nil) ?_
   refine Wk_seq ?_
   obtain ⟨x5, h5, hF⟩ := ob_elim hF
   refine UR [.call (.tup [.sl 5 (x5.1.map e_Order), .agg [.i x5.2.Code, .i x5.2.At]])] [2, 3, 5, 6, 7, 8, 9, 10] [2, 3, 5, 6, 7, 8, 10] [] [] [(9, .sl 5 (x5.1.map e_Order)), (10, .ptr 10 0)] [(10, [.i x5.2.Code, .i x5.2.At])] [] [] (.cons (assign_Due_v1_ok x2 x5 h5) .nil) ?_
   refine Wk_seq ?_
   obtain ⟨x6, h6, hF⟩ := ob_elim hF
   refine UR [.callB (.agg [.i x6.Code, .i x6.At])] [2, 3, 5, 6, 7, 8, 9, 10, 11] [2, 3, 5, 6, 7, 8, 10, 11] [] [] [(11, .ptr 11 0)] [(11, [.i x6.Code, .i x6.At])] [] [] (.cons (R_BoardFault_ok b x6 h6) .nil) ?_
   refine Wk_seq ?_
   refine Wk_seq ?_
   obtain ⟨x7, h7, hF⟩ := ob_elim hF
   refine ZR [.callB (.bool x7)] [2, 3, 7, 8, 9, 11, 48] [2, 3, 7, 8, 11] [] [(48, .bool (((!x7) || (!(decide (x3.Code = x6.Code) && (decide (x3.At = x6.At) && true)))) || (!(decide (x5.2.Code = x6.Code) && (decide (x5.2.At = x6.At) && true)))))] (.cons (R_SameBoard_ok x2 b x7 h7) .nil) ?_
   refine Wk_split rfl (fun hb => ?_) (fun hb => ?_)
   ·have hF := ite_t hF hb
    refine ZRs [] [4] [] [] [(4, .bool false)] .nil ?_
    have hF := some_elim hF
    exact Wk_ret (hfin _ ⟨[], [], [], [], [], [], by first | (rw [← hF]; kernel_rfl) | kernel_rfl⟩)
   ·have hF := ite_f hF hb
    refine Wk_skip ?_
    refine Wk_seq ?_
    obtain ⟨x8, h8, hF⟩ := ob_elim hF
    refine UR [.call (.tup [.agg (c_Board x8.1), .agg [.i x8.2.Code, .i x8.2.At]])] [2, 7, 8, 9, 11, 12, 13] [2, 7, 8, 11, 12, 13] [] [] [(12, .ptr 12 0), (13, .ptr 13 0)] [(12, (c_Board x8.1)), (13, [.i x8.2.Code, .i x8.2.At])] [] [] (.cons (R_Ordered_v1_ok b o x8 h8) .nil) ?_
    refine Wk_seq ?_
    refine Wk_seq ?_
    obtain ⟨x9, h9, hF⟩ := ob_elim hF
    refine ZR [.callB (.bool x9)] [2, 9, 11, 63] [2, 11] [] [(63, .bool ((!(decide (x4.2.Code = x8.2.Code) && (decide (x4.2.At = x8.2.At) && true))) || (!x9)))] (.cons (fun (ga0 : (!(!(decide (x4.2.Code = x8.2.Code) && (decide (x4.2.At = x8.2.At) && true)))) = true) => (R_SameBoard_ok x4.1 x8.1 x9 (ite_t h9 ga0))) .nil) ?_
    refine Wk_split rfl (fun hb => ?_) (fun hb => ?_)
    ·have hF := ite_t hF hb
     refine ZRs [] [4] [] [] [(4, .bool false)] .nil ?_
     have hF := some_elim hF
     exact Wk_ret (hfin _ ⟨[], [], [], [], [], [], by first | (rw [← hF]; kernel_rfl) | kernel_rfl⟩)
    ·have hF := ite_f hF hb
     refine Wk_skip ?_
     refine Wk_seq ?_
     refine ZRs [] [2, 9, 66] [2] [] [(66, .bool (!decide (x6.Code = 0)))] .nil ?_
     refine Wk_split rfl (fun hb => ?_) (fun hb => ?_)
     ·have hF := ite_t hF hb
      refine ZRs [.nat (x5.1.length : Int)] [4] [] [] [(4, .bool (decide ((x5.1.length : Int) = 0)))] (.cons (len_ok e_Order x5.1) .nil) ?_
      have hF := some_elim hF
      exact Wk_ret (hfin _ ⟨[], [], [], [], [], [], by first | (rw [← hF]; kernel_rfl) | kernel_rfl⟩)
     ·have hF := ite_f hF hb
      refine Wk_skip ?_
      refine Wk_seq ?_
      obtain ⟨x10, h10, hF⟩ := ob_elim hF
      obtain ⟨x11, h11, hF⟩ := ob_elim hF
      refine ZR [.call (.sl 5 (x10.map e_Order)), .callB (.bool x11)] [4] [] [] [(4, .bool x11)] (.cons (R_DueOrders_v1_ok b x10 h10) (.cons (R_SameOrders_ok x5.1 x10 x11 h11) .nil)) ?_
      have hF := some_elim hF
      exact Wk_ret (hfin _ ⟨[], [], [], [], [], [], by first | (rw [← hF]; kernel_rfl) | kernel_rfl⟩)

end G
end Go.Proofs.Ytdjlninhfndjfaa
