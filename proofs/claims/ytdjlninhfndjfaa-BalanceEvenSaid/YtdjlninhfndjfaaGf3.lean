/- The program's functions as plain functions, and that they are these. Written by a program (dec2.py). -/
import Derived.Test.YtdjlninhfndjfaaGf2
namespace Go.Proofs.Ytdjlninhfndjfaa
open Go Go.Dm
set_option linter.unusedVariables false
set_option linter.unusedSimpArgs false
set_option maxRecDepth 100000
namespace G
/- tabularyref.Ordered -/
noncomputable def R_Ordered_J1 (x : Fault) (x1 : List Host × List Slot × Int × Int) (v1 : List Host) (v2 : List Slot) : Option (List Host × List Slot × Int × Int × Fault) :=
 some (v1, v2, x1.2.2.1, x1.2.2.2, x)
noncomputable def R_Ordered_B1 (o : Order) (x : Fault) (x1 : List Host × List Slot × Int × Int) (v1 : List Host) (v3 : List Slot × Int) : Option ((List Slot × Int) ⊕ (List Host × List Slot × Int × Int × Fault)) :=
 if (decide (v3.2 < (v3.1.length : Int))) = true then
  asrt (0 ≤ v3.2 ∧ v3.2 < (v3.1.length : Int)) <|
  asrt (0 ≤ v3.2 ∧ v3.2 < (v3.1.length : Int)) <|
  ob (
   if (decide (((lget v3.1 v3.2).Host) = o.ID)) = true then
    asrt (0 ≤ v3.2 ∧ v3.2 < (v3.1.length : Int)) <|
    asrt (0 ≤ v3.2 ∧ v3.2 < (v3.1.length : Int)) <|
    lt ((lset v3.1 v3.2 (⟨(⟨((lget v3.1 v3.2).Part).From, ((lget v3.1 v3.2).Part).To, ((lget v3.1 v3.2).Part).ID⟩ : Part), (lget v3.1 v3.2).State, 0, (lget v3.1 v3.2).Turn⟩ : Slot))) fun (v5 : List Slot) =>
    asrt (0 ≤ v3.2 ∧ v3.2 < (v5.length : Int)) <|
    asrt (0 ≤ v3.2 ∧ v3.2 < (v5.length : Int)) <|
    lt ((lset v5 v3.2 (⟨(⟨((lget v5 v3.2).Part).From, ((lget v5 v3.2).Part).To, ((lget v5 v3.2).Part).ID⟩ : Part), 0, (lget v5 v3.2).Host, (lget v5 v3.2).Turn⟩ : Slot))) fun (v6 : List Slot) =>
    some v6
   else
    some v3.1) fun (v4 : List Slot) =>
  some (Sum.inl (v4, w64 (v3.2 + 1)))
 else
  inrO (R_Ordered_J1 x x1 v1 v3.1)
noncomputable def R_Ordered_L1 (o : Order) (x : Fault) (x1 : List Host × List Slot × Int × Int) (v1 : List Host) (v0 : List Slot × Int) : Option (List Host × List Slot × Int × Int × Fault) :=
 loopO (fun y => R_Ordered_B1 o x x1 v1 y) v0
noncomputable def R_Ordered_J2 (x : Fault) (x1 : List Host × List Slot × Int × Int) (v7 : List Slot × Int × Int) : Option (List Host × List Slot × Int × Int × Fault) :=
 if (decide (1000000000 < v7.2.2)) = true then
  lt (R_F 9 0) fun x18 =>
  some (([] : List Host), ([] : List Slot), 0, 0, x18)
 else
  some (x1.1, v7.1, v7.2.1, v7.2.2, x)
noncomputable def R_Ordered (b : Board) (o : Order) : Option (List Host × List Slot × Int × Int × Fault) :=
 ob (R_BoardFault b) fun x =>
 if (!decide (x.Code = 0)) = true then
  some (([] : List Host), ([] : List Slot), 0, 0, x)
 else
  ob (R_CopyBoard b) fun x1 =>
  if ((decide (o.Kind < 1)) || (decide (8 < o.Kind))) = true then
   lt (R_F 4 0) fun x2 =>
   some (([] : List Host), ([] : List Slot), 0, 0, x2)
  else
   if (decide (o.Kind = 1)) = true then
    lt (R_One o.ID) fun x3 =>
    if (!x3) = true then
     lt (R_F 3 (-1)) fun x4 =>
     some (([] : List Host), ([] : List Slot), 0, 0, x4)
    else
     ob (R_HostIn b o.ID true) fun x5 =>
     if (decide (0 ≤ x5)) = true then
      lt (R_F 10 (-1)) fun x6 =>
      some (([] : List Host), ([] : List Slot), 0, 0, x6)
     else
      ob (R_HostIn b o.ID false) fun x7 =>
      if (decide (x7 < 0)) = true then
       if (decide (20 ≤ (b.Hosts.length : Int))) = true then
        lt (R_F 2 (-1)) fun x8 =>
        some (([] : List Host), ([] : List Slot), 0, 0, x8)
       else
        asrt (((x1.1 ++ [(⟨o.ID, 1, true⟩ : Host)]).length : Int) * 24 ≤ 140737488351232) <|
        some ((x1.1 ++ [(⟨o.ID, 1, true⟩ : Host)]), x1.2.1, x1.2.2.1, x1.2.2.2, x)
      else
       asrt (0 ≤ x7 ∧ x7 < (b.Hosts.length : Int)) <|
       if (decide (1000000000 ≤ ((lget b.Hosts x7).Epoch))) = true then
        lt (R_F 9 0) fun x9 =>
        some (([] : List Host), ([] : List Slot), 0, 0, x9)
       else
        asrt (0 ≤ x7 ∧ x7 < (b.Hosts.length : Int)) <|
        asrt (0 ≤ x7 ∧ x7 < (x1.1.length : Int)) <|
        asrt (0 ≤ x7 ∧ x7 < (x1.1.length : Int)) <|
        lt ((lset x1.1 x7 (⟨o.ID, w64 (((lget b.Hosts x7).Epoch) + 1), true⟩ : Host))) fun (v : List Host) =>
        some (v, x1.2.1, x1.2.2.1, x1.2.2.2, x)
   else
    if (decide (o.Kind = 2)) = true then
     ob (R_HostIn b o.ID true) fun x10 =>
     if (decide (x10 < 0)) = true then
      lt (R_F 6 (-1)) fun x11 =>
      some (([] : List Host), ([] : List Slot), 0, 0, x11)
     else
      asrt (0 ≤ x10 ∧ x10 < (x1.1.length : Int)) <|
      asrt (0 ≤ x10 ∧ x10 < (x1.1.length : Int)) <|
      lt ((lset x1.1 x10 (⟨(lget x1.1 x10).ID, (lget x1.1 x10).Epoch, false⟩ : Host))) fun (v1 : List Host) =>
      R_Ordered_L1 o x x1 v1 (x1.2.1, 0)
    else
     ob (R_SlotIn b o.ID) fun x12 =>
     if ((decide (x12 < 0)) || ((decide (o.Kind = 8)) && (decide ((b.Slots.length : Int) ≤ (w64 (x12 + 1)))))) = true then
      lt (R_F 6 (-1)) fun x13 =>
      some (([] : List Host), ([] : List Slot), 0, 0, x13)
     else
      asrt (0 ≤ x12 ∧ x12 < (b.Slots.length : Int)) <|
      ob (if (decide (o.Kind = 3)) = true then (R_HostIn b o.Host true) else some default) fun x14 =>
      if ((decide (o.Kind = 3)) && (decide (x14 < 0))) = true then
       lt (R_F 6 (-2)) fun x15 =>
       some (([] : List Host), ([] : List Slot), 0, 0, x15)
      else
       if (((decide (o.Kind = 4)) || (decide (o.Kind = 6))) && ((!decide (((lget b.Slots x12).Host) = o.Host)) || (!decide (((lget b.Slots x12).Turn) = o.Turn)))) = true then
        lt (R_F 12 (-1)) fun x16 =>
        some (([] : List Host), ([] : List Slot), 0, 0, x16)
       else
        asrt (0 ≤ o.Kind ∧ o.Kind < (([0, 0, 0, 0, 1, 2, 3, 0, 0] : List Int).length : Int)) <|
        asrt ((decide (o.Kind = 8)) = true → (!(!decide (((lget b.Slots x12).State) = (lget ([0, 0, 0, 0, 1, 2, 3, 0, 0] : List Int) o.Kind)))) = true → 0 ≤ w64 (x12 + 1) ∧ w64 (x12 + 1) < (b.Slots.length : Int)) <|
        if ((!decide (((lget b.Slots x12).State) = (lget ([0, 0, 0, 0, 1, 2, 3, 0, 0] : List Int) o.Kind))) || ((decide (o.Kind = 8)) && (!decide (((lget b.Slots (w64 (x12 + 1))).State) = 0)))) = true then
         lt (R_F 11 (-1)) fun x17 =>
         some (([] : List Host), ([] : List Slot), 0, 0, x17)
        else
         if (decide (o.Kind = 3)) = true then
          if (decide (1000000000 ≤ b.Turn)) = true then
           lt (R_F 9 0) fun x19 =>
           some (([] : List Host), ([] : List Slot), 0, 0, x19)
          else
           asrt (0 ≤ x12 ∧ x12 < (x1.2.1.length : Int)) <|
           asrt (0 ≤ x12 ∧ x12 < (x1.2.1.length : Int)) <|
           lt ((lset x1.2.1 x12 (⟨(⟨((lget b.Slots x12).Part).From, ((lget b.Slots x12).Part).To, ((lget b.Slots x12).Part).ID⟩ : Part), 1, o.Host, w64 (b.Turn + 1)⟩ : Slot))) fun (v8 : List Slot) =>
           R_Ordered_J2 x x1 (v8, w64 (b.Turn + 1), x1.2.2.2)
         else
          if (decide (o.Kind = 4)) = true then
           asrt (0 ≤ x12 ∧ x12 < (x1.2.1.length : Int)) <|
           asrt (0 ≤ x12 ∧ x12 < (x1.2.1.length : Int)) <|
           lt ((lset x1.2.1 x12 (⟨(⟨((lget x1.2.1 x12).Part).From, ((lget x1.2.1 x12).Part).To, ((lget x1.2.1 x12).Part).ID⟩ : Part), 2, (lget x1.2.1 x12).Host, (lget x1.2.1 x12).Turn⟩ : Slot))) fun (v9 : List Slot) =>
           R_Ordered_J2 x x1 (v9, x1.2.2.1, x1.2.2.2)
          else
           if (decide (o.Kind = 5)) = true then
            asrt (0 ≤ x12 ∧ x12 < (x1.2.1.length : Int)) <|
            asrt (0 ≤ x12 ∧ x12 < (x1.2.1.length : Int)) <|
            lt ((lset x1.2.1 x12 (⟨(⟨((lget x1.2.1 x12).Part).From, ((lget x1.2.1 x12).Part).To, ((lget x1.2.1 x12).Part).ID⟩ : Part), 3, (lget x1.2.1 x12).Host, (lget x1.2.1 x12).Turn⟩ : Slot))) fun (v10 : List Slot) =>
            R_Ordered_J2 x x1 (v10, x1.2.2.1, x1.2.2.2)
           else
            if (decide (o.Kind = 6)) = true then
             asrt (0 ≤ x12 ∧ x12 < (x1.2.1.length : Int)) <|
             asrt (0 ≤ x12 ∧ x12 < (x1.2.1.length : Int)) <|
             lt ((lset x1.2.1 x12 (⟨(⟨((lget b.Slots x12).Part).From, ((lget b.Slots x12).Part).To, ((lget b.Slots x12).Part).ID⟩ : Part), 0, 0, (lget b.Slots x12).Turn⟩ : Slot))) fun (v11 : List Slot) =>
             R_Ordered_J2 x x1 (v11, x1.2.2.1, x1.2.2.2)
            else
             if (decide (o.Kind = 7)) = true then
              if (decide (40 < (o.Row.length : Int))) = true then
               lt (R_F 8 (-2)) fun x20 =>
               some (([] : List Host), ([] : List Slot), 0, 0, x20)
              else
               lt (R_InPart (⟨((lget b.Slots x12).Part).From, ((lget b.Slots x12).Part).To, ((lget b.Slots x12).Part).ID⟩ : Part) o.Row) fun x21 =>
               if ((decide (o.Row = (((lget b.Slots x12).Part).From))) || (!x21)) = true then
                lt (R_F 5 (-2)) fun x22 =>
                some (([] : List Host), ([] : List Slot), 0, 0, x22)
               else
                if (decide (200 ≤ (b.Slots.length : Int))) = true then
                 lt (R_F 2 (-1)) fun x23 =>
                 some (([] : List Host), ([] : List Slot), 0, 0, x23)
                else
                 ob (R_SlotsInstead b.Slots x12 1 [(⟨(⟨((lget b.Slots x12).Part).From, o.Row, b.Next⟩ : Part), 0, 0, 0⟩ : Slot), (⟨(⟨o.Row, ((lget b.Slots x12).Part).To, w64 (b.Next + 1)⟩ : Part), 0, 0, 0⟩ : Slot)]) fun x24 =>
                 R_Ordered_J2 x x1 (x24, x1.2.2.1, w64 (b.Next + 2))
             else
              if (decide (o.Kind = 8)) = true then
               asrt (0 ≤ w64 (x12 + 1) ∧ w64 (x12 + 1) < (b.Slots.length : Int)) <|
               ob (R_SlotsInstead b.Slots x12 2 [(⟨(⟨((lget b.Slots x12).Part).From, ((lget b.Slots (w64 (x12 + 1))).Part).To, b.Next⟩ : Part), 0, 0, 0⟩ : Slot)]) fun x25 =>
               R_Ordered_J2 x x1 (x25, x1.2.2.1, w64 (b.Next + 1))
              else
               R_Ordered_J2 x x1 (x1.2.1, x1.2.2.1, x1.2.2.2)
theorem R_Ordered_ok (b : Board) (o : Order) (r : List Host × List Slot × Int × Int × Fault) (hF : R_Ordered b o = some r) : Pe Try.prog 55 S.none [.agg (c_Board b), .agg (c_Order o)] (.tup [.agg [.row 22 0, .row 20022 0, .i r.2.2.1, .i r.2.2.2.1], .agg (c_Fault r.2.2.2.2)]) ⟨[], [], [(22, .z 108 3 0 (r.1.map e_Host)), (20022, .z 64 6 0 (r.2.1.map e_Slot))], [], []⟩ := by
 refine PeN 370 [.cell 4 62, .cell 5 26] [62, 26] Ty.ok Fn.b55 Try.func55 ?_
 intro Q g hfin
 unfold R_Ordered at hF
 refine VR [] [2, 3, 4, 5] [2, 3, 4, 5] [] [] [(2, .ptr 2 0), (3, .ptr 3 0), (4, .ptr 4 0), (5, .ptr 5 0)] [(2, (c_Board b)), (3, (c_Order o)), (4, [.nils, .nils, .i 0, .i 0]), (5, [.i 0, .i 0])] [] [] .nil ?_
 obtain ⟨x, h0, hF⟩ := ob_elim hF
 refine VR [.callB (.agg (c_Fault x))] [2, 3, 4, 5, 6] [2, 3, 4, 5, 6] [] [] [(6, .ptr 6 0)] [(6, (c_Fault x))] [] [] (hc (R_BoardFault_ok b x h0) .nil) ?_
 refine NR [] [2, 3, 4, 5, 6, 18] [2, 3, 4, 5, 6] [] [(18, .bool (!decide (x.Code = 0)))] .nil ?_
 refine Nif hF (fun hb hF => ?_) (fun hb hF => ?_)
 ·refine VD [] [4, 5] [4, 5] [] [] [] [(5, (c_Fault x))] [] [] .nil ?_
  cases hF
  refine Wk_nilrowB 4 0 60000 108 3 rfl rfl rfl rfl rfl ?_
  refine Wk_nilrowB 4 1 60001 64 6 rfl rfl rfl rfl rfl ?_
  refine Wk_ren' ⟨[], [(60000, 22), (60001, 20022)], [], []⟩ rfl ?_
  exact Wk_ret (hfin _ ⟨[22, 20022], [], [22, 20022], [], [], [], by kernel_rfl⟩)
 ·obtain ⟨x1, h1, hF⟩ := ob_elim hF
  refine VR [.callE [] [] [] [] (.agg [.row 22 1, .row 20022 1, .i x1.2.2.1, .i x1.2.2.2]) ⟨[], [], [(22, .z 108 3 1 (x1.1.map e_Host)), (20022, .z 64 6 1 (x1.2.1.map e_Slot))], [], []⟩] [2, 3, 4, 5, 6, 7] [2, 3, 4, 5, 6, 7] [22, 20022] [] [(7, .ptr 7 0)] [(7, [.row 22 1, .row 20022 1, .i x1.2.2.1, .i x1.2.2.2])] [(22, .z 108 3 1 (x1.1.map e_Host)), (20022, .z 64 6 1 (x1.2.1.map e_Slot))] [] (hc (Pe.ren (R_CopyBoard_ok b x1 h1) ⟨[], [(5, 22), (9, 20022)], [], []⟩) .nil) ?_
  refine NR [] [2, 3, 4, 5, 6, 7, 30] [2, 3, 4, 5, 6, 7] [22, 20022] [(30, .bool ((decide (o.Kind < 1)) || (decide (8 < o.Kind))))] .nil ?_
  refine Nif hF (fun hb hF => ?_) (fun hb hF => ?_)
  ·obtain ⟨x2, h2, hF⟩ := lt_split hF
   refine VR [.callB (.agg (c_Fault x2))] [4, 5] [4, 5] [] [] [] [(5, (c_Fault x2))] [] [] (hc (R_F_ok 4 0 x2 h2) .nil) ?_
   cases hF
   refine Wk_nilrowB 4 0 60002 108 3 rfl rfl rfl rfl rfl ?_
   refine Wk_nilrowB 4 1 60003 64 6 rfl rfl rfl rfl rfl ?_
   refine Wk_ren' ⟨[], [(60002, 22), (60003, 20022)], [], []⟩ rfl ?_
   exact Wk_ret (hfin _ ⟨[22, 20022], [], [22, 20022], [], [], [], by kernel_rfl⟩)
  ·refine NR [] [2, 3, 4, 5, 6, 7, 35] [2, 3, 4, 5, 6, 7] [22, 20022] [(35, .bool (decide (o.Kind = 1)))] .nil ?_
   refine Nif hF (fun hb hF => ?_) (fun hb hF => ?_)
   ·obtain ⟨x3, h3, hF⟩ := lt_split hF
    refine NR [.callB (.bool x3)] [2, 3, 4, 5, 6, 7, 39] [2, 3, 4, 5, 6, 7] [22, 20022] [(39, .bool (!x3))] (hc (R_One_ok o.ID x3 h3) .nil) ?_
    refine Nif hF (fun hb hF => ?_) (fun hb hF => ?_)
    ·obtain ⟨x4, h4, hF⟩ := lt_split hF
     refine VR [.callB (.agg (c_Fault x4))] [4, 5] [4, 5] [] [] [] [(5, (c_Fault x4))] [] [] (hc (R_F_ok 3 (-1) x4 h4) .nil) ?_
     cases hF
     refine Wk_nilrowB 4 0 60004 108 3 rfl rfl rfl rfl rfl ?_
     refine Wk_nilrowB 4 1 60005 64 6 rfl rfl rfl rfl rfl ?_
     refine Wk_ren' ⟨[], [(60004, 22), (60005, 20022)], [], []⟩ rfl ?_
     exact Wk_ret (hfin _ ⟨[22, 20022], [], [22, 20022], [], [], [], by kernel_rfl⟩)
    ·obtain ⟨x5, h5, hF⟩ := ob_elim hF
     refine NR [.callB (.i x5)] [2, 3, 4, 5, 6, 7, 46] [2, 3, 4, 5, 6, 7] [22, 20022] [(46, .bool (decide (0 ≤ x5)))] (hc (R_HostIn_ok b o.ID true x5 h5) .nil) ?_
     refine Nif hF (fun hb hF => ?_) (fun hb hF => ?_)
     ·obtain ⟨x6, h6, hF⟩ := lt_split hF
      refine VR [.callB (.agg (c_Fault x6))] [4, 5] [4, 5] [] [] [] [(5, (c_Fault x6))] [] [] (hc (R_F_ok 10 (-1) x6 h6) .nil) ?_
      cases hF
      refine Wk_nilrowB 4 0 60006 108 3 rfl rfl rfl rfl rfl ?_
      refine Wk_nilrowB 4 1 60007 64 6 rfl rfl rfl rfl rfl ?_
      refine Wk_ren' ⟨[], [(60006, 22), (60007, 20022)], [], []⟩ rfl ?_
      exact Wk_ret (hfin _ ⟨[22, 20022], [], [22, 20022], [], [], [], by kernel_rfl⟩)
     ·obtain ⟨x7, h7, hF⟩ := ob_elim hF
      refine NR [.callB (.i x7)] [2, 3, 4, 5, 6, 7, 8] [2, 3, 4, 5, 6, 7] [22, 20022] [(8, .i x7)] (hc (R_HostIn_ok b o.ID false x7 h7) .nil) ?_
      refine NR [] [2, 3, 4, 5, 6, 7, 8, 54] [2, 3, 4, 5, 6, 7] [22, 20022] [(54, .bool (decide (x7 < 0)))] .nil ?_
      refine Nif hF (fun hb hF => ?_) (fun hb hF => ?_)
      ·refine NR [.nat (b.Hosts.length : Int)] [3, 4, 5, 6, 7, 58] [3, 4, 5, 6, 7] [22, 20022] [(58, .bool (decide (20 ≤ (b.Hosts.length : Int))))] (hc (len_ok e_Host b.Hosts) .nil) ?_
       refine Nif hF (fun hb hF => ?_) (fun hb hF => ?_)
       ·obtain ⟨x8, h8, hF⟩ := lt_split hF
        refine VR [.callB (.agg (c_Fault x8))] [4, 5] [4, 5] [] [] [] [(5, (c_Fault x8))] [] [] (hc (R_F_ok 2 (-1) x8 h8) .nil) ?_
        cases hF
        refine Wk_nilrowB 4 0 60008 108 3 rfl rfl rfl rfl rfl ?_
        refine Wk_nilrowB 4 1 60009 64 6 rfl rfl rfl rfl rfl ?_
        refine Wk_ren' ⟨[], [(60008, 22), (60009, 20022)], [], []⟩ rfl ?_
        exact Wk_ret (hfin _ ⟨[22, 20022], [], [22, 20022], [], [], [], by kernel_rfl⟩)
       ·obtain ⟨h9, hF⟩ := asrt_elim hF
        refine VR [.sealed, .xs ((x1.1 ++ [(⟨o.ID, 1, true⟩ : Host)]).map e_Host)] [4, 5, 6, 7] [4, 5, 6, 7] [22, 20022] [] [] [(7, [.row 22 2, .row 20022 1, .i x1.2.2.1, .i x1.2.2.2])] [(22, ⟨108, 3, 2, 0, 0, true, 0, [], ((x1.1 ++ [(⟨o.ID, 1, true⟩ : Host)]).map e_Host)⟩)] [] (hc (app_ok e_Host x1.1 [(⟨o.ID, 1, true⟩ : Host)]) (hc (appl_ok e_Host h9) .nil)) ?_
        refine VD [] [4, 5] [4, 5] [22, 20022] [] [] [(4, [.row 22 2, .row 20022 1, .i x1.2.2.1, .i x1.2.2.2]), (5, (c_Fault x))] [] [] .nil ?_
        cases hF
        exact Wk_ret (hfin _ ⟨[22, 20022], [], [22, 20022], [], [], [(22, ⟨0, true, true, false⟩), (20022, ⟨0, true, true, false⟩)], by kernel_rfl⟩)
      ·obtain ⟨h10, hF⟩ := asrt_elim hF
       refine NR [.av (e_Host (lget b.Hosts x7))] [2, 3, 4, 5, 6, 7, 8, 77] [2, 3, 4, 5, 6, 7] [22, 20022] [(77, .bool (decide (1000000000 ≤ ((lget b.Hosts x7).Epoch))))] (hc (idx_ok e_Host h10) .nil) ?_
       refine Nif hF (fun hb hF => ?_) (fun hb hF => ?_)
       ·obtain ⟨x9, h11, hF⟩ := lt_split hF
        refine VR [.callB (.agg (c_Fault x9))] [4, 5] [4, 5] [] [] [] [(5, (c_Fault x9))] [] [] (hc (R_F_ok 9 0 x9 h11) .nil) ?_
        cases hF
        refine Wk_nilrowB 4 0 60010 108 3 rfl rfl rfl rfl rfl ?_
        refine Wk_nilrowB 4 1 60011 64 6 rfl rfl rfl rfl rfl ?_
        refine Wk_ren' ⟨[], [(60010, 22), (60011, 20022)], [], []⟩ rfl ?_
        exact Wk_ret (hfin _ ⟨[22, 20022], [], [22, 20022], [], [], [], by kernel_rfl⟩)
       ·obtain ⟨h12, hF⟩ := asrt_elim hF
        obtain ⟨h13, h14, hF⟩ := asrt2 hF
        refine NDL ((lset x1.1 x7 (⟨o.ID, w64 (((lget b.Hosts x7).Epoch) + 1), true⟩ : Host))) (fun v : List Host => ([], [], [(22, .z 108 3 1 (v.map e_Host))], [])) [.av (e_Host (lget b.Hosts x7)), .av (e_Host (lget x1.1 x7)), .xs ((lset x1.1 x7 (⟨o.ID, w64 (((lget b.Hosts x7).Epoch) + 1), true⟩ : Host)).map e_Host)] [4, 5, 6, 7] [4, 5, 6, 7] [22, 20022] [] (hc (idx_ok e_Host h12) (hc (ixr_ok e_Host h13) (hc (ldr_ok e_Host h14) (hc (set_ok e_Host x1.1 x7 (⟨o.ID, w64 (((lget b.Hosts x7).Epoch) + 1), true⟩ : Host)) (hc (Nat.zero_le x7.toNat) .nil))))) (fun v hv => ?_)
        have hF := lt_elim hF hv
        refine VD [] [4, 5] [4, 5] [22, 20022] [] [] [(4, [.row 22 1, .row 20022 1, .i x1.2.2.1, .i x1.2.2.2]), (5, (c_Fault x))] [] [] .nil ?_
        cases hF
        exact Wk_ret (hfin _ ⟨[22, 20022], [], [22, 20022], [], [], [(22, ⟨0, true, true, false⟩), (20022, ⟨0, true, true, false⟩)], by kernel_rfl⟩)
   ·refine NR [] [2, 3, 4, 5, 6, 7, 98] [2, 3, 4, 5, 6, 7] [22, 20022] [(98, .bool (decide (o.Kind = 2)))] .nil ?_
    refine Nif hF (fun hb hF => ?_) (fun hb hF => ?_)
    ·obtain ⟨x10, h15, hF⟩ := ob_elim hF
     refine NR [.callB (.i x10)] [3, 4, 5, 6, 7, 9] [3, 4, 5, 6, 7] [22, 20022] [(9, .i x10)] (hc (R_HostIn_ok b o.ID true x10 h15) .nil) ?_
     refine NR [] [3, 4, 5, 6, 7, 9, 104] [3, 4, 5, 6, 7] [22, 20022] [(104, .bool (decide (x10 < 0)))] .nil ?_
     refine Nif hF (fun hb hF => ?_) (fun hb hF => ?_)
     ·obtain ⟨x11, h16, hF⟩ := lt_split hF
      refine VR [.callB (.agg (c_Fault x11))] [4, 5] [4, 5] [] [] [] [(5, (c_Fault x11))] [] [] (hc (R_F_ok 6 (-1) x11 h16) .nil) ?_
      cases hF
      refine Wk_nilrowB 4 0 60012 108 3 rfl rfl rfl rfl rfl ?_
      refine Wk_nilrowB 4 1 60013 64 6 rfl rfl rfl rfl rfl ?_
      refine Wk_ren' ⟨[], [(60012, 22), (60013, 20022)], [], []⟩ rfl ?_
      exact Wk_ret (hfin _ ⟨[22, 20022], [], [22, 20022], [], [], [], by kernel_rfl⟩)
     ·obtain ⟨h17, hF⟩ := asrt_elim hF
      obtain ⟨h18, hF⟩ := asrt_elim hF
      refine NRL ((lset x1.1 x10 (⟨(lget x1.1 x10).ID, (lget x1.1 x10).Epoch, false⟩ : Host))) (fun v1 : List Host => ([], [], [(22, .z 108 3 1 (v1.map e_Host))], [])) [.av (e_Host (lget x1.1 x10)), .xs ((lset x1.1 x10 (⟨(lget x1.1 x10).ID, (lget x1.1 x10).Epoch, false⟩ : Host)).map e_Host)] [3, 4, 5, 6, 7] [3, 4, 5, 6, 7] [22, 20022] [] (hc (ixr_ok e_Host h17) (hc (ldr_ok e_Host h18) (hc (set_ok e_Host x1.1 x10 (⟨(lget x1.1 x10).ID, (lget x1.1 x10).Epoch, false⟩ : Host)) (hc (Nat.zero_le x10.toNat) .nil)))) (fun v1 hv => ?_)
      have hF := lt_elim hF hv
      refine NR [] [3, 4, 5, 6, 7, 10] [3, 4, 5, 6, 7] [22, 20022] [(10, .i 0)] .nil ?_
      refine NmeetP (fun v2 : List Slot => (⟨[(4, .ptr 4 0), (5, .ptr 5 0), (6, .ptr 6 0), (7, .ptr 7 0)], [(4, [.nils, .nils, .i 0, .i 0]), (5, [.i 0, .i 0]), (6, (c_Fault x)), (7, [.row 22 1, .row 20022 1, .i x1.2.2.1, .i x1.2.2.2])], [(22, .z 108 3 1 (v1.map e_Host)), (20022, .z 64 6 1 (v2.map e_Slot))], [], []⟩ : S)) (fun v2 => R_Ordered_J1 x x1 v1 v2 = some r) ?_ ?_
      ·refine Nblk ?_
       unfold R_Ordered_L1 at hF
       refine Niter (fun v3 : List Slot × Int => (⟨[(3, .ptr 3 0), (4, .ptr 4 0), (5, .ptr 5 0), (6, .ptr 6 0), (7, .ptr 7 0), (10, .i v3.2)], [(3, (c_Order o)), (4, [.nils, .nils, .i 0, .i 0]), (5, [.i 0, .i 0]), (6, (c_Fault x)), (7, [.row 22 1, .row 20022 1, .i x1.2.2.1, .i x1.2.2.2])], [(22, .z 108 3 1 (v1.map e_Host)), (20022, .z 64 6 1 (v3.1.map e_Slot))], [], []⟩ : S)) [] hF (by kernel_rfl) ?_
       intro n1 v3 y1 hF ih1 dn1
       unfold R_Ordered_B1 at hF
       refine NR [.nat (v3.1.length : Int)] [3, 4, 5, 6, 7, 10, 116] [3, 4, 5, 6, 7] [22, 20022] [(116, .bool (decide (v3.2 < (v3.1.length : Int))))] (hc (len_ok e_Slot v3.1) .nil) ?_
       refine Nif hF (fun hb hF => ?_) (fun hb hF => ?_)
       ·refine Nblk ?_
        obtain ⟨h19, h20, hF⟩ := asrt2 hF
        refine ND [.av (e_Slot (lget v3.1 v3.2))] [3, 4, 5, 6, 7, 10, 127] [3, 4, 5, 6, 7] [22, 20022] [(127, .bool (decide (((lget v3.1 v3.2).Host) = o.ID)))] (hc (ixr_ok e_Slot h19) (hc (ldr_ok e_Slot h20) .nil)) ?_
        obtain ⟨v4, hv, hF⟩ := ob_elim hF
        refine Nmeet (⟨[(3, .ptr 3 0), (4, .ptr 4 0), (5, .ptr 5 0), (6, .ptr 6 0), (7, .ptr 7 0), (10, .i v3.2)], [(3, (c_Order o)), (4, [.nils, .nils, .i 0, .i 0]), (5, [.i 0, .i 0]), (6, (c_Fault x)), (7, [.row 22 1, .row 20022 1, .i x1.2.2.1, .i x1.2.2.2])], [(22, .z 108 3 1 (v1.map e_Host)), (20022, .z 64 6 1 (v4.map e_Slot))], [], []⟩ : S) ?_ ?_
        ·have hF := hv
         refine Nif hF (fun hb hF => ?_) (fun hb hF => ?_)
         ·obtain ⟨h21, hF⟩ := asrt_elim hF
          obtain ⟨h22, hF⟩ := asrt_elim hF
          refine NRL ((lset v3.1 v3.2 (⟨(⟨((lget v3.1 v3.2).Part).From, ((lget v3.1 v3.2).Part).To, ((lget v3.1 v3.2).Part).ID⟩ : Part), (lget v3.1 v3.2).State, 0, (lget v3.1 v3.2).Turn⟩ : Slot))) (fun v5 : List Slot => ([], [], [(20022, .z 64 6 1 (v5.map e_Slot))], [])) [.av (e_Slot (lget v3.1 v3.2)), .xs ((lset v3.1 v3.2 (⟨(⟨((lget v3.1 v3.2).Part).From, ((lget v3.1 v3.2).Part).To, ((lget v3.1 v3.2).Part).ID⟩ : Part), (lget v3.1 v3.2).State, 0, (lget v3.1 v3.2).Turn⟩ : Slot)).map e_Slot)] [3, 4, 5, 6, 7, 10] [3, 4, 5, 6, 7] [22, 20022] [] (hc (ixr_ok e_Slot h21) (hc (ldr_ok e_Slot h22) (hc (set_ok e_Slot v3.1 v3.2 (⟨(⟨((lget v3.1 v3.2).Part).From, ((lget v3.1 v3.2).Part).To, ((lget v3.1 v3.2).Part).ID⟩ : Part), (lget v3.1 v3.2).State, 0, (lget v3.1 v3.2).Turn⟩ : Slot)) (hc (Nat.zero_le v3.2.toNat) .nil)))) (fun v5 hv => ?_)
          have hF := lt_elim hF hv
          obtain ⟨h23, h24, hF⟩ := asrt2 hF
          refine NRL ((lset v5 v3.2 (⟨(⟨((lget v5 v3.2).Part).From, ((lget v5 v3.2).Part).To, ((lget v5 v3.2).Part).ID⟩ : Part), 0, (lget v5 v3.2).Host, (lget v5 v3.2).Turn⟩ : Slot))) (fun v6 : List Slot => ([], [], [(20022, .z 64 6 1 (v6.map e_Slot))], [])) [.av (e_Slot (lget v5 v3.2)), .xs ((lset v5 v3.2 (⟨(⟨((lget v5 v3.2).Part).From, ((lget v5 v3.2).Part).To, ((lget v5 v3.2).Part).ID⟩ : Part), 0, (lget v5 v3.2).Host, (lget v5 v3.2).Turn⟩ : Slot)).map e_Slot)] [3, 4, 5, 6, 7, 10] [3, 4, 5, 6, 7] [22, 20022] [] (hc (ixr_ok e_Slot h23) (hc (ldr_ok e_Slot h24) (hc (set_ok e_Slot v5 v3.2 (⟨(⟨((lget v5 v3.2).Part).From, ((lget v5 v3.2).Part).To, ((lget v5 v3.2).Part).ID⟩ : Part), 0, (lget v5 v3.2).Host, (lget v5 v3.2).Turn⟩ : Slot)) (hc (Nat.zero_le v3.2.toNat) .nil)))) (fun v6 hv => ?_)
          have hF := lt_elim hF hv
          cases hF
          exact met [] (by kernel_rfl)
         ·cases hF
          exact met [] (by kernel_rfl)
        ·refine NR [] [3, 4, 5, 6, 7, 10] [3, 4, 5, 6, 7] [22, 20022] [(10, .i (w64 (v3.2 + 1)))] .nil ?_
         exact Nrnd [] hF ih1 (by kernel_rfl)
       ·refine Nexit rfl ?_
        have hF := inrO_done hF dn1
        exact metP v3.1 [] hF (by kernel_rfl)
      ·intro v2 hF
       have hF : R_Ordered_J1 x x1 v1 v2 = some r := hF
       unfold R_Ordered_J1 at hF
       refine VD [] [4, 5] [4, 5] [22, 20022] [] [] [(4, [.row 22 1, .row 20022 1, .i x1.2.2.1, .i x1.2.2.2]), (5, (c_Fault x))] [] [] .nil ?_
       cases hF
       exact Wk_ret (hfin _ ⟨[22, 20022], [], [22, 20022], [], [], [(22, ⟨0, true, true, false⟩), (20022, ⟨0, true, true, false⟩)], by kernel_rfl⟩)
    ·obtain ⟨x12, h25, hF⟩ := ob_elim hF
     refine NR [.callB (.i x12)] [2, 3, 4, 5, 6, 7, 11] [2, 3, 4, 5, 6, 7] [22, 20022] [(11, .i x12)] (hc (R_SlotIn_ok b o.ID x12 h25) .nil) ?_
     refine NR [.nat (b.Slots.length : Int)] [2, 3, 4, 5, 6, 7, 11, 158] [2, 3, 4, 5, 6, 7] [22, 20022] [(158, .bool ((decide (x12 < 0)) || ((decide (o.Kind = 8)) && (decide ((b.Slots.length : Int) ≤ (w64 (x12 + 1)))))))] (hc (fun (_ : (decide (o.Kind = 8)) = true) (_ : (!(decide (x12 < 0))) = true) => (len_ok e_Slot b.Slots)) .nil) ?_
     refine Nif hF (fun hb hF => ?_) (fun hb hF => ?_)
     ·obtain ⟨x13, h26, hF⟩ := lt_split hF
      refine VR [.callB (.agg (c_Fault x13))] [4, 5] [4, 5] [] [] [] [(5, (c_Fault x13))] [] [] (hc (R_F_ok 6 (-1) x13 h26) .nil) ?_
      cases hF
      refine Wk_nilrowB 4 0 60014 108 3 rfl rfl rfl rfl rfl ?_
      refine Wk_nilrowB 4 1 60015 64 6 rfl rfl rfl rfl rfl ?_
      refine Wk_ren' ⟨[], [(60014, 22), (60015, 20022)], [], []⟩ rfl ?_
      exact Wk_ret (hfin _ ⟨[22, 20022], [], [22, 20022], [], [], [], by kernel_rfl⟩)
     ·obtain ⟨h27, hF⟩ := asrt_elim hF
      refine VR [.av (e_Slot (lget b.Slots x12))] [2, 3, 4, 5, 6, 7, 11, 12] [2, 3, 4, 5, 6, 7, 12] [22, 20022] [] [(12, .ptr 12 0)] [(12, [.str (((lget b.Slots x12).Part).From), .str (((lget b.Slots x12).Part).To), .i (((lget b.Slots x12).Part).ID), .i ((lget b.Slots x12).State), .i ((lget b.Slots x12).Host), .i ((lget b.Slots x12).Turn)])] [] [] (hc (idx_ok e_Slot h27) .nil) ?_
      obtain ⟨x14, h28, hF⟩ := ob_elim hF
      refine NR [.callB (.i x14)] [2, 3, 4, 5, 6, 7, 11, 12, 175] [2, 3, 4, 5, 6, 7, 12] [22, 20022] [(175, .bool ((decide (o.Kind = 3)) && (decide (x14 < 0))))] (hc (fun (ga0 : (decide (o.Kind = 3)) = true) => (R_HostIn_ok b o.Host true x14 (ite_t h28 ga0))) .nil) ?_
      refine Nif hF (fun hb hF => ?_) (fun hb hF => ?_)
      ·obtain ⟨x15, h29, hF⟩ := lt_split hF
       refine VR [.callB (.agg (c_Fault x15))] [4, 5] [4, 5] [] [] [] [(5, (c_Fault x15))] [] [] (hc (R_F_ok 6 (-2) x15 h29) .nil) ?_
       cases hF
       refine Wk_nilrowB 4 0 60016 108 3 rfl rfl rfl rfl rfl ?_
       refine Wk_nilrowB 4 1 60017 64 6 rfl rfl rfl rfl rfl ?_
       refine Wk_ren' ⟨[], [(60016, 22), (60017, 20022)], [], []⟩ rfl ?_
       exact Wk_ret (hfin _ ⟨[22, 20022], [], [22, 20022], [], [], [], by kernel_rfl⟩)
      ·refine NR [] [2, 3, 4, 5, 6, 7, 11, 12, 199] [2, 3, 4, 5, 6, 7, 12] [22, 20022] [(199, .bool (((decide (o.Kind = 4)) || (decide (o.Kind = 6))) && ((!decide (((lget b.Slots x12).Host) = o.Host)) || (!decide (((lget b.Slots x12).Turn) = o.Turn)))))] .nil ?_
       refine Nif hF (fun hb hF => ?_) (fun hb hF => ?_)
       ·obtain ⟨x16, h30, hF⟩ := lt_split hF
        refine VR [.callB (.agg (c_Fault x16))] [4, 5] [4, 5] [] [] [] [(5, (c_Fault x16))] [] [] (hc (R_F_ok 12 (-1) x16 h30) .nil) ?_
        cases hF
        refine Wk_nilrowB 4 0 60018 108 3 rfl rfl rfl rfl rfl ?_
        refine Wk_nilrowB 4 1 60019 64 6 rfl rfl rfl rfl rfl ?_
        refine Wk_ren' ⟨[], [(60018, 22), (60019, 20022)], [], []⟩ rfl ?_
        exact Wk_ret (hfin _ ⟨[22, 20022], [], [22, 20022], [], [], [], by kernel_rfl⟩)
       ·refine NR [.sealed] [2, 3, 4, 5, 6, 7, 11, 12, 13] [2, 3, 4, 5, 6, 7, 12] [22, 20022] [(13, .sl 1 (([0, 0, 0, 0, 1, 2, 3, 0, 0] : List Int).map e_i64))] .nil ?_
        obtain ⟨h31, h32, hF⟩ := asrt2 hF
        refine ND [.av (e_i64 (lget ([0, 0, 0, 0, 1, 2, 3, 0, 0] : List Int) o.Kind)), .av (e_Slot (lget b.Slots (w64 (x12 + 1))))] [2, 3, 4, 5, 6, 7, 11, 12, 225] [2, 3, 4, 5, 6, 7, 12] [22, 20022] [(225, .bool ((!decide (((lget b.Slots x12).State) = (lget ([0, 0, 0, 0, 1, 2, 3, 0, 0] : List Int) o.Kind))) || ((decide (o.Kind = 8)) && (!decide (((lget b.Slots (w64 (x12 + 1))).State) = 0)))))] (hc (idx_ok e_i64 h31) (hc (fun (ga0 : (decide (o.Kind = 8)) = true) (ga1 : (!(!decide (((lget b.Slots x12).State) = (lget ([0, 0, 0, 0, 1, 2, 3, 0, 0] : List Int) o.Kind)))) = true) => (idx_ok e_Slot (h32 ga0 ga1))) .nil)) ?_
        refine Nif hF (fun hb hF => ?_) (fun hb hF => ?_)
        ·obtain ⟨x17, h33, hF⟩ := lt_split hF
         refine VR [.callB (.agg (c_Fault x17))] [4, 5] [4, 5] [] [] [] [(5, (c_Fault x17))] [] [] (hc (R_F_ok 11 (-1) x17 h33) .nil) ?_
         cases hF
         refine Wk_nilrowB 4 0 60020 108 3 rfl rfl rfl rfl rfl ?_
         refine Wk_nilrowB 4 1 60021 64 6 rfl rfl rfl rfl rfl ?_
         refine Wk_ren' ⟨[], [(60020, 22), (60021, 20022)], [], []⟩ rfl ?_
         exact Wk_ret (hfin _ ⟨[22, 20022], [], [22, 20022], [], [], [], by kernel_rfl⟩)
        ·refine NR [] [2, 3, 4, 5, 6, 7, 11, 12, 229] [2, 3, 4, 5, 6, 7, 12] [22, 20022] [(229, .i o.Kind)] .nil ?_
         refine Nblk ?_
         refine NR [] [2, 3, 4, 5, 6, 7, 11, 12, 229, 230] [2, 3, 4, 5, 6, 7, 12] [22, 20022] [(230, .bool (decide (o.Kind = 3)))] .nil ?_
         refine NmeetP (fun v7 : List Slot × Int × Int => (⟨[(4, .ptr 4 0), (5, .ptr 5 0), (6, .ptr 6 0), (7, .ptr 7 0)], [(4, [.nils, .nils, .i 0, .i 0]), (5, [.i 0, .i 0]), (6, (c_Fault x)), (7, [.row 22 1, .row 20022 0, .i v7.2.1, .i v7.2.2])], [(22, .z 108 3 1 (x1.1.map e_Host)), (20022, .z 64 6 0 (v7.1.map e_Slot))], [], []⟩ : S)) (fun v7 => R_Ordered_J2 x x1 v7 = some r) ?_ ?_
         ·refine Nif hF (fun hb hF => ?_) (fun hb hF => ?_)
          ·refine NR [] [2, 3, 4, 5, 6, 7, 11, 12, 234] [2, 3, 4, 5, 6, 7, 12] [22, 20022] [(234, .bool (decide (1000000000 ≤ b.Turn)))] .nil ?_
           refine Nif hF (fun hb hF => ?_) (fun hb hF => ?_)
           ·obtain ⟨x19, h35, hF⟩ := lt_split hF
            refine VR [.callB (.agg (c_Fault x19))] [4, 5] [4, 5] [] [] [] [(5, (c_Fault x19))] [] [] (hc (R_F_ok 9 0 x19 h35) .nil) ?_
            cases hF
            refine Wk_nilrowB 4 0 60024 108 3 rfl rfl rfl rfl rfl ?_
            refine Wk_nilrowB 4 1 60025 64 6 rfl rfl rfl rfl rfl ?_
            refine Wk_ren' ⟨[], [(60024, 22), (60025, 20022)], [], []⟩ rfl ?_
            exact Wk_ret (hfin _ ⟨[22, 20022], [], [22, 20022], [], [], [], by kernel_rfl⟩)
           ·refine VR [] [3, 4, 5, 6, 7, 11, 12] [3, 4, 5, 6, 7, 12] [22, 20022] [] [] [(7, [.row 22 1, .row 20022 1, .i (w64 (b.Turn + 1)), .i x1.2.2.2])] [] [] .nil ?_
            obtain ⟨h36, h37, hF⟩ := asrt2 hF
            refine NRL ((lset x1.2.1 x12 (⟨(⟨((lget b.Slots x12).Part).From, ((lget b.Slots x12).Part).To, ((lget b.Slots x12).Part).ID⟩ : Part), 1, o.Host, w64 (b.Turn + 1)⟩ : Slot))) (fun v8 : List Slot => ([], [], [(20022, .z 64 6 1 (v8.map e_Slot))], [])) [.av (e_Slot (lget x1.2.1 x12)), .xs ((lset x1.2.1 x12 (⟨(⟨((lget b.Slots x12).Part).From, ((lget b.Slots x12).Part).To, ((lget b.Slots x12).Part).ID⟩ : Part), 1, o.Host, w64 (b.Turn + 1)⟩ : Slot)).map e_Slot)] [4, 5, 6, 7] [4, 5, 6, 7] [22, 20022] [] (hc (ixr_ok e_Slot h36) (hc (ldr_ok e_Slot h37) (hc (set_ok e_Slot x1.2.1 x12 (⟨(⟨((lget b.Slots x12).Part).From, ((lget b.Slots x12).Part).To, ((lget b.Slots x12).Part).ID⟩ : Part), 1, o.Host, w64 (b.Turn + 1)⟩ : Slot)) (hc (Nat.zero_le x12.toNat) .nil)))) (fun v8 hv => ?_)
            have hF := lt_elim hF hv
            exact metP (v8, w64 (b.Turn + 1), x1.2.2.2) [(20022, ⟨0, true, true, false⟩)] hF (by kernel_rfl)
          ·refine NR [] [2, 3, 4, 5, 6, 7, 11, 12, 229, 252] [2, 3, 4, 5, 6, 7, 12] [22, 20022] [(252, .bool (decide (o.Kind = 4)))] .nil ?_
           refine Nif hF (fun hb hF => ?_) (fun hb hF => ?_)
           ·obtain ⟨h38, hF⟩ := asrt_elim hF
            obtain ⟨h39, hF⟩ := asrt_elim hF
            refine NRL ((lset x1.2.1 x12 (⟨(⟨((lget x1.2.1 x12).Part).From, ((lget x1.2.1 x12).Part).To, ((lget x1.2.1 x12).Part).ID⟩ : Part), 2, (lget x1.2.1 x12).Host, (lget x1.2.1 x12).Turn⟩ : Slot))) (fun v9 : List Slot => ([], [], [(20022, .z 64 6 1 (v9.map e_Slot))], [])) [.av (e_Slot (lget x1.2.1 x12)), .xs ((lset x1.2.1 x12 (⟨(⟨((lget x1.2.1 x12).Part).From, ((lget x1.2.1 x12).Part).To, ((lget x1.2.1 x12).Part).ID⟩ : Part), 2, (lget x1.2.1 x12).Host, (lget x1.2.1 x12).Turn⟩ : Slot)).map e_Slot)] [4, 5, 6, 7] [4, 5, 6, 7] [22, 20022] [] (hc (ixr_ok e_Slot h38) (hc (ldr_ok e_Slot h39) (hc (set_ok e_Slot x1.2.1 x12 (⟨(⟨((lget x1.2.1 x12).Part).From, ((lget x1.2.1 x12).Part).To, ((lget x1.2.1 x12).Part).ID⟩ : Part), 2, (lget x1.2.1 x12).Host, (lget x1.2.1 x12).Turn⟩ : Slot)) (hc (Nat.zero_le x12.toNat) .nil)))) (fun v9 hv => ?_)
            have hF := lt_elim hF hv
            exact metP (v9, x1.2.2.1, x1.2.2.2) [(20022, ⟨0, true, true, false⟩)] hF (by kernel_rfl)
           ·refine NR [] [2, 3, 4, 5, 6, 7, 11, 12, 229, 259] [2, 3, 4, 5, 6, 7, 12] [22, 20022] [(259, .bool (decide (o.Kind = 5)))] .nil ?_
            refine Nif hF (fun hb hF => ?_) (fun hb hF => ?_)
            ·obtain ⟨h40, hF⟩ := asrt_elim hF
             obtain ⟨h41, hF⟩ := asrt_elim hF
             refine NRL ((lset x1.2.1 x12 (⟨(⟨((lget x1.2.1 x12).Part).From, ((lget x1.2.1 x12).Part).To, ((lget x1.2.1 x12).Part).ID⟩ : Part), 3, (lget x1.2.1 x12).Host, (lget x1.2.1 x12).Turn⟩ : Slot))) (fun v10 : List Slot => ([], [], [(20022, .z 64 6 1 (v10.map e_Slot))], [])) [.av (e_Slot (lget x1.2.1 x12)), .xs ((lset x1.2.1 x12 (⟨(⟨((lget x1.2.1 x12).Part).From, ((lget x1.2.1 x12).Part).To, ((lget x1.2.1 x12).Part).ID⟩ : Part), 3, (lget x1.2.1 x12).Host, (lget x1.2.1 x12).Turn⟩ : Slot)).map e_Slot)] [4, 5, 6, 7] [4, 5, 6, 7] [22, 20022] [] (hc (ixr_ok e_Slot h40) (hc (ldr_ok e_Slot h41) (hc (set_ok e_Slot x1.2.1 x12 (⟨(⟨((lget x1.2.1 x12).Part).From, ((lget x1.2.1 x12).Part).To, ((lget x1.2.1 x12).Part).ID⟩ : Part), 3, (lget x1.2.1 x12).Host, (lget x1.2.1 x12).Turn⟩ : Slot)) (hc (Nat.zero_le x12.toNat) .nil)))) (fun v10 hv => ?_)
             have hF := lt_elim hF hv
             exact metP (v10, x1.2.2.1, x1.2.2.2) [(20022, ⟨0, true, true, false⟩)] hF (by kernel_rfl)
            ·refine NR [] [2, 3, 4, 5, 6, 7, 11, 12, 229, 266] [2, 3, 4, 5, 6, 7, 12] [22, 20022] [(266, .bool (decide (o.Kind = 6)))] .nil ?_
             refine Nif hF (fun hb hF => ?_) (fun hb hF => ?_)
             ·obtain ⟨h42, hF⟩ := asrt_elim hF
              obtain ⟨h43, hF⟩ := asrt_elim hF
              refine NRL ((lset x1.2.1 x12 (⟨(⟨((lget b.Slots x12).Part).From, ((lget b.Slots x12).Part).To, ((lget b.Slots x12).Part).ID⟩ : Part), 0, 0, (lget b.Slots x12).Turn⟩ : Slot))) (fun v11 : List Slot => ([], [], [(20022, .z 64 6 1 (v11.map e_Slot))], [])) [.av (e_Slot (lget x1.2.1 x12)), .xs ((lset x1.2.1 x12 (⟨(⟨((lget b.Slots x12).Part).From, ((lget b.Slots x12).Part).To, ((lget b.Slots x12).Part).ID⟩ : Part), 0, 0, (lget b.Slots x12).Turn⟩ : Slot)).map e_Slot)] [4, 5, 6, 7] [4, 5, 6, 7] [22, 20022] [] (hc (ixr_ok e_Slot h42) (hc (ldr_ok e_Slot h43) (hc (set_ok e_Slot x1.2.1 x12 (⟨(⟨((lget b.Slots x12).Part).From, ((lget b.Slots x12).Part).To, ((lget b.Slots x12).Part).ID⟩ : Part), 0, 0, (lget b.Slots x12).Turn⟩ : Slot)) (hc (Nat.zero_le x12.toNat) .nil)))) (fun v11 hv => ?_)
              have hF := lt_elim hF hv
              exact metP (v11, x1.2.2.1, x1.2.2.2) [(20022, ⟨0, true, true, false⟩)] hF (by kernel_rfl)
             ·refine NR [] [2, 3, 4, 5, 6, 7, 11, 12, 229, 277] [2, 3, 4, 5, 6, 7, 12] [22, 20022] [(277, .bool (decide (o.Kind = 7)))] .nil ?_
              refine Nif hF (fun hb hF => ?_) (fun hb hF => ?_)
              ·refine NR [] [2, 3, 4, 5, 6, 7, 11, 12, 282] [2, 3, 4, 5, 6, 7, 12] [22, 20022] [(282, .bool (decide (40 < (o.Row.length : Int))))] .nil ?_
               refine Nif hF (fun hb hF => ?_) (fun hb hF => ?_)
               ·obtain ⟨x20, h44, hF⟩ := lt_split hF
                refine VR [.callB (.agg (c_Fault x20))] [4, 5] [4, 5] [] [] [] [(5, (c_Fault x20))] [] [] (hc (R_F_ok 8 (-2) x20 h44) .nil) ?_
                cases hF
                refine Wk_nilrowB 4 0 60026 108 3 rfl rfl rfl rfl rfl ?_
                refine Wk_nilrowB 4 1 60027 64 6 rfl rfl rfl rfl rfl ?_
                refine Wk_ren' ⟨[], [(60026, 22), (60027, 20022)], [], []⟩ rfl ?_
                exact Wk_ret (hfin _ ⟨[22, 20022], [], [22, 20022], [], [], [], by kernel_rfl⟩)
               ·obtain ⟨x21, h45, hF⟩ := lt_split hF
                refine NR [.callB (.bool x21)] [2, 3, 4, 5, 6, 7, 11, 12, 298] [2, 3, 4, 5, 6, 7, 12] [22, 20022] [(298, .bool ((decide (o.Row = (((lget b.Slots x12).Part).From))) || (!x21)))] (hc (fun (ga0 : (!(decide (o.Row = (((lget b.Slots x12).Part).From)))) = true) => (R_InPart_ok (⟨((lget b.Slots x12).Part).From, ((lget b.Slots x12).Part).To, ((lget b.Slots x12).Part).ID⟩ : Part) o.Row x21 h45)) .nil) ?_
                refine Nif hF (fun hb hF => ?_) (fun hb hF => ?_)
                ·obtain ⟨x22, h46, hF⟩ := lt_split hF
                 refine VR [.callB (.agg (c_Fault x22))] [4, 5] [4, 5] [] [] [] [(5, (c_Fault x22))] [] [] (hc (R_F_ok 5 (-2) x22 h46) .nil) ?_
                 cases hF
                 refine Wk_nilrowB 4 0 60028 108 3 rfl rfl rfl rfl rfl ?_
                 refine Wk_nilrowB 4 1 60029 64 6 rfl rfl rfl rfl rfl ?_
                 refine Wk_ren' ⟨[], [(60028, 22), (60029, 20022)], [], []⟩ rfl ?_
                 exact Wk_ret (hfin _ ⟨[22, 20022], [], [22, 20022], [], [], [], by kernel_rfl⟩)
                ·refine NR [.nat (b.Slots.length : Int)] [2, 3, 4, 5, 6, 7, 11, 12, 304] [2, 3, 4, 5, 6, 7, 12] [22, 20022] [(304, .bool (decide (200 ≤ (b.Slots.length : Int))))] (hc (len_ok e_Slot b.Slots) .nil) ?_
                 refine Nif hF (fun hb hF => ?_) (fun hb hF => ?_)
                 ·obtain ⟨x23, h47, hF⟩ := lt_split hF
                  refine VR [.callB (.agg (c_Fault x23))] [4, 5] [4, 5] [] [] [] [(5, (c_Fault x23))] [] [] (hc (R_F_ok 2 (-1) x23 h47) .nil) ?_
                  cases hF
                  refine Wk_nilrowB 4 0 60030 108 3 rfl rfl rfl rfl rfl ?_
                  refine Wk_nilrowB 4 1 60031 64 6 rfl rfl rfl rfl rfl ?_
                  refine Wk_ren' ⟨[], [(60030, 22), (60031, 20022)], [], []⟩ rfl ?_
                  exact Wk_ret (hfin _ ⟨[22, 20022], [], [22, 20022], [], [], [], by kernel_rfl⟩)
                 ·refine VR [] [2, 3, 4, 5, 6, 7, 11, 12] [2, 3, 4, 5, 6, 7, 12] [22, 20022] [] [] [(7, [.row 22 1, .row 20022 1, .i x1.2.2.1, .i (w64 (b.Next + 2))])] [] [] .nil ?_
                  obtain ⟨x24, h48, hF⟩ := ob_elim hF
                  refine VR [.sealed, .callE [] [] [] [] (.row 334 3) ⟨[], [], [(334, .z 64 6 3 (x24.map e_Slot))], [], []⟩] [4, 5, 6, 7] [4, 5, 6, 7] [22, 334] [] [] [(7, [.row 22 1, .row 334 3, .i x1.2.2.1, .i (w64 (b.Next + 2))])] [(334, .z 64 6 3 (x24.map e_Slot))] [] (hc (Pe.ren (R_SlotsInstead_ok b.Slots x12 1 [(⟨(⟨((lget b.Slots x12).Part).From, o.Row, b.Next⟩ : Part), 0, 0, 0⟩ : Slot), (⟨(⟨o.Row, ((lget b.Slots x12).Part).To, w64 (b.Next + 1)⟩ : Part), 0, 0, 0⟩ : Slot)] x24 h48) ⟨[], [(13, 334)], [], []⟩) .nil) ?_
                  refine Wk_trim (fs := [4, 5, 6, 7]) (bs := [4, 5, 6, 7]) (rs := [22, 334]) (ms := []) (aa := []) (nv := []) rfl ?_
                  refine Wk_ren' ⟨[], [(334, 20022)], [], []⟩ rfl ?_
                  exact metP (x24, x1.2.2.1, w64 (b.Next + 2)) [(20022, ⟨0, true, true, false⟩)] hF (by kernel_rfl)
              ·refine NR [] [2, 4, 5, 6, 7, 11, 12, 336] [2, 4, 5, 6, 7, 12] [22, 20022] [(336, .bool (decide (o.Kind = 8)))] .nil ?_
               refine Nif hF (fun hb hF => ?_) (fun hb hF => ?_)
               ·refine VR [] [2, 4, 5, 6, 7, 11, 12] [2, 4, 5, 6, 7, 12] [22, 20022] [] [] [(7, [.row 22 1, .row 20022 1, .i x1.2.2.1, .i (w64 (b.Next + 1))])] [] [] .nil ?_
                obtain ⟨h49, hF⟩ := asrt_elim hF
                obtain ⟨x25, h50, hF⟩ := ob_elim hF
                refine VD [.av (e_Slot (lget b.Slots (w64 (x12 + 1)))), .sealed, .callE [] [] [] [] (.row 361 3) ⟨[], [], [(361, .z 64 6 3 (x25.map e_Slot))], [], []⟩] [4, 5, 6, 7] [4, 5, 6, 7] [22, 361] [] [] [(7, [.row 22 1, .row 361 3, .i x1.2.2.1, .i (w64 (b.Next + 1))])] [(361, .z 64 6 3 (x25.map e_Slot))] [] (hc (idx_ok e_Slot h49) (hc (Pe.ren (R_SlotsInstead_ok b.Slots x12 2 [(⟨(⟨((lget b.Slots x12).Part).From, ((lget b.Slots (w64 (x12 + 1))).Part).To, b.Next⟩ : Part), 0, 0, 0⟩ : Slot)] x25 h50) ⟨[], [(13, 361)], [], []⟩) .nil)) ?_
                refine Wk_trim (fs := [4, 5, 6, 7]) (bs := [4, 5, 6, 7]) (rs := [22, 361]) (ms := []) (aa := []) (nv := []) rfl ?_
                refine Wk_ren' ⟨[], [(361, 20022)], [], []⟩ rfl ?_
                exact metP (x25, x1.2.2.1, w64 (b.Next + 1)) [(20022, ⟨0, true, true, false⟩)] hF (by kernel_rfl)
               ·exact metP (x1.2.1, x1.2.2.1, x1.2.2.2) [(20022, ⟨0, true, true, false⟩)] hF (by kernel_rfl)
         ·intro v7 hF
          have hF : R_Ordered_J2 x x1 v7 = some r := hF
          unfold R_Ordered_J2 at hF
          refine NR [] [4, 5, 6, 7, 365] [4, 5, 6, 7] [22, 20022] [(365, .bool (decide (1000000000 < v7.2.2)))] .nil ?_
          refine Nif hF (fun hb hF => ?_) (fun hb hF => ?_)
          ·obtain ⟨x18, h34, hF⟩ := lt_split hF
           refine VR [.callB (.agg (c_Fault x18))] [4, 5] [4, 5] [] [] [] [(5, (c_Fault x18))] [] [] (hc (R_F_ok 9 0 x18 h34) .nil) ?_
           cases hF
           refine Wk_nilrowB 4 0 60022 108 3 rfl rfl rfl rfl rfl ?_
           refine Wk_nilrowB 4 1 60023 64 6 rfl rfl rfl rfl rfl ?_
           refine Wk_ren' ⟨[], [(60022, 22), (60023, 20022)], [], []⟩ rfl ?_
           exact Wk_ret (hfin _ ⟨[22, 20022], [], [22, 20022], [], [], [], by kernel_rfl⟩)
          ·refine VD [] [4, 5] [4, 5] [22, 20022] [] [] [(4, [.row 22 1, .row 20022 0, .i v7.2.1, .i v7.2.2]), (5, (c_Fault x))] [] [] .nil ?_
           cases hF
           exact Wk_ret (hfin _ ⟨[22, 20022], [], [22, 20022], [], [], [(22, ⟨0, true, true, false⟩)], by kernel_rfl⟩)

/- tabularyref.LoadOf -/
noncomputable def R_LoadOf_J1 (v : Int) : Option Int :=
 some v
noncomputable def R_LoadOf_B1 (b : Board) (id : Int) (v1 : Int × Int) : Option ((Int × Int) ⊕ Int) :=
 if (decide (v1.2 < (b.Slots.length : Int))) = true then
  asrt (0 ≤ v1.2 ∧ v1.2 < (b.Slots.length : Int)) <|
  asrt ((decide (0 < ((lget b.Slots v1.2).State))) = true → 0 ≤ v1.2 ∧ v1.2 < (b.Slots.length : Int)) <|
  ob (
   if ((decide (0 < ((lget b.Slots v1.2).State))) && (decide (((lget b.Slots v1.2).Host) = id))) = true then
    some (w64 (v1.1 + 1))
   else
    some v1.1) fun (v2 : Int) =>
  some (Sum.inl (v2, w64 (v1.2 + 1)))
 else
  inrO (R_LoadOf_J1 v1.1)
noncomputable def R_LoadOf_L1 (b : Board) (id : Int) (v0 : Int × Int) : Option Int :=
 loopO (fun y => R_LoadOf_B1 b id y) v0
noncomputable def R_LoadOf (b : Board) (id : Int) : Option Int :=
 R_LoadOf_L1 b id (0, 0)
theorem R_LoadOf_ok (b : Board) (id : Int) (r : Int) (hF : R_LoadOf b id = some r) : Pe Try.prog 99 S.none [.agg (c_Board b), .i id] (.i r) S.none := by
 refine PeN 34 [.tmp 4] [3] Ty.ok Fn.b99 Try.func99 ?_
 intro Q g hfin
 unfold R_LoadOf at hF
 refine VR [] [1, 2] [2] [] [] [(2, .ptr 2 0)] [(2, (c_Board b))] [] [] .nil ?_
 refine NR [] [1, 2, 5] [2] [] [(5, .i 0)] .nil ?_
 refine NR [] [1, 2, 5, 6] [2] [] [(6, .i 0)] .nil ?_
 refine NmeetP (fun v : Int => (⟨[(5, .i v)], [], [], [], []⟩ : S)) (fun v => R_LoadOf_J1 v = some r) ?_ ?_
 ·refine Nblk ?_
  unfold R_LoadOf_L1 at hF
  refine Niter (fun v1 : Int × Int => (⟨[(1, .i id), (2, .ptr 2 0), (5, .i v1.1), (6, .i v1.2)], [(2, (c_Board b))], [], [], []⟩ : S)) [] hF (by kernel_rfl) ?_
  intro n1 v1 y1 hF ih1 dn1
  unfold R_LoadOf_B1 at hF
  refine NR [.nat (b.Slots.length : Int)] [1, 2, 5, 6, 11] [2] [] [(11, .bool (decide (v1.2 < (b.Slots.length : Int))))] (hc (len_ok e_Slot b.Slots) .nil) ?_
  refine Nif hF (fun hb hF => ?_) (fun hb hF => ?_)
  ·refine Nblk ?_
   obtain ⟨h0, h1, hF⟩ := asrt2 hF
   refine NR [.av (e_Slot (lget b.Slots v1.2)), .av (e_Slot (lget b.Slots v1.2))] [1, 2, 5, 6, 30] [2] [] [(30, .bool ((decide (0 < ((lget b.Slots v1.2).State))) && (decide (((lget b.Slots v1.2).Host) = id))))] (hc (idx_ok e_Slot h0) (hc (fun (ga0 : (decide (0 < ((lget b.Slots v1.2).State))) = true) => (idx_ok e_Slot (h1 ga0))) .nil)) ?_
   obtain ⟨v2, hv, hF⟩ := ob_elim hF
   refine Nmeet (⟨[(1, .i id), (2, .ptr 2 0), (5, .i v2), (6, .i v1.2)], [(2, (c_Board b))], [], [], []⟩ : S) ?_ ?_
   ·have hF := hv
    refine Nif hF (fun hb hF => ?_) (fun hb hF => ?_)
    ·refine NR [] [1, 2, 5, 6] [2] [] [(5, .i (w64 (v1.1 + 1)))] .nil ?_
     cases hF
     exact met [] (by kernel_rfl)
    ·cases hF
     exact met [] (by kernel_rfl)
   ·refine NR [] [1, 2, 5, 6] [2] [] [(6, .i (w64 (v1.2 + 1)))] .nil ?_
    exact Nrnd [] hF ih1 (by kernel_rfl)
  ·refine Nexit rfl ?_
   have hF := inrO_done hF dn1
   exact metP v1.1 [] hF (by kernel_rfl)
 ·intro v hF
  have hF : R_LoadOf_J1 v = some r := hF
  unfold R_LoadOf_J1 at hF
  refine NR [] [4] [] [] [(4, .i v)] .nil ?_
  cases hF
  exact Wk_ret (hfin _ ⟨[], [], [], [], [], [], by kernel_rfl⟩)

/- tabularylaw.loads -/
noncomputable def law_loads_J1 (v : List Int) : Option (List Int) :=
 some v
noncomputable def law_loads_B1 (b : Board) (v1 : List Int × Int) : Option ((List Int × Int) ⊕ (List Int)) :=
 if (decide (v1.2 < (b.Hosts.length : Int))) = true then
  asrt (0 ≤ v1.2 ∧ v1.2 < (b.Hosts.length : Int)) <|
  ob (
   if ((lget b.Hosts v1.2).Alive) = true then
    asrt (0 ≤ v1.2 ∧ v1.2 < (b.Hosts.length : Int)) <|
    ob (R_LoadOf b ((lget b.Hosts v1.2).ID)) fun x =>
    some x
   else
    some 0) fun (v2 : Int) =>
  asrt (((v1.1 ++ ([v2] : List Int)).length : Int) * 8 ≤ 140737488351232) <|
  some (Sum.inl ((v1.1 ++ ([v2] : List Int)), w64 (v1.2 + 1)))
 else
  inrO (law_loads_J1 v1.1)
noncomputable def law_loads_L1 (b : Board) (v0 : List Int × Int) : Option (List Int) :=
 loopO (fun y => law_loads_B1 b y) v0
noncomputable def law_loads (b : Board) : Option (List Int) :=
 law_loads_L1 b (([] : List Int), 0)

/- tabularylaw.loads -/
noncomputable def law_loads_v1_J1 (v : List Int) : Option (List Int) :=
 some v
noncomputable def law_loads_v1_B1 (b : Board) (v1 : List Int × Int) : Option ((List Int × Int) ⊕ (List Int)) :=
 if (decide (v1.2 < (b.Hosts.length : Int))) = true then
  asrt (0 ≤ v1.2 ∧ v1.2 < (b.Hosts.length : Int)) <|
  ob (
   if ((lget b.Hosts v1.2).Alive) = true then
    asrt (0 ≤ v1.2 ∧ v1.2 < (b.Hosts.length : Int)) <|
    ob (R_LoadOf b ((lget b.Hosts v1.2).ID)) fun x =>
    some x
   else
    some 0) fun (v2 : Int) =>
  asrt (((v1.1 ++ ([v2] : List Int)).length : Int) * 8 ≤ 140737488351232) <|
  some (Sum.inl ((v1.1 ++ ([v2] : List Int)), w64 (v1.2 + 1)))
 else
  inrO (law_loads_v1_J1 v1.1)
noncomputable def law_loads_v1_L1 (b : Board) (v0 : List Int × Int) : Option (List Int) :=
 loopO (fun y => law_loads_v1_B1 b y) v0
noncomputable def law_loads_v1 (b : Board) : Option (List Int) :=
 law_loads_v1_L1 b (([] : List Int), 0)
theorem law_loads_v1_ok (b : Board) (r : List Int) (hF : law_loads_v1 b = some r) : Pe Try.prog 67 S.none [.agg (c_Board b)] (.sl 1 (r.map e_i64)) S.none := by
 refine PeN 32 [.tmp 2] [109] Ty.ok Fn.b67 Try.func67 ?_
 intro Q g hfin
 unfold law_loads_v1 at hF
 refine VR [] [1] [1] [] [] [(1, .ptr 1 0)] [(1, (c_Board b))] [] [] .nil ?_
 refine NR [] [1, 3] [1] [] [(3, .nils)] .nil ?_
 refine NR [] [1, 3, 4] [1] [] [(4, .i 0)] .nil ?_
 refine NmeetP (fun v : List Int => (⟨[(3, .row 30 0)], [], [(30, .z 3 1 0 (v.map e_i64))], [], []⟩ : S)) (fun v => law_loads_v1_J1 v = some r) ?_ ?_
 ·refine Nblk ?_
  unfold law_loads_v1_L1 at hF
  refine Wk_nilrow 3 60000 3 1 rfl rfl rfl ?_
  refine Wk_trim (fs := [1, 3, 4]) (bs := [1]) (rs := [60000]) (ms := []) (aa := []) (nv := []) rfl ?_
  refine Wk_ren' ⟨[], [(60000, 30)], [], []⟩ rfl ?_
  refine Niter (fun v1 : List Int × Int => (⟨[(1, .ptr 1 0), (3, .row 30 0), (4, .i v1.2)], [(1, (c_Board b))], [(30, .z 3 1 0 (v1.1.map e_i64))], [], []⟩ : S)) [] hF (by kernel_rfl) ?_
  intro n1 v1 y1 hF ih1 dn1
  unfold law_loads_v1_B1 at hF
  refine NR [.nat (b.Hosts.length : Int)] [1, 3, 4, 10] [1] [30] [(10, .bool (decide (v1.2 < (b.Hosts.length : Int))))] (hc (len_ok e_Host b.Hosts) .nil) ?_
  refine Nif hF (fun hb hF => ?_) (fun hb hF => ?_)
  ·refine Nblk ?_
   refine NR [] [1, 3, 4, 5] [1] [30] [(5, .i 0)] .nil ?_
   obtain ⟨h0, hF⟩ := asrt_elim hF
   refine NR [.av (e_Host (lget b.Hosts v1.2))] [1, 3, 4, 5, 18] [1] [30] [(18, .bool ((lget b.Hosts v1.2).Alive))] (hc (idx_ok e_Host h0) .nil) ?_
   obtain ⟨v2, hv, hF⟩ := ob_elim hF
   refine Nmeet (⟨[(1, .ptr 1 0), (3, .row 30 0), (4, .i v1.2), (5, .i v2)], [(1, (c_Board b))], [(30, .z 3 1 0 (v1.1.map e_i64))], [], []⟩ : S) ?_ ?_
   ·have hF := hv
    refine Nif hF (fun hb hF => ?_) (fun hb hF => ?_)
    ·obtain ⟨h1, hF⟩ := asrt_elim hF
     obtain ⟨x, h2, hF⟩ := ob_elim hF
     refine ND [.av (e_Host (lget b.Hosts v1.2)), .callB (.i x)] [1, 3, 4, 5] [1] [30] [(5, .i x)] (hc (idx_ok e_Host h1) (hc (R_LoadOf_ok b ((lget b.Hosts v1.2).ID) x h2) .nil)) ?_
     cases hF
     exact met [] (by kernel_rfl)
    ·cases hF
     exact met [] (by kernel_rfl)
   ·obtain ⟨h3, hF⟩ := asrt_elim hF
    refine VR [.sealed, .xs ((v1.1 ++ ([v2] : List Int)).map e_i64)] [1, 3, 4] [1] [30] [] [(3, .row 30 1)] [] [(30, .z 3 1 1 ((v1.1 ++ ([v2] : List Int)).map e_i64))] [] (hc (app_ok e_i64 v1.1 ([v2] : List Int)) (hc (appl_ok e_i64 h3) .nil)) ?_
    refine NR [] [1, 3, 4] [1] [30] [(4, .i (w64 (v1.2 + 1)))] .nil ?_
    exact Nrnd [(30, ⟨0, true, true, false⟩)] hF ih1 (by kernel_rfl)
  ·refine Nexit rfl ?_
   have hF := inrO_done hF dn1
   exact metP v1.1 [] hF (by kernel_rfl)
 ·intro v hF
  have hF : law_loads_v1_J1 v = some r := hF
  unfold law_loads_v1_J1 at hF
  refine NR [] [2] [] [30] [(2, .row 30 0)] .nil ?_
  cases hF
  exact Wk_ret (hfin _ ⟨[], [], [], [], [], [], by kernel_rfl⟩)

/- tabularyref.Ints -/
noncomputable def R_Ints_J1 (v : Unit) : Option Bool :=
 some true
noncomputable def R_Ints_B1 (a0 : List Int) (b : List Int) (v1 : Int) : Option (Int ⊕ Bool) :=
 if (decide (v1 < (a0.length : Int))) = true then
  asrt (0 ≤ v1 ∧ v1 < (a0.length : Int)) <|
  asrt (0 ≤ v1 ∧ v1 < (b.length : Int)) <|
  if (!decide ((lget a0 v1) = (lget b v1))) = true then
   some (Sum.inr false)
  else
   some (Sum.inl (w64 (v1 + 1)))
 else
  inrO (R_Ints_J1 ())
noncomputable def R_Ints_L1 (a0 : List Int) (b : List Int) (v0 : Int) : Option Bool :=
 loopO (fun y => R_Ints_B1 a0 b y) v0
noncomputable def R_Ints (a0 : List Int) (b : List Int) : Option Bool :=
 if (!decide ((a0.length : Int) = (b.length : Int))) = true then
  some false
 else
  R_Ints_L1 a0 b 0

/- tabularylaw.BalanceMoves -/
noncomputable def law_BalanceMoves_J3 (b : Board) (x4 : List Order × Fault) (v4 : List Int × (List (Int × Int)) × Int) (v5 : Int × Int) (v6 : Int) : Option ((List Int × (List (Int × Int)) × Int) ⊕ Bool) :=
 asrt ((!(decide (v5.1 < 0))) = true → 0 ≤ v5.1 ∧ v5.1 < (v4.1.length : Int)) <|
 asrt ((!(decide (v5.1 < 0))) = true → 0 ≤ v5.1 ∧ v5.1 < (v4.1.length : Int)) <|
 asrt ((!(decide (v5.1 < 0))) = true → 0 ≤ v5.2 ∧ v5.2 < (v4.1.length : Int)) <|
 asrt ((!(decide (v5.1 < 0))) = true → 0 ≤ v5.2 ∧ v5.2 < (v4.1.length : Int)) <|
 if (((decide (v5.1 < 0)) || (decide ((w64 ((lget v4.1 v5.1) - (lget v4.1 v5.2))) < 2))) || (decide (v6 < 0))) = true then
  some (Sum.inr (decide (v4.2.2 = (x4.1.length : Int))))
 else
  asrt ((!(decide ((x4.1.length : Int) ≤ v4.2.2))) = true → 0 ≤ v4.2.2 ∧ v4.2.2 < (x4.1.length : Int)) <|
  asrt ((!(decide ((x4.1.length : Int) ≤ v4.2.2))) = true → 0 ≤ v4.2.2 ∧ v4.2.2 < (x4.1.length : Int)) <|
  asrt ((!(decide ((x4.1.length : Int) ≤ v4.2.2))) = true → 0 ≤ v6 ∧ v6 < (b.Slots.length : Int)) <|
  asrt ((!(decide ((x4.1.length : Int) ≤ v4.2.2))) = true → 0 ≤ v5.2 ∧ v5.2 < (b.Hosts.length : Int)) <|
  if ((decide ((x4.1.length : Int) ≤ v4.2.2)) || (!(decide ((lget x4.1 v4.2.2).Kind = 9) && (decide ((lget x4.1 v4.2.2).ID = ((lget b.Slots v6).Part).ID) && (decide ((lget x4.1 v4.2.2).Host = (lget b.Hosts v5.2).ID) && (decide ((lget x4.1 v4.2.2).Turn = 0) && (decide ((lget x4.1 v4.2.2).Row = []) && true))))))) = true then
   some (Sum.inr false)
  else
   asrt (0 ≤ v6 ∧ v6 < (b.Slots.length : Int)) <|
   asrt (0 ≤ v5.1 ∧ v5.1 < (v4.1.length : Int)) <|
   asrt (0 ≤ v5.1 ∧ v5.1 < (v4.1.length : Int)) <|
   asrt (0 ≤ v5.1 ∧ v5.1 < (v4.1.length : Int)) <|
   asrt (0 ≤ v5.1 ∧ v5.1 < (v4.1.length : Int)) <|
   asrt (0 ≤ v5.2 ∧ v5.2 < ((lset v4.1 v5.1 (w64 ((lget v4.1 v5.1) - 1))).length : Int)) <|
   asrt (0 ≤ v5.2 ∧ v5.2 < ((lset v4.1 v5.1 (w64 ((lget v4.1 v5.1) - 1))).length : Int)) <|
   asrt (0 ≤ v5.2 ∧ v5.2 < ((lset v4.1 v5.1 (w64 ((lget v4.1 v5.1) - 1))).length : Int)) <|
   asrt (0 ≤ v5.2 ∧ v5.2 < ((lset v4.1 v5.1 (w64 ((lget v4.1 v5.1) - 1))).length : Int)) <|
   lt ((lset (lset v4.1 v5.1 (w64 ((lget v4.1 v5.1) - 1))) v5.2 (w64 ((lget (lset v4.1 v5.1 (w64 ((lget v4.1 v5.1) - 1))) v5.2) + 1)))) fun (v7 : List Int) =>
   some (Sum.inl (v7, (mput v4.2.1 (((lget b.Slots v6).Part).ID) (1 : Int)), w64 (v4.2.2 + 1)))
noncomputable def law_BalanceMoves_B2 (b : Board) (x4 : List Order × Fault) (v4 : List Int × (List (Int × Int)) × Int) (v5 : Int × Int) (v8 : Int × Int) : Option ((Int × Int) ⊕ ((List Int × (List (Int × Int)) × Int) ⊕ Bool)) :=
 if ((decide (0 ≤ v8.2)) && (decide (0 ≤ v5.1))) = true then
  asrt (0 ≤ v8.2 ∧ v8.2 < (b.Slots.length : Int)) <|
  asrt ((decide (((lget b.Slots v8.2).State) = 2)) = true → 0 ≤ v5.1 ∧ v5.1 < (b.Hosts.length : Int)) <|
  ob (
   if (((decide (((lget b.Slots v8.2).State) = 2)) && (decide (((lget b.Slots v8.2).Host) = ((lget b.Hosts v5.1).ID)))) && (decide (((mget v4.2.1 (((lget b.Slots v8.2).Part).ID)).getD (0 : Int)) = 0))) = true then
    some v8.2
   else
    some v8.1) fun (v9 : Int) =>
  some (Sum.inl (v9, w64 (v8.2 - 1)))
 else
  inrO (law_BalanceMoves_J3 b x4 v4 v5 v8.1)
noncomputable def law_BalanceMoves_L2 (b : Board) (x4 : List Order × Fault) (v4 : List Int × (List (Int × Int)) × Int) (v5 : Int × Int) (v0 : Int × Int) : Option ((List Int × (List (Int × Int)) × Int) ⊕ Bool) :=
 loopO (fun y => law_BalanceMoves_B2 b x4 v4 v5 y) v0
noncomputable def law_BalanceMoves_J2 (b : Board) (x4 : List Order × Fault) (v4 : List Int × (List (Int × Int)) × Int) (v5 : Int × Int) : Option ((List Int × (List (Int × Int)) × Int) ⊕ Bool) :=
 law_BalanceMoves_L2 b x4 v4 v5 ((-1), w64 ((b.Slots.length : Int) - 1))
noncomputable def law_BalanceMoves_B3 (b : Board) (x4 : List Order × Fault) (v4 : List Int × (List (Int × Int)) × Int) (v10 : Int × Int × Int) : Option ((Int × Int × Int) ⊕ ((List Int × (List (Int × Int)) × Int) ⊕ Bool)) :=
 if (decide (v10.2.2 < (b.Hosts.length : Int))) = true then
  asrt (0 ≤ v10.2.2 ∧ v10.2.2 < (b.Hosts.length : Int)) <|
  asrt ((!(decide (v10.1 < 0))) = true → ((lget b.Hosts v10.2.2).Alive) = true → 0 ≤ v10.2.2 ∧ v10.2.2 < (v4.1.length : Int)) <|
  asrt ((!(decide (v10.1 < 0))) = true → ((lget b.Hosts v10.2.2).Alive) = true → 0 ≤ v10.2.2 ∧ v10.2.2 < (v4.1.length : Int)) <|
  asrt ((!(decide (v10.1 < 0))) = true → ((lget b.Hosts v10.2.2).Alive) = true → 0 ≤ v10.1 ∧ v10.1 < (v4.1.length : Int)) <|
  asrt ((!(decide (v10.1 < 0))) = true → ((lget b.Hosts v10.2.2).Alive) = true → 0 ≤ v10.1 ∧ v10.1 < (v4.1.length : Int)) <|
  ob (
   if (((lget b.Hosts v10.2.2).Alive) && ((decide (v10.1 < 0)) || (decide ((lget v4.1 v10.1) < (lget v4.1 v10.2.2))))) = true then
    some v10.2.2
   else
    some v10.1) fun (v11 : Int) =>
  asrt (0 ≤ v10.2.2 ∧ v10.2.2 < (b.Hosts.length : Int)) <|
  asrt ((!(decide (v10.2.1 < 0))) = true → ((lget b.Hosts v10.2.2).Alive) = true → 0 ≤ v10.2.2 ∧ v10.2.2 < (v4.1.length : Int)) <|
  asrt ((!(decide (v10.2.1 < 0))) = true → ((lget b.Hosts v10.2.2).Alive) = true → 0 ≤ v10.2.2 ∧ v10.2.2 < (v4.1.length : Int)) <|
  asrt ((!(decide (v10.2.1 < 0))) = true → ((lget b.Hosts v10.2.2).Alive) = true → 0 ≤ v10.2.1 ∧ v10.2.1 < (v4.1.length : Int)) <|
  asrt ((!(decide (v10.2.1 < 0))) = true → ((lget b.Hosts v10.2.2).Alive) = true → 0 ≤ v10.2.1 ∧ v10.2.1 < (v4.1.length : Int)) <|
  ob (
   if (((lget b.Hosts v10.2.2).Alive) && ((decide (v10.2.1 < 0)) || (decide ((lget v4.1 v10.2.2) < (lget v4.1 v10.2.1))))) = true then
    some v10.2.2
   else
    some v10.2.1) fun (v12 : Int) =>
  some (Sum.inl (v11, v12, w64 (v10.2.2 + 1)))
 else
  inrO (law_BalanceMoves_J2 b x4 v4 (v10.1, v10.2.1))
noncomputable def law_BalanceMoves_L3 (b : Board) (x4 : List Order × Fault) (v4 : List Int × (List (Int × Int)) × Int) (v0 : Int × Int × Int) : Option ((List Int × (List (Int × Int)) × Int) ⊕ Bool) :=
 loopO (fun y => law_BalanceMoves_B3 b x4 v4 y) v0
noncomputable def law_BalanceMoves_B1 (b : Board) (x4 : List Order × Fault) (v4 : List Int × (List (Int × Int)) × Int) : Option ((List Int × (List (Int × Int)) × Int) ⊕ Bool) :=
 law_BalanceMoves_L3 b x4 v4 ((-1), (-1), 0)
noncomputable def law_BalanceMoves_L1 (b : Board) (x4 : List Order × Fault) (v0 : List Int × (List (Int × Int)) × Int) : Option Bool :=
 loopO (fun y => law_BalanceMoves_B1 b x4 y) v0
noncomputable def law_BalanceMoves_J1 (b : Board) (x3 : List Int × Fault) (x4 : List Order × Fault) (x5 : Board × Fault) (x6 : Fault) (v1 : Fault × Board) : Option Bool :=
 ob (
  if (!decide (v1.1.Code = 0)) = true then
   some (⟨([] : List Host), ([] : List Slot), 0, 0⟩ : Board)
  else
   some v1.2) fun (v2 : Board) =>
 ob (if (!(!(decide (x5.2.Code = v1.1.Code) && (decide (x5.2.At = v1.1.At) && true)))) = true then (R_SameBoard x5.1 v2) else some default) fun x9 =>
 if ((!(decide (x5.2.Code = v1.1.Code) && (decide (x5.2.At = v1.1.At) && true))) || (!x9)) = true then
  some false
 else
  if (!decide (x6.Code = 0)) = true then
   lt ((decide ((x3.1.length : Int) = 0)) && (decide ((x4.1.length : Int) = 0))) fun (v3 : Bool) =>
   some v3
  else
   ob (law_loads b) fun x10 =>
   ob (R_Ints x3.1 x10) fun x11 =>
   if (!x11) = true then
    some false
   else
    ob (law_loads b) fun x12 =>
    law_BalanceMoves_L1 b x4 (x12, ([] : List (Int × Int)), 0)
noncomputable def law_BalanceMoves_B4 (b : Board) (o : Order) (x3 : List Int × Fault) (x4 : List Order × Fault) (x5 : Board × Fault) (x6 : Fault) (v13 : Fault × List Host × List Slot × Int × Int × Int) : Option ((Fault × List Host × List Slot × Int × Int × Int) ⊕ Bool) :=
 if ((decide (v13.2.2.2.2.2 < 4)) && (decide (v13.1.Code = 0))) = true then
  asrt (0 ≤ v13.2.2.2.2.2 ∧ v13.2.2.2.2.2 < (([5, 6, 3, 4] : List Int).length : Int)) <|
  ob (R_SlotIn (⟨v13.2.1, v13.2.2.1, v13.2.2.2.1, v13.2.2.2.2.1⟩ : Board) o.ID) fun x13 =>
  ob (
   if (((decide (v13.2.2.2.2.2 = 1)) && (decide (0 ≤ x13))) || ((decide (v13.2.2.2.2.2 = 3)) && (decide (0 ≤ x13)))) = true then
    asrt (0 ≤ x13 ∧ x13 < (v13.2.2.1.length : Int)) <|
    asrt (0 ≤ x13 ∧ x13 < (v13.2.2.1.length : Int)) <|
    some (⟨(lget ([5, 6, 3, 4] : List Int) v13.2.2.2.2.2), o.ID, (lget v13.2.2.1 x13).Host, (lget v13.2.2.1 x13).Turn, ([] : List UInt8)⟩ : Order)
   else
    some (⟨(lget ([5, 6, 3, 4] : List Int) v13.2.2.2.2.2), o.ID, 0, 0, ([] : List UInt8)⟩ : Order)) fun (v14 : Order) =>
  ob (
   if (decide (v13.2.2.2.2.2 = 2)) = true then
    some (⟨v14.Kind, v14.ID, o.Host, v14.Turn, v14.Row⟩ : Order)
   else
    some v14) fun (v15 : Order) =>
  ob (R_Ordered (⟨v13.2.1, v13.2.2.1, v13.2.2.2.1, v13.2.2.2.2.1⟩ : Board) v15) fun x14 =>
  some (Sum.inl (x14.2.2.2.2, x14.1, x14.2.1, x14.2.2.1, x14.2.2.2.1, w64 (v13.2.2.2.2.2 + 1)))
 else
  inrO (law_BalanceMoves_J1 b x3 x4 x5 x6 (v13.1, (⟨v13.2.1, v13.2.2.1, v13.2.2.2.1, v13.2.2.2.2.1⟩ : Board)))
noncomputable def law_BalanceMoves_L4 (b : Board) (o : Order) (x3 : List Int × Fault) (x4 : List Order × Fault) (x5 : Board × Fault) (x6 : Fault) (v0 : Fault × List Host × List Slot × Int × Int × Int) : Option Bool :=
 loopO (fun y => law_BalanceMoves_B4 b o x3 x4 x5 x6 y) v0
noncomputable def law_BalanceMoves (b : Board) (o : Order) : Option Bool :=
 ob (law_balanceBegun) fun x =>
 if (!x) = true then
  some false
 else
  lt (law_vastBoard b) fun x1 =>
  if x1 = true then
   some true
  else
   ob (R_CopyBoard b) fun x2 =>
   ob (balance_Loads (⟨x2.1, x2.2.1, x2.2.2.1, x2.2.2.2⟩ : Board)) fun x3 =>
   ob (balance_Moves (⟨x2.1, x2.2.1, x2.2.2.1, x2.2.2.2⟩ : Board)) fun x4 =>
   ob (balance_Move (⟨x2.1, x2.2.1, x2.2.2.1, x2.2.2.2⟩ : Board) o) fun x5 =>
   ob (R_BoardFault b) fun x6 =>
   ob (R_SameBoard (⟨x2.1, x2.2.1, x2.2.2.1, x2.2.2.2⟩ : Board) b) fun x7 =>
   if (((!x7) || (!(decide (x3.2.Code = x6.Code) && (decide (x3.2.At = x6.At) && true)))) || (!(decide (x4.2.Code = x6.Code) && (decide (x4.2.At = x6.At) && true)))) = true then
    some false
   else
    ob (
     if ((decide (x6.Code = 0)) && (!decide (o.Kind = 9))) = true then
      lt (R_F 4 0) fun x8 =>
      some x8
     else
      some x6) fun (v : Fault) =>
    law_BalanceMoves_L4 b o x3 x4 x5 x6 (v, b.Hosts, b.Slots, b.Turn, b.Next, 0)

/- tabularyref.Boards -/
noncomputable def R_Boards_v1_J1 (v1 : List Board × List Fault) : Option (List Board × List Fault) :=
 some (v1.1, v1.2)
noncomputable def R_Boards_v1_B1 (orders : List Order) (v2 : List Board × List Fault × Int) : Option ((List Board × List Fault × Int) ⊕ (List Board × List Fault)) :=
 if (decide (v2.2.2 < (orders.length : Int))) = true then
  asrt (0 ≤ v2.2.2 ∧ v2.2.2 < (v2.1.length : Int)) <|
  asrt (0 ≤ v2.2.2 ∧ v2.2.2 < (v2.1.length : Int)) <|
  asrt (0 ≤ v2.2.2 ∧ v2.2.2 < (orders.length : Int)) <|
  ob (R_Ordered (⟨(lget v2.1 v2.2.2).Hosts, (lget v2.1 v2.2.2).Slots, (lget v2.1 v2.2.2).Turn, (lget v2.1 v2.2.2).Next⟩ : Board) (⟨(lget orders v2.2.2).Kind, (lget orders v2.2.2).ID, (lget orders v2.2.2).Host, (lget orders v2.2.2).Turn, (lget orders v2.2.2).Row⟩ : Order)) fun x =>
  asrt (((v2.2.1 ++ [x.2.2.2.2]).length : Int) * 16 ≤ 140737488351232) <|
  ob (
   if (!decide (x.2.2.2.2.Code = 0)) = true then
    asrt (0 ≤ v2.2.2 ∧ v2.2.2 < (v2.1.length : Int)) <|
    asrt (0 ≤ v2.2.2 ∧ v2.2.2 < (v2.1.length : Int)) <|
    some ((lget v2.1 v2.2.2).Hosts, (lget v2.1 v2.2.2).Slots, (lget v2.1 v2.2.2).Turn, (lget v2.1 v2.2.2).Next)
   else
    some (x.1, x.2.1, x.2.2.1, x.2.2.2.1)) fun (v3 : List Host × List Slot × Int × Int) =>
  asrt (((v2.1 ++ [(⟨v3.1, v3.2.1, v3.2.2.1, v3.2.2.2⟩ : Board)]).length : Int) * 64 ≤ 140737488351232) <|
  some (Sum.inl ((v2.1 ++ [(⟨v3.1, v3.2.1, v3.2.2.1, v3.2.2.2⟩ : Board)]), (v2.2.1 ++ [x.2.2.2.2]), w64 (v2.2.2 + 1)))
 else
  inrO (R_Boards_v1_J1 (v2.1, v2.2.1))
noncomputable def R_Boards_v1_L1 (orders : List Order) (v0 : List Board × List Fault × Int) : Option (List Board × List Fault) :=
 loopO (fun y => R_Boards_v1_B1 orders y) v0
noncomputable def R_Boards_v1 (orders : List Order) : Option (List Board × List Fault) :=
 lt ([(⟨([] : List Host), [(⟨(⟨([] : List UInt8), ([] : List UInt8), 1⟩ : Part), 0, 0, 0⟩ : Slot)], 0, 2⟩ : Board)]) fun (v : List Board) =>
 R_Boards_v1_L1 orders (v, ([] : List Fault), 0)
theorem R_Boards_v1_ok (orders : List Order) (r : List Board × List Fault) (hF : R_Boards_v1 orders = some r) : Pe Try.prog 33 S.none [.sl 5 (orders.map e_Order)] (.tup [.sl 4 (r.1.map e_Board), .sl 2 (r.2.map e_Fault)]) S.none := by
 refine PeN 49 [.tmp 2, .tmp 3] [54, 55] Ty.ok Fn.b33 Try.func33 ?_
 intro Q g hfin
 unfold R_Boards_v1 at hF
 refine NR [] [0] [] [] [] .nil ?_
 refine NRL ([(⟨([] : List Host), [(⟨(⟨([] : List UInt8), ([] : List UInt8), 1⟩ : Part), 0, 0, 0⟩ : Slot)], 0, 2⟩ : Board)]) (fun v : List Board => ([(4, .row 13 0)], [], [(13, .z 62 4 0 (v.map e_Board))], [])) [] [0, 4] [] [13] [] .nil (fun v hv => ?_)
 have hF := lt_elim hF hv
 refine NR [] [0, 4, 5] [] [13] [(5, .nils)] .nil ?_
 refine NR [] [0, 4, 5, 6] [] [13] [(6, .i 0)] .nil ?_
 refine NmeetP (fun v1 : List Board × List Fault => (⟨[(4, .row 13 0), (5, .row 35 0)], [], [(13, .z 62 4 0 (v1.1.map e_Board)), (35, .z 26 2 0 (v1.2.map e_Fault))], [], []⟩ : S)) (fun v1 => R_Boards_v1_J1 v1 = some r) ?_ ?_
 ·refine Nblk ?_
  unfold R_Boards_v1_L1 at hF
  refine Wk_nilrow 5 60000 26 2 rfl rfl rfl ?_
  refine Wk_trim (fs := [0, 4, 5, 6]) (bs := []) (rs := [13, 60000]) (ms := []) (aa := []) (nv := []) rfl ?_
  refine Wk_ren' ⟨[], [(60000, 35)], [], []⟩ rfl ?_
  refine Niter (fun v2 : List Board × List Fault × Int => (⟨[(0, .sl 5 (orders.map e_Order)), (4, .row 13 0), (5, .row 35 0), (6, .i v2.2.2)], [], [(13, .z 62 4 0 (v2.1.map e_Board)), (35, .z 26 2 0 (v2.2.1.map e_Fault))], [], []⟩ : S)) [] hF (by kernel_rfl) ?_
  intro n1 v2 y1 hF ih1 dn1
  unfold R_Boards_v1_B1 at hF
  refine NR [.nat (orders.length : Int)] [0, 4, 5, 6, 17] [] [13, 35] [(17, .bool (decide (v2.2.2 < (orders.length : Int))))] (hc (len_ok e_Order orders) .nil) ?_
  refine Nif hF (fun hb hF => ?_) (fun hb hF => ?_)
  ·refine Nblk ?_
   obtain ⟨h0, h1, hF⟩ := asrt2 hF
   obtain ⟨h2, hF⟩ := asrt_elim hF
   obtain ⟨x, h3, hF⟩ := ob_elim hF
   refine VD [.av (e_Board (lget v2.1 v2.2.2)), .av (e_Order (lget orders v2.2.2)), .callE [] [] [] [] (.tup [.agg [.row 29 0, .row 20029 0, .i x.2.2.1, .i x.2.2.2.1], .agg (c_Fault x.2.2.2.2)]) ⟨[], [], [(29, .z 108 3 0 (x.1.map e_Host)), (20029, .z 64 6 0 (x.2.1.map e_Slot))], [], []⟩] [0, 4, 5, 6, 7, 8] [7, 8] [13, 29, 35, 20029] [] [(7, .ptr 7 0), (8, .ptr 8 0)] [(7, [.row 29 0, .row 20029 0, .i x.2.2.1, .i x.2.2.2.1]), (8, (c_Fault x.2.2.2.2))] [(29, .z 108 3 0 (x.1.map e_Host)), (20029, .z 64 6 0 (x.2.1.map e_Slot))] [] (hc (ixr_ok e_Board h0) (hc (ldr_ok e_Board h1) (hc (idx_ok e_Order h2) (hc (Pe.ren (R_Ordered_ok (⟨(lget v2.1 v2.2.2).Hosts, (lget v2.1 v2.2.2).Slots, (lget v2.1 v2.2.2).Turn, (lget v2.1 v2.2.2).Next⟩ : Board) (⟨(lget orders v2.2.2).Kind, (lget orders v2.2.2).ID, (lget orders v2.2.2).Host, (lget orders v2.2.2).Turn, (lget orders v2.2.2).Row⟩ : Order) x h3) ⟨[], [(22, 29), (20022, 20029)], [], []⟩) .nil)))) ?_
   obtain ⟨h4, hF⟩ := asrt_elim hF
   refine VR [.sealed, .xs ((v2.2.1 ++ [x.2.2.2.2]).map e_Fault)] [0, 4, 5, 6, 7, 8] [7, 8] [13, 29, 35, 20029] [] [(5, .row 35 1)] [] [(35, .z 26 2 1 ((v2.2.1 ++ [x.2.2.2.2]).map e_Fault))] [] (hc (app_ok e_Fault v2.2.1 [x.2.2.2.2]) (hc (appl_ok e_Fault h4) .nil)) ?_
   refine NR [] [0, 4, 5, 6, 7, 38] [7] [13, 29, 35, 20029] [(38, .bool (!decide (x.2.2.2.2.Code = 0)))] .nil ?_
   obtain ⟨v3, hv, hF⟩ := ob_elim hF
   refine Nmeet (⟨[(0, .sl 5 (orders.map e_Order)), (4, .row 13 0), (5, .row 35 1), (6, .i v2.2.2), (7, .ptr 7 0)], [(7, [.sl 3 (v3.1.map e_Host), .sl 6 (v3.2.1.map e_Slot), .i v3.2.2.1, .i v3.2.2.2])], [(13, .z 62 4 0 (v2.1.map e_Board)), (35, .z 26 2 1 ((v2.2.1 ++ [x.2.2.2.2]).map e_Fault))], [], []⟩ : S) ?_ ?_
   ·have hF := hv
    refine Nif hF (fun hb hF => ?_) (fun hb hF => ?_)
    ·obtain ⟨h5, hF⟩ := asrt_elim hF
     obtain ⟨h6, hF⟩ := asrt_elim hF
     refine VR [.av (e_Board (lget v2.1 v2.2.2))] [0, 4, 5, 6, 7] [7] [13, 35] [] [] [(7, (c_Board (lget v2.1 v2.2.2)))] [] [] (hc (ixr_ok e_Board h5) (hc (ldr_ok e_Board h6) .nil)) ?_
     cases hF
     exact met [] (by kernel_rfl)
    ·refine Wk_sealBX [] 7 rfl rfl ?_
     cases hF
     exact met [] (by kernel_rfl)
   ·obtain ⟨h7, hF⟩ := asrt_elim hF
    refine VR [.sealed, .xs ((v2.1 ++ [(⟨v3.1, v3.2.1, v3.2.2.1, v3.2.2.2⟩ : Board)]).map e_Board)] [0, 4, 5, 6] [] [13, 35] [] [(4, .row 13 1)] [] [(13, ⟨62, 4, 1, 0, 0, true, 0, [], ((v2.1 ++ [(⟨v3.1, v3.2.1, v3.2.2.1, v3.2.2.2⟩ : Board)]).map e_Board)⟩)] [] (hc (app_ok e_Board v2.1 [(⟨v3.1, v3.2.1, v3.2.2.1, v3.2.2.2⟩ : Board)]) (hc (appl_ok e_Board h7) .nil)) ?_
    refine NR [] [0, 4, 5, 6] [] [13, 35] [(6, .i (w64 (v2.2.2 + 1)))] .nil ?_
    exact Nrnd [(13, ⟨0, true, true, false⟩), (35, ⟨0, true, true, false⟩)] hF ih1 (by kernel_rfl)
  ·refine Nexit rfl ?_
   have hF := inrO_done hF dn1
   exact metP (v2.1, v2.2.1) [] hF (by kernel_rfl)
 ·intro v1 hF
  have hF : R_Boards_v1_J1 v1 = some r := hF
  unfold R_Boards_v1_J1 at hF
  refine NR [] [2, 3] [] [13, 35] [(2, .row 13 0), (3, .row 35 0)] .nil ?_
  cases hF
  exact Wk_ret (hfin _ ⟨[], [], [], [], [], [], by kernel_rfl⟩)

/- tabularylaw.BalanceEven -/
noncomputable def law_BalanceEven_J5 (v5 : Board) (v6 : Unit) : Option Bool :=
 ob (balance_Moves_v1 v5) fun x4 =>
 some ((decide (x4.2.Code = 0)) && (decide ((x4.1.length : Int) = 0)))
noncomputable def law_BalanceEven_B1 (v2 : Int × Int) (v5 : Board) (x3 : List Int) (v7 : Int) : Option (Int ⊕ Bool) :=
 if (decide (v7 < (v5.Hosts.length : Int))) = true then
  asrt (0 ≤ v7 ∧ v7 < (v5.Hosts.length : Int)) <|
  asrt (((lget v5.Hosts v7).Alive) = true → 0 ≤ v7 ∧ v7 < (x3.length : Int)) <|
  asrt ((!(decide ((lget x3 v7) < v2.1))) = true → ((lget v5.Hosts v7).Alive) = true → 0 ≤ v7 ∧ v7 < (x3.length : Int)) <|
  asrt ((decide (v2.2 = 0)) = true → (!((decide ((lget x3 v7) < v2.1)) || (decide ((w64 (v2.1 + 1)) < (lget x3 v7))))) = true → ((lget v5.Hosts v7).Alive) = true → 0 ≤ v7 ∧ v7 < (x3.length : Int)) <|
  if (((lget v5.Hosts v7).Alive) && (((decide ((lget x3 v7) < v2.1)) || (decide ((w64 (v2.1 + 1)) < (lget x3 v7)))) || ((decide (v2.2 = 0)) && (decide (v2.1 < (lget x3 v7)))))) = true then
   some (Sum.inr false)
  else
   some (Sum.inl (w64 (v7 + 1)))
 else
  inrO (law_BalanceEven_J5 v5 ())
noncomputable def law_BalanceEven_L1 (v2 : Int × Int) (v5 : Board) (x3 : List Int) (v0 : Int) : Option Bool :=
 loopO (fun y => law_BalanceEven_B1 v2 v5 x3 y) v0
noncomputable def law_BalanceEven_J4 (v2 : Int × Int) (v5 : Board) : Option Bool :=
 ob (law_loads_v1 v5) fun x3 =>
 law_BalanceEven_L1 v2 v5 x3 0
noncomputable def law_BalanceEven_B2 (x2 : List Order × Fault) (v2 : Int × Int) (v8 : Board × Int) : Option ((Board × Int) ⊕ Bool) :=
 if (decide (v8.2 < (x2.1.length : Int))) = true then
  asrt (0 ≤ v8.2 ∧ v8.2 < (x2.1.length : Int)) <|
  ob (balance_Move v8.1 (⟨(lget x2.1 v8.2).Kind, (lget x2.1 v8.2).ID, (lget x2.1 v8.2).Host, (lget x2.1 v8.2).Turn, (lget x2.1 v8.2).Row⟩ : Order)) fun x5 =>
  if ((!decide (x5.2.Code = 0)) || (!decide ((x5.1.Slots.length : Int) = (v8.1.Slots.length : Int)))) = true then
   some (Sum.inr false)
  else
   some (Sum.inl (x5.1, w64 (v8.2 + 1)))
 else
  inrO (law_BalanceEven_J4 v2 v8.1)
noncomputable def law_BalanceEven_L2 (x2 : List Order × Fault) (v2 : Int × Int) (v0 : Board × Int) : Option Bool :=
 loopO (fun y => law_BalanceEven_B2 x2 v2 y) v0
noncomputable def law_BalanceEven_J3 (x1 : List Board × List Fault) (x2 : List Order × Fault) (v2 : Int × Int) (v3 : Int × Int) : Option Bool :=
 ob (
  if (decide (v2.2 < v3.2)) = true then
   some v2.2
  else
   some v3.2) fun (v4 : Int) =>
 if (!decide ((x2.1.length : Int) = (w64 (v3.1 - v4)))) = true then
  some false
 else
  law_BalanceEven_L2 x2 v2 ((⟨(lget x1.1 (w64 ((x1.1.length : Int) - 1))).Hosts, (lget x1.1 (w64 ((x1.1.length : Int) - 1))).Slots, (lget x1.1 (w64 ((x1.1.length : Int) - 1))).Turn, (lget x1.1 (w64 ((x1.1.length : Int) - 1))).Next⟩ : Board), 0)
noncomputable def law_BalanceEven_B3 (x1 : List Board × List Fault) (x2 : List Order × Fault) (v2 : Int × Int) (v9 : Int × Int × Int) : Option ((Int × Int × Int) ⊕ Bool) :=
 if (decide (v9.2.2 < (((lget x1.1 (w64 ((x1.1.length : Int) - 1))).Hosts).length : Int))) = true then
  ob (law_loads_v1 (⟨(lget x1.1 (w64 ((x1.1.length : Int) - 1))).Hosts, (lget x1.1 (w64 ((x1.1.length : Int) - 1))).Slots, (lget x1.1 (w64 ((x1.1.length : Int) - 1))).Turn, (lget x1.1 (w64 ((x1.1.length : Int) - 1))).Next⟩ : Board)) fun x6 =>
  asrt (0 ≤ v9.2.2 ∧ v9.2.2 < (x6.length : Int)) <|
  asrt (0 ≤ v9.2.2 ∧ v9.2.2 < (((lget x1.1 (w64 ((x1.1.length : Int) - 1))).Hosts).length : Int)) <|
  ob (
   if (((lget ((lget x1.1 (w64 ((x1.1.length : Int) - 1))).Hosts) v9.2.2).Alive) && (decide (v2.1 < (lget x6 v9.2.2)))) = true then
    some (w64 ((w64 (v9.1 + (lget x6 v9.2.2))) - v2.1), w64 (v9.2.1 + 1))
   else
    some (v9.1, v9.2.1)) fun (v10 : Int × Int) =>
  some (Sum.inl (v10.1, v10.2, w64 (v9.2.2 + 1)))
 else
  inrO (law_BalanceEven_J3 x1 x2 v2 (v9.1, v9.2.1))
noncomputable def law_BalanceEven_L3 (x1 : List Board × List Fault) (x2 : List Order × Fault) (v2 : Int × Int) (v0 : Int × Int × Int) : Option Bool :=
 loopO (fun y => law_BalanceEven_B3 x1 x2 v2 y) v0
noncomputable def law_BalanceEven_J2 (x1 : List Board × List Fault) (v : Int) (v1 : Unit) : Option Bool :=
 ob (balance_Moves_v1 (⟨(lget x1.1 (w64 ((x1.1.length : Int) - 1))).Hosts, (lget x1.1 (w64 ((x1.1.length : Int) - 1))).Slots, (lget x1.1 (w64 ((x1.1.length : Int) - 1))).Turn, (lget x1.1 (w64 ((x1.1.length : Int) - 1))).Next⟩ : Board)) fun x2 =>
 if (((!decide (x2.2.Code = 0)) || (decide (v = 0))) || (decide ((((lget x1.1 (w64 ((x1.1.length : Int) - 1))).Slots).length : Int) < (x2.1.length : Int)))) = true then
  some false
 else
  asrt (v ≠ 0) <|
  asrt (v ≠ 0) <|
  lt ((w64 (Int.tdiv (((lget x1.1 (w64 ((x1.1.length : Int) - 1))).Slots).length : Int) v), Int.tmod (((lget x1.1 (w64 ((x1.1.length : Int) - 1))).Slots).length : Int) v)) fun (v2 : Int × Int) =>
  law_BalanceEven_L3 x1 x2 v2 (0, 0, 0)
noncomputable def law_BalanceEven_B4 (x1 : List Board × List Fault) (v : Int) (v11 : Int) : Option (Int ⊕ Bool) :=
 if (decide (v11 < (((lget x1.1 (w64 ((x1.1.length : Int) - 1))).Slots).length : Int))) = true then
  asrt (0 ≤ v11 ∧ v11 < (((lget x1.1 (w64 ((x1.1.length : Int) - 1))).Slots).length : Int)) <|
  if (!decide (((lget ((lget x1.1 (w64 ((x1.1.length : Int) - 1))).Slots) v11).State) = 2)) = true then
   some (Sum.inr true)
  else
   some (Sum.inl (w64 (v11 + 1)))
 else
  inrO (law_BalanceEven_J2 x1 v ())
noncomputable def law_BalanceEven_L4 (x1 : List Board × List Fault) (v : Int) (v0 : Int) : Option Bool :=
 loopO (fun y => law_BalanceEven_B4 x1 v y) v0
noncomputable def law_BalanceEven_J1 (x1 : List Board × List Fault) (v : Int) : Option Bool :=
 law_BalanceEven_L4 x1 v 0
noncomputable def law_BalanceEven_B5 (x1 : List Board × List Fault) (v12 : Int × Int) : Option ((Int × Int) ⊕ Bool) :=
 if (decide (v12.2 < (((lget x1.1 (w64 ((x1.1.length : Int) - 1))).Hosts).length : Int))) = true then
  asrt (0 ≤ v12.2 ∧ v12.2 < (((lget x1.1 (w64 ((x1.1.length : Int) - 1))).Hosts).length : Int)) <|
  ob (
   if ((lget ((lget x1.1 (w64 ((x1.1.length : Int) - 1))).Hosts) v12.2).Alive) = true then
    some (w64 (v12.1 + 1))
   else
    some v12.1) fun (v13 : Int) =>
  some (Sum.inl (v13, w64 (v12.2 + 1)))
 else
  inrO (law_BalanceEven_J1 x1 v12.1)
noncomputable def law_BalanceEven_L5 (x1 : List Board × List Fault) (v0 : Int × Int) : Option Bool :=
 loopO (fun y => law_BalanceEven_B5 x1 y) v0
noncomputable def law_BalanceEven (orders : List Order) : Option Bool :=
 ob (law_balanceBegun) fun x =>
 if (!x) = true then
  some false
 else
  if (decide (200 < (orders.length : Int))) = true then
   some true
  else
   ob (R_Boards_v1 orders) fun x1 =>
   asrt (0 ≤ w64 ((x1.1.length : Int) - 1) ∧ w64 ((x1.1.length : Int) - 1) < (x1.1.length : Int)) <|
   law_BalanceEven_L5 x1 (0, 0)
theorem law_BalanceEven_ok (orders : List Order) (r : Bool) (hF : law_BalanceEven orders = some r) : Pe Try.prog 14 S.none [.sl 5 (orders.map e_Order)] (.bool r) S.none := by
 refine PeN 222 [.tmp 2] [4] Ty.ok Fn.b14 Try.func14 ?_
 intro Q g hfin
 unfold law_BalanceEven at hF
 refine NR [] [0] [] [] [] .nil ?_
 obtain ⟨x, h0, hF⟩ := ob_elim hF
 refine NR [.callB (.bool x)] [0, 23] [] [] [(23, .bool (!x))] (hc (law_balanceBegun_ok  x h0) .nil) ?_
 refine Nif hF (fun hb hF => ?_) (fun hb hF => ?_)
 ·refine NR [] [2] [] [] [(2, .bool false)] .nil ?_
  cases hF
  exact Wk_ret (hfin _ ⟨[], [], [], [], [], [], by kernel_rfl⟩)
 ·refine NR [.nat (orders.length : Int)] [0, 26] [] [] [(26, .bool (decide (200 < (orders.length : Int))))] (hc (len_ok e_Order orders) .nil) ?_
  refine Nif hF (fun hb hF => ?_) (fun hb hF => ?_)
  ·refine NR [] [2] [] [] [(2, .bool true)] .nil ?_
   cases hF
   exact Wk_ret (hfin _ ⟨[], [], [], [], [], [], by kernel_rfl⟩)
  ·obtain ⟨x1, h1, hF⟩ := ob_elim hF
   refine NR [.call (.tup [.sl 4 (x1.1.map e_Board), .sl 2 (x1.2.map e_Fault)])] [3] [] [] [(3, .sl 4 (x1.1.map e_Board))] (hc (R_Boards_v1_ok orders x1 h1) .nil) ?_
   obtain ⟨h2, hF⟩ := asrt_elim hF
   refine VR [.nat (x1.1.length : Int), .av (e_Board (lget x1.1 (w64 ((x1.1.length : Int) - 1))))] [5] [5] [] [] [(5, .ptr 5 0)] [(5, (c_Board (lget x1.1 (w64 ((x1.1.length : Int) - 1)))))] [] [] (hc (len_ok e_Board x1.1) (hc (idx_ok e_Board h2) .nil)) ?_
   refine NR [] [5, 6] [5] [] [(6, .i 0)] .nil ?_
   refine NR [] [5, 6, 7] [5] [] [(7, .i 0)] .nil ?_
   refine NmeetP (fun v : Int => (⟨[(5, .ptr 5 0), (6, .i v)], [(5, (c_Board (lget x1.1 (w64 ((x1.1.length : Int) - 1)))))], [], [], []⟩ : S)) (fun v => law_BalanceEven_J1 x1 v = some r) ?_ ?_
   ·refine Nblk ?_
    unfold law_BalanceEven_L5 at hF
    refine Niter (fun v12 : Int × Int => (⟨[(5, .ptr 5 0), (6, .i v12.1), (7, .i v12.2)], [(5, (c_Board (lget x1.1 (w64 ((x1.1.length : Int) - 1)))))], [], [], []⟩ : S)) [] hF (by kernel_rfl) ?_
    intro n1 v12 y1 hF ih1 dn1
    unfold law_BalanceEven_B5 at hF
    refine NR [.nat (((lget x1.1 (w64 ((x1.1.length : Int) - 1))).Hosts).length : Int)] [5, 6, 7, 42] [5] [] [(42, .bool (decide (v12.2 < (((lget x1.1 (w64 ((x1.1.length : Int) - 1))).Hosts).length : Int))))] (hc (len_ok e_Host ((lget x1.1 (w64 ((x1.1.length : Int) - 1))).Hosts)) .nil) ?_
    refine Nif hF (fun hb hF => ?_) (fun hb hF => ?_)
    ·refine Nblk ?_
     obtain ⟨h18, hF⟩ := asrt_elim hF
     refine NR [.av (e_Host (lget ((lget x1.1 (w64 ((x1.1.length : Int) - 1))).Hosts) v12.2))] [5, 6, 7, 50] [5] [] [(50, .bool ((lget ((lget x1.1 (w64 ((x1.1.length : Int) - 1))).Hosts) v12.2).Alive))] (hc (idx_ok e_Host h18) .nil) ?_
     obtain ⟨v13, hv, hF⟩ := ob_elim hF
     refine Nmeet (⟨[(5, .ptr 5 0), (6, .i v13), (7, .i v12.2)], [(5, (c_Board (lget x1.1 (w64 ((x1.1.length : Int) - 1)))))], [], [], []⟩ : S) ?_ ?_
     ·have hF := hv
      refine Nif hF (fun hb hF => ?_) (fun hb hF => ?_)
      ·refine NR [] [5, 6, 7] [5] [] [(6, .i (w64 (v12.1 + 1)))] .nil ?_
       cases hF
       exact met [] (by kernel_rfl)
      ·cases hF
       exact met [] (by kernel_rfl)
     ·refine NR [] [5, 6, 7] [5] [] [(7, .i (w64 (v12.2 + 1)))] .nil ?_
      exact Nrnd [] hF ih1 (by kernel_rfl)
    ·refine Nexit rfl ?_
     have hF := inrO_done hF dn1
     exact metP v12.1 [] hF (by kernel_rfl)
   ·intro v hF
    have hF : law_BalanceEven_J1 x1 v = some r := hF
    unfold law_BalanceEven_J1 at hF
    refine NR [] [5, 6, 8] [5] [] [(8, .i 0)] .nil ?_
    refine NmeetP (fun v1 : Unit => (⟨[(5, .ptr 5 0), (6, .i v)], [(5, (c_Board (lget x1.1 (w64 ((x1.1.length : Int) - 1)))))], [], [], []⟩ : S)) (fun v1 => law_BalanceEven_J2 x1 v v1 = some r) ?_ ?_
    ·refine Nblk ?_
     unfold law_BalanceEven_L4 at hF
     refine Niter (fun v11 : Int => (⟨[(5, .ptr 5 0), (6, .i v), (8, .i v11)], [(5, (c_Board (lget x1.1 (w64 ((x1.1.length : Int) - 1)))))], [], [], []⟩ : S)) [] hF (by kernel_rfl) ?_
     intro n1 v11 y1 hF ih1 dn1
     unfold law_BalanceEven_B4 at hF
     refine NR [.nat (((lget x1.1 (w64 ((x1.1.length : Int) - 1))).Slots).length : Int)] [5, 6, 8, 57] [5] [] [(57, .bool (decide (v11 < (((lget x1.1 (w64 ((x1.1.length : Int) - 1))).Slots).length : Int))))] (hc (len_ok e_Slot ((lget x1.1 (w64 ((x1.1.length : Int) - 1))).Slots)) .nil) ?_
     refine Nif hF (fun hb hF => ?_) (fun hb hF => ?_)
     ·refine Nblk ?_
      obtain ⟨h17, hF⟩ := asrt_elim hF
      refine NR [.av (e_Slot (lget ((lget x1.1 (w64 ((x1.1.length : Int) - 1))).Slots) v11))] [5, 6, 8, 66] [5] [] [(66, .bool (!decide (((lget ((lget x1.1 (w64 ((x1.1.length : Int) - 1))).Slots) v11).State) = 2)))] (hc (idx_ok e_Slot h17) .nil) ?_
      refine Nif hF (fun hb hF => ?_) (fun hb hF => ?_)
      ·refine NR [] [2] [] [] [(2, .bool true)] .nil ?_
       have hF := ret_done hF dn1
       cases hF
       exact Wk_ret (hfin _ ⟨[], [], [], [], [], [], by kernel_rfl⟩)
      ·refine NR [] [5, 6, 8] [5] [] [(8, .i (w64 (v11 + 1)))] .nil ?_
       exact Nrnd [] hF ih1 (by kernel_rfl)
     ·refine Nexit rfl ?_
      have hF := inrO_done hF dn1
      exact metP () [] hF (by kernel_rfl)
    ·intro v1 hF
     have hF : law_BalanceEven_J2 x1 v v1 = some r := hF
     unfold law_BalanceEven_J2 at hF
     obtain ⟨x2, h3, hF⟩ := ob_elim hF
     refine VR [.call (.tup [.sl 5 (x2.1.map e_Order), .agg (c_Fault x2.2)])] [5, 6, 9, 10] [5, 10] [] [] [(9, .sl 5 (x2.1.map e_Order)), (10, .ptr 10 0)] [(10, (c_Fault x2.2))] [] [] (hc (balance_Moves_v1_ok (⟨(lget x1.1 (w64 ((x1.1.length : Int) - 1))).Hosts, (lget x1.1 (w64 ((x1.1.length : Int) - 1))).Slots, (lget x1.1 (w64 ((x1.1.length : Int) - 1))).Turn, (lget x1.1 (w64 ((x1.1.length : Int) - 1))).Next⟩ : Board) x2 h3) .nil) ?_
     refine NR [.nat (x2.1.length : Int), .nat (((lget x1.1 (w64 ((x1.1.length : Int) - 1))).Slots).length : Int)] [5, 6, 9, 10, 86] [5, 10] [] [(86, .bool (((!decide (x2.2.Code = 0)) || (decide (v = 0))) || (decide ((((lget x1.1 (w64 ((x1.1.length : Int) - 1))).Slots).length : Int) < (x2.1.length : Int)))))] (hc (fun (_ : (!((!decide (x2.2.Code = 0)) || (decide (v = 0)))) = true) => (len_ok e_Order x2.1)) (hc (fun (_ : (!((!decide (x2.2.Code = 0)) || (decide (v = 0)))) = true) => (len_ok e_Slot ((lget x1.1 (w64 ((x1.1.length : Int) - 1))).Slots))) .nil)) ?_
     refine Nif hF (fun hb hF => ?_) (fun hb hF => ?_)
     ·refine NR [] [2] [] [] [(2, .bool false)] .nil ?_
      cases hF
      exact Wk_ret (hfin _ ⟨[], [], [], [], [], [], by kernel_rfl⟩)
     ·obtain ⟨h4, hF⟩ := asrt_elim hF
      obtain ⟨h5, hF⟩ := asrt_elim hF
      refine NDL ((w64 (Int.tdiv (((lget x1.1 (w64 ((x1.1.length : Int) - 1))).Slots).length : Int) v), Int.tmod (((lget x1.1 (w64 ((x1.1.length : Int) - 1))).Slots).length : Int) v)) (fun v2 : Int × Int => ([(11, .i v2.1), (12, .i v2.2)], [], [], [])) [.nat (((lget x1.1 (w64 ((x1.1.length : Int) - 1))).Slots).length : Int), .nat (((lget x1.1 (w64 ((x1.1.length : Int) - 1))).Slots).length : Int)] [5, 9, 10, 11, 12] [5, 10] [] [] (hc (len_ok e_Slot ((lget x1.1 (w64 ((x1.1.length : Int) - 1))).Slots)) (hc h4 (hc (len_ok e_Slot ((lget x1.1 (w64 ((x1.1.length : Int) - 1))).Slots)) (hc h5 .nil)))) (fun v2 hv => ?_)
      have hF := lt_elim hF hv
      refine NR [] [5, 9, 10, 11, 12, 13, 14] [5, 10] [] [(13, .i 0), (14, .i 0)] .nil ?_
      refine NR [] [5, 9, 10, 11, 12, 13, 14, 15] [5, 10] [] [(15, .i 0)] .nil ?_
      refine NmeetP (fun v3 : Int × Int => (⟨[(5, .ptr 5 0), (9, .sl 5 (x2.1.map e_Order)), (10, .ptr 10 0), (11, .i v2.1), (12, .i v2.2), (13, .i v3.1), (14, .i v3.2)], [(5, (c_Board (lget x1.1 (w64 ((x1.1.length : Int) - 1))))), (10, (c_Fault x2.2))], [], [], []⟩ : S)) (fun v3 => law_BalanceEven_J3 x1 x2 v2 v3 = some r) ?_ ?_
      ·refine Nblk ?_
       unfold law_BalanceEven_L3 at hF
       refine Niter (fun v9 : Int × Int × Int => (⟨[(5, .ptr 5 0), (9, .sl 5 (x2.1.map e_Order)), (10, .ptr 10 0), (11, .i v2.1), (12, .i v2.2), (13, .i v9.1), (14, .i v9.2.1), (15, .i v9.2.2)], [(5, (c_Board (lget x1.1 (w64 ((x1.1.length : Int) - 1))))), (10, (c_Fault x2.2))], [], [], []⟩ : S)) [] hF (by kernel_rfl) ?_
       intro n1 v9 y1 hF ih1 dn1
       unfold law_BalanceEven_B3 at hF
       refine NR [.nat (((lget x1.1 (w64 ((x1.1.length : Int) - 1))).Hosts).length : Int)] [5, 9, 10, 11, 12, 13, 14, 15, 101] [5, 10] [] [(101, .bool (decide (v9.2.2 < (((lget x1.1 (w64 ((x1.1.length : Int) - 1))).Hosts).length : Int))))] (hc (len_ok e_Host ((lget x1.1 (w64 ((x1.1.length : Int) - 1))).Hosts)) .nil) ?_
       refine Nif hF (fun hb hF => ?_) (fun hb hF => ?_)
       ·refine Nblk ?_
        obtain ⟨x6, h14, hF⟩ := ob_elim hF
        obtain ⟨h15, hF⟩ := asrt_elim hF
        refine NR [.call (.sl 1 (x6.map e_i64)), .av (e_i64 (lget x6 v9.2.2))] [5, 9, 10, 11, 12, 13, 14, 15, 16] [5, 10] [] [(16, .i (lget x6 v9.2.2))] (hc (law_loads_v1_ok (⟨(lget x1.1 (w64 ((x1.1.length : Int) - 1))).Hosts, (lget x1.1 (w64 ((x1.1.length : Int) - 1))).Slots, (lget x1.1 (w64 ((x1.1.length : Int) - 1))).Turn, (lget x1.1 (w64 ((x1.1.length : Int) - 1))).Next⟩ : Board) x6 h14) (hc (idx_ok e_i64 h15) .nil)) ?_
        obtain ⟨h16, hF⟩ := asrt_elim hF
        refine NR [.av (e_Host (lget ((lget x1.1 (w64 ((x1.1.length : Int) - 1))).Hosts) v9.2.2))] [5, 9, 10, 11, 12, 13, 14, 15, 16, 119] [5, 10] [] [(119, .bool (((lget ((lget x1.1 (w64 ((x1.1.length : Int) - 1))).Hosts) v9.2.2).Alive) && (decide (v2.1 < (lget x6 v9.2.2)))))] (hc (idx_ok e_Host h16) .nil) ?_
        obtain ⟨v10, hv, hF⟩ := ob_elim hF
        refine Nmeet (⟨[(5, .ptr 5 0), (9, .sl 5 (x2.1.map e_Order)), (10, .ptr 10 0), (11, .i v2.1), (12, .i v2.2), (13, .i v10.1), (14, .i v10.2), (15, .i v9.2.2)], [(5, (c_Board (lget x1.1 (w64 ((x1.1.length : Int) - 1))))), (10, (c_Fault x2.2))], [], [], []⟩ : S) ?_ ?_
        ·have hF := hv
         refine Nif hF (fun hb hF => ?_) (fun hb hF => ?_)
         ·refine NR [] [5, 9, 10, 11, 12, 13, 14, 15] [5, 10] [] [(13, .i (w64 ((w64 (v9.1 + (lget x6 v9.2.2))) - v2.1)))] .nil ?_
          refine NR [] [5, 9, 10, 11, 12, 13, 14, 15] [5, 10] [] [(14, .i (w64 (v9.2.1 + 1)))] .nil ?_
          cases hF
          exact met [] (by kernel_rfl)
         ·cases hF
          exact met [] (by kernel_rfl)
        ·refine NR [] [5, 9, 10, 11, 12, 13, 14, 15] [5, 10] [] [(15, .i (w64 (v9.2.2 + 1)))] .nil ?_
         exact Nrnd [] hF ih1 (by kernel_rfl)
       ·refine Nexit rfl ?_
        have hF := inrO_done hF dn1
        exact metP (v9.1, v9.2.1) [] hF (by kernel_rfl)
      ·intro v3 hF
       have hF : law_BalanceEven_J3 x1 x2 v2 v3 = some r := hF
       unfold law_BalanceEven_J3 at hF
       refine NR [] [5, 9, 10, 11, 12, 13, 14, 129] [5, 10] [] [(129, .bool (decide (v2.2 < v3.2)))] .nil ?_
       obtain ⟨v4, hv, hF⟩ := ob_elim hF
       refine Nmeet (⟨[(5, .ptr 5 0), (9, .sl 5 (x2.1.map e_Order)), (10, .ptr 10 0), (11, .i v2.1), (12, .i v2.2), (13, .i v3.1), (14, .i v4)], [(5, (c_Board (lget x1.1 (w64 ((x1.1.length : Int) - 1))))), (10, (c_Fault x2.2))], [], [], []⟩ : S) ?_ ?_
       ·have hF := hv
        refine Nif hF (fun hb hF => ?_) (fun hb hF => ?_)
        ·refine NR [] [5, 9, 10, 11, 12, 13, 14] [5, 10] [] [(14, .i v2.2)] .nil ?_
         cases hF
         exact met [] (by kernel_rfl)
        ·cases hF
         exact met [] (by kernel_rfl)
       ·refine NR [.nat (x2.1.length : Int)] [5, 9, 10, 11, 12, 136] [5, 10] [] [(136, .bool (!decide ((x2.1.length : Int) = (w64 (v3.1 - v4)))))] (hc (len_ok e_Order x2.1) .nil) ?_
        refine Nif hF (fun hb hF => ?_) (fun hb hF => ?_)
        ·refine NR [] [2] [] [] [(2, .bool false)] .nil ?_
         cases hF
         exact Wk_ret (hfin _ ⟨[], [], [], [], [], [], by kernel_rfl⟩)
        ·refine NR [] [5, 9, 10, 11, 12, 17] [5, 10] [] [(17, .i 0)] .nil ?_
         refine NmeetP (fun v5 : Board => (⟨[(5, .ptr 5 0), (10, .ptr 10 0), (11, .i v2.1), (12, .i v2.2)], [(5, (c_Board v5)), (10, (c_Fault x2.2))], [], [], []⟩ : S)) (fun v5 => law_BalanceEven_J4 v2 v5 = some r) ?_ ?_
         ·refine Nblk ?_
          unfold law_BalanceEven_L2 at hF
          refine Niter (fun v8 : Board × Int => (⟨[(5, .ptr 5 0), (9, .sl 5 (x2.1.map e_Order)), (10, .ptr 10 0), (11, .i v2.1), (12, .i v2.2), (17, .i v8.2)], [(5, (c_Board v8.1)), (10, (c_Fault x2.2))], [], [], []⟩ : S)) [] hF (by kernel_rfl) ?_
          intro n1 v8 y1 hF ih1 dn1
          unfold law_BalanceEven_B2 at hF
          refine NR [.nat (x2.1.length : Int)] [5, 9, 10, 11, 12, 17, 140] [5, 10] [] [(140, .bool (decide (v8.2 < (x2.1.length : Int))))] (hc (len_ok e_Order x2.1) .nil) ?_
          refine Nif hF (fun hb hF => ?_) (fun hb hF => ?_)
          ·refine Nblk ?_
           obtain ⟨h12, hF⟩ := asrt_elim hF
           obtain ⟨x5, h13, hF⟩ := ob_elim hF
           refine VD [.av (e_Order (lget x2.1 v8.2)), .call (.tup [.agg (c_Board x5.1), .agg (c_Fault x5.2)])] [5, 9, 10, 11, 12, 17, 18, 19] [5, 10, 18, 19] [] [] [(18, .ptr 18 0), (19, .ptr 19 0)] [(18, (c_Board x5.1)), (19, (c_Fault x5.2))] [] [] (hc (idx_ok e_Order h12) (hc (balance_Move_ok v8.1 (⟨(lget x2.1 v8.2).Kind, (lget x2.1 v8.2).ID, (lget x2.1 v8.2).Host, (lget x2.1 v8.2).Turn, (lget x2.1 v8.2).Row⟩ : Order) x5 h13) .nil)) ?_
           refine NR [.nat (x5.1.Slots.length : Int), .nat (v8.1.Slots.length : Int)] [5, 9, 10, 11, 12, 17, 18, 163] [5, 10, 18] [] [(163, .bool ((!decide (x5.2.Code = 0)) || (!decide ((x5.1.Slots.length : Int) = (v8.1.Slots.length : Int)))))] (hc (fun (_ : (!(!decide (x5.2.Code = 0))) = true) => (len_ok e_Slot x5.1.Slots)) (hc (fun (_ : (!(!decide (x5.2.Code = 0))) = true) => (len_ok e_Slot v8.1.Slots)) .nil)) ?_
           refine Nif hF (fun hb hF => ?_) (fun hb hF => ?_)
           ·refine NR [] [2] [] [] [(2, .bool false)] .nil ?_
            have hF := ret_done hF dn1
            cases hF
            exact Wk_ret (hfin _ ⟨[], [], [], [], [], [], by kernel_rfl⟩)
           ·refine VR [] [5, 9, 10, 11, 12, 17] [5, 10] [] [] [] [(5, (c_Board x5.1))] [] [] .nil ?_
            refine NR [] [5, 9, 10, 11, 12, 17] [5, 10] [] [(17, .i (w64 (v8.2 + 1)))] .nil ?_
            exact Nrnd [] hF ih1 (by kernel_rfl)
          ·refine Nexit rfl ?_
           have hF := inrO_done hF dn1
           exact metP v8.1 [] hF (by kernel_rfl)
         ·intro v5 hF
          have hF : law_BalanceEven_J4 v2 v5 = some r := hF
          unfold law_BalanceEven_J4 at hF
          obtain ⟨x3, h6, hF⟩ := ob_elim hF
          refine NR [.call (.sl 1 (x3.map e_i64))] [5, 10, 11, 12, 20] [5, 10] [] [(20, .sl 1 (x3.map e_i64))] (hc (law_loads_v1_ok v5 x3 h6) .nil) ?_
          refine NR [] [5, 10, 11, 12, 20, 21] [5, 10] [] [(21, .i 0)] .nil ?_
          refine NmeetP (fun v6 : Unit => (⟨[(5, .ptr 5 0), (10, .ptr 10 0)], [(5, (c_Board v5)), (10, (c_Fault x2.2))], [], [], []⟩ : S)) (fun v6 => law_BalanceEven_J5 v5 v6 = some r) ?_ ?_
          ·refine Nblk ?_
           unfold law_BalanceEven_L1 at hF
           refine Niter (fun v7 : Int => (⟨[(5, .ptr 5 0), (10, .ptr 10 0), (11, .i v2.1), (12, .i v2.2), (20, .sl 1 (x3.map e_i64)), (21, .i v7)], [(5, (c_Board v5)), (10, (c_Fault x2.2))], [], [], []⟩ : S)) [] hF (by kernel_rfl) ?_
           intro n1 v7 y1 hF ih1 dn1
           unfold law_BalanceEven_B1 at hF
           refine NR [.nat (v5.Hosts.length : Int)] [5, 10, 11, 12, 20, 21, 171] [5, 10] [] [(171, .bool (decide (v7 < (v5.Hosts.length : Int))))] (hc (len_ok e_Host v5.Hosts) .nil) ?_
           refine Nif hF (fun hb hF => ?_) (fun hb hF => ?_)
           ·refine Nblk ?_
            obtain ⟨h8, h9, h10, h11, hF⟩ := asrt4 hF
            refine NR [.av (e_Host (lget v5.Hosts v7)), .av (e_i64 (lget x3 v7)), .av (e_i64 (lget x3 v7)), .av (e_i64 (lget x3 v7))] [5, 10, 11, 12, 20, 21, 208] [5, 10] [] [(208, .bool (((lget v5.Hosts v7).Alive) && (((decide ((lget x3 v7) < v2.1)) || (decide ((w64 (v2.1 + 1)) < (lget x3 v7)))) || ((decide (v2.2 = 0)) && (decide (v2.1 < (lget x3 v7)))))))] (hc (idx_ok e_Host h8) (hc (fun (ga0 : ((lget v5.Hosts v7).Alive) = true) => (idx_ok e_i64 (h9 ga0))) (hc (fun (ga0 : (!(decide ((lget x3 v7) < v2.1))) = true) (ga1 : ((lget v5.Hosts v7).Alive) = true) => (idx_ok e_i64 (h10 ga0 ga1))) (hc (fun (ga0 : (decide (v2.2 = 0)) = true) (ga1 : (!((decide ((lget x3 v7) < v2.1)) || (decide ((w64 (v2.1 + 1)) < (lget x3 v7))))) = true) (ga2 : ((lget v5.Hosts v7).Alive) = true) => (idx_ok e_i64 (h11 ga0 ga1 ga2))) .nil)))) ?_
            refine Nif hF (fun hb hF => ?_) (fun hb hF => ?_)
            ·refine NR [] [2] [] [] [(2, .bool false)] .nil ?_
             have hF := ret_done hF dn1
             cases hF
             exact Wk_ret (hfin _ ⟨[], [], [], [], [], [], by kernel_rfl⟩)
            ·refine NR [] [5, 10, 11, 12, 20, 21] [5, 10] [] [(21, .i (w64 (v7 + 1)))] .nil ?_
             exact Nrnd [] hF ih1 (by kernel_rfl)
           ·refine Nexit rfl ?_
            have hF := inrO_done hF dn1
            exact metP () [] hF (by kernel_rfl)
          ·intro v6 hF
           have hF : law_BalanceEven_J5 v5 v6 = some r := hF
           unfold law_BalanceEven_J5 at hF
           obtain ⟨x4, h7, hF⟩ := ob_elim hF
           refine VR [.call (.tup [.sl 5 (x4.1.map e_Order), .agg (c_Fault x4.2)])] [9, 10] [10] [] [] [(9, .sl 5 (x4.1.map e_Order))] [(10, (c_Fault x4.2))] [] [] (hc (balance_Moves_v1_ok v5 x4 h7) .nil) ?_
           refine NR [.nat (x4.1.length : Int)] [2] [] [] [(2, .bool ((decide (x4.2.Code = 0)) && (decide ((x4.1.length : Int) = 0))))] (hc (fun (_ : (decide (x4.2.Code = 0)) = true) => (len_ok e_Order x4.1)) .nil) ?_
           cases hF
           exact Wk_ret (hfin _ ⟨[], [], [], [], [], [], by kernel_rfl⟩)

end G
end Go.Proofs.Ytdjlninhfndjfaa
