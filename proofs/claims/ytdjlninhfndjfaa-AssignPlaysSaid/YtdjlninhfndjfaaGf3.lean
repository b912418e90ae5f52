/- The program's functions as plain functions, and that they are these. Written by a program (dec2.py). -/
import Derived.Test.YtdjlninhfndjfaaGf2
namespace Go.Proofs.Ytdjlninhfndjfaa
open Go Go.Dm
set_option linter.unusedVariables false
set_option linter.unusedSimpArgs false
set_option maxRecDepth 100000
namespace G
/- tabularyref.Ordered -/
noncomputable def R_Ordered_v1_J1 (x : Fault) (x1 : List Host × List Slot × Int × Int) (v1 : List Host) (v2 : List Slot) : Option (Board × Fault) :=
 some ((⟨v1, v2, x1.2.2.1, x1.2.2.2⟩ : Board), x)
noncomputable def R_Ordered_v1_B1 (o : Order) (x : Fault) (x1 : List Host × List Slot × Int × Int) (v1 : List Host) (v3 : List Slot × Int) : Option ((List Slot × Int) ⊕ (Board × Fault)) :=
 if (decide (v3.2 < (v3.1.length : Int))) = true then
  asrt (0 ≤ v3.2 ∧ v3.2 < (v3.1.length : Int)) <|
  asrt (0 ≤ v3.2 ∧ v3.2 < (v3.1.length : Int)) <|
  ob (
   if (decide (((lget v3.1 v3.2).Host) = o.ID)) = true then
    asrt (0 ≤ v3.2 ∧ v3.2 < (v3.1.length : Int)) <|
    asrt (0 ≤ v3.2 ∧ v3.2 < (v3.1.length : Int)) <|
    lt ((lset v3.1 v3.2 (⟨(⟨((lget v3.1 v3.2).Part).From, ((lget v3.1 v3.2).Part).To, ((lget v3.1 v3.2).Part).ID⟩ : Part), (lget v3.1 v3.2).State, 0, (lget v3.1 v3.2).Turn⟩ : Slot))) fun (v5 : List Slot) =>
    asrt (0 ≤ v3.2 ∧ v3.2 < (v5.length : Int)) <|
    asrt (0 ≤ v3.2 ∧ v3.2 < (v5.length : Int)) <|
    lt ((lset v5 v3.2 (⟨(⟨((lget v5 v3.2).Part).From, ((lget v5 v3.2).Part).To, ((lget v5 v3.2).Part).ID⟩ : Part), 0, (lget v5 v3.2).Host, (lget v5 v3.2).Turn⟩ : Slot))) fun (v6 : List Slot) =>
    some v6
   else
    some v3.1) fun (v4 : List Slot) =>
  some (Sum.inl (v4, w64 (v3.2 + 1)))
 else
  inrO (R_Ordered_v1_J1 x x1 v1 v3.1)
noncomputable def R_Ordered_v1_L1 (o : Order) (x : Fault) (x1 : List Host × List Slot × Int × Int) (v1 : List Host) (v0 : List Slot × Int) : Option (Board × Fault) :=
 loopO (fun y => R_Ordered_v1_B1 o x x1 v1 y) v0
noncomputable def R_Ordered_v1_J2 (x : Fault) (x1 : List Host × List Slot × Int × Int) (v7 : List Slot × Int × Int) : Option (Board × Fault) :=
 if (decide (1000000000 < v7.2.2)) = true then
  lt (R_F 9 0) fun x18 =>
  some ((⟨([] : List Host), ([] : List Slot), 0, 0⟩ : Board), x18)
 else
  some ((⟨x1.1, v7.1, v7.2.1, v7.2.2⟩ : Board), x)
noncomputable def R_Ordered_v1 (b : Board) (o : Order) : Option (Board × Fault) :=
 ob (R_BoardFault b) fun x =>
 if (!decide (x.Code = 0)) = true then
  some ((⟨([] : List Host), ([] : List Slot), 0, 0⟩ : Board), x)
 else
  ob (R_CopyBoard b) fun x1 =>
  if ((decide (o.Kind < 1)) || (decide (8 < o.Kind))) = true then
   lt (R_F 4 0) fun x2 =>
   some ((⟨([] : List Host), ([] : List Slot), 0, 0⟩ : Board), x2)
  else
   if (decide (o.Kind = 1)) = true then
    lt (R_One o.ID) fun x3 =>
    if (!x3) = true then
     lt (R_F 3 (-1)) fun x4 =>
     some ((⟨([] : List Host), ([] : List Slot), 0, 0⟩ : Board), x4)
    else
     ob (R_HostIn b o.ID true) fun x5 =>
     if (decide (0 ≤ x5)) = true then
      lt (R_F 10 (-1)) fun x6 =>
      some ((⟨([] : List Host), ([] : List Slot), 0, 0⟩ : Board), x6)
     else
      ob (R_HostIn b o.ID false) fun x7 =>
      if (decide (x7 < 0)) = true then
       if (decide (20 ≤ (b.Hosts.length : Int))) = true then
        lt (R_F 2 (-1)) fun x8 =>
        some ((⟨([] : List Host), ([] : List Slot), 0, 0⟩ : Board), x8)
       else
        asrt (((x1.1 ++ [(⟨o.ID, 1, true⟩ : Host)]).length : Int) * 24 ≤ 140737488351232) <|
        some ((⟨(x1.1 ++ [(⟨o.ID, 1, true⟩ : Host)]), x1.2.1, x1.2.2.1, x1.2.2.2⟩ : Board), x)
      else
       asrt (0 ≤ x7 ∧ x7 < (b.Hosts.length : Int)) <|
       if (decide (1000000000 ≤ ((lget b.Hosts x7).Epoch))) = true then
        lt (R_F 9 0) fun x9 =>
        some ((⟨([] : List Host), ([] : List Slot), 0, 0⟩ : Board), x9)
       else
        asrt (0 ≤ x7 ∧ x7 < (b.Hosts.length : Int)) <|
        asrt (0 ≤ x7 ∧ x7 < (x1.1.length : Int)) <|
        asrt (0 ≤ x7 ∧ x7 < (x1.1.length : Int)) <|
        lt ((lset x1.1 x7 (⟨o.ID, w64 (((lget b.Hosts x7).Epoch) + 1), true⟩ : Host))) fun (v : List Host) =>
        some ((⟨v, x1.2.1, x1.2.2.1, x1.2.2.2⟩ : Board), x)
   else
    if (decide (o.Kind = 2)) = true then
     ob (R_HostIn b o.ID true) fun x10 =>
     if (decide (x10 < 0)) = true then
      lt (R_F 6 (-1)) fun x11 =>
      some ((⟨([] : List Host), ([] : List Slot), 0, 0⟩ : Board), x11)
     else
      asrt (0 ≤ x10 ∧ x10 < (x1.1.length : Int)) <|
      asrt (0 ≤ x10 ∧ x10 < (x1.1.length : Int)) <|
      lt ((lset x1.1 x10 (⟨(lget x1.1 x10).ID, (lget x1.1 x10).Epoch, false⟩ : Host))) fun (v1 : List Host) =>
      R_Ordered_v1_L1 o x x1 v1 (x1.2.1, 0)
    else
     ob (R_SlotIn b o.ID) fun x12 =>
     if ((decide (x12 < 0)) || ((decide (o.Kind = 8)) && (decide ((b.Slots.length : Int) ≤ (w64 (x12 + 1)))))) = true then
      lt (R_F 6 (-1)) fun x13 =>
      some ((⟨([] : List Host), ([] : List Slot), 0, 0⟩ : Board), x13)
     else
      asrt (0 ≤ x12 ∧ x12 < (b.Slots.length : Int)) <|
      ob (if (decide (o.Kind = 3)) = true then (R_HostIn b o.Host true) else some default) fun x14 =>
      if ((decide (o.Kind = 3)) && (decide (x14 < 0))) = true then
       lt (R_F 6 (-2)) fun x15 =>
       some ((⟨([] : List Host), ([] : List Slot), 0, 0⟩ : Board), x15)
      else
       if (((decide (o.Kind = 4)) || (decide (o.Kind = 6))) && ((!decide (((lget b.Slots x12).Host) = o.Host)) || (!decide (((lget b.Slots x12).Turn) = o.Turn)))) = true then
        lt (R_F 12 (-1)) fun x16 =>
        some ((⟨([] : List Host), ([] : List Slot), 0, 0⟩ : Board), x16)
       else
        asrt (0 ≤ o.Kind ∧ o.Kind < (([0, 0, 0, 0, 1, 2, 3, 0, 0] : List Int).length : Int)) <|
        asrt ((decide (o.Kind = 8)) = true → (!(!decide (((lget b.Slots x12).State) = (lget ([0, 0, 0, 0, 1, 2, 3, 0, 0] : List Int) o.Kind)))) = true → 0 ≤ w64 (x12 + 1) ∧ w64 (x12 + 1) < (b.Slots.length : Int)) <|
        if ((!decide (((lget b.Slots x12).State) = (lget ([0, 0, 0, 0, 1, 2, 3, 0, 0] : List Int) o.Kind))) || ((decide (o.Kind = 8)) && (!decide (((lget b.Slots (w64 (x12 + 1))).State) = 0)))) = true then
         lt (R_F 11 (-1)) fun x17 =>
         some ((⟨([] : List Host), ([] : List Slot), 0, 0⟩ : Board), x17)
        else
         if (decide (o.Kind = 3)) = true then
          if (decide (1000000000 ≤ b.Turn)) = true then
           lt (R_F 9 0) fun x19 =>
           some ((⟨([] : List Host), ([] : List Slot), 0, 0⟩ : Board), x19)
          else
           asrt (0 ≤ x12 ∧ x12 < (x1.2.1.length : Int)) <|
           asrt (0 ≤ x12 ∧ x12 < (x1.2.1.length : Int)) <|
           lt ((lset x1.2.1 x12 (⟨(⟨((lget b.Slots x12).Part).From, ((lget b.Slots x12).Part).To, ((lget b.Slots x12).Part).ID⟩ : Part), 1, o.Host, w64 (b.Turn + 1)⟩ : Slot))) fun (v8 : List Slot) =>
           R_Ordered_v1_J2 x x1 (v8, w64 (b.Turn + 1), x1.2.2.2)
         else
          if (decide (o.Kind = 4)) = true then
           asrt (0 ≤ x12 ∧ x12 < (x1.2.1.length : Int)) <|
           asrt (0 ≤ x12 ∧ x12 < (x1.2.1.length : Int)) <|
           lt ((lset x1.2.1 x12 (⟨(⟨((lget x1.2.1 x12).Part).From, ((lget x1.2.1 x12).Part).To, ((lget x1.2.1 x12).Part).ID⟩ : Part), 2, (lget x1.2.1 x12).Host, (lget x1.2.1 x12).Turn⟩ : Slot))) fun (v9 : List Slot) =>
           R_Ordered_v1_J2 x x1 (v9, x1.2.2.1, x1.2.2.2)
          else
           if (decide (o.Kind = 5)) = true then
            asrt (0 ≤ x12 ∧ x12 < (x1.2.1.length : Int)) <|
            asrt (0 ≤ x12 ∧ x12 < (x1.2.1.length : Int)) <|
            lt ((lset x1.2.1 x12 (⟨(⟨((lget x1.2.1 x12).Part).From, ((lget x1.2.1 x12).Part).To, ((lget x1.2.1 x12).Part).ID⟩ : Part), 3, (lget x1.2.1 x12).Host, (lget x1.2.1 x12).Turn⟩ : Slot))) fun (v10 : List Slot) =>
            R_Ordered_v1_J2 x x1 (v10, x1.2.2.1, x1.2.2.2)
           else
            if (decide (o.Kind = 6)) = true then
             asrt (0 ≤ x12 ∧ x12 < (x1.2.1.length : Int)) <|
             asrt (0 ≤ x12 ∧ x12 < (x1.2.1.length : Int)) <|
             lt ((lset x1.2.1 x12 (⟨(⟨((lget b.Slots x12).Part).From, ((lget b.Slots x12).Part).To, ((lget b.Slots x12).Part).ID⟩ : Part), 0, 0, (lget b.Slots x12).Turn⟩ : Slot))) fun (v11 : List Slot) =>
             R_Ordered_v1_J2 x x1 (v11, x1.2.2.1, x1.2.2.2)
            else
             if (decide (o.Kind = 7)) = true then
              if (decide (40 < (o.Row.length : Int))) = true then
               lt (R_F 8 (-2)) fun x20 =>
               some ((⟨([] : List Host), ([] : List Slot), 0, 0⟩ : Board), x20)
              else
               lt (R_InPart (⟨((lget b.Slots x12).Part).From, ((lget b.Slots x12).Part).To, ((lget b.Slots x12).Part).ID⟩ : Part) o.Row) fun x21 =>
               if ((decide (o.Row = (((lget b.Slots x12).Part).From))) || (!x21)) = true then
                lt (R_F 5 (-2)) fun x22 =>
                some ((⟨([] : List Host), ([] : List Slot), 0, 0⟩ : Board), x22)
               else
                if (decide (200 ≤ (b.Slots.length : Int))) = true then
                 lt (R_F 2 (-1)) fun x23 =>
                 some ((⟨([] : List Host), ([] : List Slot), 0, 0⟩ : Board), x23)
                else
                 ob (R_SlotsInstead b.Slots x12 1 [(⟨(⟨((lget b.Slots x12).Part).From, o.Row, b.Next⟩ : Part), 0, 0, 0⟩ : Slot), (⟨(⟨o.Row, ((lget b.Slots x12).Part).To, w64 (b.Next + 1)⟩ : Part), 0, 0, 0⟩ : Slot)]) fun x24 =>
                 R_Ordered_v1_J2 x x1 (x24, x1.2.2.1, w64 (b.Next + 2))
             else
              if (decide (o.Kind = 8)) = true then
               asrt (0 ≤ w64 (x12 + 1) ∧ w64 (x12 + 1) < (b.Slots.length : Int)) <|
               ob (R_SlotsInstead b.Slots x12 2 [(⟨(⟨((lget b.Slots x12).Part).From, ((lget b.Slots (w64 (x12 + 1))).Part).To, b.Next⟩ : Part), 0, 0, 0⟩ : Slot)]) fun x25 =>
               R_Ordered_v1_J2 x x1 (x25, x1.2.2.1, w64 (b.Next + 1))
              else
               R_Ordered_v1_J2 x x1 (x1.2.1, x1.2.2.1, x1.2.2.2)

/- tabularyref.LoadOf -/
noncomputable def R_LoadOf_J1 (v : Int) : Option Int :=
 some v
noncomputable def R_LoadOf_B1 (b : Board) (id : Int) (v1 : Int × Int) : Option ((Int × Int) ⊕ Int) :=
 if (decide (v1.2 < (b.Slots.length : Int))) = true then
  asrt (0 ≤ v1.2 ∧ v1.2 < (b.Slots.length : Int)) <|
  asrt ((decide (0 < ((lget b.Slots v1.2).State))) = true → 0 ≤ v1.2 ∧ v1.2 < (b.Slots.length : Int)) <|
  ob (
   if ((decide (0 < ((lget b.Slots v1.2).State))) && (decide (((lget b.Slots v1.2).Host) = id))) = true then
    some (w64 (v1.1 + 1))
   else
    some v1.1) fun (v2 : Int) =>
  some (Sum.inl (v2, w64 (v1.2 + 1)))
 else
  inrO (R_LoadOf_J1 v1.1)
noncomputable def R_LoadOf_L1 (b : Board) (id : Int) (v0 : Int × Int) : Option Int :=
 loopO (fun y => R_LoadOf_B1 b id y) v0
noncomputable def R_LoadOf (b : Board) (id : Int) : Option Int :=
 R_LoadOf_L1 b id (0, 0)

/- tabularyref.DueOrders -/
noncomputable def R_DueOrders_v1_J1 (v : List Order) : Option (List Order) :=
 some v
noncomputable def R_DueOrders_v1_J2 (v1 : List Order × List Slot × Int) (v2 : List Order × List Slot) : Option ((List Order × List Slot × Int) ⊕ (List Order)) :=
 some (Sum.inl (v2.1, v2.2, w64 (v1.2.2 + 1)))
noncomputable def R_DueOrders_v1_J3 (v1 : List Order × List Slot × Int) (v3 : Int) : Option ((List Order × List Slot × Int) ⊕ (List Order)) :=
 if (decide (0 < v3)) = true then
  asrt (0 ≤ v1.2.2 ∧ v1.2.2 < (v1.2.1.length : Int)) <|
  asrt (0 ≤ v1.2.2 ∧ v1.2.2 < (v1.2.1.length : Int)) <|
  lt ((lset v1.2.1 v1.2.2 (⟨(⟨((lget v1.2.1 v1.2.2).Part).From, ((lget v1.2.1 v1.2.2).Part).To, ((lget v1.2.1 v1.2.2).Part).ID⟩ : Part), 1, (lget v1.2.1 v1.2.2).Host, (lget v1.2.1 v1.2.2).Turn⟩ : Slot))) fun (v4 : List Slot) =>
  asrt (0 ≤ v1.2.2 ∧ v1.2.2 < (v4.length : Int)) <|
  asrt (0 ≤ v1.2.2 ∧ v1.2.2 < (v4.length : Int)) <|
  lt ((lset v4 v1.2.2 (⟨(⟨((lget v4 v1.2.2).Part).From, ((lget v4 v1.2.2).Part).To, ((lget v4 v1.2.2).Part).ID⟩ : Part), (lget v4 v1.2.2).State, v3, (lget v4 v1.2.2).Turn⟩ : Slot))) fun (v5 : List Slot) =>
  asrt (0 ≤ v1.2.2 ∧ v1.2.2 < (v5.length : Int)) <|
  asrt (0 ≤ v1.2.2 ∧ v1.2.2 < (v5.length : Int)) <|
  asrt (((v1.1 ++ [(⟨3, ((lget v5 v1.2.2).Part).ID, v3, 0, ([] : List UInt8)⟩ : Order)]).length : Int) * 48 ≤ 140737488351232) <|
  lt ((v1.1 ++ [(⟨3, ((lget v5 v1.2.2).Part).ID, v3, 0, ([] : List UInt8)⟩ : Order)])) fun (v6 : List Order) =>
  R_DueOrders_v1_J2 v1 (v6, v5)
 else
  R_DueOrders_v1_J2 v1 (v1.1, v1.2.1)
noncomputable def R_DueOrders_v1_B2 (x : List Host × List Slot × Int × Int) (v1 : List Order × List Slot × Int) (v7 : Int × Int) : Option ((Int × Int) ⊕ ((List Order × List Slot × Int) ⊕ (List Order))) :=
 if (decide (v7.2 < (x.1.length : Int))) = true then
  asrt (0 ≤ v7.2 ∧ v7.2 < (x.1.length : Int)) <|
  asrt (0 ≤ v7.2 ∧ v7.2 < (x.1.length : Int)) <|
  ob (if (!(decide (v7.1 = 0))) = true then (if ((lget x.1 v7.2).Alive) = true then (R_LoadOf (⟨x.1, v1.2.1, x.2.2.1, x.2.2.2⟩ : Board) ((lget x.1 v7.2).ID)) else some default) else some default) fun x1 =>
  ob (if (!(decide (v7.1 = 0))) = true then (if ((lget x.1 v7.2).Alive) = true then (R_LoadOf (⟨x.1, v1.2.1, x.2.2.1, x.2.2.2⟩ : Board) v7.1) else some default) else some default) fun x2 =>
  ob (if (!((decide (v7.1 = 0)) || (decide (x1 < x2)))) = true then (if ((lget x.1 v7.2).Alive) = true then (R_LoadOf (⟨x.1, v1.2.1, x.2.2.1, x.2.2.2⟩ : Board) ((lget x.1 v7.2).ID)) else some default) else some default) fun x3 =>
  ob (if (!((decide (v7.1 = 0)) || (decide (x1 < x2)))) = true then (if ((lget x.1 v7.2).Alive) = true then (R_LoadOf (⟨x.1, v1.2.1, x.2.2.1, x.2.2.2⟩ : Board) v7.1) else some default) else some default) fun x4 =>
  ob (
   if (((lget x.1 v7.2).Alive) && (((decide (v7.1 = 0)) || (decide (x1 < x2))) || ((decide (x3 = x4)) && (decide (((lget x.1 v7.2).ID) < v7.1))))) = true then
    some ((lget x.1 v7.2).ID)
   else
    some v7.1) fun (v8 : Int) =>
  some (Sum.inl (v8, w64 (v7.2 + 1)))
 else
  inrO (R_DueOrders_v1_J3 v1 v7.1)
noncomputable def R_DueOrders_v1_L2 (x : List Host × List Slot × Int × Int) (v1 : List Order × List Slot × Int) (v0 : Int × Int) : Option ((List Order × List Slot × Int) ⊕ (List Order)) :=
 loopO (fun y => R_DueOrders_v1_B2 x v1 y) v0
noncomputable def R_DueOrders_v1_B1 (x : List Host × List Slot × Int × Int) (v1 : List Order × List Slot × Int) : Option ((List Order × List Slot × Int) ⊕ (List Order)) :=
 if (decide (v1.2.2 < (v1.2.1.length : Int))) = true then
  asrt (0 ≤ v1.2.2 ∧ v1.2.2 < (v1.2.1.length : Int)) <|
  asrt (0 ≤ v1.2.2 ∧ v1.2.2 < (v1.2.1.length : Int)) <|
  if (!decide (((lget v1.2.1 v1.2.2).State) = 0)) = true then
   R_DueOrders_v1_J2 v1 (v1.1, v1.2.1)
  else
   R_DueOrders_v1_L2 x v1 (0, 0)
 else
  inrO (R_DueOrders_v1_J1 v1.1)
noncomputable def R_DueOrders_v1_L1 (x : List Host × List Slot × Int × Int) (v0 : List Order × List Slot × Int) : Option (List Order) :=
 loopO (fun y => R_DueOrders_v1_B1 x y) v0
noncomputable def R_DueOrders_v1 (b : Board) : Option (List Order) :=
 ob (R_CopyBoard b) fun x =>
 R_DueOrders_v1_L1 x (([] : List Order), x.2.1, 0)

/- tabularylaw.AssignDoes -/
noncomputable def law_AssignDoes (b : Board) (o : Order) : Option Bool :=
 ob (law_assignBegun) fun x =>
 if (!x) = true then
  some false
 else
  lt (law_vastBoard b) fun x1 =>
  if x1 = true then
   some true
  else
   ob (R_CopyBoard_v1 b) fun x2 =>
   ob (assign_Check x2) fun x3 =>
   ob (assign_Do_v1 x2 o) fun x4 =>
   ob (assign_Due_v1 x2) fun x5 =>
   ob (R_BoardFault b) fun x6 =>
   ob (R_SameBoard x2 b) fun x7 =>
   if (((!x7) || (!(decide (x3.Code = x6.Code) && (decide (x3.At = x6.At) && true)))) || (!(decide (x5.2.Code = x6.Code) && (decide (x5.2.At = x6.At) && true)))) = true then
    some false
   else
    ob (R_Ordered_v1 b o) fun x8 =>
    ob (if (!(!(decide (x4.2.Code = x8.2.Code) && (decide (x4.2.At = x8.2.At) && true)))) = true then (R_SameBoard x4.1 x8.1) else some default) fun x9 =>
    if ((!(decide (x4.2.Code = x8.2.Code) && (decide (x4.2.At = x8.2.At) && true))) || (!x9)) = true then
     some false
    else
     if (!decide (x6.Code = 0)) = true then
      some (decide ((x5.1.length : Int) = 0))
     else
      ob (R_DueOrders_v1 b) fun x10 =>
      ob (R_SameOrders x5.1 x10) fun x11 =>
      some x11

/- tabularylaw.AssignKeeps -/
noncomputable def law_AssignKeeps_J1 (v : Unit) : Option Bool :=
 some true
noncomputable def law_AssignKeeps_J2 (v1 : (List (Int × Int)) × (List (Int × Int)) × Board × Int) (v2 : (List (Int × Int)) × (List (Int × Int)) × Board) : Option (((List (Int × Int)) × (List (Int × Int)) × Board × Int) ⊕ Bool) :=
 some (Sum.inl (v2.1, v2.2.1, v2.2.2, w64 (v1.2.2.2 + 1)))
noncomputable def law_AssignKeeps_J3 (v1 : (List (Int × Int)) × (List (Int × Int)) × Board × Int) (x2 : Board × Fault) (v3 : (List (Int × Int)) × (List (Int × Int)) × Int) : Option (((List (Int × Int)) × (List (Int × Int)) × Board × Int) ⊕ Bool) :=
 if (!decide (v3.2.2 = 1)) = true then
  some (Sum.inr false)
 else
  law_AssignKeeps_J2 v1 (v3.1, v3.2.1, x2.1)
noncomputable def law_AssignKeeps_J4 (v4 : (List (Int × Int)) × (List (Int × Int)) × Int × Int) (v5 : (List (Int × Int)) × (List (Int × Int)) × Int) : Option (((List (Int × Int)) × (List (Int × Int)) × Int × Int) ⊕ (((List (Int × Int)) × (List (Int × Int)) × Board × Int) ⊕ Bool)) :=
 some (Sum.inl (v5.1, v5.2.1, v5.2.2, w64 (v4.2.2.2 + 1)))
noncomputable def law_AssignKeeps_B2 (row : List UInt8) (v1 : (List (Int × Int)) × (List (Int × Int)) × Board × Int) (x2 : Board × Fault) (v4 : (List (Int × Int)) × (List (Int × Int)) × Int × Int) : Option (((List (Int × Int)) × (List (Int × Int)) × Int × Int) ⊕ (((List (Int × Int)) × (List (Int × Int)) × Board × Int) ⊕ Bool)) :=
 if (decide (v4.2.2.2 < (x2.1.Slots.length : Int))) = true then
  asrt (0 ≤ v4.2.2.2 ∧ v4.2.2.2 < (x2.1.Slots.length : Int)) <|
  lt (R_InPart (⟨((lget x2.1.Slots v4.2.2.2).Part).From, ((lget x2.1.Slots v4.2.2.2).Part).To, ((lget x2.1.Slots v4.2.2.2).Part).ID⟩ : Part) row) fun x5 =>
  ob (
   if x5 = true then
    some (w64 (v4.2.2.1 + 1))
   else
    some v4.2.2.1) fun (v6 : Int) =>
  if (decide (((lget x2.1.Slots v4.2.2.2).State) = 0)) = true then
   law_AssignKeeps_J4 v4 (v4.1, v4.2.1, v6)
  else
   ob (if (!(((mget v4.1 ((lget x2.1.Slots v4.2.2.2).Turn)).isSome) && ((!decide (((mget v4.1 ((lget x2.1.Slots v4.2.2.2).Turn)).getD (0 : Int)) = ((lget x2.1.Slots v4.2.2.2).Host))) || (!decide (((mget v4.2.1 ((lget x2.1.Slots v4.2.2.2).Turn)).getD (0 : Int)) = (((lget x2.1.Slots v4.2.2.2).Part).ID)))))) = true then (R_HostIn x2.1 ((lget x2.1.Slots v4.2.2.2).Host) true) else some default) fun x6 =>
   if ((((mget v4.1 ((lget x2.1.Slots v4.2.2.2).Turn)).isSome) && ((!decide (((mget v4.1 ((lget x2.1.Slots v4.2.2.2).Turn)).getD (0 : Int)) = ((lget x2.1.Slots v4.2.2.2).Host))) || (!decide (((mget v4.2.1 ((lget x2.1.Slots v4.2.2.2).Turn)).getD (0 : Int)) = (((lget x2.1.Slots v4.2.2.2).Part).ID))))) || (decide (x6 < 0))) = true then
    some (Sum.inr (Sum.inr false))
   else
    lt ((mput v4.1 ((lget x2.1.Slots v4.2.2.2).Turn) ((lget x2.1.Slots v4.2.2.2).Host : Int))) fun (v7 : (List (Int × Int))) =>
    lt ((mput v4.2.1 ((lget x2.1.Slots v4.2.2.2).Turn) (((lget x2.1.Slots v4.2.2.2).Part).ID : Int))) fun (v8 : (List (Int × Int))) =>
    law_AssignKeeps_J4 v4 (v7, v8, v6)
 else
  inrO (law_AssignKeeps_J3 v1 x2 (v4.1, v4.2.1, v4.2.2.1))
noncomputable def law_AssignKeeps_L2 (row : List UInt8) (v1 : (List (Int × Int)) × (List (Int × Int)) × Board × Int) (x2 : Board × Fault) (v0 : (List (Int × Int)) × (List (Int × Int)) × Int × Int) : Option (((List (Int × Int)) × (List (Int × Int)) × Board × Int) ⊕ Bool) :=
 loopO (fun y => law_AssignKeeps_B2 row v1 x2 y) v0
noncomputable def law_AssignKeeps_B1 (orders : List Order) (row : List UInt8) (v1 : (List (Int × Int)) × (List (Int × Int)) × Board × Int) : Option (((List (Int × Int)) × (List (Int × Int)) × Board × Int) ⊕ Bool) :=
 if (decide (v1.2.2.2 < (orders.length : Int))) = true then
  asrt (0 ≤ v1.2.2.2 ∧ v1.2.2.2 < (orders.length : Int)) <|
  ob (assign_Do_v1 v1.2.2.1 (⟨(lget orders v1.2.2.2).Kind, (lget orders v1.2.2.2).ID, (lget orders v1.2.2.2).Host, (lget orders v1.2.2.2).Turn, (lget orders v1.2.2.2).Row⟩ : Order)) fun x2 =>
  if (!decide (x2.2.Code = 0)) = true then
   law_AssignKeeps_J2 v1 (v1.1, v1.2.1, v1.2.2.1)
  else
   asrt (0 ≤ v1.2.2.2 ∧ v1.2.2.2 < (orders.length : Int)) <|
   ob (assign_Do_v1 x2.1 (⟨(lget orders v1.2.2.2).Kind, (lget orders v1.2.2.2).ID, (lget orders v1.2.2.2).Host, (lget orders v1.2.2.2).Turn, (lget orders v1.2.2.2).Row⟩ : Order)) fun x3 =>
   ob (if (!(((decide (x3.2.Code = 0)) || (decide (x2.1.Turn < v1.2.2.1.Turn))) || (decide (x2.1.Next < v1.2.2.1.Next)))) = true then (R_BoardFault x2.1) else some default) fun x4 =>
   if ((((decide (x3.2.Code = 0)) || (decide (x2.1.Turn < v1.2.2.1.Turn))) || (decide (x2.1.Next < v1.2.2.1.Next))) || (!decide (x4.Code = 0))) = true then
    some (Sum.inr false)
   else
    law_AssignKeeps_L2 row v1 x2 (v1.1, v1.2.1, 0, 0)
 else
  inrO (law_AssignKeeps_J1 ())
noncomputable def law_AssignKeeps_L1 (orders : List Order) (row : List UInt8) (v0 : (List (Int × Int)) × (List (Int × Int)) × Board × Int) : Option Bool :=
 loopO (fun y => law_AssignKeeps_B1 orders row y) v0
noncomputable def law_AssignKeeps (orders : List Order) (row : List UInt8) : Option Bool :=
 ob (law_assignBegun) fun x =>
 if (!x) = true then
  some false
 else
  if (decide (150 < (orders.length : Int))) = true then
   some true
  else
   lt (assign_New_v1) fun x1 =>
   law_AssignKeeps_L1 orders row (([] : List (Int × Int)), ([] : List (Int × Int)), x1, 0)

/- assign.Play -/
noncomputable def assign_Play_v1_J1 (v : List Host × List Slot × Int × Int × List Fault) : Option (Board × List Fault × Fault) :=
 some ((⟨v.1, v.2.1, v.2.2.1, v.2.2.2.1⟩ : Board), v.2.2.2.2, (⟨0, 0⟩ : Fault))
noncomputable def assign_Play_v1_B1 (orders : List Order) (v1 : List Host × List Slot × Int × Int × List Fault × Int) : Option ((List Host × List Slot × Int × Int × List Fault × Int) ⊕ (Board × List Fault × Fault)) :=
 if (decide (v1.2.2.2.2.2 < (orders.length : Int))) = true then
  asrt (0 ≤ v1.2.2.2.2.2 ∧ v1.2.2.2.2.2 < (orders.length : Int)) <|
  ob (assign_Do (⟨v1.1, v1.2.1, v1.2.2.1, v1.2.2.2.1⟩ : Board) (⟨(lget orders v1.2.2.2.2.2).Kind, (lget orders v1.2.2.2.2.2).ID, (lget orders v1.2.2.2.2.2).Host, (lget orders v1.2.2.2.2.2).Turn, (lget orders v1.2.2.2.2.2).Row⟩ : Order)) fun x2 =>
  ob (
   if (decide (x2.2.2.2.2.Code = 0)) = true then
    some (x2.1, x2.2.1, x2.2.2.1, x2.2.2.2.1)
   else
    some (v1.1, v1.2.1, v1.2.2.1, v1.2.2.2.1)) fun (v2 : List Host × List Slot × Int × Int) =>
  asrt (((v1.2.2.2.2.1 ++ [x2.2.2.2.2]).length : Int) * 16 ≤ 140737488351232) <|
  some (Sum.inl (v2.1, v2.2.1, v2.2.2.1, v2.2.2.2, (v1.2.2.2.2.1 ++ [x2.2.2.2.2]), w64 (v1.2.2.2.2.2 + 1)))
 else
  inrO (assign_Play_v1_J1 (v1.1, v1.2.1, v1.2.2.1, v1.2.2.2.1, v1.2.2.2.2.1))
noncomputable def assign_Play_v1_L1 (orders : List Order) (v0 : List Host × List Slot × Int × Int × List Fault × Int) : Option (Board × List Fault × Fault) :=
 loopO (fun y => assign_Play_v1_B1 orders y) v0
noncomputable def assign_Play_v1 (orders : List Order) : Option (Board × List Fault × Fault) :=
 if (decide (2000 < (orders.length : Int))) = true then
  lt (assign_fault 2 (-1)) fun x =>
  some ((⟨([] : List Host), ([] : List Slot), 0, 0⟩ : Board), ([] : List Fault), x)
 else
  lt (assign_New) fun x1 =>
  assign_Play_v1_L1 orders (([] : List Host), x1.1, x1.2.1, x1.2.2, ([] : List Fault), 0)
theorem assign_Play_v1_ok (orders : List Order) (r : Board × List Fault × Fault) (hF : assign_Play_v1 orders = some r) : Pe Try.prog 60 S.none [.sl 5 (orders.map e_Order)] (.tup [.agg (c_Board r.1), .sl 2 (r.2.1.map e_Fault), .agg (c_Fault r.2.2)]) S.none := by
 refine PeN (N := 41) (res := [.cell 2 62, .tmp 3, .cell 4 26]) (ts := [62, 55, 26]) Ty.ok Fn.b60 Try.func60 ?_
 intro Q g hfin
 unfold assign_Play_v1 at hF
 refine VR [] [0, 2, 4] [2, 4] [] [] [(2, .ptr 2 0), (4, .ptr 4 0)] [(2, [.nils, .nils, .i 0, .i 0]), (4, [.i 0, .i 0])] [] [] .nil ?_
 refine NR [.nat (orders.length : Int)] [0, 2, 4, 13] [2, 4] [] [(13, .bool (decide (2000 < (orders.length : Int))))] (hc (len_ok e_Order orders) .nil) ?_
 refine Nif hF (fun hb hF => ?_) (fun hb hF => ?_)
 ·obtain ⟨x, h0, hF⟩ := lt_split hF
  refine VR [.callB (.agg (c_Fault x))] [2, 3, 4] [2, 4] [] [] [(3, .nils)] [(4, (c_Fault x))] [] [] (hc (assign_fault_ok 2 (-1) x h0) .nil) ?_
  cases hF
  exact Wk_ret (hfin _ ⟨[], [], [], [], [], [], by kernel_rfl⟩)
 ·obtain ⟨x1, h1, hF⟩ := lt_split hF
  refine VR [.callE [] [] [] [] (.agg [.row 16 0, .sl 6 (x1.1.map e_Slot), .i x1.2.1, .i x1.2.2]) ⟨[], [], [(16, .z 108 3 0 (([] : List Host).map e_Host))], [], []⟩] [0, 2, 4, 5] [2, 4, 5] [16] [] [(5, .ptr 5 0)] [(5, [.row 16 0, .sl 6 (x1.1.map e_Slot), .i x1.2.1, .i x1.2.2])] [(16, .z 108 3 0 (([] : List Host).map e_Host))] [] (hc (Pe.ren (assign_New_ok  x1 h1) ⟨[], [(71000, 16)], [], []⟩) .nil) ?_
  refine NR [] [0, 2, 4, 5, 6] [2, 4, 5] [16] [(6, .nils)] .nil ?_
  refine NR [.nat (orders.length : Int)] [2, 4, 5, 6, 17, 18, 19] [2, 4, 5] [16] [(17, .sl 5 (orders.map e_Order)), (18, .i (orders.length : Int)), (19, .i 0)] (hc (len_ok e_Order orders) .nil) ?_
  refine NmeetP (fun v : List Host × List Slot × Int × Int × List Fault => (⟨[(2, .ptr 2 0), (4, .ptr 4 0), (5, .ptr 5 0), (6, .row 36 0)], [(2, [.nils, .nils, .i 0, .i 0]), (4, [.i 0, .i 0]), (5, [.row 16 0, .sl 6 (v.2.1.map e_Slot), .i v.2.2.1, .i v.2.2.2.1])], [(16, ⟨108, 3, 0, (v.1.map e_Host).length, 0, false, 0, [], (v.1.map e_Host)⟩), (36, .z 26 2 0 (v.2.2.2.2.map e_Fault))], [], []⟩ : S)) (fun v => assign_Play_v1_J1 v = some r) ?_ ?_
  ·refine Nblk ?_
   unfold assign_Play_v1_L1 at hF
   refine Wk_nilrow 6 60000 26 2 rfl rfl rfl ?_
   refine Wk_trim (fs := [2, 4, 5, 6, 17, 18, 19]) (bs := [2, 4, 5]) (rs := [16, 60000]) (ms := []) (aa := []) (nv := []) rfl ?_
   refine Wk_ren' ⟨[], [(60000, 36)], [], []⟩ rfl ?_
   refine Niter (fun v1 : List Host × List Slot × Int × Int × List Fault × Int => (⟨[(2, .ptr 2 0), (4, .ptr 4 0), (5, .ptr 5 0), (6, .row 36 0), (17, .sl 5 (orders.map e_Order)), (18, .i (orders.length : Int)), (19, .i v1.2.2.2.2.2)], [(2, [.nils, .nils, .i 0, .i 0]), (4, [.i 0, .i 0]), (5, [.row 16 0, .sl 6 (v1.2.1.map e_Slot), .i v1.2.2.1, .i v1.2.2.2.1])], [(16, ⟨108, 3, 0, (v1.1.map e_Host).length, 0, false, 0, [], (v1.1.map e_Host)⟩), (36, .z 26 2 0 (v1.2.2.2.2.1.map e_Fault))], [], []⟩ : S)) [(16, ⟨0, true, false, true⟩)] hF (by kernel_rfl) ?_
   intro n1 v1 y1 hF ih1 dn1
   unfold assign_Play_v1_B1 at hF
   refine NR [] [2, 4, 5, 6, 17, 18, 19, 20] [2, 4, 5] [16, 36] [(20, .bool (decide (v1.2.2.2.2.2 < (orders.length : Int))))] .nil ?_
   refine Nif hF (fun hb hF => ?_) (fun hb hF => ?_)
   ·refine Nblk ?_
    obtain ⟨h2, hF⟩ := asrt_elim hF
    refine VR [.av (e_Order (lget orders v1.2.2.2.2.2))] [2, 4, 5, 6, 8, 17, 18, 19] [2, 4, 5, 8] [16, 36] [] [(8, .ptr 8 0)] [(8, (c_Order (lget orders v1.2.2.2.2.2)))] [] [] (hc (idx_ok e_Order h2) .nil) ?_
    obtain ⟨x2, h3, hF⟩ := ob_elim hF
    refine VR [.callE [] [] [] [] (.tup [.agg [.row 26 0, .row 20026 0, .i x2.2.2.1, .i x2.2.2.2.1], .agg (c_Fault x2.2.2.2.2)]) ⟨[], [], [(26, ⟨108, 3, 0, (x2.1.map e_Host).length, 0, false, 0, [], (x2.1.map e_Host)⟩), (20026, ⟨64, 6, 0, (x2.2.1.map e_Slot).length, 0, false, 0, [], (x2.2.1.map e_Slot)⟩)], [], []⟩] [2, 4, 5, 6, 9, 10, 17, 18, 19] [2, 4, 5, 9, 10] [16, 26, 36, 20026] [] [(9, .ptr 9 0), (10, .ptr 10 0)] [(9, [.row 26 0, .row 20026 0, .i x2.2.2.1, .i x2.2.2.2.1]), (10, (c_Fault x2.2.2.2.2))] [(26, ⟨108, 3, 0, (x2.1.map e_Host).length, 0, false, 0, [], (x2.1.map e_Host)⟩), (20026, ⟨64, 6, 0, (x2.2.1.map e_Slot).length, 0, false, 0, [], (x2.2.1.map e_Slot)⟩)] [] (hc (Pe.ren (assign_Do_ok (⟨v1.1, v1.2.1, v1.2.2.1, v1.2.2.2.1⟩ : Board) (⟨(lget orders v1.2.2.2.2.2).Kind, (lget orders v1.2.2.2.2.2).ID, (lget orders v1.2.2.2.2.2).Host, (lget orders v1.2.2.2.2.2).Turn, (lget orders v1.2.2.2.2.2).Row⟩ : Order) x2 h3) ⟨[], [(11, 26), (20011, 20026)], [], []⟩) .nil) ?_
    refine NR [] [2, 4, 5, 6, 9, 10, 17, 18, 19, 31] [2, 4, 5, 9, 10] [16, 26, 36, 20026] [(31, .bool (decide (x2.2.2.2.2.Code = 0)))] .nil ?_
    obtain ⟨v2, hv, hF⟩ := ob_elim hF
    refine Nmeet (⟨[(2, .ptr 2 0), (4, .ptr 4 0), (5, .ptr 5 0), (6, .row 36 0), (10, .ptr 10 0), (17, .sl 5 (orders.map e_Order)), (18, .i (orders.length : Int)), (19, .i v1.2.2.2.2.2)], [(2, [.nils, .nils, .i 0, .i 0]), (4, [.i 0, .i 0]), (5, [.row 26 0, .sl 6 (v2.2.1.map e_Slot), .i v2.2.2.1, .i v2.2.2.2]), (10, (c_Fault x2.2.2.2.2))], [(26, ⟨108, 3, 0, (v2.1.map e_Host).length, 0, false, 0, [], (v2.1.map e_Host)⟩), (36, .z 26 2 0 (v1.2.2.2.2.1.map e_Fault))], [], []⟩ : S) ?_ ?_
    ·have hF := hv
     refine Nif hF (fun hb hF => ?_) (fun hb hF => ?_)
     ·refine VR [] [2, 4, 5, 6, 10, 17, 18, 19] [2, 4, 5, 10] [26, 36, 20026] [] [] [(5, [.row 26 0, .row 20026 0, .i x2.2.2.1, .i x2.2.2.2.1])] [] [] .nil ?_
      refine Wk_sealBX [26] 5 rfl rfl ?_
      cases hF
      exact met [] (by kernel_rfl)
     ·refine Wk_trim (fs := [2, 4, 5, 6, 10, 17, 18, 19]) (bs := [2, 4, 5, 10]) (rs := [16, 36]) (ms := []) (aa := []) (nv := []) rfl ?_
      refine Wk_ren' ⟨[], [(16, 26)], [], []⟩ rfl ?_
      cases hF
      exact met [] (by kernel_rfl)
    ·obtain ⟨h4, hF⟩ := asrt_elim hF
     refine VR [.sealed, .xs ((v1.2.2.2.2.1 ++ [x2.2.2.2.2]).map e_Fault)] [2, 4, 5, 6, 17, 18, 19] [2, 4, 5] [26, 36] [] [(6, .row 36 1)] [] [(36, .z 26 2 1 ((v1.2.2.2.2.1 ++ [x2.2.2.2.2]).map e_Fault))] [] (hc (app_ok e_Fault v1.2.2.2.2.1 [x2.2.2.2.2]) (hc (appl_ok e_Fault h4) .nil)) ?_
     refine NR [] [2, 4, 5, 6, 17, 18, 19] [2, 4, 5] [26, 36] [(19, .i (w64 (v1.2.2.2.2.2 + 1)))] .nil ?_
     refine Wk_trim (fs := [2, 4, 5, 6, 17, 18, 19]) (bs := [2, 4, 5]) (rs := [26, 36]) (ms := []) (aa := []) (nv := []) rfl ?_
     refine Wk_ren' ⟨[], [(26, 16)], [], []⟩ rfl ?_
     exact Nrnd [(36, ⟨0, true, true, false⟩)] hF ih1 (by kernel_rfl)
   ·refine Nexit rfl ?_
    have hF := inrO_done hF dn1
    exact metP (v1.1, v1.2.1, v1.2.2.1, v1.2.2.2.1, v1.2.2.2.2.1) [] hF (by kernel_rfl)
  ·intro v hF
   have hF : assign_Play_v1_J1 v = some r := hF
   unfold assign_Play_v1_J1 at hF
   refine VR [] [2, 3, 4] [2, 4] [16, 36] [] [(3, .row 36 0)] [(2, [.row 16 0, .sl 6 (v.2.1.map e_Slot), .i v.2.2.1, .i v.2.2.2.1])] [] [] .nil ?_
   cases hF
   exact Wk_ret (hfin _ ⟨[], [], [], [], [], [], by kernel_rfl⟩)

/- tabularyref.Boards -/
noncomputable def R_Boards_v1_J1 (v1 : List Board × List Fault) : Option (List Board × List Fault) :=
 some (v1.1, v1.2)
noncomputable def R_Boards_v1_B1 (orders : List Order) (v2 : List Board × List Fault × Int) : Option ((List Board × List Fault × Int) ⊕ (List Board × List Fault)) :=
 if (decide (v2.2.2 < (orders.length : Int))) = true then
  asrt (0 ≤ v2.2.2 ∧ v2.2.2 < (v2.1.length : Int)) <|
  asrt (0 ≤ v2.2.2 ∧ v2.2.2 < (v2.1.length : Int)) <|
  asrt (0 ≤ v2.2.2 ∧ v2.2.2 < (orders.length : Int)) <|
  ob (R_Ordered (⟨(lget v2.1 v2.2.2).Hosts, (lget v2.1 v2.2.2).Slots, (lget v2.1 v2.2.2).Turn, (lget v2.1 v2.2.2).Next⟩ : Board) (⟨(lget orders v2.2.2).Kind, (lget orders v2.2.2).ID, (lget orders v2.2.2).Host, (lget orders v2.2.2).Turn, (lget orders v2.2.2).Row⟩ : Order)) fun x =>
  asrt (((v2.2.1 ++ [x.2.2.2.2]).length : Int) * 16 ≤ 140737488351232) <|
  ob (
   if (!decide (x.2.2.2.2.Code = 0)) = true then
    asrt (0 ≤ v2.2.2 ∧ v2.2.2 < (v2.1.length : Int)) <|
    asrt (0 ≤ v2.2.2 ∧ v2.2.2 < (v2.1.length : Int)) <|
    some ((lget v2.1 v2.2.2).Hosts, (lget v2.1 v2.2.2).Slots, (lget v2.1 v2.2.2).Turn, (lget v2.1 v2.2.2).Next)
   else
    some (x.1, x.2.1, x.2.2.1, x.2.2.2.1)) fun (v3 : List Host × List Slot × Int × Int) =>
  asrt (((v2.1 ++ [(⟨v3.1, v3.2.1, v3.2.2.1, v3.2.2.2⟩ : Board)]).length : Int) * 64 ≤ 140737488351232) <|
  some (Sum.inl ((v2.1 ++ [(⟨v3.1, v3.2.1, v3.2.2.1, v3.2.2.2⟩ : Board)]), (v2.2.1 ++ [x.2.2.2.2]), w64 (v2.2.2 + 1)))
 else
  inrO (R_Boards_v1_J1 (v2.1, v2.2.1))
noncomputable def R_Boards_v1_L1 (orders : List Order) (v0 : List Board × List Fault × Int) : Option (List Board × List Fault) :=
 loopO (fun y => R_Boards_v1_B1 orders y) v0
noncomputable def R_Boards_v1 (orders : List Order) : Option (List Board × List Fault) :=
 lt ([(⟨([] : List Host), [(⟨(⟨([] : List UInt8), ([] : List UInt8), 1⟩ : Part), 0, 0, 0⟩ : Slot)], 0, 2⟩ : Board)]) fun (v : List Board) =>
 R_Boards_v1_L1 orders (v, ([] : List Fault), 0)
theorem R_Boards_v1_ok (orders : List Order) (r : List Board × List Fault) (hF : R_Boards_v1 orders = some r) : Pe Try.prog 33 S.none [.sl 5 (orders.map e_Order)] (.tup [.sl 4 (r.1.map e_Board), .sl 2 (r.2.map e_Fault)]) S.none := by
 refine PeN (N := 49) (res := [.tmp 2, .tmp 3]) (ts := [54, 55]) Ty.ok Fn.b33 Try.func33 ?_
 intro Q g hfin
 unfold R_Boards_v1 at hF
 refine NR [] [0] [] [] [] .nil ?_
 refine NRL ([(⟨([] : List Host), [(⟨(⟨([] : List UInt8), ([] : List UInt8), 1⟩ : Part), 0, 0, 0⟩ : Slot)], 0, 2⟩ : Board)]) (fun v : List Board => ([(4, .row 13 0)], [], [(13, .z 62 4 0 (v.map e_Board))], [])) [] [0, 4] [] [13] [] .nil (fun v hv => ?_)
 have hF := lt_elim hF hv
 refine NR [] [0, 4, 5] [] [13] [(5, .nils)] .nil ?_
 refine NR [] [0, 4, 5, 6] [] [13] [(6, .i 0)] .nil ?_
 refine NmeetP (fun v1 : List Board × List Fault => (⟨[(4, .row 13 0), (5, .row 35 0)], [], [(13, .z 62 4 0 (v1.1.map e_Board)), (35, .z 26 2 0 (v1.2.map e_Fault))], [], []⟩ : S)) (fun v1 => R_Boards_v1_J1 v1 = some r) ?_ ?_
 ·refine Nblk ?_
  unfold R_Boards_v1_L1 at hF
  refine Wk_nilrow 5 60000 26 2 rfl rfl rfl ?_
  refine Wk_trim (fs := [0, 4, 5, 6]) (bs := []) (rs := [13, 60000]) (ms := []) (aa := []) (nv := []) rfl ?_
  refine Wk_ren' ⟨[], [(60000, 35)], [], []⟩ rfl ?_
  refine Niter (fun v2 : List Board × List Fault × Int => (⟨[(0, .sl 5 (orders.map e_Order)), (4, .row 13 0), (5, .row 35 0), (6, .i v2.2.2)], [], [(13, .z 62 4 0 (v2.1.map e_Board)), (35, .z 26 2 0 (v2.2.1.map e_Fault))], [], []⟩ : S)) [] hF (by kernel_rfl) ?_
  intro n1 v2 y1 hF ih1 dn1
  unfold R_Boards_v1_B1 at hF
  refine NR [.nat (orders.length : Int)] [0, 4, 5, 6, 17] [] [13, 35] [(17, .bool (decide (v2.2.2 < (orders.length : Int))))] (hc (len_ok e_Order orders) .nil) ?_
  refine Nif hF (fun hb hF => ?_) (fun hb hF => ?_)
  ·refine Nblk ?_
   obtain ⟨h0, h1, hF⟩ := asrt2 hF
   obtain ⟨h2, hF⟩ := asrt_elim hF
   obtain ⟨x, h3, hF⟩ := ob_elim hF
   refine VD [.av (e_Board (lget v2.1 v2.2.2)), .av (e_Order (lget orders v2.2.2)), .callE [] [] [] [] (.tup [.agg [.row 29 0, .row 20029 0, .i x.2.2.1, .i x.2.2.2.1], .agg (c_Fault x.2.2.2.2)]) ⟨[], [], [(29, .z 108 3 0 (x.1.map e_Host)), (20029, .z 64 6 0 (x.2.1.map e_Slot))], [], []⟩] [0, 4, 5, 6, 7, 8] [7, 8] [13, 29, 35, 20029] [] [(7, .ptr 7 0), (8, .ptr 8 0)] [(7, [.row 29 0, .row 20029 0, .i x.2.2.1, .i x.2.2.2.1]), (8, (c_Fault x.2.2.2.2))] [(29, .z 108 3 0 (x.1.map e_Host)), (20029, .z 64 6 0 (x.2.1.map e_Slot))] [] (hc (ixr_ok e_Board h0) (hc (ldr_ok e_Board h1) (hc (idx_ok e_Order h2) (hc (Pe.ren (R_Ordered_ok (⟨(lget v2.1 v2.2.2).Hosts, (lget v2.1 v2.2.2).Slots, (lget v2.1 v2.2.2).Turn, (lget v2.1 v2.2.2).Next⟩ : Board) (⟨(lget orders v2.2.2).Kind, (lget orders v2.2.2).ID, (lget orders v2.2.2).Host, (lget orders v2.2.2).Turn, (lget orders v2.2.2).Row⟩ : Order) x h3) ⟨[], [(22, 29), (20022, 20029)], [], []⟩) .nil)))) ?_
   obtain ⟨h4, hF⟩ := asrt_elim hF
   refine VR [.sealed, .xs ((v2.2.1 ++ [x.2.2.2.2]).map e_Fault)] [0, 4, 5, 6, 7, 8] [7, 8] [13, 29, 35, 20029] [] [(5, .row 35 1)] [] [(35, .z 26 2 1 ((v2.2.1 ++ [x.2.2.2.2]).map e_Fault))] [] (hc (app_ok e_Fault v2.2.1 [x.2.2.2.2]) (hc (appl_ok e_Fault h4) .nil)) ?_
   refine NR [] [0, 4, 5, 6, 7, 38] [7] [13, 29, 35, 20029] [(38, .bool (!decide (x.2.2.2.2.Code = 0)))] .nil ?_
   obtain ⟨v3, hv, hF⟩ := ob_elim hF
   refine Nmeet (⟨[(0, .sl 5 (orders.map e_Order)), (4, .row 13 0), (5, .row 35 1), (6, .i v2.2.2), (7, .ptr 7 0)], [(7, [.sl 3 (v3.1.map e_Host), .sl 6 (v3.2.1.map e_Slot), .i v3.2.2.1, .i v3.2.2.2])], [(13, .z 62 4 0 (v2.1.map e_Board)), (35, .z 26 2 1 ((v2.2.1 ++ [x.2.2.2.2]).map e_Fault))], [], []⟩ : S) ?_ ?_
   ·have hF := hv
    refine Nif hF (fun hb hF => ?_) (fun hb hF => ?_)
    ·obtain ⟨h5, hF⟩ := asrt_elim hF
     obtain ⟨h6, hF⟩ := asrt_elim hF
     refine VR [.av (e_Board (lget v2.1 v2.2.2))] [0, 4, 5, 6, 7] [7] [13, 35] [] [] [(7, (c_Board (lget v2.1 v2.2.2)))] [] [] (hc (ixr_ok e_Board h5) (hc (ldr_ok e_Board h6) .nil)) ?_
     cases hF
     exact met [] (by kernel_rfl)
    ·refine Wk_sealBX [] 7 rfl rfl ?_
     cases hF
     exact met [] (by kernel_rfl)
   ·obtain ⟨h7, hF⟩ := asrt_elim hF
    refine VR [.sealed, .xs ((v2.1 ++ [(⟨v3.1, v3.2.1, v3.2.2.1, v3.2.2.2⟩ : Board)]).map e_Board)] [0, 4, 5, 6] [] [13, 35] [] [(4, .row 13 1)] [] [(13, ⟨62, 4, 1, 0, 0, true, 0, [], ((v2.1 ++ [(⟨v3.1, v3.2.1, v3.2.2.1, v3.2.2.2⟩ : Board)]).map e_Board)⟩)] [] (hc (app_ok e_Board v2.1 [(⟨v3.1, v3.2.1, v3.2.2.1, v3.2.2.2⟩ : Board)]) (hc (appl_ok e_Board h7) .nil)) ?_
    refine NR [] [0, 4, 5, 6] [] [13, 35] [(6, .i (w64 (v2.2.2 + 1)))] .nil ?_
    exact Nrnd [(13, ⟨0, true, true, false⟩), (35, ⟨0, true, true, false⟩)] hF ih1 (by kernel_rfl)
  ·refine Nexit rfl ?_
   have hF := inrO_done hF dn1
   exact metP (v2.1, v2.2.1) [] hF (by kernel_rfl)
 ·intro v1 hF
  have hF : R_Boards_v1_J1 v1 = some r := hF
  unfold R_Boards_v1_J1 at hF
  refine NR [] [2, 3] [] [13, 35] [(2, .row 13 0), (3, .row 35 0)] .nil ?_
  cases hF
  exact Wk_ret (hfin _ ⟨[], [], [], [], [], [], by kernel_rfl⟩)

/- tabularylaw.AssignPlays -/
noncomputable def law_AssignPlays_J1 (v1 : Unit) : Option Bool :=
 some true
noncomputable def law_AssignPlays_B1 (x1 : Board × List Fault × Fault) (x5 : List Board × List Fault) (v2 : Int) : Option (Int ⊕ Bool) :=
 if (decide (v2 < (x5.2.length : Int))) = true then
  asrt (0 ≤ v2 ∧ v2 < (x1.2.1.length : Int)) <|
  asrt (0 ≤ v2 ∧ v2 < (x5.2.length : Int)) <|
  if (!(decide ((lget x1.2.1 v2).Code = (lget x5.2 v2).Code) && (decide ((lget x1.2.1 v2).At = (lget x5.2 v2).At) && true))) = true then
   some (Sum.inr false)
  else
   some (Sum.inl (w64 (v2 + 1)))
 else
  inrO (law_AssignPlays_J1 ())
noncomputable def law_AssignPlays_L1 (x1 : Board × List Fault × Fault) (x5 : List Board × List Fault) (v0 : Int) : Option Bool :=
 loopO (fun y => law_AssignPlays_B1 x1 x5 y) v0
noncomputable def law_AssignPlays (orders : List Order) : Option Bool :=
 ob (law_assignBegun) fun x =>
 if (!x) = true then
  some false
 else
  if (((decide (300 < (orders.length : Int))) && (decide ((orders.length : Int) < 2001))) || (decide (3000 < (orders.length : Int)))) = true then
   some true
  else
   asrt ((orders.length : Int) * 48 ≤ 140737488351232) <|
   ob (assign_Play_v1 orders) fun x1 =>
   ob (R_SameOrders orders orders) fun x2 =>
   if (!x2) = true then
    some false
   else
    if (decide (2000 < (orders.length : Int))) = true then
     lt (R_F 2 (-1)) fun x3 =>
     ob (if ((decide (x1.2.2.Code = x3.Code) && (decide (x1.2.2.At = x3.At) && true)) && (decide ((x1.2.1.length : Int) = 0))) = true then (R_SameBoard x1.1 (⟨([] : List Host), ([] : List Slot), 0, 0⟩ : Board)) else some default) fun x4 =>
     lt (((decide (x1.2.2.Code = x3.Code) && (decide (x1.2.2.At = x3.At) && true)) && (decide ((x1.2.1.length : Int) = 0))) && x4) fun (v : Bool) =>
     some v
    else
     ob (R_Boards_v1 orders) fun x5 =>
     asrt ((!((!decide (x1.2.2.Code = 0)) || (!decide ((x1.2.1.length : Int) = (x5.2.length : Int))))) = true → 0 ≤ w64 ((x5.1.length : Int) - 1) ∧ w64 ((x5.1.length : Int) - 1) < (x5.1.length : Int)) <|
     ob (if (!((!decide (x1.2.2.Code = 0)) || (!decide ((x1.2.1.length : Int) = (x5.2.length : Int))))) = true then (R_SameBoard x1.1 (⟨(lget x5.1 (w64 ((x5.1.length : Int) - 1))).Hosts, (lget x5.1 (w64 ((x5.1.length : Int) - 1))).Slots, (lget x5.1 (w64 ((x5.1.length : Int) - 1))).Turn, (lget x5.1 (w64 ((x5.1.length : Int) - 1))).Next⟩ : Board)) else some default) fun x6 =>
     lt (assign_New_v1) fun x7 =>
     asrt ((!(((!decide (x1.2.2.Code = 0)) || (!decide ((x1.2.1.length : Int) = (x5.2.length : Int)))) || (!x6))) = true → 0 ≤ (0 : Int) ∧ 0 < (x5.1.length : Int)) <|
     ob (if (!(((!decide (x1.2.2.Code = 0)) || (!decide ((x1.2.1.length : Int) = (x5.2.length : Int)))) || (!x6))) = true then (R_SameBoard x7 (⟨(lget x5.1 0).Hosts, (lget x5.1 0).Slots, (lget x5.1 0).Turn, (lget x5.1 0).Next⟩ : Board)) else some default) fun x8 =>
     if ((((!decide (x1.2.2.Code = 0)) || (!decide ((x1.2.1.length : Int) = (x5.2.length : Int)))) || (!x6)) || (!x8)) = true then
      some false
     else
      law_AssignPlays_L1 x1 x5 0
theorem law_AssignPlays_ok (orders : List Order) (r : Bool) (hF : law_AssignPlays orders = some r) : Pe Try.prog 11 S.none [.sl 5 (orders.map e_Order)] (.bool r) S.none := by
 refine PeN (N := 102) (res := [.tmp 2]) (ts := [4]) Ty.ok Fn.b11 Try.func11 ?_
 intro Q g hfin
 unfold law_AssignPlays at hF
 refine NR [] [0] [] [] [] .nil ?_
 obtain ⟨x, h0, hF⟩ := ob_elim hF
 refine NR [.callB (.bool x)] [0, 11] [] [] [(11, .bool (!x))] (hc (law_assignBegun_ok  x h0) .nil) ?_
 refine Nif hF (fun hb hF => ?_) (fun hb hF => ?_)
 ·refine NR [] [2] [] [] [(2, .bool false)] .nil ?_
  cases hF
  exact Wk_ret (hfin _ ⟨[], [], [], [], [], [], by kernel_rfl⟩)
 ·refine NR [.nat (orders.length : Int), .nat (orders.length : Int), .nat (orders.length : Int)] [0, 24] [] [] [(24, .bool (((decide (300 < (orders.length : Int))) && (decide ((orders.length : Int) < 2001))) || (decide (3000 < (orders.length : Int)))))] (hc (len_ok e_Order orders) (hc (fun (_ : (decide (300 < (orders.length : Int))) = true) => (len_ok e_Order orders)) (hc (fun (_ : (!((decide (300 < (orders.length : Int))) && (decide ((orders.length : Int) < 2001)))) = true) => (len_ok e_Order orders)) .nil))) ?_
  refine Nif hF (fun hb hF => ?_) (fun hb hF => ?_)
  ·refine NR [] [2] [] [] [(2, .bool true)] .nil ?_
   cases hF
   exact Wk_ret (hfin _ ⟨[], [], [], [], [], [], by kernel_rfl⟩)
  ·obtain ⟨h1, hF⟩ := asrt_elim hF
   refine VR [.xs (orders.map e_Order)] [0, 3] [] [26] [] [(3, .row 26 1)] [] [(26, .z 91 5 1 (orders.map e_Order))] [] (hc (app0_ok e_Order orders) (hc (appl_ok e_Order h1) .nil)) ?_
   obtain ⟨x1, h2, hF⟩ := ob_elim hF
   refine VR [.call (.tup [.agg (c_Board x1.1), .sl 2 (x1.2.1.map e_Fault), .agg (c_Fault x1.2.2)])] [0, 3, 4, 5, 6] [4, 6] [26] [] [(4, .ptr 4 0), (5, .sl 2 (x1.2.1.map e_Fault)), (6, .ptr 6 0)] [(4, (c_Board x1.1)), (6, (c_Fault x1.2.2))] [(26, ⟨91, 5, 1, (orders.map e_Order).length, 0, true, 0, [], (orders.map e_Order)⟩)] [] (hc (assign_Play_v1_ok orders x1 h2) .nil) ?_
   obtain ⟨x2, h3, hF⟩ := ob_elim hF
   refine NR [.callB (.bool x2)] [0, 4, 5, 6, 36] [4, 6] [] [(36, .bool (!x2))] (hc (R_SameOrders_ok orders orders x2 h3) .nil) ?_
   refine Nif hF (fun hb hF => ?_) (fun hb hF => ?_)
   ·refine NR [] [2] [] [] [(2, .bool false)] .nil ?_
    cases hF
    exact Wk_ret (hfin _ ⟨[], [], [], [], [], [], by kernel_rfl⟩)
   ·refine NR [.nat (orders.length : Int)] [0, 4, 5, 6, 39] [4, 6] [] [(39, .bool (decide (2000 < (orders.length : Int))))] (hc (len_ok e_Order orders) .nil) ?_
    refine Nif hF (fun hb hF => ?_) (fun hb hF => ?_)
    ·obtain ⟨x3, h4, hF⟩ := lt_split hF
     obtain ⟨x4, h5, hF⟩ := ob_elim hF
     refine NDL (((decide (x1.2.2.Code = x3.Code) && (decide (x1.2.2.At = x3.At) && true)) && (decide ((x1.2.1.length : Int) = 0))) && x4) (fun v : Bool => ([(2, .bool v)], [], [], [])) [.callB (.agg (c_Fault x3)), .nat (x1.2.1.length : Int), .callB (.bool x4)] [2] [] [] [] (hc (R_F_ok 2 (-1) x3 h4) (hc (fun (_ : (decide (x1.2.2.Code = x3.Code) && (decide (x1.2.2.At = x3.At) && true)) = true) => (len_ok e_Fault x1.2.1)) (hc (fun (ga0 : ((decide (x1.2.2.Code = x3.Code) && (decide (x1.2.2.At = x3.At) && true)) && (decide ((x1.2.1.length : Int) = 0))) = true) => (R_SameBoard_ok x1.1 (⟨([] : List Host), ([] : List Slot), 0, 0⟩ : Board) x4 (ite_t h5 ga0))) .nil))) (fun v hv => ?_)
     have hF := lt_elim hF hv
     cases hF
     exact Wk_ret (hfin _ ⟨[], [], [], [], [], [], by kernel_rfl⟩)
    ·obtain ⟨x5, h6, hF⟩ := ob_elim hF
     refine NR [.call (.tup [.sl 4 (x5.1.map e_Board), .sl 2 (x5.2.map e_Fault)])] [4, 5, 6, 7, 8] [4, 6] [] [(7, .sl 4 (x5.1.map e_Board)), (8, .sl 2 (x5.2.map e_Fault))] (hc (R_Boards_v1_ok orders x5 h6) .nil) ?_
     obtain ⟨h7, hF⟩ := asrt_elim hF
     obtain ⟨x6, h8, hF⟩ := ob_elim hF
     obtain ⟨x7, h9, hF⟩ := lt_split hF
     obtain ⟨h10, hF⟩ := asrt_elim hF
     obtain ⟨x8, h11, hF⟩ := ob_elim hF
     refine ND [.nat (x1.2.1.length : Int), .nat (x5.2.length : Int), .nat (x5.1.length : Int), .av (e_Board (lget x5.1 (w64 ((x5.1.length : Int) - 1)))), .callB (.bool x6), .call (.agg (c_Board x7)), .av (e_Board (lget x5.1 0)), .callB (.bool x8)] [5, 8, 86] [] [] [(86, .bool ((((!decide (x1.2.2.Code = 0)) || (!decide ((x1.2.1.length : Int) = (x5.2.length : Int)))) || (!x6)) || (!x8)))] (hc (fun (_ : (!(!decide (x1.2.2.Code = 0))) = true) => (len_ok e_Fault x1.2.1)) (hc (fun (_ : (!(!decide (x1.2.2.Code = 0))) = true) => (len_ok e_Fault x5.2)) (hc (fun (_ : (!((!decide (x1.2.2.Code = 0)) || (!decide ((x1.2.1.length : Int) = (x5.2.length : Int))))) = true) => (len_ok e_Board x5.1)) (hc (fun (ga0 : (!((!decide (x1.2.2.Code = 0)) || (!decide ((x1.2.1.length : Int) = (x5.2.length : Int))))) = true) => (idx_ok e_Board (h7 ga0))) (hc (fun (ga0 : (!((!decide (x1.2.2.Code = 0)) || (!decide ((x1.2.1.length : Int) = (x5.2.length : Int))))) = true) => (R_SameBoard_ok x1.1 (⟨(lget x5.1 (w64 ((x5.1.length : Int) - 1))).Hosts, (lget x5.1 (w64 ((x5.1.length : Int) - 1))).Slots, (lget x5.1 (w64 ((x5.1.length : Int) - 1))).Turn, (lget x5.1 (w64 ((x5.1.length : Int) - 1))).Next⟩ : Board) x6 (ite_t h8 ga0))) (hc (fun (ga0 : (!(((!decide (x1.2.2.Code = 0)) || (!decide ((x1.2.1.length : Int) = (x5.2.length : Int)))) || (!x6))) = true) => (assign_New_v1_ok  x7 h9)) (hc (fun (ga0 : (!(((!decide (x1.2.2.Code = 0)) || (!decide ((x1.2.1.length : Int) = (x5.2.length : Int)))) || (!x6))) = true) => (idx_ok e_Board (h10 ga0))) (hc (fun (ga0 : (!(((!decide (x1.2.2.Code = 0)) || (!decide ((x1.2.1.length : Int) = (x5.2.length : Int)))) || (!x6))) = true) => (R_SameBoard_ok x7 (⟨(lget x5.1 0).Hosts, (lget x5.1 0).Slots, (lget x5.1 0).Turn, (lget x5.1 0).Next⟩ : Board) x8 (ite_t h11 ga0))) .nil)))))))) ?_
     refine Nif hF (fun hb hF => ?_) (fun hb hF => ?_)
     ·refine NR [] [2] [] [] [(2, .bool false)] .nil ?_
      cases hF
      exact Wk_ret (hfin _ ⟨[], [], [], [], [], [], by kernel_rfl⟩)
     ·refine NR [] [5, 8, 9] [] [] [(9, .i 0)] .nil ?_
      refine NmeetP (fun v1 : Unit => (⟨[], [], [], [], []⟩ : S)) (fun v1 => law_AssignPlays_J1 v1 = some r) ?_ ?_
      ·refine Nblk ?_
       unfold law_AssignPlays_L1 at hF
       refine Niter (fun v2 : Int => (⟨[(5, .sl 2 (x1.2.1.map e_Fault)), (8, .sl 2 (x5.2.map e_Fault)), (9, .i v2)], [], [], [], []⟩ : S)) [] hF (by kernel_rfl) ?_
       intro n1 v2 y1 hF ih1 dn1
       unfold law_AssignPlays_B1 at hF
       refine NR [.nat (x5.2.length : Int)] [5, 8, 9, 90] [] [] [(90, .bool (decide (v2 < (x5.2.length : Int))))] (hc (len_ok e_Fault x5.2) .nil) ?_
       refine Nif hF (fun hb hF => ?_) (fun hb hF => ?_)
       ·refine Nblk ?_
        obtain ⟨h12, h13, hF⟩ := asrt2 hF
        refine ND [.av (e_Fault (lget x1.2.1 v2)), .av (e_Fault (lget x5.2 v2))] [5, 8, 9, 101] [] [] [(101, .bool (!(decide ((lget x1.2.1 v2).Code = (lget x5.2 v2).Code) && (decide ((lget x1.2.1 v2).At = (lget x5.2 v2).At) && true))))] (hc (idx_ok e_Fault h12) (hc (idx_ok e_Fault h13) .nil)) ?_
        refine Nif hF (fun hb hF => ?_) (fun hb hF => ?_)
        ·refine NR [] [2] [] [] [(2, .bool false)] .nil ?_
         have hF := ret_done hF dn1
         cases hF
         exact Wk_ret (hfin _ ⟨[], [], [], [], [], [], by kernel_rfl⟩)
        ·refine NR [] [5, 8, 9] [] [] [(9, .i (w64 (v2 + 1)))] .nil ?_
         exact Nrnd [] hF ih1 (by kernel_rfl)
       ·refine Nexit rfl ?_
        have hF := inrO_done hF dn1
        exact metP () [] hF (by kernel_rfl)
      ·intro v1 hF
       have hF : law_AssignPlays_J1 v1 = some r := hF
       unfold law_AssignPlays_J1 at hF
       refine NR [] [2] [] [] [(2, .bool true)] .nil ?_
       cases hF
       exact Wk_ret (hfin _ ⟨[], [], [], [], [], [], by kernel_rfl⟩)

/- tabularylaw.AssignHeals -/
noncomputable def law_AssignHeals_J3 (v1 : Board) (v2 : Unit) : Option Bool :=
 some (decide (0 < (v1.Slots.length : Int)))
noncomputable def law_AssignHeals_B1 (v : Bool) (v1 : Board) (v3 : Int) : Option (Int ⊕ Bool) :=
 if (decide (v3 < (v1.Slots.length : Int))) = true then
  asrt (0 ≤ v3 ∧ v3 < (v1.Slots.length : Int)) <|
  if (!((decide (((lget v1.Slots v3).State) = 2)) == v)) = true then
   some (Sum.inr false)
  else
   some (Sum.inl (w64 (v3 + 1)))
 else
  inrO (law_AssignHeals_J3 v1 ())
noncomputable def law_AssignHeals_L1 (v : Bool) (v1 : Board) (v0 : Int) : Option Bool :=
 loopO (fun y => law_AssignHeals_B1 v v1 y) v0
noncomputable def law_AssignHeals_J2 (v : Bool) (v1 : Board) : Option Bool :=
 law_AssignHeals_L1 v v1 0
noncomputable def law_AssignHeals_J5 (v4 : Board × Int) (v6 : Board) : Option ((Board × Int) ⊕ Bool) :=
 some (Sum.inl (v6, w64 (v4.2 + 1)))
noncomputable def law_AssignHeals_B3 (v4 : Board × Int) (x2 : List Order × Fault) (v7 : Board × Int) : Option ((Board × Int) ⊕ ((Board × Int) ⊕ Bool)) :=
 if (decide (v7.2 < (x2.1.length : Int))) = true then
  asrt (0 ≤ v7.2 ∧ v7.2 < (x2.1.length : Int)) <|
  ob (assign_Do_v1 v7.1 (⟨(lget x2.1 v7.2).Kind, (lget x2.1 v7.2).ID, (lget x2.1 v7.2).Host, (lget x2.1 v7.2).Turn, (lget x2.1 v7.2).Row⟩ : Order)) fun x3 =>
  if (!decide (x3.2.Code = 0)) = true then
   some (Sum.inr (Sum.inr false))
  else
   some (Sum.inl (x3.1, w64 (v7.2 + 1)))
 else
  inrO (law_AssignHeals_J5 v4 v7.1)
noncomputable def law_AssignHeals_L3 (v4 : Board × Int) (x2 : List Order × Fault) (v0 : Board × Int) : Option ((Board × Int) ⊕ Bool) :=
 loopO (fun y => law_AssignHeals_B3 v4 x2 y) v0
noncomputable def law_AssignHeals_J4 (v4 : Board × Int) (v5 : Board) : Option ((Board × Int) ⊕ Bool) :=
 ob (assign_Due_v1 v5) fun x2 =>
 if ((!decide (x2.2.Code = 0)) || ((decide (v4.2 = 1)) && (decide (0 < (x2.1.length : Int))))) = true then
  some (Sum.inr false)
 else
  law_AssignHeals_L3 v4 x2 (v5, 0)
noncomputable def law_AssignHeals_J6 (v8 : Board × Int) (v11 : Board) : Option ((Board × Int) ⊕ ((Board × Int) ⊕ Bool)) :=
 some (Sum.inl (v11, w64 (v8.2 + 1)))
noncomputable def law_AssignHeals_B4 (v4 : Board × Int) (v8 : Board × Int) : Option ((Board × Int) ⊕ ((Board × Int) ⊕ Bool)) :=
 if (decide (v8.2 < (v8.1.Slots.length : Int))) = true then
  asrt (0 ≤ v8.2 ∧ v8.2 < (v8.1.Slots.length : Int)) <|
  ob (
   if (decide (((lget v8.1.Slots v8.2).State) = 1)) = true then
    some 4
   else
    some 0) fun (v9 : Int) =>
  ob (
   if (decide (((lget v8.1.Slots v8.2).State) = 3)) = true then
    some 6
   else
    some v9) fun (v10 : Int) =>
  if (decide (0 < v10)) = true then
   ob (assign_Do_v1 v8.1 (⟨v10, ((lget v8.1.Slots v8.2).Part).ID, (lget v8.1.Slots v8.2).Host, (lget v8.1.Slots v8.2).Turn, ([] : List UInt8)⟩ : Order)) fun x4 =>
   if ((!decide (x4.2.Code = 0)) || (!decide ((x4.1.Slots.length : Int) = (v8.1.Slots.length : Int)))) = true then
    some (Sum.inr (Sum.inr false))
   else
    law_AssignHeals_J6 v8 x4.1
  else
   law_AssignHeals_J6 v8 v8.1
 else
  inrO (law_AssignHeals_J4 v4 v8.1)
noncomputable def law_AssignHeals_L4 (v4 : Board × Int) (v0 : Board × Int) : Option ((Board × Int) ⊕ Bool) :=
 loopO (fun y => law_AssignHeals_B4 v4 y) v0
noncomputable def law_AssignHeals_B2 (v : Bool) (v4 : Board × Int) : Option ((Board × Int) ⊕ Bool) :=
 if (decide (v4.2 < 2)) = true then
  law_AssignHeals_L4 v4 (v4.1, 0)
 else
  inrO (law_AssignHeals_J2 v v4.1)
noncomputable def law_AssignHeals_L2 (v : Bool) (v0 : Board × Int) : Option Bool :=
 loopO (fun y => law_AssignHeals_B2 v y) v0
noncomputable def law_AssignHeals_J1 (x1 : Board × List Fault × Fault) (v : Bool) : Option Bool :=
 law_AssignHeals_L2 v (x1.1, 0)
noncomputable def law_AssignHeals_B5 (x1 : Board × List Fault × Fault) (v12 : Bool × Int) : Option ((Bool × Int) ⊕ Bool) :=
 if (decide (v12.2 < (x1.1.Hosts.length : Int))) = true then
  asrt ((!v12.1) = true → 0 ≤ v12.2 ∧ v12.2 < (x1.1.Hosts.length : Int)) <|
  some (Sum.inl (v12.1 || ((lget x1.1.Hosts v12.2).Alive), w64 (v12.2 + 1)))
 else
  inrO (law_AssignHeals_J1 x1 v12.1)
noncomputable def law_AssignHeals_L5 (x1 : Board × List Fault × Fault) (v0 : Bool × Int) : Option Bool :=
 loopO (fun y => law_AssignHeals_B5 x1 y) v0
noncomputable def law_AssignHeals (orders : List Order) : Option Bool :=
 ob (law_assignBegun) fun x =>
 if (!x) = true then
  some false
 else
  if (decide (200 < (orders.length : Int))) = true then
   some true
  else
   ob (assign_Play_v1 orders) fun x1 =>
   if (((!decide (x1.2.2.Code = 0)) || (decide (900000000 < x1.1.Turn))) || (decide (900000000 < x1.1.Next))) = true then
    some false
   else
    law_AssignHeals_L5 x1 (false, 0)

end G
end Go.Proofs.Ytdjlninhfndjfaa
