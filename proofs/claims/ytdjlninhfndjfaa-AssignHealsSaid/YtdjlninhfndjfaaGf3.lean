/- The program's functions as plain functions, and that they are these. Written by a program (dec2.py). -/
import Derived.Test.YtdjlninhfndjfaaGf2
namespace Go.Proofs.Ytdjlninhfndjfaa
open Go Go.Dm
set_option linter.unusedVariables false
set_option linter.unusedSimpArgs false
set_option maxRecDepth 100000
namespace G
/- tabularylaw.AssignHeals -/
noncomputable def law_AssignHeals_J3 (v1 : Board) (v2 : Unit) : Option Bool :=
 some (decide (0 < (v1.Slots.length : Int)))
noncomputable def law_AssignHeals_B1 (v : Bool) (v1 : Board) (v3 : Int) : Option (Int ⊕ Bool) :=
 if (decide (v3 < (v1.Slots.length : Int))) = true then
  asrt (0 ≤ v3 ∧ v3 < (v1.Slots.length : Int)) <|
  if (!((decide (((lget v1.Slots v3).State) = 2)) == v)) = true then
   some (Sum.inr false)
  else
   some (Sum.inl (w64 (v3 + 1)))
 else
  inrO (law_AssignHeals_J3 v1 ())
noncomputable def law_AssignHeals_L1 (v : Bool) (v1 : Board) (v0 : Int) : Option Bool :=
 loopO (fun y => law_AssignHeals_B1 v v1 y) v0
noncomputable def law_AssignHeals_J2 (v : Bool) (v1 : Board) : Option Bool :=
 law_AssignHeals_L1 v v1 0
noncomputable def law_AssignHeals_J5 (v4 : Board × Int) (v6 : Board) : Option ((Board × Int) ⊕ Bool) :=
 some (Sum.inl (v6, w64 (v4.2 + 1)))
noncomputable def law_AssignHeals_B3 (v4 : Board × Int) (x2 : List Order × Fault) (v7 : Board × Int) : Option ((Board × Int) ⊕ ((Board × Int) ⊕ Bool)) :=
 if (decide (v7.2 < (x2.1.length : Int))) = true then
  asrt (0 ≤ v7.2 ∧ v7.2 < (x2.1.length : Int)) <|
  ob (assign_Do_v1 v7.1 (⟨(lget x2.1 v7.2).Kind, (lget x2.1 v7.2).ID, (lget x2.1 v7.2).Host, (lget x2.1 v7.2).Turn, (lget x2.1 v7.2).Row⟩ : Order)) fun x3 =>
  if (!decide (x3.2.Code = 0)) = true then
   some (Sum.inr (Sum.inr false))
  else
   some (Sum.inl (x3.1, w64 (v7.2 + 1)))
 else
  inrO (law_AssignHeals_J5 v4 v7.1)
noncomputable def law_AssignHeals_L3 (v4 : Board × Int) (x2 : List Order × Fault) (v0 : Board × Int) : Option ((Board × Int) ⊕ Bool) :=
 loopO (fun y => law_AssignHeals_B3 v4 x2 y) v0
noncomputable def law_AssignHeals_J4 (v4 : Board × Int) (v5 : Board) : Option ((Board × Int) ⊕ Bool) :=
 ob (assign_Due_v1 v5) fun x2 =>
 if ((!decide (x2.2.Code = 0)) || ((decide (v4.2 = 1)) && (decide (0 < (x2.1.length : Int))))) = true then
  some (Sum.inr false)
 else
  law_AssignHeals_L3 v4 x2 (v5, 0)
noncomputable def law_AssignHeals_J6 (v8 : Board × Int) (v11 : Board) : Option ((Board × Int) ⊕ ((Board × Int) ⊕ Bool)) :=
 some (Sum.inl (v11, w64 (v8.2 + 1)))
noncomputable def law_AssignHeals_B4 (v4 : Board × Int) (v8 : Board × Int) : Option ((Board × Int) ⊕ ((Board × Int) ⊕ Bool)) :=
 if (decide (v8.2 < (v8.1.Slots.length : Int))) = true then
  asrt (0 ≤ v8.2 ∧ v8.2 < (v8.1.Slots.length : Int)) <|
  ob (
   if (decide (((lget v8.1.Slots v8.2).State) = 1)) = true then
    some 4
   else
    some 0) fun (v9 : Int) =>
  ob (
   if (decide (((lget v8.1.Slots v8.2).State) = 3)) = true then
    some 6
   else
    some v9) fun (v10 : Int) =>
  if (decide (0 < v10)) = true then
   ob (assign_Do_v1 v8.1 (⟨v10, ((lget v8.1.Slots v8.2).Part).ID, (lget v8.1.Slots v8.2).Host, (lget v8.1.Slots v8.2).Turn, ([] : List UInt8)⟩ : Order)) fun x4 =>
   if ((!decide (x4.2.Code = 0)) || (!decide ((x4.1.Slots.length : Int) = (v8.1.Slots.length : Int)))) = true then
    some (Sum.inr (Sum.inr false))
   else
    law_AssignHeals_J6 v8 x4.1
  else
   law_AssignHeals_J6 v8 v8.1
 else
  inrO (law_AssignHeals_J4 v4 v8.1)
noncomputable def law_AssignHeals_L4 (v4 : Board × Int) (v0 : Board × Int) : Option ((Board × Int) ⊕ Bool) :=
 loopO (fun y => law_AssignHeals_B4 v4 y) v0
noncomputable def law_AssignHeals_B2 (v : Bool) (v4 : Board × Int) : Option ((Board × Int) ⊕ Bool) :=
 if (decide (v4.2 < 2)) = true then
  law_AssignHeals_L4 v4 (v4.1, 0)
 else
  inrO (law_AssignHeals_J2 v v4.1)
noncomputable def law_AssignHeals_L2 (v : Bool) (v0 : Board × Int) : Option Bool :=
 loopO (fun y => law_AssignHeals_B2 v y) v0
noncomputable def law_AssignHeals_J1 (x1 : Board × List Fault × Fault) (v : Bool) : Option Bool :=
 law_AssignHeals_L2 v (x1.1, 0)
noncomputable def law_AssignHeals_B5 (x1 : Board × List Fault × Fault) (v12 : Bool × Int) : Option ((Bool × Int) ⊕ Bool) :=
 if (decide (v12.2 < (x1.1.Hosts.length : Int))) = true then
  asrt ((!v12.1) = true → 0 ≤ v12.2 ∧ v12.2 < (x1.1.Hosts.length : Int)) <|
  some (Sum.inl (v12.1 || ((lget x1.1.Hosts v12.2).Alive), w64 (v12.2 + 1)))
 else
  inrO (law_AssignHeals_J1 x1 v12.1)
noncomputable def law_AssignHeals_L5 (x1 : Board × List Fault × Fault) (v0 : Bool × Int) : Option Bool :=
 loopO (fun y => law_AssignHeals_B5 x1 y) v0
noncomputable def law_AssignHeals (orders : List Order) : Option Bool :=
 ob (law_assignBegun) fun x =>
 if (!x) = true then
  some false
 else
  if (decide (200 < (orders.length : Int))) = true then
   some true
  else
   ob (assign_Play_v1 orders) fun x1 =>
   if (((!decide (x1.2.2.Code = 0)) || (decide (900000000 < x1.1.Turn))) || (decide (900000000 < x1.1.Next))) = true then
    some false
   else
    law_AssignHeals_L5 x1 (false, 0)
theorem law_AssignHeals_ok (orders : List Order) (r : Bool) (hF : law_AssignHeals orders = some r) : Pe Try.prog 12 S.none [.sl 5 (orders.map e_Order)] (.bool r) S.none := by
 refine Pe_of (N := 167) (res := [.tmp 2]) (ts := [4]) Ty.ok Fn.b12 Try.func12 rfl rfl rfl rfl rfl rfl ?_
 intro Q g hfin
 unfold law_AssignHeals at hF
 refine ZRs [] [0] [] [] [] .nil ?_
 refine Wk_seq ?_
 refine Wk_seq ?_
 obtain ⟨x, h0, hF⟩ := ob_elim hF
 refine ZR [.callB (.bool x)] [0, 21] [] [] [(21, .bool (!x))] (.cons (law_assignBegun_ok  x h0) .nil) ?_
 refine Wk_split rfl (fun hb => ?_) (fun hb => ?_)
 ·have hF := ite_t hF hb
  refine ZRs [] [2] [] [] [(2, .bool false)] .nil ?_
  have hF := some_elim hF
  exact Wk_ret (hfin _ ⟨[], [], [], [], [], [], by first | (rw [← hF]; kernel_rfl) | kernel_rfl⟩)
 ·have hF := ite_f hF hb
  refine Wk_skip ?_
  refine Wk_seq ?_
  refine ZRs [.nat (orders.length : Int)] [0, 24] [] [] [(24, .bool (decide (200 < (orders.length : Int))))] (.cons (len_ok e_Order orders) .nil) ?_
  refine Wk_split rfl (fun hb => ?_) (fun hb => ?_)
  ·have hF := ite_t hF hb
   refine ZRs [] [2] [] [] [(2, .bool true)] .nil ?_
   have hF := some_elim hF
   exact Wk_ret (hfin _ ⟨[], [], [], [], [], [], by first | (rw [← hF]; kernel_rfl) | kernel_rfl⟩)
  ·have hF := ite_f hF hb
   refine Wk_skip ?_
   refine Wk_seq ?_
   obtain ⟨x1, h1, hF⟩ := ob_elim hF
   refine UR [.call (.tup [.agg (c_Board x1.1), .sl 2 (x1.2.1.map e_Fault), .agg [.i x1.2.2.Code, .i x1.2.2.At]])] [3, 5] [3, 5] [] [] [(3, .ptr 3 0), (5, .ptr 5 0)] [(3, (c_Board x1.1)), (5, [.i x1.2.2.Code, .i x1.2.2.At])] [] [] (.cons (assign_Play_v1_ok orders x1 h1) .nil) ?_
   refine Wk_seq ?_
   refine ZRs [] [3, 43] [3] [] [(43, .bool (((!decide (x1.2.2.Code = 0)) || (decide (900000000 < x1.1.Turn))) || (decide (900000000 < x1.1.Next))))] .nil ?_
   refine Wk_split rfl (fun hb => ?_) (fun hb => ?_)
   ·have hF := ite_t hF hb
    refine ZRs [] [2] [] [] [(2, .bool false)] .nil ?_
    have hF := some_elim hF
    exact Wk_ret (hfin _ ⟨[], [], [], [], [], [], by first | (rw [← hF]; kernel_rfl) | kernel_rfl⟩)
   ·have hF := ite_f hF hb
    refine Wk_skip ?_
    refine ZRs [] [3, 6] [3] [] [(6, .bool false)] .nil ?_
    refine Wk_seq ?_
    refine ZRs [] [3, 6, 7] [3] [] [(7, .i 0)] .nil ?_
    refine Wk_meetP (fun v : Bool => (⟨[(3, .ptr 3 0), (6, .bool v)], [(3, (c_Board x1.1))], [], [], []⟩ : S)) (fun v => law_AssignHeals_J1 x1 v = some r) ?_ ?_
    ·refine Wk_block ?_
     unfold law_AssignHeals_L5 at hF
     refine Wk_trim (fs := [3, 6, 7]) (bs := [3]) (rs := []) (ms := []) (aa := []) (nv := []) (t := (fun v12 : Bool × Int => (⟨[(3, .ptr 3 0), (6, .bool v12.1), (7, .i v12.2)], [(3, (c_Board x1.1))], [], [], []⟩ : S)) (false, 0)) (by kernel_rfl) ?_
     refine Wk_iter (step := fun y => law_AssignHeals_B5 x1 y) (r := r) (fun v12 : Bool × Int => (⟨[(3, .ptr 3 0), (6, .bool v12.1), (7, .i v12.2)], [(3, (c_Board x1.1))], [], [], []⟩ : S)) (false, 0) hF ?_
     intro n1 v12 y1 hF ih1 dn1
     have hF : law_AssignHeals_B5 x1 v12 = some y1 := hF
     unfold law_AssignHeals_B5 at hF
     refine Wk_seq ?_
     refine ZRs [.nat (x1.1.Hosts.length : Int)] [3, 6, 7, 48] [3] [] [(48, .bool (decide (v12.2 < (x1.1.Hosts.length : Int))))] (.cons (len_ok e_Host x1.1.Hosts) .nil) ?_
     refine Wk_split rfl (fun hb => ?_) (fun hb => ?_)
     ·have hF := ite_t hF hb
      refine Wk_skip ?_
      refine Wk_seq ?_
      refine Wk_block ?_
      obtain ⟨h8, hF⟩ := asrt_elim hF
      refine ZR [.av (e_Host (lget x1.1.Hosts v12.2))] [3, 6, 7] [3] [] [(6, .bool (v12.1 || ((lget x1.1.Hosts v12.2).Alive)))] (.cons (fun (ga0 : (!v12.1) = true) => (idx_ok e_Host (h8 ga0))) .nil) ?_
      refine Wk_blk ?_
      refine ZR [] [3, 6, 7] [3] [] [(7, .i (w64 (v12.2 + 1)))] .nil ?_
      refine Wk_trim (fs := [3, 6, 7]) (bs := [3]) (rs := []) (ms := []) (aa := []) (nv := []) ?_ (ih1 _ (some_elim hF).symm)
      kernel_rfl
     ·have hF := ite_f hF hb
      refine Wk_exit rfl ?_
      have hF := inrO_done hF dn1
      exact Wk_metP v12.1 [3, 6] [3] [] [] [] [] hF (by kernel_rfl)
    ·intro v hF
     have hF : law_AssignHeals_J1 x1 v = some r := hF
     unfold law_AssignHeals_J1 at hF
     refine Wk_seq ?_
     refine ZRs [] [3, 6, 8] [3] [] [(8, .i 0)] .nil ?_
     refine Wk_meetP (fun v1 : Board => (⟨[(3, .ptr 3 0), (6, .bool v)], [(3, (c_Board v1))], [], [], []⟩ : S)) (fun v1 => law_AssignHeals_J2 v v1 = some r) ?_ ?_
     ·refine Wk_block ?_
      unfold law_AssignHeals_L2 at hF
      refine Wk_trim (fs := [3, 6, 8]) (bs := [3]) (rs := []) (ms := []) (aa := []) (nv := []) (t := (fun v4 : Board × Int => (⟨[(3, .ptr 3 0), (6, .bool v), (8, .i v4.2)], [(3, (c_Board v4.1))], [], [], []⟩ : S)) (x1.1, 0)) (by kernel_rfl) ?_
      refine Wk_iter (step := fun y => law_AssignHeals_B2 v y) (r := r) (fun v4 : Board × Int => (⟨[(3, .ptr 3 0), (6, .bool v), (8, .i v4.2)], [(3, (c_Board v4.1))], [], [], []⟩ : S)) (x1.1, 0) hF ?_
      intro n1 v4 y1 hF ih1 dn1
      have hF : law_AssignHeals_B2 v v4 = some y1 := hF
      unfold law_AssignHeals_B2 at hF
      refine Wk_seq ?_
      refine ZRs [] [3, 6, 8, 61] [3] [] [(61, .bool (decide (v4.2 < 2)))] .nil ?_
      refine Wk_split rfl (fun hb => ?_) (fun hb => ?_)
      ·have hF := ite_t hF hb
       refine Wk_skip ?_
       refine Wk_seq ?_
       refine Wk_block ?_
       refine Wk_seq ?_
       refine ZRs [] [3, 6, 8, 9] [3] [] [(9, .i 0)] .nil ?_
       refine Wk_meetP (fun v5 : Board => (⟨[(3, .ptr 3 0), (6, .bool v), (8, .i v4.2)], [(3, (c_Board v5))], [], [], []⟩ : S)) (fun v5 => law_AssignHeals_J4 v4 v5 = some y1) ?_ ?_
       ·refine Wk_block ?_
        unfold law_AssignHeals_L4 at hF
        refine Wk_trim (fs := [3, 6, 8, 9]) (bs := [3]) (rs := []) (ms := []) (aa := []) (nv := []) (t := (fun v8 : Board × Int => (⟨[(3, .ptr 3 0), (6, .bool v), (8, .i v4.2), (9, .i v8.2)], [(3, (c_Board v8.1))], [], [], []⟩ : S)) (v4.1, 0)) (by kernel_rfl) ?_
        refine Wk_iter (step := fun y => law_AssignHeals_B4 v4 y) (r := y1) (fun v8 : Board × Int => (⟨[(3, .ptr 3 0), (6, .bool v), (8, .i v4.2), (9, .i v8.2)], [(3, (c_Board v8.1))], [], [], []⟩ : S)) (v4.1, 0) hF ?_
        intro n2 v8 y2 hF ih2 dn2
        have hF : law_AssignHeals_B4 v4 v8 = some y2 := hF
        unfold law_AssignHeals_B4 at hF
        refine Wk_seq ?_
        refine ZRs [.nat (v8.1.Slots.length : Int)] [3, 6, 8, 9, 68] [3] [] [(68, .bool (decide (v8.2 < (v8.1.Slots.length : Int))))] (.cons (len_ok e_Slot v8.1.Slots) .nil) ?_
        refine Wk_split rfl (fun hb => ?_) (fun hb => ?_)
        ·have hF := ite_t hF hb
         refine Wk_skip ?_
         refine Wk_seq ?_
         refine Wk_block ?_
         refine Wk_seq ?_
         obtain ⟨h6, hF⟩ := asrt_elim hF
         refine UR [.av (e_Slot (lget v8.1.Slots v8.2))] [3, 6, 8, 9, 10] [3, 10] [] [] [(10, .ptr 10 0)] [(10, [.str (((lget v8.1.Slots v8.2).Part).From), .str (((lget v8.1.Slots v8.2).Part).To), .i (((lget v8.1.Slots v8.2).Part).ID), .i ((lget v8.1.Slots v8.2).State), .i ((lget v8.1.Slots v8.2).Host), .i ((lget v8.1.Slots v8.2).Turn)])] [] [] (.cons (idx_ok e_Slot h6) .nil) ?_
         refine ZRs [] [3, 6, 8, 9, 10, 11] [3, 10] [] [(11, .i 0)] .nil ?_
         refine Wk_seq ?_
         refine ZRs [] [3, 6, 8, 9, 10, 11, 78] [3, 10] [] [(78, .bool (decide (((lget v8.1.Slots v8.2).State) = 1)))] .nil ?_
         obtain ⟨v9, hv, hF⟩ := ob_elim hF
         refine Wk_meet (⟨[(3, .ptr 3 0), (6, .bool v), (8, .i v4.2), (9, .i v8.2), (10, .ptr 10 0), (11, .i v9)], [(3, (c_Board v8.1)), (10, [.str (((lget v8.1.Slots v8.2).Part).From), .str (((lget v8.1.Slots v8.2).Part).To), .i (((lget v8.1.Slots v8.2).Part).ID), .i ((lget v8.1.Slots v8.2).State), .i ((lget v8.1.Slots v8.2).Host), .i ((lget v8.1.Slots v8.2).Turn)])], [], [], []⟩ : S) ?_ ?_
         ·have hF := hv
          refine Wk_split rfl (fun hb => ?_) (fun hb => ?_)
          ·have hF := ite_t hF hb
           refine ZR [] [3, 6, 8, 9, 10, 11] [3, 10] [] [(11, .i 4)] .nil ?_
           exact Wk_met (fs := [3, 6, 8, 9, 10, 11]) (bs := [3, 10]) (rs := []) (ms := []) (aa := []) (nv := []) (by first | (rw [← some_elim hF]; kernel_rfl) | kernel_rfl)
          ·have hF := ite_f hF hb
           refine Wk_skip ?_
           exact Wk_met (fs := [3, 6, 8, 9, 10, 11]) (bs := [3, 10]) (rs := []) (ms := []) (aa := []) (nv := []) (by first | (rw [← some_elim hF]; kernel_rfl) | kernel_rfl)
         ·refine Wk_seq ?_
          refine ZRs [] [3, 6, 8, 9, 10, 11, 81] [3, 10] [] [(81, .bool (decide (((lget v8.1.Slots v8.2).State) = 3)))] .nil ?_
          obtain ⟨v10, hv, hF⟩ := ob_elim hF
          refine Wk_meet (⟨[(3, .ptr 3 0), (6, .bool v), (8, .i v4.2), (9, .i v8.2), (10, .ptr 10 0), (11, .i v10)], [(3, (c_Board v8.1)), (10, [.str (((lget v8.1.Slots v8.2).Part).From), .str (((lget v8.1.Slots v8.2).Part).To), .i (((lget v8.1.Slots v8.2).Part).ID), .i ((lget v8.1.Slots v8.2).State), .i ((lget v8.1.Slots v8.2).Host), .i ((lget v8.1.Slots v8.2).Turn)])], [], [], []⟩ : S) ?_ ?_
          ·have hF := hv
           refine Wk_split rfl (fun hb => ?_) (fun hb => ?_)
           ·have hF := ite_t hF hb
            refine ZR [] [3, 6, 8, 9, 10, 11] [3, 10] [] [(11, .i 6)] .nil ?_
            exact Wk_met (fs := [3, 6, 8, 9, 10, 11]) (bs := [3, 10]) (rs := []) (ms := []) (aa := []) (nv := []) (by first | (rw [← some_elim hF]; kernel_rfl) | kernel_rfl)
           ·have hF := ite_f hF hb
            refine Wk_skip ?_
            exact Wk_met (fs := [3, 6, 8, 9, 10, 11]) (bs := [3, 10]) (rs := []) (ms := []) (aa := []) (nv := []) (by first | (rw [← some_elim hF]; kernel_rfl) | kernel_rfl)
          ·refine ZRs [] [3, 6, 8, 9, 10, 11, 83] [3, 10] [] [(83, .bool (decide (0 < v10)))] .nil ?_
           refine Wk_meetP (fun v11 : Board => (⟨[(3, .ptr 3 0), (6, .bool v), (8, .i v4.2), (9, .i v8.2)], [(3, (c_Board v11))], [], [], []⟩ : S)) (fun v11 => law_AssignHeals_J6 v8 v11 = some y2) ?_ ?_
           ·refine Wk_split rfl (fun hb => ?_) (fun hb => ?_)
            ·have hF := ite_t hF hb
             refine Wk_seq ?_
             obtain ⟨x4, h7, hF⟩ := ob_elim hF
             refine UR [.call (.tup [.agg (c_Board x4.1), .agg [.i x4.2.Code, .i x4.2.At]])] [3, 6, 8, 9, 12, 13] [3, 12, 13] [] [] [(12, .ptr 12 0), (13, .ptr 13 0)] [(12, (c_Board x4.1)), (13, [.i x4.2.Code, .i x4.2.At])] [] [] (.cons (assign_Do_v1_ok v8.1 (⟨v10, ((lget v8.1.Slots v8.2).Part).ID, (lget v8.1.Slots v8.2).Host, (lget v8.1.Slots v8.2).Turn, ([] : List UInt8)⟩ : Order) x4 h7) .nil) ?_
             refine Wk_seq ?_
             refine ZRs [.nat (x4.1.Slots.length : Int), .nat (v8.1.Slots.length : Int)] [3, 6, 8, 9, 12, 109] [3, 12] [] [(109, .bool ((!decide (x4.2.Code = 0)) || (!decide ((x4.1.Slots.length : Int) = (v8.1.Slots.length : Int)))))] (.cons (fun (_ : (!(!decide (x4.2.Code = 0))) = true) => (len_ok e_Slot x4.1.Slots)) (.cons (fun (_ : (!(!decide (x4.2.Code = 0))) = true) => (len_ok e_Slot v8.1.Slots)) .nil)) ?_
             refine Wk_split rfl (fun hb => ?_) (fun hb => ?_)
             ·have hF := ite_t hF hb
              refine ZRs [] [2] [] [] [(2, .bool false)] .nil ?_
              have hF := ret_done hF dn2
              have hF := ret_done hF dn1
              have hF := some_elim hF
              exact Wk_ret (hfin _ ⟨[], [], [], [], [], [], by first | (rw [← hF]; kernel_rfl) | kernel_rfl⟩)
             ·have hF := ite_f hF hb
              refine Wk_skip ?_
              refine UR [] [3, 6, 8, 9] [3] [] [] [] [(3, (c_Board x4.1))] [] [] .nil ?_
              exact Wk_metP x4.1 [3, 6, 8, 9] [3] [] [] [] [] hF (by kernel_rfl)
            ·have hF := ite_f hF hb
             refine Wk_skip ?_
             exact Wk_metP v8.1 [3, 6, 8, 9] [3] [] [] [] [] hF (by kernel_rfl)
           ·intro v11 hF
            have hF : law_AssignHeals_J6 v8 v11 = some y2 := hF
            unfold law_AssignHeals_J6 at hF
            refine Wk_blk ?_
            refine ZR [] [3, 6, 8, 9] [3] [] [(9, .i (w64 (v8.2 + 1)))] .nil ?_
            refine Wk_trim (fs := [3, 6, 8, 9]) (bs := [3]) (rs := []) (ms := []) (aa := []) (nv := []) ?_ (ih2 _ (some_elim hF).symm)
            kernel_rfl
        ·have hF := ite_f hF hb
         refine Wk_exit rfl ?_
         have hF := inrO_done hF dn2
         exact Wk_metP v8.1 [3, 6, 8] [3] [] [] [] [] hF (by kernel_rfl)
       ·intro v5 hF
        have hF : law_AssignHeals_J4 v4 v5 = some y1 := hF
        unfold law_AssignHeals_J4 at hF
        refine Wk_seq ?_
        obtain ⟨x2, h3, hF⟩ := ob_elim hF
        refine UR [.call (.tup [.sl 5 (x2.1.map e_Order), .agg [.i x2.2.Code, .i x2.2.At]])] [3, 6, 8, 14, 15] [3, 15] [] [] [(14, .sl 5 (x2.1.map e_Order)), (15, .ptr 15 0)] [(15, [.i x2.2.Code, .i x2.2.At])] [] [] (.cons (assign_Due_v1_ok v5 x2 h3) .nil) ?_
        refine Wk_seq ?_
        refine ZRs [.nat (x2.1.length : Int)] [3, 6, 8, 14, 127] [3] [] [(127, .bool ((!decide (x2.2.Code = 0)) || ((decide (v4.2 = 1)) && (decide (0 < (x2.1.length : Int))))))] (.cons (fun (_ : (decide (v4.2 = 1)) = true) (_ : (!(!decide (x2.2.Code = 0))) = true) => (len_ok e_Order x2.1)) .nil) ?_
        refine Wk_split rfl (fun hb => ?_) (fun hb => ?_)
        ·have hF := ite_t hF hb
         refine ZRs [] [2] [] [] [(2, .bool false)] .nil ?_
         have hF := ret_done hF dn1
         have hF := some_elim hF
         exact Wk_ret (hfin _ ⟨[], [], [], [], [], [], by first | (rw [← hF]; kernel_rfl) | kernel_rfl⟩)
        ·have hF := ite_f hF hb
         refine Wk_skip ?_
         refine ZRs [] [3, 6, 8, 14, 16] [3] [] [(16, .i 0)] .nil ?_
         refine Wk_meetP (fun v6 : Board => (⟨[(3, .ptr 3 0), (6, .bool v), (8, .i v4.2)], [(3, (c_Board v6))], [], [], []⟩ : S)) (fun v6 => law_AssignHeals_J5 v4 v6 = some y1) ?_ ?_
         ·refine Wk_block ?_
          unfold law_AssignHeals_L3 at hF
          refine Wk_trim (fs := [3, 6, 8, 14, 16]) (bs := [3]) (rs := []) (ms := []) (aa := []) (nv := []) (t := (fun v7 : Board × Int => (⟨[(3, .ptr 3 0), (6, .bool v), (8, .i v4.2), (14, .sl 5 (x2.1.map e_Order)), (16, .i v7.2)], [(3, (c_Board v7.1))], [], [], []⟩ : S)) (v5, 0)) (by kernel_rfl) ?_
          refine Wk_iter (step := fun y => law_AssignHeals_B3 v4 x2 y) (r := y1) (fun v7 : Board × Int => (⟨[(3, .ptr 3 0), (6, .bool v), (8, .i v4.2), (14, .sl 5 (x2.1.map e_Order)), (16, .i v7.2)], [(3, (c_Board v7.1))], [], [], []⟩ : S)) (v5, 0) hF ?_
          intro n2 v7 y2 hF ih2 dn2
          have hF : law_AssignHeals_B3 v4 x2 v7 = some y2 := hF
          unfold law_AssignHeals_B3 at hF
          refine Wk_seq ?_
          refine ZRs [.nat (x2.1.length : Int)] [3, 6, 8, 14, 16, 131] [3] [] [(131, .bool (decide (v7.2 < (x2.1.length : Int))))] (.cons (len_ok e_Order x2.1) .nil) ?_
          refine Wk_split rfl (fun hb => ?_) (fun hb => ?_)
          ·have hF := ite_t hF hb
           refine Wk_skip ?_
           refine Wk_seq ?_
           refine Wk_block ?_
           refine Wk_seq ?_
           obtain ⟨h4, hF⟩ := asrt_elim hF
           obtain ⟨x3, h5, hF⟩ := ob_elim hF
           refine UD [.av (e_Order (lget x2.1 v7.2)), .call (.tup [.agg (c_Board x3.1), .agg [.i x3.2.Code, .i x3.2.At]])] [3, 6, 8, 14, 16, 17, 18] [3, 17, 18] [] [] [(17, .ptr 17 0), (18, .ptr 18 0)] [(17, (c_Board x3.1)), (18, [.i x3.2.Code, .i x3.2.At])] [] [] (.cons (idx_ok e_Order h4) (.cons (assign_Do_v1_ok v7.1 (⟨(lget x2.1 v7.2).Kind, (lget x2.1 v7.2).ID, (lget x2.1 v7.2).Host, (lget x2.1 v7.2).Turn, (lget x2.1 v7.2).Row⟩ : Order) x3 h5) .nil)) ?_
           refine Wk_seq ?_
           refine ZRs [] [3, 6, 8, 14, 16, 17, 145] [3, 17] [] [(145, .bool (!decide (x3.2.Code = 0)))] .nil ?_
           refine Wk_split rfl (fun hb => ?_) (fun hb => ?_)
           ·have hF := ite_t hF hb
            refine ZRs [] [2] [] [] [(2, .bool false)] .nil ?_
            have hF := ret_done hF dn2
            have hF := ret_done hF dn1
            have hF := some_elim hF
            exact Wk_ret (hfin _ ⟨[], [], [], [], [], [], by first | (rw [← hF]; kernel_rfl) | kernel_rfl⟩)
           ·have hF := ite_f hF hb
            refine Wk_skip ?_
            refine UR [] [3, 6, 8, 14, 16] [3] [] [] [] [(3, (c_Board x3.1))] [] [] .nil ?_
            refine Wk_blk ?_
            refine ZR [] [3, 6, 8, 14, 16] [3] [] [(16, .i (w64 (v7.2 + 1)))] .nil ?_
            refine Wk_trim (fs := [3, 6, 8, 14, 16]) (bs := [3]) (rs := []) (ms := []) (aa := []) (nv := []) ?_ (ih2 _ (some_elim hF).symm)
            kernel_rfl
          ·have hF := ite_f hF hb
           refine Wk_exit rfl ?_
           have hF := inrO_done hF dn2
           exact Wk_metP v7.1 [3, 6, 8] [3] [] [] [] [] hF (by kernel_rfl)
         ·intro v6 hF
          have hF : law_AssignHeals_J5 v4 v6 = some y1 := hF
          unfold law_AssignHeals_J5 at hF
          refine Wk_blk ?_
          refine ZR [] [3, 6, 8] [3] [] [(8, .i (w64 (v4.2 + 1)))] .nil ?_
          refine Wk_trim (fs := [3, 6, 8]) (bs := [3]) (rs := []) (ms := []) (aa := []) (nv := []) ?_ (ih1 _ (some_elim hF).symm)
          kernel_rfl
      ·have hF := ite_f hF hb
       refine Wk_exit rfl ?_
       have hF := inrO_done hF dn1
       exact Wk_metP v4.1 [3, 6] [3] [] [] [] [] hF (by kernel_rfl)
     ·intro v1 hF
      have hF : law_AssignHeals_J2 v v1 = some r := hF
      unfold law_AssignHeals_J2 at hF
      refine Wk_seq ?_
      refine ZRs [] [3, 6, 19] [3] [] [(19, .i 0)] .nil ?_
      refine Wk_meetP (fun v2 : Unit => (⟨[(3, .ptr 3 0)], [(3, (c_Board v1))], [], [], []⟩ : S)) (fun v2 => law_AssignHeals_J3 v1 v2 = some r) ?_ ?_
      ·refine Wk_block ?_
       unfold law_AssignHeals_L1 at hF
       refine Wk_trim (fs := [3, 6, 19]) (bs := [3]) (rs := []) (ms := []) (aa := []) (nv := []) (t := (fun v3 : Int => (⟨[(3, .ptr 3 0), (6, .bool v), (19, .i v3)], [(3, (c_Board v1))], [], [], []⟩ : S)) 0) (by kernel_rfl) ?_
       refine Wk_iter (step := fun y => law_AssignHeals_B1 v v1 y) (r := r) (fun v3 : Int => (⟨[(3, .ptr 3 0), (6, .bool v), (19, .i v3)], [(3, (c_Board v1))], [], [], []⟩ : S)) 0 hF ?_
       intro n1 v3 y1 hF ih1 dn1
       have hF : law_AssignHeals_B1 v v1 v3 = some y1 := hF
       unfold law_AssignHeals_B1 at hF
       refine Wk_seq ?_
       refine ZRs [.nat (v1.Slots.length : Int)] [3, 6, 19, 151] [3] [] [(151, .bool (decide (v3 < (v1.Slots.length : Int))))] (.cons (len_ok e_Slot v1.Slots) .nil) ?_
       refine Wk_split rfl (fun hb => ?_) (fun hb => ?_)
       ·have hF := ite_t hF hb
        refine Wk_skip ?_
        refine Wk_seq ?_
        refine Wk_block ?_
        refine Wk_seq ?_
        obtain ⟨h2, hF⟩ := asrt_elim hF
        refine ZR [.av (e_Slot (lget v1.Slots v3))] [3, 6, 19, 162] [3] [] [(162, .bool (!((decide (((lget v1.Slots v3).State) = 2)) == v)))] (.cons (idx_ok e_Slot h2) .nil) ?_
        refine Wk_split rfl (fun hb => ?_) (fun hb => ?_)
        ·have hF := ite_t hF hb
         refine ZRs [] [2] [] [] [(2, .bool false)] .nil ?_
         have hF := ret_done hF dn1
         have hF := some_elim hF
         exact Wk_ret (hfin _ ⟨[], [], [], [], [], [], by first | (rw [← hF]; kernel_rfl) | kernel_rfl⟩)
        ·have hF := ite_f hF hb
         refine Wk_skip ?_
         refine Wk_blk ?_
         refine ZR [] [3, 6, 19] [3] [] [(19, .i (w64 (v3 + 1)))] .nil ?_
         refine Wk_trim (fs := [3, 6, 19]) (bs := [3]) (rs := []) (ms := []) (aa := []) (nv := []) ?_ (ih1 _ (some_elim hF).symm)
         kernel_rfl
       ·have hF := ite_f hF hb
        refine Wk_exit rfl ?_
        have hF := inrO_done hF dn1
        exact Wk_metP () [3] [3] [] [] [] [] hF (by kernel_rfl)
      ·intro v2 hF
       have hF : law_AssignHeals_J3 v1 v2 = some r := hF
       unfold law_AssignHeals_J3 at hF
       refine ZRs [.nat (v1.Slots.length : Int)] [2] [] [] [(2, .bool (decide (0 < (v1.Slots.length : Int))))] (.cons (len_ok e_Slot v1.Slots) .nil) ?_
       have hF := some_elim hF
       exact Wk_ret (hfin _ ⟨[], [], [], [], [], [], by first | (rw [← hF]; kernel_rfl) | kernel_rfl⟩)

end G
end Go.Proofs.Ytdjlninhfndjfaa
