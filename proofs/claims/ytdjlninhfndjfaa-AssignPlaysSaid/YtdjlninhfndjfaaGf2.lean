/- The program's functions as plain functions, and that they are these. Written by a program (dec2.py). -/
import Derived.Test.YtdjlninhfndjfaaGf1
namespace Go.Proofs.Ytdjlninhfndjfaa
open Go Go.Dm
set_option linter.unusedVariables false
set_option linter.unusedSimpArgs false
set_option maxRecDepth 100000
namespace G
/- assign.Due -/
noncomputable def assign_Due_v1_J1 (v : List Order) : Option (List Order × Fault) :=
 some (v, (⟨0, 0⟩ : Fault))
noncomputable def assign_Due_v1_J2 (b : Board) (v1 : List Int × List Order × Int) (v2 : Int) : Option ((List Int × List Order × Int) ⊕ (List Order × Fault)) :=
 ob (
  if (decide (0 ≤ v2)) = true then
   asrt (0 ≤ v2 ∧ v2 < (v1.1.length : Int)) <|
   asrt (0 ≤ v2 ∧ v2 < (v1.1.length : Int)) <|
   asrt (0 ≤ v2 ∧ v2 < (v1.1.length : Int)) <|
   asrt (0 ≤ v2 ∧ v2 < (v1.1.length : Int)) <|
   asrt (0 ≤ v2 ∧ v2 < (b.Hosts.length : Int)) <|
   asrt (((v1.2.1 ++ [(⟨3, ((lget b.Slots v1.2.2).Part).ID, (lget b.Hosts v2).ID, 0, ([] : List UInt8)⟩ : Order)]).length : Int) * 48 ≤ 140737488351232) <|
   lt ((v1.2.1 ++ [(⟨3, ((lget b.Slots v1.2.2).Part).ID, (lget b.Hosts v2).ID, 0, ([] : List UInt8)⟩ : Order)])) fun (v4 : List Order) =>
   some ((lset v1.1 v2 (w64 ((lget v1.1 v2) + 1))), v4)
  else
   some (v1.1, v1.2.1)) fun (v3 : List Int × List Order) =>
 some (Sum.inl (v3.1, v3.2, w64 (v1.2.2 + 1)))
noncomputable def assign_Due_v1_B2 (b : Board) (v1 : List Int × List Order × Int) (v5 : Int × Int) : Option ((Int × Int) ⊕ ((List Int × List Order × Int) ⊕ (List Order × Fault))) :=
 if (decide (v5.2 < (b.Hosts.length : Int))) = true then
  asrt (0 ≤ v5.2 ∧ v5.2 < (b.Hosts.length : Int)) <|
  asrt ((!(decide (v5.1 < 0))) = true → ((decide (((lget b.Slots v1.2.2).State) = 0)) && ((lget b.Hosts v5.2).Alive)) = true → 0 ≤ v5.2 ∧ v5.2 < (v1.1.length : Int)) <|
  asrt ((!(decide (v5.1 < 0))) = true → ((decide (((lget b.Slots v1.2.2).State) = 0)) && ((lget b.Hosts v5.2).Alive)) = true → 0 ≤ v5.2 ∧ v5.2 < (v1.1.length : Int)) <|
  asrt ((!(decide (v5.1 < 0))) = true → ((decide (((lget b.Slots v1.2.2).State) = 0)) && ((lget b.Hosts v5.2).Alive)) = true → 0 ≤ v5.1 ∧ v5.1 < (v1.1.length : Int)) <|
  asrt ((!(decide (v5.1 < 0))) = true → ((decide (((lget b.Slots v1.2.2).State) = 0)) && ((lget b.Hosts v5.2).Alive)) = true → 0 ≤ v5.1 ∧ v5.1 < (v1.1.length : Int)) <|
  asrt ((!((decide (v5.1 < 0)) || (decide ((lget v1.1 v5.2) < (lget v1.1 v5.1))))) = true → ((decide (((lget b.Slots v1.2.2).State) = 0)) && ((lget b.Hosts v5.2).Alive)) = true → 0 ≤ v5.2 ∧ v5.2 < (v1.1.length : Int)) <|
  asrt ((!((decide (v5.1 < 0)) || (decide ((lget v1.1 v5.2) < (lget v1.1 v5.1))))) = true → ((decide (((lget b.Slots v1.2.2).State) = 0)) && ((lget b.Hosts v5.2).Alive)) = true → 0 ≤ v5.2 ∧ v5.2 < (v1.1.length : Int)) <|
  asrt ((!((decide (v5.1 < 0)) || (decide ((lget v1.1 v5.2) < (lget v1.1 v5.1))))) = true → ((decide (((lget b.Slots v1.2.2).State) = 0)) && ((lget b.Hosts v5.2).Alive)) = true → 0 ≤ v5.1 ∧ v5.1 < (v1.1.length : Int)) <|
  asrt ((!((decide (v5.1 < 0)) || (decide ((lget v1.1 v5.2) < (lget v1.1 v5.1))))) = true → ((decide (((lget b.Slots v1.2.2).State) = 0)) && ((lget b.Hosts v5.2).Alive)) = true → 0 ≤ v5.1 ∧ v5.1 < (v1.1.length : Int)) <|
  asrt ((decide ((lget v1.1 v5.2) = (lget v1.1 v5.1))) = true → (!((decide (v5.1 < 0)) || (decide ((lget v1.1 v5.2) < (lget v1.1 v5.1))))) = true → ((decide (((lget b.Slots v1.2.2).State) = 0)) && ((lget b.Hosts v5.2).Alive)) = true → 0 ≤ v5.1 ∧ v5.1 < (b.Hosts.length : Int)) <|
  ob (
   if (((decide (((lget b.Slots v1.2.2).State) = 0)) && ((lget b.Hosts v5.2).Alive)) && (((decide (v5.1 < 0)) || (decide ((lget v1.1 v5.2) < (lget v1.1 v5.1)))) || ((decide ((lget v1.1 v5.2) = (lget v1.1 v5.1))) && (decide (((lget b.Hosts v5.2).ID) < ((lget b.Hosts v5.1).ID)))))) = true then
    some v5.2
   else
    some v5.1) fun (v6 : Int) =>
  some (Sum.inl (v6, w64 (v5.2 + 1)))
 else
  inrO (assign_Due_v1_J2 b v1 v5.1)
noncomputable def assign_Due_v1_L2 (b : Board) (v1 : List Int × List Order × Int) (v0 : Int × Int) : Option ((List Int × List Order × Int) ⊕ (List Order × Fault)) :=
 loopO (fun y => assign_Due_v1_B2 b v1 y) v0
noncomputable def assign_Due_v1_B1 (b : Board) (v1 : List Int × List Order × Int) : Option ((List Int × List Order × Int) ⊕ (List Order × Fault)) :=
 if (decide (v1.2.2 < (b.Slots.length : Int))) = true then
  asrt (0 ≤ v1.2.2 ∧ v1.2.2 < (b.Slots.length : Int)) <|
  assign_Due_v1_L2 b v1 ((-1), 0)
 else
  inrO (assign_Due_v1_J1 v1.2.1)
noncomputable def assign_Due_v1_L1 (b : Board) (v0 : List Int × List Order × Int) : Option (List Order × Fault) :=
 loopO (fun y => assign_Due_v1_B1 b y) v0
noncomputable def assign_Due_v1 (b : Board) : Option (List Order × Fault) :=
 ob (assign_Check b) fun x =>
 if (!decide (x.Code = 0)) = true then
  some (([] : List Order), x)
 else
  ob (assign_Loads b) fun x1 =>
  assign_Due_v1_L1 b (x1, ([] : List Order), 0)
theorem assign_Due_v1_ok (b : Board) (r : List Order × Fault) (hF : assign_Due_v1 b = some r) : Pe Try.prog 54 S.none [.agg (c_Board b)] (.tup [.sl 5 (r.1.map e_Order), .agg (c_Fault r.2)]) S.none := by
 refine PeN (N := 105) (res := [.tmp 2, .cell 3 26]) (ts := [53, 26]) Ty.ok Fn.b54 Try.func54 ?_
 intro Q g hfin
 unfold assign_Due_v1 at hF
 refine VR [] [1, 3] [1, 3] [] [] [(1, .ptr 1 0), (3, .ptr 3 0)] [(1, (c_Board b)), (3, [.i 0, .i 0])] [] [] .nil ?_
 obtain ⟨x, h0, hF⟩ := ob_elim hF
 refine VR [.callB (.agg (c_Fault x))] [1, 3, 4] [1, 3, 4] [] [] [(4, .ptr 4 0)] [(4, (c_Fault x))] [] [] (hc (assign_Check_ok b x h0) .nil) ?_
 refine NR [] [1, 3, 4, 16] [1, 3, 4] [] [(16, .bool (!decide (x.Code = 0)))] .nil ?_
 refine Nif hF (fun hb hF => ?_) (fun hb hF => ?_)
 ·refine VD [] [2, 3] [3] [] [] [(2, .nils)] [(3, (c_Fault x))] [] [] .nil ?_
  cases hF
  exact Wk_ret (hfin _ ⟨[], [], [], [], [], [], by kernel_rfl⟩)
 ·obtain ⟨x1, h1, hF⟩ := ob_elim hF
  refine VR [.callE [] [] [] [] (.row 19 0) ⟨[], [], [(19, .o 3 1 0 (x1.map e_i64))], [], []⟩] [1, 3, 5] [1, 3] [19] [] [(5, .row 19 0)] [] [(19, .o 3 1 0 (x1.map e_i64))] [] (hc (Pe.ren (assign_Loads_ok b x1 h1) ⟨[], [(10, 19)], [], []⟩) .nil) ?_
  refine NR [] [1, 3, 5, 6] [1, 3] [19] [(6, .nils)] .nil ?_
  refine NR [.nat (b.Slots.length : Int)] [1, 3, 5, 6, 21, 22, 23] [1, 3] [19] [(21, .sl 6 (b.Slots.map e_Slot)), (22, .i (b.Slots.length : Int)), (23, .i 0)] (hc (len_ok e_Slot b.Slots) .nil) ?_
  refine NmeetP (fun v : List Order => (⟨[(3, .ptr 3 0), (6, .row 101 0)], [(3, [.i 0, .i 0])], [(101, .z 91 5 0 (v.map e_Order))], [], []⟩ : S)) (fun v => assign_Due_v1_J1 v = some r) ?_ ?_
  ·refine Nblk ?_
   unfold assign_Due_v1_L1 at hF
   refine Wk_nilrow 6 60000 91 5 rfl rfl rfl ?_
   refine Wk_trim (fs := [1, 3, 5, 6, 21, 22, 23]) (bs := [1, 3]) (rs := [19, 60000]) (ms := []) (aa := []) (nv := []) rfl ?_
   refine Wk_ren' ⟨[], [(60000, 101)], [], []⟩ rfl ?_
   refine Niter (fun v1 : List Int × List Order × Int => (⟨[(1, .ptr 1 0), (3, .ptr 3 0), (5, .row 19 0), (6, .row 101 0), (21, .sl 6 (b.Slots.map e_Slot)), (22, .i (b.Slots.length : Int)), (23, .i v1.2.2)], [(1, (c_Board b)), (3, [.i 0, .i 0])], [(19, .o 3 1 0 (v1.1.map e_i64)), (101, .z 91 5 0 (v1.2.1.map e_Order))], [], []⟩ : S)) [] hF (by kernel_rfl) ?_
   intro n1 v1 y1 hF ih1 dn1
   unfold assign_Due_v1_B1 at hF
   refine NR [] [1, 3, 5, 6, 21, 22, 23, 24] [1, 3] [19, 101] [(24, .bool (decide (v1.2.2 < (b.Slots.length : Int))))] .nil ?_
   refine Nif hF (fun hb hF => ?_) (fun hb hF => ?_)
   ·refine Nblk ?_
    obtain ⟨h2, hF⟩ := asrt_elim hF
    refine VR [.av (e_Slot (lget b.Slots v1.2.2))] [1, 3, 5, 6, 8, 21, 22, 23] [1, 3, 8] [19, 101] [] [(8, .ptr 8 0)] [(8, [.str (((lget b.Slots v1.2.2).Part).From), .str (((lget b.Slots v1.2.2).Part).To), .i (((lget b.Slots v1.2.2).Part).ID), .i ((lget b.Slots v1.2.2).State), .i ((lget b.Slots v1.2.2).Host), .i ((lget b.Slots v1.2.2).Turn)])] [] [] (hc (idx_ok e_Slot h2) .nil) ?_
    refine NR [] [1, 3, 5, 6, 8, 9, 21, 22, 23] [1, 3, 8] [19, 101] [(9, .i (-1))] .nil ?_
    refine NR [.nat (b.Hosts.length : Int)] [1, 3, 5, 6, 8, 9, 21, 22, 23, 28, 29, 30] [1, 3, 8] [19, 101] [(28, .sl 3 (b.Hosts.map e_Host)), (29, .i (b.Hosts.length : Int)), (30, .i 0)] (hc (len_ok e_Host b.Hosts) .nil) ?_
    refine NmeetP (fun v2 : Int => (⟨[(1, .ptr 1 0), (3, .ptr 3 0), (5, .row 19 0), (6, .row 101 0), (8, .ptr 8 0), (9, .i v2), (21, .sl 6 (b.Slots.map e_Slot)), (22, .i (b.Slots.length : Int)), (23, .i v1.2.2)], [(1, (c_Board b)), (3, [.i 0, .i 0]), (8, [.str (((lget b.Slots v1.2.2).Part).From), .str (((lget b.Slots v1.2.2).Part).To), .i (((lget b.Slots v1.2.2).Part).ID), .i ((lget b.Slots v1.2.2).State), .i ((lget b.Slots v1.2.2).Host), .i ((lget b.Slots v1.2.2).Turn)])], [(19, .o 3 1 0 (v1.1.map e_i64)), (101, .z 91 5 0 (v1.2.1.map e_Order))], [], []⟩ : S)) (fun v2 => assign_Due_v1_J2 b v1 v2 = some y1) ?_ ?_
    ·refine Nblk ?_
     unfold assign_Due_v1_L2 at hF
     refine Niter (fun v5 : Int × Int => (⟨[(1, .ptr 1 0), (3, .ptr 3 0), (5, .row 19 0), (6, .row 101 0), (8, .ptr 8 0), (9, .i v5.1), (21, .sl 6 (b.Slots.map e_Slot)), (22, .i (b.Slots.length : Int)), (23, .i v1.2.2), (28, .sl 3 (b.Hosts.map e_Host)), (29, .i (b.Hosts.length : Int)), (30, .i v5.2)], [(1, (c_Board b)), (3, [.i 0, .i 0]), (8, [.str (((lget b.Slots v1.2.2).Part).From), .str (((lget b.Slots v1.2.2).Part).To), .i (((lget b.Slots v1.2.2).Part).ID), .i ((lget b.Slots v1.2.2).State), .i ((lget b.Slots v1.2.2).Host), .i ((lget b.Slots v1.2.2).Turn)])], [(19, .o 3 1 0 (v1.1.map e_i64)), (101, .z 91 5 0 (v1.2.1.map e_Order))], [], []⟩ : S)) [] hF (by kernel_rfl) ?_
     intro n2 v5 y2 hF ih2 dn2
     unfold assign_Due_v1_B2 at hF
     refine NR [] [1, 3, 5, 6, 8, 9, 21, 22, 23, 28, 29, 30, 31] [1, 3, 8] [19, 101] [(31, .bool (decide (v5.2 < (b.Hosts.length : Int))))] .nil ?_
     refine Nif hF (fun hb hF => ?_) (fun hb hF => ?_)
     ·refine Nblk ?_
      obtain ⟨h9, hF⟩ := asrt_elim hF
      refine VR [.av (e_Host (lget b.Hosts v5.2))] [1, 3, 5, 6, 8, 9, 10, 11, 21, 22, 23, 28, 29, 30] [1, 3, 8, 11] [19, 101] [] [(10, .i v5.2), (11, .ptr 11 0)] [(11, (c_Host (lget b.Hosts v5.2)))] [] [] (hc (idx_ok e_Host h9) .nil) ?_
      obtain ⟨h10, h11, h12, h13, hF⟩ := asrt4 hF
      obtain ⟨h14, h15, h16, h17, hF⟩ := asrt4 hF
      obtain ⟨h18, hF⟩ := asrt_elim hF
      refine ND [.av (e_i64 (lget v1.1 v5.2)), .av (e_i64 (lget v1.1 v5.1)), .av (e_i64 (lget v1.1 v5.2)), .av (e_i64 (lget v1.1 v5.1)), .av (e_Host (lget b.Hosts v5.1))] [1, 3, 5, 6, 8, 9, 10, 21, 22, 23, 28, 29, 30, 78] [1, 3, 8] [19, 101] [(78, .bool (((decide (((lget b.Slots v1.2.2).State) = 0)) && ((lget b.Hosts v5.2).Alive)) && (((decide (v5.1 < 0)) || (decide ((lget v1.1 v5.2) < (lget v1.1 v5.1)))) || ((decide ((lget v1.1 v5.2) = (lget v1.1 v5.1))) && (decide (((lget b.Hosts v5.2).ID) < ((lget b.Hosts v5.1).ID)))))))] (hc (fun (ga0 : (!(decide (v5.1 < 0))) = true) (ga1 : ((decide (((lget b.Slots v1.2.2).State) = 0)) && ((lget b.Hosts v5.2).Alive)) = true) => (ixr_ok e_i64 (h10 ga0 ga1))) (hc (fun (ga0 : (!(decide (v5.1 < 0))) = true) (ga1 : ((decide (((lget b.Slots v1.2.2).State) = 0)) && ((lget b.Hosts v5.2).Alive)) = true) => (ldr_ok e_i64 (h11 ga0 ga1))) (hc (fun (ga0 : (!(decide (v5.1 < 0))) = true) (ga1 : ((decide (((lget b.Slots v1.2.2).State) = 0)) && ((lget b.Hosts v5.2).Alive)) = true) => (ixr_ok e_i64 (h12 ga0 ga1))) (hc (fun (ga0 : (!(decide (v5.1 < 0))) = true) (ga1 : ((decide (((lget b.Slots v1.2.2).State) = 0)) && ((lget b.Hosts v5.2).Alive)) = true) => (ldr_ok e_i64 (h13 ga0 ga1))) (hc (fun (ga0 : (!((decide (v5.1 < 0)) || (decide ((lget v1.1 v5.2) < (lget v1.1 v5.1))))) = true) (ga1 : ((decide (((lget b.Slots v1.2.2).State) = 0)) && ((lget b.Hosts v5.2).Alive)) = true) => (ixr_ok e_i64 (h14 ga0 ga1))) (hc (fun (ga0 : (!((decide (v5.1 < 0)) || (decide ((lget v1.1 v5.2) < (lget v1.1 v5.1))))) = true) (ga1 : ((decide (((lget b.Slots v1.2.2).State) = 0)) && ((lget b.Hosts v5.2).Alive)) = true) => (ldr_ok e_i64 (h15 ga0 ga1))) (hc (fun (ga0 : (!((decide (v5.1 < 0)) || (decide ((lget v1.1 v5.2) < (lget v1.1 v5.1))))) = true) (ga1 : ((decide (((lget b.Slots v1.2.2).State) = 0)) && ((lget b.Hosts v5.2).Alive)) = true) => (ixr_ok e_i64 (h16 ga0 ga1))) (hc (fun (ga0 : (!((decide (v5.1 < 0)) || (decide ((lget v1.1 v5.2) < (lget v1.1 v5.1))))) = true) (ga1 : ((decide (((lget b.Slots v1.2.2).State) = 0)) && ((lget b.Hosts v5.2).Alive)) = true) => (ldr_ok e_i64 (h17 ga0 ga1))) (hc (fun (ga0 : (decide ((lget v1.1 v5.2) = (lget v1.1 v5.1))) = true) (ga1 : (!((decide (v5.1 < 0)) || (decide ((lget v1.1 v5.2) < (lget v1.1 v5.1))))) = true) (ga2 : ((decide (((lget b.Slots v1.2.2).State) = 0)) && ((lget b.Hosts v5.2).Alive)) = true) => (idx_ok e_Host (h18 ga0 ga1 ga2))) .nil))))))))) ?_
      obtain ⟨v6, hv, hF⟩ := ob_elim hF
      refine Nmeet (⟨[(1, .ptr 1 0), (3, .ptr 3 0), (5, .row 19 0), (6, .row 101 0), (8, .ptr 8 0), (9, .i v6), (21, .sl 6 (b.Slots.map e_Slot)), (22, .i (b.Slots.length : Int)), (23, .i v1.2.2), (28, .sl 3 (b.Hosts.map e_Host)), (29, .i (b.Hosts.length : Int)), (30, .i v5.2)], [(1, (c_Board b)), (3, [.i 0, .i 0]), (8, [.str (((lget b.Slots v1.2.2).Part).From), .str (((lget b.Slots v1.2.2).Part).To), .i (((lget b.Slots v1.2.2).Part).ID), .i ((lget b.Slots v1.2.2).State), .i ((lget b.Slots v1.2.2).Host), .i ((lget b.Slots v1.2.2).Turn)])], [(19, .o 3 1 0 (v1.1.map e_i64)), (101, .z 91 5 0 (v1.2.1.map e_Order))], [], []⟩ : S) ?_ ?_
      ·have hF := hv
       refine Nif hF (fun hb hF => ?_) (fun hb hF => ?_)
       ·refine NR [] [1, 3, 5, 6, 8, 9, 21, 22, 23, 28, 29, 30] [1, 3, 8] [19, 101] [(9, .i v5.2)] .nil ?_
        cases hF
        exact met [] (by kernel_rfl)
       ·cases hF
        exact met [] (by kernel_rfl)
      ·refine NR [] [1, 3, 5, 6, 8, 9, 21, 22, 23, 28, 29, 30] [1, 3, 8] [19, 101] [(30, .i (w64 (v5.2 + 1)))] .nil ?_
       exact Nrnd [] hF ih2 (by kernel_rfl)
     ·refine Nexit rfl ?_
      have hF := inrO_done hF dn2
      exact metP v5.1 [] hF (by kernel_rfl)
    ·intro v2 hF
     have hF : assign_Due_v1_J2 b v1 v2 = some y1 := hF
     unfold assign_Due_v1_J2 at hF
     refine NR [] [1, 3, 5, 6, 8, 9, 21, 22, 23, 82] [1, 3, 8] [19, 101] [(82, .bool (decide (0 ≤ v2)))] .nil ?_
     obtain ⟨v3, hv, hF⟩ := ob_elim hF
     refine Nmeet (⟨[(1, .ptr 1 0), (3, .ptr 3 0), (5, .row 19 0), (6, .row 101 0), (21, .sl 6 (b.Slots.map e_Slot)), (22, .i (b.Slots.length : Int)), (23, .i v1.2.2)], [(1, (c_Board b)), (3, [.i 0, .i 0])], [(19, .o 3 1 0 (v3.1.map e_i64)), (101, .z 91 5 0 (v3.2.map e_Order))], [], []⟩ : S) ?_ ?_
     ·have hF := hv
      refine Nif hF (fun hb hF => ?_) (fun hb hF => ?_)
      ·obtain ⟨h3, hF⟩ := asrt_elim hF
       obtain ⟨h4, h5, hF⟩ := asrt2 hF
       obtain ⟨h6, hF⟩ := asrt_elim hF
       refine VR [.av (e_i64 (lget v1.1 v2)), .av (e_i64 (lget v1.1 v2)), .xs ((lset v1.1 v2 (w64 ((lget v1.1 v2) + 1))).map e_i64)] [1, 3, 5, 6, 8, 9, 21, 22, 23] [1, 3, 8] [19, 101] [] [] [] [(19, .o 3 1 0 ((lset v1.1 v2 (w64 ((lget v1.1 v2) + 1))).map e_i64))] [] (hc (ixr_ok e_i64 h3) (hc (ldr_ok e_i64 h4) (hc (ixr_ok e_i64 h5) (hc (ldr_ok e_i64 h6) (hc (set_ok e_i64 v1.1 v2 (w64 ((lget v1.1 v2) + 1))) (hc (Nat.zero_le v2.toNat) .nil)))))) ?_
       obtain ⟨h7, h8, hF⟩ := asrt2 hF
       refine NDL ((v1.2.1 ++ [(⟨3, ((lget b.Slots v1.2.2).Part).ID, (lget b.Hosts v2).ID, 0, ([] : List UInt8)⟩ : Order)])) (fun v4 : List Order => ([(6, .row 101 1)], [], [(101, .z 91 5 1 (v4.map e_Order))], [])) [.av (e_Host (lget b.Hosts v2)), .sealed, .xs ((v1.2.1 ++ [(⟨3, ((lget b.Slots v1.2.2).Part).ID, (lget b.Hosts v2).ID, 0, ([] : List UInt8)⟩ : Order)]).map e_Order)] [1, 3, 5, 6, 21, 22, 23] [1, 3] [19, 101] [] (hc (idx_ok e_Host h7) (hc (app_ok e_Order v1.2.1 [(⟨3, ((lget b.Slots v1.2.2).Part).ID, (lget b.Hosts v2).ID, 0, ([] : List UInt8)⟩ : Order)]) (hc (appl_ok e_Order h8) .nil))) (fun v4 hv => ?_)
       have hF := lt_elim hF hv
       cases hF
       exact met [(101, ⟨0, true, true, false⟩)] (by kernel_rfl)
      ·cases hF
       exact met [] (by kernel_rfl)
     ·refine NR [] [1, 3, 5, 6, 21, 22, 23] [1, 3] [19, 101] [(23, .i (w64 (v1.2.2 + 1)))] .nil ?_
      exact Nrnd [] hF ih1 (by kernel_rfl)
   ·refine Nexit rfl ?_
    have hF := inrO_done hF dn1
    exact metP v1.2.1 [] hF (by kernel_rfl)
  ·intro v hF
   have hF : assign_Due_v1_J1 v = some r := hF
   unfold assign_Due_v1_J1 at hF
   refine NR [] [2, 3] [3] [101] [(2, .row 101 0)] .nil ?_
   cases hF
   exact Wk_ret (hfin _ ⟨[], [], [], [], [], [], by kernel_rfl⟩)

/- tabularyref.SameOrders -/
noncomputable def R_SameOrders_J1 (v : Unit) : Option Bool :=
 some true
noncomputable def R_SameOrders_B1 (a0 : List Order) (b : List Order) (v1 : Int) : Option (Int ⊕ Bool) :=
 if (decide (v1 < (a0.length : Int))) = true then
  asrt (0 ≤ v1 ∧ v1 < (a0.length : Int)) <|
  asrt (0 ≤ v1 ∧ v1 < (b.length : Int)) <|
  if (!(decide ((lget a0 v1).Kind = (lget b v1).Kind) && (decide ((lget a0 v1).ID = (lget b v1).ID) && (decide ((lget a0 v1).Host = (lget b v1).Host) && (decide ((lget a0 v1).Turn = (lget b v1).Turn) && (decide ((lget a0 v1).Row = (lget b v1).Row) && true)))))) = true then
   some (Sum.inr false)
  else
   some (Sum.inl (w64 (v1 + 1)))
 else
  inrO (R_SameOrders_J1 ())
noncomputable def R_SameOrders_L1 (a0 : List Order) (b : List Order) (v0 : Int) : Option Bool :=
 loopO (fun y => R_SameOrders_B1 a0 b y) v0
noncomputable def R_SameOrders (a0 : List Order) (b : List Order) : Option Bool :=
 if (!decide ((a0.length : Int) = (b.length : Int))) = true then
  some false
 else
  R_SameOrders_L1 a0 b 0
theorem R_SameOrders_ok (a0 : List Order) (b : List Order) (r : Bool) (hF : R_SameOrders a0 b = some r) : Pe Try.prog 56 S.none [.sl 5 (a0.map e_Order), .sl 5 (b.map e_Order)] (.bool r) S.none := by
 refine PeN (N := 26) (res := [.tmp 4]) (ts := [4]) Ty.ok Fn.b56 Try.func56 ?_
 intro Q g hfin
 unfold R_SameOrders at hF
 refine NR [] [0, 1] [] [] [] .nil ?_
 refine NR [.nat (a0.length : Int), .nat (b.length : Int)] [0, 1, 10] [] [] [(10, .bool (!decide ((a0.length : Int) = (b.length : Int))))] (hc (len_ok e_Order a0) (hc (len_ok e_Order b) .nil)) ?_
 refine Nif hF (fun hb hF => ?_) (fun hb hF => ?_)
 ·refine NR [] [4] [] [] [(4, .bool false)] .nil ?_
  cases hF
  exact Wk_ret (hfin _ ⟨[], [], [], [], [], [], by kernel_rfl⟩)
 ·refine NR [] [0, 1, 5] [] [] [(5, .i 0)] .nil ?_
  refine NmeetP (fun v : Unit => (⟨[], [], [], [], []⟩ : S)) (fun v => R_SameOrders_J1 v = some r) ?_ ?_
  ·refine Nblk ?_
   unfold R_SameOrders_L1 at hF
   refine Niter (fun v1 : Int => (⟨[(0, .sl 5 (a0.map e_Order)), (1, .sl 5 (b.map e_Order)), (5, .i v1)], [], [], [], []⟩ : S)) [] hF (by kernel_rfl) ?_
   intro n1 v1 y1 hF ih1 dn1
   unfold R_SameOrders_B1 at hF
   refine NR [.nat (a0.length : Int)] [0, 1, 5, 14] [] [] [(14, .bool (decide (v1 < (a0.length : Int))))] (hc (len_ok e_Order a0) .nil) ?_
   refine Nif hF (fun hb hF => ?_) (fun hb hF => ?_)
   ·refine Nblk ?_
    obtain ⟨h0, h1, hF⟩ := asrt2 hF
    refine ND [.av (e_Order (lget a0 v1)), .av (e_Order (lget b v1))] [0, 1, 5, 25] [] [] [(25, .bool (!(decide ((lget a0 v1).Kind = (lget b v1).Kind) && (decide ((lget a0 v1).ID = (lget b v1).ID) && (decide ((lget a0 v1).Host = (lget b v1).Host) && (decide ((lget a0 v1).Turn = (lget b v1).Turn) && (decide ((lget a0 v1).Row = (lget b v1).Row) && true)))))))] (hc (idx_ok e_Order h0) (hc (idx_ok e_Order h1) .nil)) ?_
    refine Nif hF (fun hb hF => ?_) (fun hb hF => ?_)
    ·refine NR [] [4] [] [] [(4, .bool false)] .nil ?_
     have hF := ret_done hF dn1
     cases hF
     exact Wk_ret (hfin _ ⟨[], [], [], [], [], [], by kernel_rfl⟩)
    ·refine NR [] [0, 1, 5] [] [] [(5, .i (w64 (v1 + 1)))] .nil ?_
     exact Nrnd [] hF ih1 (by kernel_rfl)
   ·refine Nexit rfl ?_
    have hF := inrO_done hF dn1
    exact metP () [] hF (by kernel_rfl)
  ·intro v hF
   have hF : R_SameOrders_J1 v = some r := hF
   unfold R_SameOrders_J1 at hF
   refine NR [] [4] [] [] [(4, .bool true)] .nil ?_
   cases hF
   exact Wk_ret (hfin _ ⟨[], [], [], [], [], [], by kernel_rfl⟩)

/- tabularylaw.assignBegun -/
noncomputable def law_assignBegun  : Option Bool :=
 lt (assign_New_v1) fun x =>
 ob (assign_Do_v1 x (⟨1, 7, 0, 0, ([] : List UInt8)⟩ : Order)) fun x1 =>
 ob (assign_Due_v1 x1.1) fun x2 =>
 ob (if ((decide (x1.2.Code = 0)) && (decide (x2.2.Code = 0))) = true then (R_SameOrders x2.1 [(⟨3, 1, 7, 0, ([] : List UInt8)⟩ : Order)]) else some default) fun x3 =>
 some (((decide (x1.2.Code = 0)) && (decide (x2.2.Code = 0))) && x3)
theorem law_assignBegun_ok  (r : Bool) (hF : law_assignBegun  = some r) : Pe Try.prog 51 S.none [] (.bool r) S.none := by
 refine PeN (N := 30) (res := [.tmp 0]) (ts := [4]) Ty.ok Fn.b51 Try.func51 ?_
 intro Q g hfin
 unfold law_assignBegun at hF
 refine NR [] [] [] [] [] .nil ?_
 obtain ⟨x, h0, hF⟩ := lt_split hF
 obtain ⟨x1, h1, hF⟩ := ob_elim hF
 refine VR [.call (.agg (c_Board x)), .call (.tup [.agg (c_Board x1.1), .agg (c_Fault x1.2)])] [1, 2] [1, 2] [] [] [(1, .ptr 1 0), (2, .ptr 2 0)] [(1, (c_Board x1.1)), (2, (c_Fault x1.2))] [] [] (hc (assign_New_v1_ok  x h0) (hc (assign_Do_v1_ok x (⟨1, 7, 0, 0, ([] : List UInt8)⟩ : Order) x1 h1) .nil)) ?_
 obtain ⟨x2, h2, hF⟩ := ob_elim hF
 refine VR [.call (.tup [.sl 5 (x2.1.map e_Order), .agg (c_Fault x2.2)])] [2, 3, 4] [2, 4] [] [] [(3, .sl 5 (x2.1.map e_Order)), (4, .ptr 4 0)] [(4, (c_Fault x2.2))] [] [] (hc (assign_Due_v1_ok x1.1 x2 h2) .nil) ?_
 obtain ⟨x3, h3, hF⟩ := ob_elim hF
 refine NR [.sealed, .callB (.bool x3)] [0] [] [] [(0, .bool (((decide (x1.2.Code = 0)) && (decide (x2.2.Code = 0))) && x3))] (hc (fun (ga0 : ((decide (x1.2.Code = 0)) && (decide (x2.2.Code = 0))) = true) => (R_SameOrders_ok x2.1 [(⟨3, 1, 7, 0, ([] : List UInt8)⟩ : Order)] x3 (ite_t h3 ga0))) .nil) ?_
 cases hF
 exact Wk_ret (hfin _ ⟨[], [], [], [], [], [], by kernel_rfl⟩)

/- tabularylaw.vastBoard -/
noncomputable def law_vastBoard (b : Board) : Bool :=
 lt ((decide (100 < (b.Hosts.length : Int))) || (decide (400 < (b.Slots.length : Int)))) fun (v : Bool) =>
 v

/- tabularyref.CopyBoard -/
noncomputable def R_CopyBoard (b : Board) : Option (List Host × List Slot × Int × Int) :=
 asrt ((b.Hosts.length : Int) * 24 ≤ 140737488351232) <|
 asrt ((b.Slots.length : Int) * 64 ≤ 140737488351232) <|
 some (b.Hosts, b.Slots, b.Turn, b.Next)
theorem R_CopyBoard_ok (b : Board) (r : List Host × List Slot × Int × Int) (hF : R_CopyBoard b = some r) : Pe Try.prog 39 ⟨[], [], [], [], []⟩ [.agg (c_Board b)] (.agg [.row 5 1, .row 9 1, .i r.2.2.1, .i r.2.2.2]) ⟨[], [], [(5, .z 108 3 1 (r.1.map e_Host)), (9, .z 64 6 1 (r.2.1.map e_Slot))], [], []⟩ := by
 refine PeN (N := 12) (res := [.cell 2 62]) (ts := [62]) Ty.ok Fn.b39 Try.func39 ?_
 intro Q g hfin
 unfold R_CopyBoard at hF
 refine VR [] [1, 2] [1, 2] [] [] [(1, .ptr 1 0), (2, .ptr 2 0)] [(1, (c_Board b)), (2, [.nils, .nils, .i 0, .i 0])] [] [] .nil ?_
 obtain ⟨h0, hF⟩ := asrt_elim hF
 refine VR [.xs (b.Hosts.map e_Host)] [1, 2] [1, 2] [5] [] [] [(1, [.row 5 1, .sl 6 (b.Slots.map e_Slot), .i b.Turn, .i b.Next])] [(5, .z 108 3 1 (b.Hosts.map e_Host))] [] (hc (app0_ok e_Host b.Hosts) (hc (appl_ok e_Host h0) .nil)) ?_
 obtain ⟨h1, hF⟩ := asrt_elim hF
 refine VR [.xs (b.Slots.map e_Slot)] [1, 2] [1, 2] [5, 9] [] [] [(1, [.row 5 1, .row 9 1, .i b.Turn, .i b.Next])] [(9, .z 64 6 1 (b.Slots.map e_Slot))] [] (hc (app0_ok e_Slot b.Slots) (hc (appl_ok e_Slot h1) .nil)) ?_
 refine VR [] [2] [2] [5, 9] [] [] [(2, [.row 5 1, .row 9 1, .i b.Turn, .i b.Next])] [] [] .nil ?_
 cases hF
 exact Wk_ret (hfin _ ⟨[5, 9], [], [5, 9], [], [], [], by kernel_rfl⟩)

/- tabularyref.CopyBoard -/
noncomputable def R_CopyBoard_v1 (b : Board) : Option Board :=
 asrt ((b.Hosts.length : Int) * 24 ≤ 140737488351232) <|
 asrt ((b.Slots.length : Int) * 64 ≤ 140737488351232) <|
 some b

/- tabularyref.F -/
noncomputable def R_F (code : Int) (at0 : Int) : Fault :=
 (⟨code, at0⟩ : Fault)
theorem R_F_ok (code : Int) (at0 : Int) (r : Fault) (hF : R_F code at0 = r) : Pe Try.prog 22 S.none [.i code, .i at0] (.agg (c_Fault r)) S.none := by
 refine PeN (N := 8) (res := [.cell 4 26]) (ts := [26]) Ty.ok Fn.b22 Try.func22 ?_
 intro Q g hfin
 unfold R_F at hF
 refine VR [] [0, 1, 4] [4] [] [] [(4, .ptr 4 0)] [(4, [.i 0, .i 0])] [] [] .nil ?_
 refine VR [] [4] [4] [] [] [] [(4, [.i code, .i at0])] [] [] .nil ?_
 cases hF
 exact Wk_ret (hfin _ ⟨[], [], [], [], [], [], by kernel_rfl⟩)

/- tabularyref.Num -/
noncomputable def R_Num (num : Int) : Bool :=
 (decide (0 ≤ num)) && (decide (num ≤ 1000000000))
theorem R_Num_ok (num : Int) (r : Bool) (hF : R_Num num = r) : Pe Try.prog 24 S.none [.i num] (.bool r) S.none := by
 refine PeN (N := 9) (res := [.tmp 2]) (ts := [4]) Ty.ok Fn.b24 Try.func24 ?_
 intro Q g hfin
 unfold R_Num at hF
 refine NR [] [0] [] [] [] .nil ?_
 refine NR [] [2] [] [] [(2, .bool ((decide (0 ≤ num)) && (decide (num ≤ 1000000000))))] .nil ?_
 cases hF
 exact Wk_ret (hfin _ ⟨[], [], [], [], [], [], by kernel_rfl⟩)

/- tabularyref.One -/
noncomputable def R_One (num : Int) : Bool :=
 lt (R_Num num) fun x =>
 (decide (0 < num)) && x
theorem R_One_ok (num : Int) (r : Bool) (hF : R_One num = r) : Pe Try.prog 83 S.none [.i num] (.bool r) S.none := by
 refine PeN (N := 9) (res := [.tmp 2]) (ts := [4]) Ty.ok Fn.b83 Try.func83 ?_
 intro Q g hfin
 unfold R_One at hF
 refine NR [] [0] [] [] [] .nil ?_
 obtain ⟨x, h0, hF⟩ := lt_split hF
 refine NR [.callB (.bool x)] [2] [] [] [(2, .bool ((decide (0 < num)) && x))] (hc (fun (ga0 : (decide (0 < num)) = true) => (R_Num_ok num x h0)) .nil) ?_
 cases hF
 exact Wk_ret (hfin _ ⟨[], [], [], [], [], [], by kernel_rfl⟩)

/- tabularyref.PartsOf -/
noncomputable def R_PartsOf_J1 (v : List Part) : Option (List Part) :=
 some v
noncomputable def R_PartsOf_B1 (b : Board) (v1 : List Part × Int) : Option ((List Part × Int) ⊕ (List Part)) :=
 if (decide (v1.2 < (b.Slots.length : Int))) = true then
  asrt (0 ≤ v1.2 ∧ v1.2 < (b.Slots.length : Int)) <|
  asrt (((v1.1 ++ [(⟨((lget b.Slots v1.2).Part).From, ((lget b.Slots v1.2).Part).To, ((lget b.Slots v1.2).Part).ID⟩ : Part)]).length : Int) * 40 ≤ 140737488351232) <|
  lt ((v1.1 ++ [(⟨((lget b.Slots v1.2).Part).From, ((lget b.Slots v1.2).Part).To, ((lget b.Slots v1.2).Part).ID⟩ : Part)])) fun (v2 : List Part) =>
  some (Sum.inl (v2, w64 (v1.2 + 1)))
 else
  inrO (R_PartsOf_J1 v1.1)
noncomputable def R_PartsOf_L1 (b : Board) (v0 : List Part × Int) : Option (List Part) :=
 loopO (fun y => R_PartsOf_B1 b y) v0
noncomputable def R_PartsOf (b : Board) : Option (List Part) :=
 R_PartsOf_L1 b (([] : List Part), 0)
theorem R_PartsOf_ok (b : Board) (r : List Part) (hF : R_PartsOf b = some r) : Pe Try.prog 84 ⟨[], [], [], [], []⟩ [.agg (c_Board b)] (.row 20 0) ⟨[], [], [(20, .z 34 3 0 (r.map e_Part))], [], []⟩ := by
 refine PeN (N := 22) (res := [.tmp 2]) (ts := [22]) Ty.ok Fn.b84 Try.func84 ?_
 intro Q g hfin
 unfold R_PartsOf at hF
 refine VR [] [1] [1] [] [] [(1, .ptr 1 0)] [(1, (c_Board b))] [] [] .nil ?_
 refine NR [] [1, 3] [1] [] [(3, .nils)] .nil ?_
 refine NR [] [1, 3, 4] [1] [] [(4, .i 0)] .nil ?_
 refine NmeetP (fun v : List Part => (⟨[(3, .row 20 0)], [], [(20, .z 34 3 0 (v.map e_Part))], [], []⟩ : S)) (fun v => R_PartsOf_J1 v = some r) ?_ ?_
 ·refine Nblk ?_
  unfold R_PartsOf_L1 at hF
  refine Wk_nilrow 3 60000 34 3 rfl rfl rfl ?_
  refine Wk_trim (fs := [1, 3, 4]) (bs := [1]) (rs := [60000]) (ms := []) (aa := []) (nv := []) rfl ?_
  refine Wk_ren' ⟨[], [(60000, 20)], [], []⟩ rfl ?_
  refine Niter (fun v1 : List Part × Int => (⟨[(1, .ptr 1 0), (3, .row 20 0), (4, .i v1.2)], [(1, (c_Board b))], [(20, .z 34 3 0 (v1.1.map e_Part))], [], []⟩ : S)) [] hF (by kernel_rfl) ?_
  intro n1 v1 y1 hF ih1 dn1
  unfold R_PartsOf_B1 at hF
  refine NR [.nat (b.Slots.length : Int)] [1, 3, 4, 9] [1] [20] [(9, .bool (decide (v1.2 < (b.Slots.length : Int))))] (hc (len_ok e_Slot b.Slots) .nil) ?_
  refine Nif hF (fun hb hF => ?_) (fun hb hF => ?_)
  ·refine Nblk ?_
   obtain ⟨h0, h1, hF⟩ := asrt2 hF
   refine NRL ((v1.1 ++ [(⟨((lget b.Slots v1.2).Part).From, ((lget b.Slots v1.2).Part).To, ((lget b.Slots v1.2).Part).ID⟩ : Part)])) (fun v2 : List Part => ([(3, .row 20 1)], [], [(20, .z 34 3 1 (v2.map e_Part))], [])) [.av (e_Slot (lget b.Slots v1.2)), .sealed, .xs ((v1.1 ++ [(⟨((lget b.Slots v1.2).Part).From, ((lget b.Slots v1.2).Part).To, ((lget b.Slots v1.2).Part).ID⟩ : Part)]).map e_Part)] [1, 3, 4] [1] [20] [] (hc (idx_ok e_Slot h0) (hc (app_ok e_Part v1.1 [(⟨((lget b.Slots v1.2).Part).From, ((lget b.Slots v1.2).Part).To, ((lget b.Slots v1.2).Part).ID⟩ : Part)]) (hc (appl_ok e_Part h1) .nil))) (fun v2 hv => ?_)
   have hF := lt_elim hF hv
   refine NR [] [1, 3, 4] [1] [20] [(4, .i (w64 (v1.2 + 1)))] .nil ?_
   exact Nrnd [(20, ⟨0, true, true, false⟩)] hF ih1 (by kernel_rfl)
  ·refine Nexit rfl ?_
   have hF := inrO_done hF dn1
   exact metP v1.1 [] hF (by kernel_rfl)
 ·intro v hF
  have hF : R_PartsOf_J1 v = some r := hF
  unfold R_PartsOf_J1 at hF
  refine NR [] [2] [] [20] [(2, .row 20 0)] .nil ?_
  cases hF
  exact Wk_ret (hfin _ ⟨[20], [], [20], [], [], [], by kernel_rfl⟩)

/- tabularyref.PartsFault -/
noncomputable def R_PartsFault_J1 (v : Unit) : Option Fault :=
 some (⟨0, 0⟩ : Fault)
noncomputable def R_PartsFault_J2 (v1 : Int) (v2 : Unit) : Option (Int ⊕ Fault) :=
 some (Sum.inl (w64 (v1 + 1)))
noncomputable def R_PartsFault_B2 (l : List Part) (v1 : Int) (v3 : Int) : Option (Int ⊕ (Int ⊕ Fault)) :=
 if (decide (v3 < v1)) = true then
  asrt (0 ≤ v3 ∧ v3 < (l.length : Int)) <|
  if (decide (((lget l v3).ID) = ((lget l v1).ID))) = true then
   lt (R_F 10 v1) fun x7 =>
   some (Sum.inr (Sum.inr x7))
  else
   some (Sum.inl (w64 (v3 + 1)))
 else
  inrO (R_PartsFault_J2 v1 ())
noncomputable def R_PartsFault_L2 (l : List Part) (v1 : Int) (v0 : Int) : Option (Int ⊕ Fault) :=
 loopO (fun y => R_PartsFault_B2 l v1 y) v0
noncomputable def R_PartsFault_B1 (l : List Part) (v1 : Int) : Option (Int ⊕ Fault) :=
 if (decide (v1 < (l.length : Int))) = true then
  asrt (0 ≤ v1 ∧ v1 < (l.length : Int)) <|
  if ((decide (40 < (((lget l v1).From).length : Int))) || (decide (40 < (((lget l v1).To).length : Int)))) = true then
   lt (R_F 8 v1) fun x2 =>
   some (Sum.inr x2)
  else
   lt (R_Num ((lget l v1).ID)) fun x3 =>
   if (!x3) = true then
    lt (R_F 3 v1) fun x4 =>
    some (Sum.inr x4)
   else
    asrt ((decide (0 < v1)) = true → (!((decide (v1 = 0)) && (!decide (((lget l v1).From) = ([] : List UInt8))))) = true → 0 ≤ w64 (v1 - 1) ∧ w64 (v1 - 1) < (l.length : Int)) <|
    if (((decide (v1 = 0)) && (!decide (((lget l v1).From) = ([] : List UInt8)))) || ((decide (0 < v1)) && (!decide (((lget l v1).From) = ((lget l (w64 (v1 - 1))).To))))) = true then
     lt (R_F 5 v1) fun x5 =>
     some (Sum.inr x5)
    else
     if (((decide (v1 = (w64 ((l.length : Int) - 1)))) && (!decide (((lget l v1).To) = ([] : List UInt8)))) || ((decide (v1 < (w64 ((l.length : Int) - 1)))) && (!Op.bytesLess ((lget l v1).From) ((lget l v1).To)))) = true then
      lt (R_F 5 v1) fun x6 =>
      some (Sum.inr x6)
     else
      R_PartsFault_L2 l v1 0
 else
  inrO (R_PartsFault_J1 ())
noncomputable def R_PartsFault_L1 (l : List Part) (v0 : Int) : Option Fault :=
 loopO (fun y => R_PartsFault_B1 l y) v0
noncomputable def R_PartsFault (l : List Part) : Option Fault :=
 if (decide ((l.length : Int) = 0)) = true then
  lt (R_F 6 (-1)) fun x =>
  some x
 else
  if (decide (200 < (l.length : Int))) = true then
   lt (R_F 2 (-1)) fun x1 =>
   some x1
  else
   R_PartsFault_L1 l 0
theorem R_PartsFault_ok (l : List Part) (r : Fault) (hF : R_PartsFault l = some r) : Pe Try.prog 20 S.none [.sl 3 (l.map e_Part)] (.agg (c_Fault r)) S.none := by
 refine PeN (N := 108) (res := [.cell 2 26]) (ts := [26]) Ty.ok Fn.b20 Try.func20 ?_
 intro Q g hfin
 unfold R_PartsFault at hF
 refine VR [] [0, 2] [2] [] [] [(2, .ptr 2 0)] [(2, [.i 0, .i 0])] [] [] .nil ?_
 refine NR [.nat (l.length : Int)] [0, 2, 8] [2] [] [(8, .bool (decide ((l.length : Int) = 0)))] (hc (len_ok e_Part l) .nil) ?_
 refine Nif hF (fun hb hF => ?_) (fun hb hF => ?_)
 ·obtain ⟨x, h0, hF⟩ := lt_split hF
  refine VR [.callB (.agg (c_Fault x))] [2] [2] [] [] [] [(2, (c_Fault x))] [] [] (hc (R_F_ok 6 (-1) x h0) .nil) ?_
  cases hF
  exact Wk_ret (hfin _ ⟨[], [], [], [], [], [], by kernel_rfl⟩)
 ·refine NR [.nat (l.length : Int)] [0, 2, 12] [2] [] [(12, .bool (decide (200 < (l.length : Int))))] (hc (len_ok e_Part l) .nil) ?_
  refine Nif hF (fun hb hF => ?_) (fun hb hF => ?_)
  ·obtain ⟨x1, h1, hF⟩ := lt_split hF
   refine VR [.callB (.agg (c_Fault x1))] [2] [2] [] [] [] [(2, (c_Fault x1))] [] [] (hc (R_F_ok 2 (-1) x1 h1) .nil) ?_
   cases hF
   exact Wk_ret (hfin _ ⟨[], [], [], [], [], [], by kernel_rfl⟩)
  ·refine NR [] [0, 2, 3] [2] [] [(3, .i 0)] .nil ?_
   refine NmeetP (fun v : Unit => (⟨[(2, .ptr 2 0)], [(2, [.i 0, .i 0])], [], [], []⟩ : S)) (fun v => R_PartsFault_J1 v = some r) ?_ ?_
   ·refine Nblk ?_
    unfold R_PartsFault_L1 at hF
    refine Niter (fun v1 : Int => (⟨[(0, .sl 3 (l.map e_Part)), (2, .ptr 2 0), (3, .i v1)], [(2, [.i 0, .i 0])], [], [], []⟩ : S)) [] hF (by kernel_rfl) ?_
    intro n1 v1 y1 hF ih1 dn1
    unfold R_PartsFault_B1 at hF
    refine NR [.nat (l.length : Int)] [0, 2, 3, 17] [2] [] [(17, .bool (decide (v1 < (l.length : Int))))] (hc (len_ok e_Part l) .nil) ?_
    refine Nif hF (fun hb hF => ?_) (fun hb hF => ?_)
    ·refine Nblk ?_
     obtain ⟨h2, hF⟩ := asrt_elim hF
     refine VR [.av (e_Part (lget l v1))] [0, 2, 3, 4] [2, 4] [] [] [(4, .ptr 4 0)] [(4, (c_Part (lget l v1)))] [] [] (hc (idx_ok e_Part h2) .nil) ?_
     refine NR [] [0, 2, 3, 4, 33] [2, 4] [] [(33, .bool ((decide (40 < (((lget l v1).From).length : Int))) || (decide (40 < (((lget l v1).To).length : Int)))))] .nil ?_
     refine Nif hF (fun hb hF => ?_) (fun hb hF => ?_)
     ·obtain ⟨x2, h3, hF⟩ := lt_split hF
      refine VR [.callB (.agg (c_Fault x2))] [2] [2] [] [] [] [(2, (c_Fault x2))] [] [] (hc (R_F_ok 8 v1 x2 h3) .nil) ?_
      have hF := ret_done hF dn1
      cases hF
      exact Wk_ret (hfin _ ⟨[], [], [], [], [], [], by kernel_rfl⟩)
     ·obtain ⟨x3, h4, hF⟩ := lt_split hF
      refine NR [.callB (.bool x3)] [0, 2, 3, 4, 39] [2, 4] [] [(39, .bool (!x3))] (hc (R_Num_ok ((lget l v1).ID) x3 h4) .nil) ?_
      refine Nif hF (fun hb hF => ?_) (fun hb hF => ?_)
      ·obtain ⟨x4, h5, hF⟩ := lt_split hF
       refine VR [.callB (.agg (c_Fault x4))] [2] [2] [] [] [] [(2, (c_Fault x4))] [] [] (hc (R_F_ok 3 v1 x4 h5) .nil) ?_
       have hF := ret_done hF dn1
       cases hF
       exact Wk_ret (hfin _ ⟨[], [], [], [], [], [], by kernel_rfl⟩)
      ·obtain ⟨h6, hF⟩ := asrt_elim hF
       refine ND [.av (e_Part (lget l (w64 (v1 - 1))))] [0, 2, 3, 4, 63] [2, 4] [] [(63, .bool (((decide (v1 = 0)) && (!decide (((lget l v1).From) = ([] : List UInt8)))) || ((decide (0 < v1)) && (!decide (((lget l v1).From) = ((lget l (w64 (v1 - 1))).To))))))] (hc (fun (ga0 : (decide (0 < v1)) = true) (ga1 : (!((decide (v1 = 0)) && (!decide (((lget l v1).From) = ([] : List UInt8))))) = true) => (idx_ok e_Part (h6 ga0 ga1))) .nil) ?_
       refine Nif hF (fun hb hF => ?_) (fun hb hF => ?_)
       ·obtain ⟨x5, h7, hF⟩ := lt_split hF
        refine VR [.callB (.agg (c_Fault x5))] [2] [2] [] [] [] [(2, (c_Fault x5))] [] [] (hc (R_F_ok 5 v1 x5 h7) .nil) ?_
        have hF := ret_done hF dn1
        cases hF
        exact Wk_ret (hfin _ ⟨[], [], [], [], [], [], by kernel_rfl⟩)
       ·refine NR [.nat (l.length : Int), .nat (l.length : Int)] [0, 2, 3, 4, 89] [2, 4] [] [(89, .bool (((decide (v1 = (w64 ((l.length : Int) - 1)))) && (!decide (((lget l v1).To) = ([] : List UInt8)))) || ((decide (v1 < (w64 ((l.length : Int) - 1)))) && (!Op.bytesLess ((lget l v1).From) ((lget l v1).To)))))] (hc (len_ok e_Part l) (hc (fun (_ : (!((decide (v1 = (w64 ((l.length : Int) - 1)))) && (!decide (((lget l v1).To) = ([] : List UInt8))))) = true) => (len_ok e_Part l)) .nil)) ?_
        refine Nif hF (fun hb hF => ?_) (fun hb hF => ?_)
        ·obtain ⟨x6, h8, hF⟩ := lt_split hF
         refine VR [.callB (.agg (c_Fault x6))] [2] [2] [] [] [] [(2, (c_Fault x6))] [] [] (hc (R_F_ok 5 v1 x6 h8) .nil) ?_
         have hF := ret_done hF dn1
         cases hF
         exact Wk_ret (hfin _ ⟨[], [], [], [], [], [], by kernel_rfl⟩)
        ·refine NR [] [0, 2, 3, 4, 5] [2, 4] [] [(5, .i 0)] .nil ?_
         refine NmeetP (fun v2 : Unit => (⟨[(0, .sl 3 (l.map e_Part)), (2, .ptr 2 0), (3, .i v1)], [(2, [.i 0, .i 0])], [], [], []⟩ : S)) (fun v2 => R_PartsFault_J2 v1 v2 = some y1) ?_ ?_
         ·refine Nblk ?_
          unfold R_PartsFault_L2 at hF
          refine Niter (fun v3 : Int => (⟨[(0, .sl 3 (l.map e_Part)), (2, .ptr 2 0), (3, .i v1), (4, .ptr 4 0), (5, .i v3)], [(2, [.i 0, .i 0]), (4, (c_Part (lget l v1)))], [], [], []⟩ : S)) [] hF (by kernel_rfl) ?_
          intro n2 v3 y2 hF ih2 dn2
          unfold R_PartsFault_B2 at hF
          refine NR [] [0, 2, 3, 4, 5, 94] [2, 4] [] [(94, .bool (decide (v3 < v1)))] .nil ?_
          refine Nif hF (fun hb hF => ?_) (fun hb hF => ?_)
          ·refine Nblk ?_
           obtain ⟨h9, hF⟩ := asrt_elim hF
           refine ND [.av (e_Part (lget l v3))] [0, 2, 3, 4, 5, 104] [2, 4] [] [(104, .bool (decide (((lget l v3).ID) = ((lget l v1).ID))))] (hc (idx_ok e_Part h9) .nil) ?_
           refine Nif hF (fun hb hF => ?_) (fun hb hF => ?_)
           ·obtain ⟨x7, h10, hF⟩ := lt_split hF
            refine VR [.callB (.agg (c_Fault x7))] [2] [2] [] [] [] [(2, (c_Fault x7))] [] [] (hc (R_F_ok 10 v1 x7 h10) .nil) ?_
            have hF := ret_done hF dn2
            have hF := ret_done hF dn1
            cases hF
            exact Wk_ret (hfin _ ⟨[], [], [], [], [], [], by kernel_rfl⟩)
           ·refine NR [] [0, 2, 3, 4, 5] [2, 4] [] [(5, .i (w64 (v3 + 1)))] .nil ?_
            exact Nrnd [] hF ih2 (by kernel_rfl)
          ·refine Nexit rfl ?_
           have hF := inrO_done hF dn2
           exact metP () [] hF (by kernel_rfl)
         ·intro v2 hF
          have hF : R_PartsFault_J2 v1 v2 = some y1 := hF
          unfold R_PartsFault_J2 at hF
          refine NR [] [0, 2, 3] [2] [] [(3, .i (w64 (v1 + 1)))] .nil ?_
          exact Nrnd [] hF ih1 (by kernel_rfl)
    ·refine Nexit rfl ?_
     have hF := inrO_done hF dn1
     exact metP () [] hF (by kernel_rfl)
   ·intro v hF
    have hF : R_PartsFault_J1 v = some r := hF
    unfold R_PartsFault_J1 at hF
    refine NR [] [2] [2] [] [] .nil ?_
    cases hF
    exact Wk_ret (hfin _ ⟨[], [], [], [], [], [], by kernel_rfl⟩)

/- tabularyref.HostIn -/
noncomputable def R_HostIn_J1 (v : Unit) : Option Int :=
 some (-1)
noncomputable def R_HostIn_B1 (b : Board) (id : Int) (alive : Bool) (v1 : Int) : Option (Int ⊕ Int) :=
 if (decide (v1 < (b.Hosts.length : Int))) = true then
  asrt (0 ≤ v1 ∧ v1 < (b.Hosts.length : Int)) <|
  asrt ((decide (((lget b.Hosts v1).ID) = id)) = true → 0 ≤ v1 ∧ v1 < (b.Hosts.length : Int)) <|
  if ((decide (((lget b.Hosts v1).ID) = id)) && (((lget b.Hosts v1).Alive) || (!alive))) = true then
   some (Sum.inr v1)
  else
   some (Sum.inl (w64 (v1 + 1)))
 else
  inrO (R_HostIn_J1 ())
noncomputable def R_HostIn_L1 (b : Board) (id : Int) (alive : Bool) (v0 : Int) : Option Int :=
 loopO (fun y => R_HostIn_B1 b id alive y) v0
noncomputable def R_HostIn (b : Board) (id : Int) (alive : Bool) : Option Int :=
 R_HostIn_L1 b id alive 0
theorem R_HostIn_ok (b : Board) (id : Int) (alive : Bool) (r : Int) (hF : R_HostIn b id alive = some r) : Pe Try.prog 59 S.none [.agg (c_Board b), .i id, .bool alive] (.i r) S.none := by
 refine PeN (N := 36) (res := [.tmp 6]) (ts := [3]) Ty.ok Fn.b59 Try.func59 ?_
 intro Q g hfin
 unfold R_HostIn at hF
 refine VR [] [1, 2, 3] [3] [] [] [(3, .ptr 3 0)] [(3, (c_Board b))] [] [] .nil ?_
 refine NR [] [1, 2, 3, 7] [3] [] [(7, .i 0)] .nil ?_
 refine NmeetP (fun v : Unit => (⟨[], [], [], [], []⟩ : S)) (fun v => R_HostIn_J1 v = some r) ?_ ?_
 ·refine Nblk ?_
  unfold R_HostIn_L1 at hF
  refine Niter (fun v1 : Int => (⟨[(1, .i id), (2, .bool alive), (3, .ptr 3 0), (7, .i v1)], [(3, (c_Board b))], [], [], []⟩ : S)) [] hF (by kernel_rfl) ?_
  intro n1 v1 y1 hF ih1 dn1
  unfold R_HostIn_B1 at hF
  refine NR [.nat (b.Hosts.length : Int)] [1, 2, 3, 7, 12] [3] [] [(12, .bool (decide (v1 < (b.Hosts.length : Int))))] (hc (len_ok e_Host b.Hosts) .nil) ?_
  refine Nif hF (fun hb hF => ?_) (fun hb hF => ?_)
  ·refine Nblk ?_
   obtain ⟨h0, h1, hF⟩ := asrt2 hF
   refine NR [.av (e_Host (lget b.Hosts v1)), .av (e_Host (lget b.Hosts v1))] [1, 2, 3, 7, 34] [3] [] [(34, .bool ((decide (((lget b.Hosts v1).ID) = id)) && (((lget b.Hosts v1).Alive) || (!alive))))] (hc (idx_ok e_Host h0) (hc (fun (ga0 : (decide (((lget b.Hosts v1).ID) = id)) = true) => (idx_ok e_Host (h1 ga0))) .nil)) ?_
   refine Nif hF (fun hb hF => ?_) (fun hb hF => ?_)
   ·refine NR [] [6] [] [] [(6, .i v1)] .nil ?_
    have hF := ret_done hF dn1
    cases hF
    exact Wk_ret (hfin _ ⟨[], [], [], [], [], [], by kernel_rfl⟩)
   ·refine NR [] [1, 2, 3, 7] [3] [] [(7, .i (w64 (v1 + 1)))] .nil ?_
    exact Nrnd [] hF ih1 (by kernel_rfl)
  ·refine Nexit rfl ?_
   have hF := inrO_done hF dn1
   exact metP () [] hF (by kernel_rfl)
 ·intro v hF
  have hF : R_HostIn_J1 v = some r := hF
  unfold R_HostIn_J1 at hF
  refine NR [] [6] [] [] [(6, .i (-1))] .nil ?_
  cases hF
  exact Wk_ret (hfin _ ⟨[], [], [], [], [], [], by kernel_rfl⟩)

/- tabularyref.SlotCode -/
noncomputable def R_SlotCode_J2 (v1 : Unit) : Option Int :=
 some 0
noncomputable def R_SlotCode_B1 (b : Board) (i : Int) (v2 : Int) : Option (Int ⊕ Int) :=
 if (decide (v2 < i)) = true then
  asrt ((decide (0 < ((lget b.Slots i).Turn))) = true → 0 ≤ v2 ∧ v2 < (b.Slots.length : Int)) <|
  if ((decide (0 < ((lget b.Slots i).Turn))) && (decide (((lget b.Slots v2).Turn) = ((lget b.Slots i).Turn)))) = true then
   some (Sum.inr 10)
  else
   some (Sum.inl (w64 (v2 + 1)))
 else
  inrO (R_SlotCode_J2 ())
noncomputable def R_SlotCode_L1 (b : Board) (i : Int) (v0 : Int) : Option Int :=
 loopO (fun y => R_SlotCode_B1 b i y) v0
noncomputable def R_SlotCode_J1 (b : Board) (i : Int) (v : Unit) : Option Int :=
 R_SlotCode_L1 b i 0
noncomputable def R_SlotCode (b : Board) (i : Int) : Option Int :=
 asrt (0 ≤ i ∧ i < (b.Slots.length : Int)) <|
 if ((((((decide (((lget b.Slots i).State) < 0)) || (decide (3 < ((lget b.Slots i).State)))) || (decide (((lget b.Slots i).Turn) < 0))) || (decide (b.Turn < ((lget b.Slots i).Turn)))) || (decide ((((lget b.Slots i).Part).ID) < 1))) || (decide (b.Next ≤ (((lget b.Slots i).Part).ID)))) = true then
  some 3
 else
  if (decide (((lget b.Slots i).State) = 0)) = true then
   if (!decide (((lget b.Slots i).Host) = 0)) = true then
    some 11
   else
    R_SlotCode_J1 b i ()
  else
   ob (R_HostIn b ((lget b.Slots i).Host) true) fun x =>
   if (decide (x < 0)) = true then
    some 6
   else
    if (decide (((lget b.Slots i).Turn) = 0)) = true then
     some 3
    else
     R_SlotCode_J1 b i ()
theorem R_SlotCode_ok (b : Board) (i : Int) (r : Int) (hF : R_SlotCode b i = some r) : Pe Try.prog 85 S.none [.agg (c_Board b), .i i] (.i r) S.none := by
 refine PeN (N := 79) (res := [.tmp 4]) (ts := [3]) Ty.ok Fn.b85 Try.func85 ?_
 intro Q g hfin
 unfold R_SlotCode at hF
 refine VR [] [1, 2] [2] [] [] [(2, .ptr 2 0)] [(2, (c_Board b))] [] [] .nil ?_
 obtain ⟨h0, hF⟩ := asrt_elim hF
 refine VR [.av (e_Slot (lget b.Slots i))] [1, 2, 5] [2, 5] [] [] [(5, .ptr 5 0)] [(5, [.str (((lget b.Slots i).Part).From), .str (((lget b.Slots i).Part).To), .i (((lget b.Slots i).Part).ID), .i ((lget b.Slots i).State), .i ((lget b.Slots i).Host), .i ((lget b.Slots i).Turn)])] [] [] (hc (idx_ok e_Slot h0) .nil) ?_
 refine NR [] [1, 2, 5, 45] [2, 5] [] [(45, .bool ((((((decide (((lget b.Slots i).State) < 0)) || (decide (3 < ((lget b.Slots i).State)))) || (decide (((lget b.Slots i).Turn) < 0))) || (decide (b.Turn < ((lget b.Slots i).Turn)))) || (decide ((((lget b.Slots i).Part).ID) < 1))) || (decide (b.Next ≤ (((lget b.Slots i).Part).ID)))))] .nil ?_
 refine Nif hF (fun hb hF => ?_) (fun hb hF => ?_)
 ·refine NR [] [4] [] [] [(4, .i 3)] .nil ?_
  cases hF
  exact Wk_ret (hfin _ ⟨[], [], [], [], [], [], by kernel_rfl⟩)
 ·refine NR [] [1, 2, 5, 48] [2, 5] [] [(48, .bool (decide (((lget b.Slots i).State) = 0)))] .nil ?_
  refine NmeetP (fun v : Unit => (⟨[(1, .i i), (2, .ptr 2 0), (5, .ptr 5 0)], [(2, (c_Board b)), (5, [.str (((lget b.Slots i).Part).From), .str (((lget b.Slots i).Part).To), .i (((lget b.Slots i).Part).ID), .i ((lget b.Slots i).State), .i ((lget b.Slots i).Host), .i ((lget b.Slots i).Turn)])], [], [], []⟩ : S)) (fun v => R_SlotCode_J1 b i v = some r) ?_ ?_
  ·refine Nif hF (fun hb hF => ?_) (fun hb hF => ?_)
   ·refine NR [] [1, 2, 5, 51] [2, 5] [] [(51, .bool (!decide (((lget b.Slots i).Host) = 0)))] .nil ?_
    refine Nif hF (fun hb hF => ?_) (fun hb hF => ?_)
    ·refine NR [] [4] [] [] [(4, .i 11)] .nil ?_
     cases hF
     exact Wk_ret (hfin _ ⟨[], [], [], [], [], [], by kernel_rfl⟩)
    ·exact metP () [] hF (by kernel_rfl)
   ·obtain ⟨x, h2, hF⟩ := ob_elim hF
    refine NR [.callB (.i x)] [1, 2, 5, 56] [2, 5] [] [(56, .bool (decide (x < 0)))] (hc (R_HostIn_ok b ((lget b.Slots i).Host) true x h2) .nil) ?_
    refine Nif hF (fun hb hF => ?_) (fun hb hF => ?_)
    ·refine NR [] [4] [] [] [(4, .i 6)] .nil ?_
     cases hF
     exact Wk_ret (hfin _ ⟨[], [], [], [], [], [], by kernel_rfl⟩)
    ·refine NR [] [1, 2, 5, 59] [2, 5] [] [(59, .bool (decide (((lget b.Slots i).Turn) = 0)))] .nil ?_
     refine Nif hF (fun hb hF => ?_) (fun hb hF => ?_)
     ·refine NR [] [4] [] [] [(4, .i 3)] .nil ?_
      cases hF
      exact Wk_ret (hfin _ ⟨[], [], [], [], [], [], by kernel_rfl⟩)
     ·exact metP () [] hF (by kernel_rfl)
  ·intro v hF
   have hF : R_SlotCode_J1 b i v = some r := hF
   unfold R_SlotCode_J1 at hF
   refine NR [] [1, 2, 5, 6] [2, 5] [] [(6, .i 0)] .nil ?_
   refine NmeetP (fun v1 : Unit => (⟨[], [], [], [], []⟩ : S)) (fun v1 => R_SlotCode_J2 v1 = some r) ?_ ?_
   ·refine Nblk ?_
    unfold R_SlotCode_L1 at hF
    refine Niter (fun v2 : Int => (⟨[(1, .i i), (2, .ptr 2 0), (5, .ptr 5 0), (6, .i v2)], [(2, (c_Board b)), (5, [.str (((lget b.Slots i).Part).From), .str (((lget b.Slots i).Part).To), .i (((lget b.Slots i).Part).ID), .i ((lget b.Slots i).State), .i ((lget b.Slots i).Host), .i ((lget b.Slots i).Turn)])], [], [], []⟩ : S)) [] hF (by kernel_rfl) ?_
    intro n1 v2 y1 hF ih1 dn1
    unfold R_SlotCode_B1 at hF
    refine NR [] [1, 2, 5, 6, 62] [2, 5] [] [(62, .bool (decide (v2 < i)))] .nil ?_
    refine Nif hF (fun hb hF => ?_) (fun hb hF => ?_)
    ·refine Nblk ?_
     obtain ⟨h1, hF⟩ := asrt_elim hF
     refine ND [.av (e_Slot (lget b.Slots v2))] [1, 2, 5, 6, 78] [2, 5] [] [(78, .bool ((decide (0 < ((lget b.Slots i).Turn))) && (decide (((lget b.Slots v2).Turn) = ((lget b.Slots i).Turn)))))] (hc (fun (ga0 : (decide (0 < ((lget b.Slots i).Turn))) = true) => (idx_ok e_Slot (h1 ga0))) .nil) ?_
     refine Nif hF (fun hb hF => ?_) (fun hb hF => ?_)
     ·refine NR [] [4] [] [] [(4, .i 10)] .nil ?_
      have hF := ret_done hF dn1
      cases hF
      exact Wk_ret (hfin _ ⟨[], [], [], [], [], [], by kernel_rfl⟩)
     ·refine NR [] [1, 2, 5, 6] [2, 5] [] [(6, .i (w64 (v2 + 1)))] .nil ?_
      exact Nrnd [] hF ih1 (by kernel_rfl)
    ·refine Nexit rfl ?_
     have hF := inrO_done hF dn1
     exact metP () [] hF (by kernel_rfl)
   ·intro v1 hF
    have hF : R_SlotCode_J2 v1 = some r := hF
    unfold R_SlotCode_J2 at hF
    refine NR [] [4] [] [] [(4, .i 0)] .nil ?_
    cases hF
    exact Wk_ret (hfin _ ⟨[], [], [], [], [], [], by kernel_rfl⟩)

/- tabularyref.BoardFault -/
noncomputable def R_BoardFault_J2 (v1 : Unit) : Option Fault :=
 some (⟨0, 0⟩ : Fault)
noncomputable def R_BoardFault_B1 (b : Board) (v2 : Int) : Option (Int ⊕ Fault) :=
 if (decide (v2 < (b.Slots.length : Int))) = true then
  ob (R_SlotCode b v2) fun x7 =>
  if (!decide (x7 = 0)) = true then
   ob (R_SlotCode b v2) fun x8 =>
   lt (R_F x8 (w64 ((-2000) - (w64 (v2 + 1))))) fun x9 =>
   some (Sum.inr x9)
  else
   some (Sum.inl (w64 (v2 + 1)))
 else
  inrO (R_BoardFault_J2 ())
noncomputable def R_BoardFault_L1 (b : Board) (v0 : Int) : Option Fault :=
 loopO (fun y => R_BoardFault_B1 b y) v0
noncomputable def R_BoardFault_J1 (b : Board) (v : Unit) : Option Fault :=
 lt (R_Num b.Turn) fun x1 =>
 lt (R_One b.Next) fun x2 =>
 if ((!x1) || (!x2)) = true then
  lt (R_F 3 (-2)) fun x3 =>
  some x3
 else
  ob (R_PartsOf b) fun x4 =>
  ob (R_PartsFault x4) fun x5 =>
  if (!decide (x5.Code = 0)) = true then
   lt (R_F x5.Code (w64 (x5.At - 1000))) fun x6 =>
   some x6
  else
   R_BoardFault_L1 b 0
noncomputable def R_BoardFault_J3 (v3 : Int) (v4 : Unit) : Option (Int ⊕ Fault) :=
 some (Sum.inl (w64 (v3 + 1)))
noncomputable def R_BoardFault_B3 (b : Board) (v3 : Int) (v5 : Int) : Option (Int ⊕ (Int ⊕ Fault)) :=
 if (decide (v5 < v3)) = true then
  asrt (0 ≤ v5 ∧ v5 < (b.Hosts.length : Int)) <|
  asrt (0 ≤ v3 ∧ v3 < (b.Hosts.length : Int)) <|
  if (decide (((lget b.Hosts v5).ID) = ((lget b.Hosts v3).ID))) = true then
   lt (R_F 10 v3) fun x13 =>
   some (Sum.inr (Sum.inr x13))
  else
   some (Sum.inl (w64 (v5 + 1)))
 else
  inrO (R_BoardFault_J3 v3 ())
noncomputable def R_BoardFault_L3 (b : Board) (v3 : Int) (v0 : Int) : Option (Int ⊕ Fault) :=
 loopO (fun y => R_BoardFault_B3 b v3 y) v0
noncomputable def R_BoardFault_B2 (b : Board) (v3 : Int) : Option (Int ⊕ Fault) :=
 if (decide (v3 < (b.Hosts.length : Int))) = true then
  asrt (0 ≤ v3 ∧ v3 < (b.Hosts.length : Int)) <|
  lt (R_One ((lget b.Hosts v3).ID)) fun x10 =>
  asrt ((!(!x10)) = true → 0 ≤ v3 ∧ v3 < (b.Hosts.length : Int)) <|
  lt (R_One ((lget b.Hosts v3).Epoch)) fun x11 =>
  if ((!x10) || (!x11)) = true then
   lt (R_F 3 v3) fun x12 =>
   some (Sum.inr x12)
  else
   R_BoardFault_L3 b v3 0
 else
  inrO (R_BoardFault_J1 b ())
noncomputable def R_BoardFault_L2 (b : Board) (v0 : Int) : Option Fault :=
 loopO (fun y => R_BoardFault_B2 b y) v0
noncomputable def R_BoardFault (b : Board) : Option Fault :=
 if (decide (20 < (b.Hosts.length : Int))) = true then
  lt (R_F 2 (-1)) fun x =>
  some x
 else
  R_BoardFault_L2 b 0
theorem R_BoardFault_ok (b : Board) (r : Fault) (hF : R_BoardFault b = some r) : Pe Try.prog 42 S.none [.agg (c_Board b)] (.agg (c_Fault r)) S.none := by
 refine PeN (N := 101) (res := [.cell 2 26]) (ts := [26]) Ty.ok Fn.b42 Try.func42 ?_
 intro Q g hfin
 unfold R_BoardFault at hF
 refine VR [] [1, 2] [1, 2] [] [] [(1, .ptr 1 0), (2, .ptr 2 0)] [(1, (c_Board b)), (2, [.i 0, .i 0])] [] [] .nil ?_
 refine NR [.nat (b.Hosts.length : Int)] [1, 2, 10] [1, 2] [] [(10, .bool (decide (20 < (b.Hosts.length : Int))))] (hc (len_ok e_Host b.Hosts) .nil) ?_
 refine Nif hF (fun hb hF => ?_) (fun hb hF => ?_)
 ·obtain ⟨x, h0, hF⟩ := lt_split hF
  refine VR [.callB (.agg (c_Fault x))] [2] [2] [] [] [] [(2, (c_Fault x))] [] [] (hc (R_F_ok 2 (-1) x h0) .nil) ?_
  cases hF
  exact Wk_ret (hfin _ ⟨[], [], [], [], [], [], by kernel_rfl⟩)
 ·refine NR [] [1, 2, 3] [1, 2] [] [(3, .i 0)] .nil ?_
  refine NmeetP (fun v : Unit => (⟨[(1, .ptr 1 0), (2, .ptr 2 0)], [(1, (c_Board b)), (2, [.i 0, .i 0])], [], [], []⟩ : S)) (fun v => R_BoardFault_J1 b v = some r) ?_ ?_
  ·refine Nblk ?_
   unfold R_BoardFault_L2 at hF
   refine Niter (fun v3 : Int => (⟨[(1, .ptr 1 0), (2, .ptr 2 0), (3, .i v3)], [(1, (c_Board b)), (2, [.i 0, .i 0])], [], [], []⟩ : S)) [] hF (by kernel_rfl) ?_
   intro n1 v3 y1 hF ih1 dn1
   unfold R_BoardFault_B2 at hF
   refine NR [.nat (b.Hosts.length : Int)] [1, 2, 3, 16] [1, 2] [] [(16, .bool (decide (v3 < (b.Hosts.length : Int))))] (hc (len_ok e_Host b.Hosts) .nil) ?_
   refine Nif hF (fun hb hF => ?_) (fun hb hF => ?_)
   ·refine Nblk ?_
    obtain ⟨h10, hF⟩ := asrt_elim hF
    obtain ⟨x10, h11, hF⟩ := lt_split hF
    obtain ⟨h12, hF⟩ := asrt_elim hF
    obtain ⟨x11, h13, hF⟩ := lt_split hF
    refine NR [.av (e_Host (lget b.Hosts v3)), .callB (.bool x10), .av (e_Host (lget b.Hosts v3)), .callB (.bool x11)] [1, 2, 3, 36] [1, 2] [] [(36, .bool ((!x10) || (!x11)))] (hc (idx_ok e_Host h10) (hc (R_One_ok ((lget b.Hosts v3).ID) x10 h11) (hc (fun (ga0 : (!(!x10)) = true) => (idx_ok e_Host (h12 ga0))) (hc (fun (ga0 : (!(!x10)) = true) => (R_One_ok ((lget b.Hosts v3).Epoch) x11 h13)) .nil)))) ?_
    refine Nif hF (fun hb hF => ?_) (fun hb hF => ?_)
    ·obtain ⟨x12, h14, hF⟩ := lt_split hF
     refine VR [.callB (.agg (c_Fault x12))] [2] [2] [] [] [] [(2, (c_Fault x12))] [] [] (hc (R_F_ok 3 v3 x12 h14) .nil) ?_
     have hF := ret_done hF dn1
     cases hF
     exact Wk_ret (hfin _ ⟨[], [], [], [], [], [], by kernel_rfl⟩)
    ·refine NR [] [1, 2, 3, 4] [1, 2] [] [(4, .i 0)] .nil ?_
     refine NmeetP (fun v4 : Unit => (⟨[(1, .ptr 1 0), (2, .ptr 2 0), (3, .i v3)], [(1, (c_Board b)), (2, [.i 0, .i 0])], [], [], []⟩ : S)) (fun v4 => R_BoardFault_J3 v3 v4 = some y1) ?_ ?_
     ·refine Nblk ?_
      unfold R_BoardFault_L3 at hF
      refine Niter (fun v5 : Int => (⟨[(1, .ptr 1 0), (2, .ptr 2 0), (3, .i v3), (4, .i v5)], [(1, (c_Board b)), (2, [.i 0, .i 0])], [], [], []⟩ : S)) [] hF (by kernel_rfl) ?_
      intro n2 v5 y2 hF ih2 dn2
      unfold R_BoardFault_B3 at hF
      refine NR [] [1, 2, 3, 4, 41] [1, 2] [] [(41, .bool (decide (v5 < v3)))] .nil ?_
      refine Nif hF (fun hb hF => ?_) (fun hb hF => ?_)
      ·refine Nblk ?_
       obtain ⟨h15, h16, hF⟩ := asrt2 hF
       refine ND [.av (e_Host (lget b.Hosts v5)), .av (e_Host (lget b.Hosts v3))] [1, 2, 3, 4, 56] [1, 2] [] [(56, .bool (decide (((lget b.Hosts v5).ID) = ((lget b.Hosts v3).ID))))] (hc (idx_ok e_Host h15) (hc (idx_ok e_Host h16) .nil)) ?_
       refine Nif hF (fun hb hF => ?_) (fun hb hF => ?_)
       ·obtain ⟨x13, h17, hF⟩ := lt_split hF
        refine VR [.callB (.agg (c_Fault x13))] [2] [2] [] [] [] [(2, (c_Fault x13))] [] [] (hc (R_F_ok 10 v3 x13 h17) .nil) ?_
        have hF := ret_done hF dn2
        have hF := ret_done hF dn1
        cases hF
        exact Wk_ret (hfin _ ⟨[], [], [], [], [], [], by kernel_rfl⟩)
       ·refine NR [] [1, 2, 3, 4] [1, 2] [] [(4, .i (w64 (v5 + 1)))] .nil ?_
        exact Nrnd [] hF ih2 (by kernel_rfl)
      ·refine Nexit rfl ?_
       have hF := inrO_done hF dn2
       exact metP () [] hF (by kernel_rfl)
     ·intro v4 hF
      have hF : R_BoardFault_J3 v3 v4 = some y1 := hF
      unfold R_BoardFault_J3 at hF
      refine NR [] [1, 2, 3] [1, 2] [] [(3, .i (w64 (v3 + 1)))] .nil ?_
      exact Nrnd [] hF ih1 (by kernel_rfl)
   ·refine Nexit rfl ?_
    have hF := inrO_done hF dn1
    exact metP () [] hF (by kernel_rfl)
  ·intro v hF
   have hF : R_BoardFault_J1 b v = some r := hF
   unfold R_BoardFault_J1 at hF
   obtain ⟨x1, h1, hF⟩ := lt_split hF
   obtain ⟨x2, h2, hF⟩ := lt_split hF
   refine NR [.callB (.bool x1), .callB (.bool x2)] [1, 2, 68] [1, 2] [] [(68, .bool ((!x1) || (!x2)))] (hc (R_Num_ok b.Turn x1 h1) (hc (fun (ga0 : (!(!x1)) = true) => (R_One_ok b.Next x2 h2)) .nil)) ?_
   refine Nif hF (fun hb hF => ?_) (fun hb hF => ?_)
   ·obtain ⟨x3, h3, hF⟩ := lt_split hF
    refine VR [.callB (.agg (c_Fault x3))] [2] [2] [] [] [] [(2, (c_Fault x3))] [] [] (hc (R_F_ok 3 (-2) x3 h3) .nil) ?_
    cases hF
    exact Wk_ret (hfin _ ⟨[], [], [], [], [], [], by kernel_rfl⟩)
   ·obtain ⟨x4, h4, hF⟩ := ob_elim hF
    obtain ⟨x5, h5, hF⟩ := ob_elim hF
    refine VR [.callE [] [] [] [] (.row 71 0) ⟨[], [], [(71, .z 34 3 0 (x4.map e_Part))], [], []⟩, .callB (.agg (c_Fault x5))] [1, 2, 5] [1, 2, 5] [] [] [(5, .ptr 5 0)] [(5, (c_Fault x5))] [] [] (hc (Pe.ren (R_PartsOf_ok b x4 h4) ⟨[], [(20, 71)], [], []⟩) (hc (R_PartsFault_ok x4 x5 h5) .nil)) ?_
    refine NR [] [1, 2, 5, 75] [1, 2, 5] [] [(75, .bool (!decide (x5.Code = 0)))] .nil ?_
    refine Nif hF (fun hb hF => ?_) (fun hb hF => ?_)
    ·obtain ⟨x6, h6, hF⟩ := lt_split hF
     refine VR [.callB (.agg (c_Fault x6))] [2] [2] [] [] [] [(2, (c_Fault x6))] [] [] (hc (R_F_ok x5.Code (w64 (x5.At - 1000)) x6 h6) .nil) ?_
     cases hF
     exact Wk_ret (hfin _ ⟨[], [], [], [], [], [], by kernel_rfl⟩)
    ·refine NR [] [1, 2, 6] [1, 2] [] [(6, .i 0)] .nil ?_
     refine NmeetP (fun v1 : Unit => (⟨[(2, .ptr 2 0)], [(2, [.i 0, .i 0])], [], [], []⟩ : S)) (fun v1 => R_BoardFault_J2 v1 = some r) ?_ ?_
     ·refine Nblk ?_
      unfold R_BoardFault_L1 at hF
      refine Niter (fun v2 : Int => (⟨[(1, .ptr 1 0), (2, .ptr 2 0), (6, .i v2)], [(1, (c_Board b)), (2, [.i 0, .i 0])], [], [], []⟩ : S)) [] hF (by kernel_rfl) ?_
      intro n1 v2 y1 hF ih1 dn1
      unfold R_BoardFault_B1 at hF
      refine NR [.nat (b.Slots.length : Int)] [1, 2, 6, 86] [1, 2] [] [(86, .bool (decide (v2 < (b.Slots.length : Int))))] (hc (len_ok e_Slot b.Slots) .nil) ?_
      refine Nif hF (fun hb hF => ?_) (fun hb hF => ?_)
      ·refine Nblk ?_
       obtain ⟨x7, h7, hF⟩ := ob_elim hF
       refine NR [.callB (.i x7)] [1, 2, 6, 92] [1, 2] [] [(92, .bool (!decide (x7 = 0)))] (hc (R_SlotCode_ok b v2 x7 h7) .nil) ?_
       refine Nif hF (fun hb hF => ?_) (fun hb hF => ?_)
       ·obtain ⟨x8, h8, hF⟩ := ob_elim hF
        obtain ⟨x9, h9, hF⟩ := lt_split hF
        refine VR [.callB (.i x8), .callB (.agg (c_Fault x9))] [2] [2] [] [] [] [(2, (c_Fault x9))] [] [] (hc (R_SlotCode_ok b v2 x8 h8) (hc (R_F_ok x8 (w64 ((-2000) - (w64 (v2 + 1)))) x9 h9) .nil)) ?_
        have hF := ret_done hF dn1
        cases hF
        exact Wk_ret (hfin _ ⟨[], [], [], [], [], [], by kernel_rfl⟩)
       ·refine NR [] [1, 2, 6] [1, 2] [] [(6, .i (w64 (v2 + 1)))] .nil ?_
        exact Nrnd [] hF ih1 (by kernel_rfl)
      ·refine Nexit rfl ?_
       have hF := inrO_done hF dn1
       exact metP () [] hF (by kernel_rfl)
     ·intro v1 hF
      have hF : R_BoardFault_J2 v1 = some r := hF
      unfold R_BoardFault_J2 at hF
      refine NR [] [2] [2] [] [] .nil ?_
      cases hF
      exact Wk_ret (hfin _ ⟨[], [], [], [], [], [], by kernel_rfl⟩)

/- tabularyref.SameBoard -/
noncomputable def R_SameBoard_J2 (v1 : Unit) : Option Bool :=
 some true
noncomputable def R_SameBoard_B1 (a0 : Board) (b : Board) (v2 : Int) : Option (Int ⊕ Bool) :=
 if (decide (v2 < (a0.Slots.length : Int))) = true then
  asrt (0 ≤ v2 ∧ v2 < (a0.Slots.length : Int)) <|
  asrt (0 ≤ v2 ∧ v2 < (b.Slots.length : Int)) <|
  if (!(decide (((lget a0.Slots v2).Part).From = ((lget b.Slots v2).Part).From) && (decide (((lget a0.Slots v2).Part).To = ((lget b.Slots v2).Part).To) && (decide (((lget a0.Slots v2).Part).ID = ((lget b.Slots v2).Part).ID) && (decide ((lget a0.Slots v2).State = (lget b.Slots v2).State) && (decide ((lget a0.Slots v2).Host = (lget b.Slots v2).Host) && (decide ((lget a0.Slots v2).Turn = (lget b.Slots v2).Turn) && true))))))) = true then
   some (Sum.inr false)
  else
   some (Sum.inl (w64 (v2 + 1)))
 else
  inrO (R_SameBoard_J2 ())
noncomputable def R_SameBoard_L1 (a0 : Board) (b : Board) (v0 : Int) : Option Bool :=
 loopO (fun y => R_SameBoard_B1 a0 b y) v0
noncomputable def R_SameBoard_J1 (a0 : Board) (b : Board) (v : Unit) : Option Bool :=
 R_SameBoard_L1 a0 b 0
noncomputable def R_SameBoard_B2 (a0 : Board) (b : Board) (v3 : Int) : Option (Int ⊕ Bool) :=
 if (decide (v3 < (a0.Hosts.length : Int))) = true then
  asrt (0 ≤ v3 ∧ v3 < (a0.Hosts.length : Int)) <|
  asrt (0 ≤ v3 ∧ v3 < (b.Hosts.length : Int)) <|
  if (!(decide ((lget a0.Hosts v3).ID = (lget b.Hosts v3).ID) && (decide ((lget a0.Hosts v3).Epoch = (lget b.Hosts v3).Epoch) && ((((lget a0.Hosts v3).Alive) == ((lget b.Hosts v3).Alive)) && true)))) = true then
   some (Sum.inr false)
  else
   some (Sum.inl (w64 (v3 + 1)))
 else
  inrO (R_SameBoard_J1 a0 b ())
noncomputable def R_SameBoard_L2 (a0 : Board) (b : Board) (v0 : Int) : Option Bool :=
 loopO (fun y => R_SameBoard_B2 a0 b y) v0
noncomputable def R_SameBoard (a0 : Board) (b : Board) : Option Bool :=
 if ((((!decide (a0.Turn = b.Turn)) || (!decide (a0.Next = b.Next))) || (!decide ((a0.Hosts.length : Int) = (b.Hosts.length : Int)))) || (!decide ((a0.Slots.length : Int) = (b.Slots.length : Int)))) = true then
  some false
 else
  R_SameBoard_L2 a0 b 0
theorem R_SameBoard_ok (a0 : Board) (b : Board) (r : Bool) (hF : R_SameBoard a0 b = some r) : Pe Try.prog 43 S.none [.agg (c_Board a0), .agg (c_Board b)] (.bool r) S.none := by
 refine PeN (N := 73) (res := [.tmp 4]) (ts := [4]) Ty.ok Fn.b43 Try.func43 ?_
 intro Q g hfin
 unfold R_SameBoard at hF
 refine VR [] [2, 3] [2, 3] [] [] [(2, .ptr 2 0), (3, .ptr 3 0)] [(2, (c_Board a0)), (3, (c_Board b))] [] [] .nil ?_
 refine NR [.nat (a0.Hosts.length : Int), .nat (b.Hosts.length : Int), .nat (a0.Slots.length : Int), .nat (b.Slots.length : Int)] [2, 3, 36] [2, 3] [] [(36, .bool ((((!decide (a0.Turn = b.Turn)) || (!decide (a0.Next = b.Next))) || (!decide ((a0.Hosts.length : Int) = (b.Hosts.length : Int)))) || (!decide ((a0.Slots.length : Int) = (b.Slots.length : Int)))))] (hc (fun (_ : (!((!decide (a0.Turn = b.Turn)) || (!decide (a0.Next = b.Next)))) = true) => (len_ok e_Host a0.Hosts)) (hc (fun (_ : (!((!decide (a0.Turn = b.Turn)) || (!decide (a0.Next = b.Next)))) = true) => (len_ok e_Host b.Hosts)) (hc (fun (_ : (!(((!decide (a0.Turn = b.Turn)) || (!decide (a0.Next = b.Next))) || (!decide ((a0.Hosts.length : Int) = (b.Hosts.length : Int))))) = true) => (len_ok e_Slot a0.Slots)) (hc (fun (_ : (!(((!decide (a0.Turn = b.Turn)) || (!decide (a0.Next = b.Next))) || (!decide ((a0.Hosts.length : Int) = (b.Hosts.length : Int))))) = true) => (len_ok e_Slot b.Slots)) .nil)))) ?_
 refine Nif hF (fun hb hF => ?_) (fun hb hF => ?_)
 ·refine NR [] [4] [] [] [(4, .bool false)] .nil ?_
  cases hF
  exact Wk_ret (hfin _ ⟨[], [], [], [], [], [], by kernel_rfl⟩)
 ·refine NR [] [2, 3, 5] [2, 3] [] [(5, .i 0)] .nil ?_
  refine NmeetP (fun v : Unit => (⟨[(2, .ptr 2 0), (3, .ptr 3 0)], [(2, (c_Board a0)), (3, (c_Board b))], [], [], []⟩ : S)) (fun v => R_SameBoard_J1 a0 b v = some r) ?_ ?_
  ·refine Nblk ?_
   unfold R_SameBoard_L2 at hF
   refine Niter (fun v3 : Int => (⟨[(2, .ptr 2 0), (3, .ptr 3 0), (5, .i v3)], [(2, (c_Board a0)), (3, (c_Board b))], [], [], []⟩ : S)) [] hF (by kernel_rfl) ?_
   intro n1 v3 y1 hF ih1 dn1
   unfold R_SameBoard_B2 at hF
   refine NR [.nat (a0.Hosts.length : Int)] [2, 3, 5, 41] [2, 3] [] [(41, .bool (decide (v3 < (a0.Hosts.length : Int))))] (hc (len_ok e_Host a0.Hosts) .nil) ?_
   refine Nif hF (fun hb hF => ?_) (fun hb hF => ?_)
   ·refine Nblk ?_
    obtain ⟨h2, h3, hF⟩ := asrt2 hF
    refine ND [.av (e_Host (lget a0.Hosts v3)), .av (e_Host (lget b.Hosts v3))] [2, 3, 5, 54] [2, 3] [] [(54, .bool (!(decide ((lget a0.Hosts v3).ID = (lget b.Hosts v3).ID) && (decide ((lget a0.Hosts v3).Epoch = (lget b.Hosts v3).Epoch) && ((((lget a0.Hosts v3).Alive) == ((lget b.Hosts v3).Alive)) && true)))))] (hc (idx_ok e_Host h2) (hc (idx_ok e_Host h3) .nil)) ?_
    refine Nif hF (fun hb hF => ?_) (fun hb hF => ?_)
    ·refine NR [] [4] [] [] [(4, .bool false)] .nil ?_
     have hF := ret_done hF dn1
     cases hF
     exact Wk_ret (hfin _ ⟨[], [], [], [], [], [], by kernel_rfl⟩)
    ·refine NR [] [2, 3, 5] [2, 3] [] [(5, .i (w64 (v3 + 1)))] .nil ?_
     exact Nrnd [] hF ih1 (by kernel_rfl)
   ·refine Nexit rfl ?_
    have hF := inrO_done hF dn1
    exact metP () [] hF (by kernel_rfl)
  ·intro v hF
   have hF : R_SameBoard_J1 a0 b v = some r := hF
   unfold R_SameBoard_J1 at hF
   refine NR [] [2, 3, 6] [2, 3] [] [(6, .i 0)] .nil ?_
   refine NmeetP (fun v1 : Unit => (⟨[], [], [], [], []⟩ : S)) (fun v1 => R_SameBoard_J2 v1 = some r) ?_ ?_
   ·refine Nblk ?_
    unfold R_SameBoard_L1 at hF
    refine Niter (fun v2 : Int => (⟨[(2, .ptr 2 0), (3, .ptr 3 0), (6, .i v2)], [(2, (c_Board a0)), (3, (c_Board b))], [], [], []⟩ : S)) [] hF (by kernel_rfl) ?_
    intro n1 v2 y1 hF ih1 dn1
    unfold R_SameBoard_B1 at hF
    refine NR [.nat (a0.Slots.length : Int)] [2, 3, 6, 59] [2, 3] [] [(59, .bool (decide (v2 < (a0.Slots.length : Int))))] (hc (len_ok e_Slot a0.Slots) .nil) ?_
    refine Nif hF (fun hb hF => ?_) (fun hb hF => ?_)
    ·refine Nblk ?_
     obtain ⟨h0, h1, hF⟩ := asrt2 hF
     refine ND [.av (e_Slot (lget a0.Slots v2)), .av (e_Slot (lget b.Slots v2))] [2, 3, 6, 72] [2, 3] [] [(72, .bool (!(decide (((lget a0.Slots v2).Part).From = ((lget b.Slots v2).Part).From) && (decide (((lget a0.Slots v2).Part).To = ((lget b.Slots v2).Part).To) && (decide (((lget a0.Slots v2).Part).ID = ((lget b.Slots v2).Part).ID) && (decide ((lget a0.Slots v2).State = (lget b.Slots v2).State) && (decide ((lget a0.Slots v2).Host = (lget b.Slots v2).Host) && (decide ((lget a0.Slots v2).Turn = (lget b.Slots v2).Turn) && true))))))))] (hc (idx_ok e_Slot h0) (hc (idx_ok e_Slot h1) .nil)) ?_
     refine Nif hF (fun hb hF => ?_) (fun hb hF => ?_)
     ·refine NR [] [4] [] [] [(4, .bool false)] .nil ?_
      have hF := ret_done hF dn1
      cases hF
      exact Wk_ret (hfin _ ⟨[], [], [], [], [], [], by kernel_rfl⟩)
     ·refine NR [] [2, 3, 6] [2, 3] [] [(6, .i (w64 (v2 + 1)))] .nil ?_
      exact Nrnd [] hF ih1 (by kernel_rfl)
    ·refine Nexit rfl ?_
     have hF := inrO_done hF dn1
     exact metP () [] hF (by kernel_rfl)
   ·intro v1 hF
    have hF : R_SameBoard_J2 v1 = some r := hF
    unfold R_SameBoard_J2 at hF
    refine NR [] [4] [] [] [(4, .bool true)] .nil ?_
    cases hF
    exact Wk_ret (hfin _ ⟨[], [], [], [], [], [], by kernel_rfl⟩)

/- tabularyref.SlotIn -/
noncomputable def R_SlotIn_J1 (v : Unit) : Option Int :=
 some (-1)
noncomputable def R_SlotIn_B1 (b : Board) (id : Int) (v1 : Int) : Option (Int ⊕ Int) :=
 if (decide (v1 < (b.Slots.length : Int))) = true then
  asrt (0 ≤ v1 ∧ v1 < (b.Slots.length : Int)) <|
  if (decide ((((lget b.Slots v1).Part).ID) = id)) = true then
   some (Sum.inr v1)
  else
   some (Sum.inl (w64 (v1 + 1)))
 else
  inrO (R_SlotIn_J1 ())
noncomputable def R_SlotIn_L1 (b : Board) (id : Int) (v0 : Int) : Option Int :=
 loopO (fun y => R_SlotIn_B1 b id y) v0
noncomputable def R_SlotIn (b : Board) (id : Int) : Option Int :=
 R_SlotIn_L1 b id 0
theorem R_SlotIn_ok (b : Board) (id : Int) (r : Int) (hF : R_SlotIn b id = some r) : Pe Try.prog 65 S.none [.agg (c_Board b), .i id] (.i r) S.none := by
 refine PeN (N := 23) (res := [.tmp 4]) (ts := [3]) Ty.ok Fn.b65 Try.func65 ?_
 intro Q g hfin
 unfold R_SlotIn at hF
 refine VR [] [1, 2] [2] [] [] [(2, .ptr 2 0)] [(2, (c_Board b))] [] [] .nil ?_
 refine NR [] [1, 2, 5] [2] [] [(5, .i 0)] .nil ?_
 refine NmeetP (fun v : Unit => (⟨[], [], [], [], []⟩ : S)) (fun v => R_SlotIn_J1 v = some r) ?_ ?_
 ·refine Nblk ?_
  unfold R_SlotIn_L1 at hF
  refine Niter (fun v1 : Int => (⟨[(1, .i id), (2, .ptr 2 0), (5, .i v1)], [(2, (c_Board b))], [], [], []⟩ : S)) [] hF (by kernel_rfl) ?_
  intro n1 v1 y1 hF ih1 dn1
  unfold R_SlotIn_B1 at hF
  refine NR [.nat (b.Slots.length : Int)] [1, 2, 5, 10] [2] [] [(10, .bool (decide (v1 < (b.Slots.length : Int))))] (hc (len_ok e_Slot b.Slots) .nil) ?_
  refine Nif hF (fun hb hF => ?_) (fun hb hF => ?_)
  ·refine Nblk ?_
   obtain ⟨h0, hF⟩ := asrt_elim hF
   refine NR [.av (e_Slot (lget b.Slots v1))] [1, 2, 5, 21] [2] [] [(21, .bool (decide ((((lget b.Slots v1).Part).ID) = id)))] (hc (idx_ok e_Slot h0) .nil) ?_
   refine Nif hF (fun hb hF => ?_) (fun hb hF => ?_)
   ·refine NR [] [4] [] [] [(4, .i v1)] .nil ?_
    have hF := ret_done hF dn1
    cases hF
    exact Wk_ret (hfin _ ⟨[], [], [], [], [], [], by kernel_rfl⟩)
   ·refine NR [] [1, 2, 5] [2] [] [(5, .i (w64 (v1 + 1)))] .nil ?_
    exact Nrnd [] hF ih1 (by kernel_rfl)
  ·refine Nexit rfl ?_
   have hF := inrO_done hF dn1
   exact metP () [] hF (by kernel_rfl)
 ·intro v hF
  have hF : R_SlotIn_J1 v = some r := hF
  unfold R_SlotIn_J1 at hF
  refine NR [] [4] [] [] [(4, .i (-1))] .nil ?_
  cases hF
  exact Wk_ret (hfin _ ⟨[], [], [], [], [], [], by kernel_rfl⟩)

/- tabularyref.InPart -/
noncomputable def R_InPart (p : Part) (row : List UInt8) : Bool :=
 lt ((!Op.bytesLess row p.From) && ((decide (p.To = ([] : List UInt8))) || (Op.bytesLess row p.To))) fun (v : Bool) =>
 v
theorem R_InPart_ok (p : Part) (row : List UInt8) (r : Bool) (hF : R_InPart p row = r) : Pe Try.prog 23 S.none [.agg (c_Part p), .str row] (.bool r) S.none := by
 refine PeN (N := 20) (res := [.tmp 4]) (ts := [4]) Ty.ok Fn.b23 Try.func23 ?_
 intro Q g hfin
 unfold R_InPart at hF
 refine VR [] [1, 2] [2] [] [] [(2, .ptr 2 0)] [(2, (c_Part p))] [] [] .nil ?_
 refine NRL ((!Op.bytesLess row p.From) && ((decide (p.To = ([] : List UInt8))) || (Op.bytesLess row p.To))) (fun v : Bool => ([(4, .bool v)], [], [], [])) [] [4] [] [] [] .nil (fun v hv => ?_)
 have hF := lt_elim hF hv
 cases hF
 exact Wk_ret (hfin _ ⟨[], [], [], [], [], [], by kernel_rfl⟩)

/- tabularyref.SlotsInstead -/
noncomputable def R_SlotsInstead (l : List Slot) (at0 : Int) (num : Int) (by0 : List Slot) : Option (List Slot) :=
 asrt (0 ≤ at0 ∧ at0 ≤ (l.length : Int)) <|
 asrt (((ltake l at0).length : Int) * 64 ≤ 140737488351232) <|
 asrt ((((ltake l at0) ++ by0).length : Int) * 64 ≤ 140737488351232) <|
 asrt (0 ≤ w64 (at0 + num) ∧ w64 (at0 + num) ≤ (l.length : Int)) <|
 asrt (((((ltake l at0) ++ by0) ++ (ldrop l (w64 (at0 + num)))).length : Int) * 64 ≤ 140737488351232) <|
 some (((ltake l at0) ++ by0) ++ (ldrop l (w64 (at0 + num))))
theorem R_SlotsInstead_ok (l : List Slot) (at0 : Int) (num : Int) (by0 : List Slot) (r : List Slot) (hF : R_SlotsInstead l at0 num by0 = some r) : Pe Try.prog 98 ⟨[], [], [], [], []⟩ [.sl 6 (l.map e_Slot), .i at0, .i num, .sl 6 (by0.map e_Slot)] (.row 13 3) ⟨[], [], [(13, .z 64 6 3 (r.map e_Slot))], [], []⟩ := by
 refine PeN (N := 24) (res := [.tmp 8]) (ts := [60]) Ty.ok Fn.b98 Try.func98 ?_
 intro Q g hfin
 unfold R_SlotsInstead at hF
 refine NR [] [0, 1, 2, 3] [] [] [] .nil ?_
 obtain ⟨h0, h1, hF⟩ := asrt2 hF
 refine VR [.xs ((ltake l at0).map e_Slot), .xs ((ltake l at0).map e_Slot)] [0, 1, 2, 3, 9] [] [13] [] [(9, .row 13 1)] [] [(13, .z 64 6 1 ((ltake l at0).map e_Slot))] [] (hc (sl01_ok e_Slot h0) (hc (app0_ok e_Slot (ltake l at0)) (hc (appl_ok e_Slot h1) .nil))) ?_
 obtain ⟨h2, hF⟩ := asrt_elim hF
 refine VR [.xs (((ltake l at0) ++ by0).map e_Slot)] [0, 1, 2, 9] [] [13] [] [(9, .row 13 2)] [] [(13, .z 64 6 2 (((ltake l at0) ++ by0).map e_Slot))] [] (hc (app_ok e_Slot (ltake l at0) by0) (hc (appl_ok e_Slot h2) .nil)) ?_
 obtain ⟨h3, h4, hF⟩ := asrt2 hF
 refine VR [.xs ((ldrop l (w64 (at0 + num))).map e_Slot), .xs ((((ltake l at0) ++ by0) ++ (ldrop l (w64 (at0 + num)))).map e_Slot)] [8] [] [13] [] [(8, .row 13 3)] [] [(13, .z 64 6 3 ((((ltake l at0) ++ by0) ++ (ldrop l (w64 (at0 + num)))).map e_Slot))] [] (hc (sl10_ok e_Slot h3) (hc (app_ok e_Slot ((ltake l at0) ++ by0) (ldrop l (w64 (at0 + num)))) (hc (appl_ok e_Slot h4) .nil))) ?_
 cases hF
 exact Wk_ret (hfin _ ⟨[13], [], [13], [], [], [], by kernel_rfl⟩)

/- tabularyref.Ordered -/
noncomputable def R_Ordered_J1 (x : Fault) (x1 : List Host × List Slot × Int × Int) (v1 : List Host) (v2 : List Slot) : Option (List Host × List Slot × Int × Int × Fault) :=
 some (v1, v2, x1.2.2.1, x1.2.2.2, x)
noncomputable def R_Ordered_B1 (o : Order) (x : Fault) (x1 : List Host × List Slot × Int × Int) (v1 : List Host) (v3 : List Slot × Int) : Option ((List Slot × Int) ⊕ (List Host × List Slot × Int × Int × Fault)) :=
 if (decide (v3.2 < (v3.1.length : Int))) = true then
  asrt (0 ≤ v3.2 ∧ v3.2 < (v3.1.length : Int)) <|
  asrt (0 ≤ v3.2 ∧ v3.2 < (v3.1.length : Int)) <|
  ob (
   if (decide (((lget v3.1 v3.2).Host) = o.ID)) = true then
    asrt (0 ≤ v3.2 ∧ v3.2 < (v3.1.length : Int)) <|
    asrt (0 ≤ v3.2 ∧ v3.2 < (v3.1.length : Int)) <|
    lt ((lset v3.1 v3.2 (⟨(⟨((lget v3.1 v3.2).Part).From, ((lget v3.1 v3.2).Part).To, ((lget v3.1 v3.2).Part).ID⟩ : Part), (lget v3.1 v3.2).State, 0, (lget v3.1 v3.2).Turn⟩ : Slot))) fun (v5 : List Slot) =>
    asrt (0 ≤ v3.2 ∧ v3.2 < (v5.length : Int)) <|
    asrt (0 ≤ v3.2 ∧ v3.2 < (v5.length : Int)) <|
    lt ((lset v5 v3.2 (⟨(⟨((lget v5 v3.2).Part).From, ((lget v5 v3.2).Part).To, ((lget v5 v3.2).Part).ID⟩ : Part), 0, (lget v5 v3.2).Host, (lget v5 v3.2).Turn⟩ : Slot))) fun (v6 : List Slot) =>
    some v6
   else
    some v3.1) fun (v4 : List Slot) =>
  some (Sum.inl (v4, w64 (v3.2 + 1)))
 else
  inrO (R_Ordered_J1 x x1 v1 v3.1)
noncomputable def R_Ordered_L1 (o : Order) (x : Fault) (x1 : List Host × List Slot × Int × Int) (v1 : List Host) (v0 : List Slot × Int) : Option (List Host × List Slot × Int × Int × Fault) :=
 loopO (fun y => R_Ordered_B1 o x x1 v1 y) v0
noncomputable def R_Ordered_J2 (x : Fault) (x1 : List Host × List Slot × Int × Int) (v7 : List Slot × Int × Int) : Option (List Host × List Slot × Int × Int × Fault) :=
 if (decide (1000000000 < v7.2.2)) = true then
  lt (R_F 9 0) fun x18 =>
  some (([] : List Host), ([] : List Slot), 0, 0, x18)
 else
  some (x1.1, v7.1, v7.2.1, v7.2.2, x)
noncomputable def R_Ordered (b : Board) (o : Order) : Option (List Host × List Slot × Int × Int × Fault) :=
 ob (R_BoardFault b) fun x =>
 if (!decide (x.Code = 0)) = true then
  some (([] : List Host), ([] : List Slot), 0, 0, x)
 else
  ob (R_CopyBoard b) fun x1 =>
  if ((decide (o.Kind < 1)) || (decide (8 < o.Kind))) = true then
   lt (R_F 4 0) fun x2 =>
   some (([] : List Host), ([] : List Slot), 0, 0, x2)
  else
   if (decide (o.Kind = 1)) = true then
    lt (R_One o.ID) fun x3 =>
    if (!x3) = true then
     lt (R_F 3 (-1)) fun x4 =>
     some (([] : List Host), ([] : List Slot), 0, 0, x4)
    else
     ob (R_HostIn b o.ID true) fun x5 =>
     if (decide (0 ≤ x5)) = true then
      lt (R_F 10 (-1)) fun x6 =>
      some (([] : List Host), ([] : List Slot), 0, 0, x6)
     else
      ob (R_HostIn b o.ID false) fun x7 =>
      if (decide (x7 < 0)) = true then
       if (decide (20 ≤ (b.Hosts.length : Int))) = true then
        lt (R_F 2 (-1)) fun x8 =>
        some (([] : List Host), ([] : List Slot), 0, 0, x8)
       else
        asrt (((x1.1 ++ [(⟨o.ID, 1, true⟩ : Host)]).length : Int) * 24 ≤ 140737488351232) <|
        some ((x1.1 ++ [(⟨o.ID, 1, true⟩ : Host)]), x1.2.1, x1.2.2.1, x1.2.2.2, x)
      else
       asrt (0 ≤ x7 ∧ x7 < (b.Hosts.length : Int)) <|
       if (decide (1000000000 ≤ ((lget b.Hosts x7).Epoch))) = true then
        lt (R_F 9 0) fun x9 =>
        some (([] : List Host), ([] : List Slot), 0, 0, x9)
       else
        asrt (0 ≤ x7 ∧ x7 < (b.Hosts.length : Int)) <|
        asrt (0 ≤ x7 ∧ x7 < (x1.1.length : Int)) <|
        asrt (0 ≤ x7 ∧ x7 < (x1.1.length : Int)) <|
        lt ((lset x1.1 x7 (⟨o.ID, w64 (((lget b.Hosts x7).Epoch) + 1), true⟩ : Host))) fun (v : List Host) =>
        some (v, x1.2.1, x1.2.2.1, x1.2.2.2, x)
   else
    if (decide (o.Kind = 2)) = true then
     ob (R_HostIn b o.ID true) fun x10 =>
     if (decide (x10 < 0)) = true then
      lt (R_F 6 (-1)) fun x11 =>
      some (([] : List Host), ([] : List Slot), 0, 0, x11)
     else
      asrt (0 ≤ x10 ∧ x10 < (x1.1.length : Int)) <|
      asrt (0 ≤ x10 ∧ x10 < (x1.1.length : Int)) <|
      lt ((lset x1.1 x10 (⟨(lget x1.1 x10).ID, (lget x1.1 x10).Epoch, false⟩ : Host))) fun (v1 : List Host) =>
      R_Ordered_L1 o x x1 v1 (x1.2.1, 0)
    else
     ob (R_SlotIn b o.ID) fun x12 =>
     if ((decide (x12 < 0)) || ((decide (o.Kind = 8)) && (decide ((b.Slots.length : Int) ≤ (w64 (x12 + 1)))))) = true then
      lt (R_F 6 (-1)) fun x13 =>
      some (([] : List Host), ([] : List Slot), 0, 0, x13)
     else
      asrt (0 ≤ x12 ∧ x12 < (b.Slots.length : Int)) <|
      ob (if (decide (o.Kind = 3)) = true then (R_HostIn b o.Host true) else some default) fun x14 =>
      if ((decide (o.Kind = 3)) && (decide (x14 < 0))) = true then
       lt (R_F 6 (-2)) fun x15 =>
       some (([] : List Host), ([] : List Slot), 0, 0, x15)
      else
       if (((decide (o.Kind = 4)) || (decide (o.Kind = 6))) && ((!decide (((lget b.Slots x12).Host) = o.Host)) || (!decide (((lget b.Slots x12).Turn) = o.Turn)))) = true then
        lt (R_F 12 (-1)) fun x16 =>
        some (([] : List Host), ([] : List Slot), 0, 0, x16)
       else
        asrt (0 ≤ o.Kind ∧ o.Kind < (([0, 0, 0, 0, 1, 2, 3, 0, 0] : List Int).length : Int)) <|
        asrt ((decide (o.Kind = 8)) = true → (!(!decide (((lget b.Slots x12).State) = (lget ([0, 0, 0, 0, 1, 2, 3, 0, 0] : List Int) o.Kind)))) = true → 0 ≤ w64 (x12 + 1) ∧ w64 (x12 + 1) < (b.Slots.length : Int)) <|
        if ((!decide (((lget b.Slots x12).State) = (lget ([0, 0, 0, 0, 1, 2, 3, 0, 0] : List Int) o.Kind))) || ((decide (o.Kind = 8)) && (!decide (((lget b.Slots (w64 (x12 + 1))).State) = 0)))) = true then
         lt (R_F 11 (-1)) fun x17 =>
         some (([] : List Host), ([] : List Slot), 0, 0, x17)
        else
         if (decide (o.Kind = 3)) = true then
          if (decide (1000000000 ≤ b.Turn)) = true then
           lt (R_F 9 0) fun x19 =>
           some (([] : List Host), ([] : List Slot), 0, 0, x19)
          else
           asrt (0 ≤ x12 ∧ x12 < (x1.2.1.length : Int)) <|
           asrt (0 ≤ x12 ∧ x12 < (x1.2.1.length : Int)) <|
           lt ((lset x1.2.1 x12 (⟨(⟨((lget b.Slots x12).Part).From, ((lget b.Slots x12).Part).To, ((lget b.Slots x12).Part).ID⟩ : Part), 1, o.Host, w64 (b.Turn + 1)⟩ : Slot))) fun (v8 : List Slot) =>
           R_Ordered_J2 x x1 (v8, w64 (b.Turn + 1), x1.2.2.2)
         else
          if (decide (o.Kind = 4)) = true then
           asrt (0 ≤ x12 ∧ x12 < (x1.2.1.length : Int)) <|
           asrt (0 ≤ x12 ∧ x12 < (x1.2.1.length : Int)) <|
           lt ((lset x1.2.1 x12 (⟨(⟨((lget x1.2.1 x12).Part).From, ((lget x1.2.1 x12).Part).To, ((lget x1.2.1 x12).Part).ID⟩ : Part), 2, (lget x1.2.1 x12).Host, (lget x1.2.1 x12).Turn⟩ : Slot))) fun (v9 : List Slot) =>
           R_Ordered_J2 x x1 (v9, x1.2.2.1, x1.2.2.2)
          else
           if (decide (o.Kind = 5)) = true then
            asrt (0 ≤ x12 ∧ x12 < (x1.2.1.length : Int)) <|
            asrt (0 ≤ x12 ∧ x12 < (x1.2.1.length : Int)) <|
            lt ((lset x1.2.1 x12 (⟨(⟨((lget x1.2.1 x12).Part).From, ((lget x1.2.1 x12).Part).To, ((lget x1.2.1 x12).Part).ID⟩ : Part), 3, (lget x1.2.1 x12).Host, (lget x1.2.1 x12).Turn⟩ : Slot))) fun (v10 : List Slot) =>
            R_Ordered_J2 x x1 (v10, x1.2.2.1, x1.2.2.2)
           else
            if (decide (o.Kind = 6)) = true then
             asrt (0 ≤ x12 ∧ x12 < (x1.2.1.length : Int)) <|
             asrt (0 ≤ x12 ∧ x12 < (x1.2.1.length : Int)) <|
             lt ((lset x1.2.1 x12 (⟨(⟨((lget b.Slots x12).Part).From, ((lget b.Slots x12).Part).To, ((lget b.Slots x12).Part).ID⟩ : Part), 0, 0, (lget b.Slots x12).Turn⟩ : Slot))) fun (v11 : List Slot) =>
             R_Ordered_J2 x x1 (v11, x1.2.2.1, x1.2.2.2)
            else
             if (decide (o.Kind = 7)) = true then
              if (decide (40 < (o.Row.length : Int))) = true then
               lt (R_F 8 (-2)) fun x20 =>
               some (([] : List Host), ([] : List Slot), 0, 0, x20)
              else
               lt (R_InPart (⟨((lget b.Slots x12).Part).From, ((lget b.Slots x12).Part).To, ((lget b.Slots x12).Part).ID⟩ : Part) o.Row) fun x21 =>
               if ((decide (o.Row = (((lget b.Slots x12).Part).From))) || (!x21)) = true then
                lt (R_F 5 (-2)) fun x22 =>
                some (([] : List Host), ([] : List Slot), 0, 0, x22)
               else
                if (decide (200 ≤ (b.Slots.length : Int))) = true then
                 lt (R_F 2 (-1)) fun x23 =>
                 some (([] : List Host), ([] : List Slot), 0, 0, x23)
                else
                 ob (R_SlotsInstead b.Slots x12 1 [(⟨(⟨((lget b.Slots x12).Part).From, o.Row, b.Next⟩ : Part), 0, 0, 0⟩ : Slot), (⟨(⟨o.Row, ((lget b.Slots x12).Part).To, w64 (b.Next + 1)⟩ : Part), 0, 0, 0⟩ : Slot)]) fun x24 =>
                 R_Ordered_J2 x x1 (x24, x1.2.2.1, w64 (b.Next + 2))
             else
              if (decide (o.Kind = 8)) = true then
               asrt (0 ≤ w64 (x12 + 1) ∧ w64 (x12 + 1) < (b.Slots.length : Int)) <|
               ob (R_SlotsInstead b.Slots x12 2 [(⟨(⟨((lget b.Slots x12).Part).From, ((lget b.Slots (w64 (x12 + 1))).Part).To, b.Next⟩ : Part), 0, 0, 0⟩ : Slot)]) fun x25 =>
               R_Ordered_J2 x x1 (x25, x1.2.2.1, w64 (b.Next + 1))
              else
               R_Ordered_J2 x x1 (x1.2.1, x1.2.2.1, x1.2.2.2)
theorem R_Ordered_ok (b : Board) (o : Order) (r : List Host × List Slot × Int × Int × Fault) (hF : R_Ordered b o = some r) : Pe Try.prog 55 ⟨[], [], [], [], []⟩ [.agg (c_Board b), .agg (c_Order o)] (.tup [.agg [.row 22 0, .row 20022 0, .i r.2.2.1, .i r.2.2.2.1], .agg (c_Fault r.2.2.2.2)]) ⟨[], [], [(22, .z 108 3 0 (r.1.map e_Host)), (20022, .z 64 6 0 (r.2.1.map e_Slot))], [], []⟩ := by
 refine PeN (N := 370) (res := [.cell 4 62, .cell 5 26]) (ts := [62, 26]) Ty.ok Fn.b55 Try.func55 ?_
 intro Q g hfin
 unfold R_Ordered at hF
 refine VR [] [2, 3, 4, 5] [2, 3, 4, 5] [] [] [(2, .ptr 2 0), (3, .ptr 3 0), (4, .ptr 4 0), (5, .ptr 5 0)] [(2, (c_Board b)), (3, (c_Order o)), (4, [.nils, .nils, .i 0, .i 0]), (5, [.i 0, .i 0])] [] [] .nil ?_
 obtain ⟨x, h0, hF⟩ := ob_elim hF
 refine VR [.callB (.agg (c_Fault x))] [2, 3, 4, 5, 6] [2, 3, 4, 5, 6] [] [] [(6, .ptr 6 0)] [(6, (c_Fault x))] [] [] (hc (R_BoardFault_ok b x h0) .nil) ?_
 refine NR [] [2, 3, 4, 5, 6, 18] [2, 3, 4, 5, 6] [] [(18, .bool (!decide (x.Code = 0)))] .nil ?_
 refine Nif hF (fun hb hF => ?_) (fun hb hF => ?_)
 ·refine VD [] [4, 5] [4, 5] [] [] [] [(5, (c_Fault x))] [] [] .nil ?_
  cases hF
  refine Wk_nilrowB 4 0 60000 108 3 rfl rfl rfl rfl rfl ?_
  refine Wk_nilrowB 4 1 60001 64 6 rfl rfl rfl rfl rfl ?_
  refine Wk_ren' ⟨[], [(60000, 22), (60001, 20022)], [], []⟩ rfl ?_
  exact Wk_ret (hfin _ ⟨[22, 20022], [], [22, 20022], [], [], [], by kernel_rfl⟩)
 ·obtain ⟨x1, h1, hF⟩ := ob_elim hF
  refine VR [.callE [] [] [] [] (.agg [.row 22 1, .row 20022 1, .i x1.2.2.1, .i x1.2.2.2]) ⟨[], [], [(22, .z 108 3 1 (x1.1.map e_Host)), (20022, .z 64 6 1 (x1.2.1.map e_Slot))], [], []⟩] [2, 3, 4, 5, 6, 7] [2, 3, 4, 5, 6, 7] [22, 20022] [] [(7, .ptr 7 0)] [(7, [.row 22 1, .row 20022 1, .i x1.2.2.1, .i x1.2.2.2])] [(22, .z 108 3 1 (x1.1.map e_Host)), (20022, .z 64 6 1 (x1.2.1.map e_Slot))] [] (hc (Pe.ren (R_CopyBoard_ok b x1 h1) ⟨[], [(5, 22), (9, 20022)], [], []⟩) .nil) ?_
  refine NR [] [2, 3, 4, 5, 6, 7, 30] [2, 3, 4, 5, 6, 7] [22, 20022] [(30, .bool ((decide (o.Kind < 1)) || (decide (8 < o.Kind))))] .nil ?_
  refine Nif hF (fun hb hF => ?_) (fun hb hF => ?_)
  ·obtain ⟨x2, h2, hF⟩ := lt_split hF
   refine VR [.callB (.agg (c_Fault x2))] [4, 5] [4, 5] [] [] [] [(5, (c_Fault x2))] [] [] (hc (R_F_ok 4 0 x2 h2) .nil) ?_
   cases hF
   refine Wk_nilrowB 4 0 60002 108 3 rfl rfl rfl rfl rfl ?_
   refine Wk_nilrowB 4 1 60003 64 6 rfl rfl rfl rfl rfl ?_
   refine Wk_ren' ⟨[], [(60002, 22), (60003, 20022)], [], []⟩ rfl ?_
   exact Wk_ret (hfin _ ⟨[22, 20022], [], [22, 20022], [], [], [], by kernel_rfl⟩)
  ·refine NR [] [2, 3, 4, 5, 6, 7, 35] [2, 3, 4, 5, 6, 7] [22, 20022] [(35, .bool (decide (o.Kind = 1)))] .nil ?_
   refine Nif hF (fun hb hF => ?_) (fun hb hF => ?_)
   ·obtain ⟨x3, h3, hF⟩ := lt_split hF
    refine NR [.callB (.bool x3)] [2, 3, 4, 5, 6, 7, 39] [2, 3, 4, 5, 6, 7] [22, 20022] [(39, .bool (!x3))] (hc (R_One_ok o.ID x3 h3) .nil) ?_
    refine Nif hF (fun hb hF => ?_) (fun hb hF => ?_)
    ·obtain ⟨x4, h4, hF⟩ := lt_split hF
     refine VR [.callB (.agg (c_Fault x4))] [4, 5] [4, 5] [] [] [] [(5, (c_Fault x4))] [] [] (hc (R_F_ok 3 (-1) x4 h4) .nil) ?_
     cases hF
     refine Wk_nilrowB 4 0 60004 108 3 rfl rfl rfl rfl rfl ?_
     refine Wk_nilrowB 4 1 60005 64 6 rfl rfl rfl rfl rfl ?_
     refine Wk_ren' ⟨[], [(60004, 22), (60005, 20022)], [], []⟩ rfl ?_
     exact Wk_ret (hfin _ ⟨[22, 20022], [], [22, 20022], [], [], [], by kernel_rfl⟩)
    ·obtain ⟨x5, h5, hF⟩ := ob_elim hF
     refine NR [.callB (.i x5)] [2, 3, 4, 5, 6, 7, 46] [2, 3, 4, 5, 6, 7] [22, 20022] [(46, .bool (decide (0 ≤ x5)))] (hc (R_HostIn_ok b o.ID true x5 h5) .nil) ?_
     refine Nif hF (fun hb hF => ?_) (fun hb hF => ?_)
     ·obtain ⟨x6, h6, hF⟩ := lt_split hF
      refine VR [.callB (.agg (c_Fault x6))] [4, 5] [4, 5] [] [] [] [(5, (c_Fault x6))] [] [] (hc (R_F_ok 10 (-1) x6 h6) .nil) ?_
      cases hF
      refine Wk_nilrowB 4 0 60006 108 3 rfl rfl rfl rfl rfl ?_
      refine Wk_nilrowB 4 1 60007 64 6 rfl rfl rfl rfl rfl ?_
      refine Wk_ren' ⟨[], [(60006, 22), (60007, 20022)], [], []⟩ rfl ?_
      exact Wk_ret (hfin _ ⟨[22, 20022], [], [22, 20022], [], [], [], by kernel_rfl⟩)
     ·obtain ⟨x7, h7, hF⟩ := ob_elim hF
      refine NR [.callB (.i x7)] [2, 3, 4, 5, 6, 7, 8] [2, 3, 4, 5, 6, 7] [22, 20022] [(8, .i x7)] (hc (R_HostIn_ok b o.ID false x7 h7) .nil) ?_
      refine NR [] [2, 3, 4, 5, 6, 7, 8, 54] [2, 3, 4, 5, 6, 7] [22, 20022] [(54, .bool (decide (x7 < 0)))] .nil ?_
      refine Nif hF (fun hb hF => ?_) (fun hb hF => ?_)
      ·refine NR [.nat (b.Hosts.length : Int)] [3, 4, 5, 6, 7, 58] [3, 4, 5, 6, 7] [22, 20022] [(58, .bool (decide (20 ≤ (b.Hosts.length : Int))))] (hc (len_ok e_Host b.Hosts) .nil) ?_
       refine Nif hF (fun hb hF => ?_) (fun hb hF => ?_)
       ·obtain ⟨x8, h8, hF⟩ := lt_split hF
        refine VR [.callB (.agg (c_Fault x8))] [4, 5] [4, 5] [] [] [] [(5, (c_Fault x8))] [] [] (hc (R_F_ok 2 (-1) x8 h8) .nil) ?_
        cases hF
        refine Wk_nilrowB 4 0 60008 108 3 rfl rfl rfl rfl rfl ?_
        refine Wk_nilrowB 4 1 60009 64 6 rfl rfl rfl rfl rfl ?_
        refine Wk_ren' ⟨[], [(60008, 22), (60009, 20022)], [], []⟩ rfl ?_
        exact Wk_ret (hfin _ ⟨[22, 20022], [], [22, 20022], [], [], [], by kernel_rfl⟩)
       ·obtain ⟨h9, hF⟩ := asrt_elim hF
        refine VR [.sealed, .xs ((x1.1 ++ [(⟨o.ID, 1, true⟩ : Host)]).map e_Host)] [4, 5, 6, 7] [4, 5, 6, 7] [22, 20022] [] [] [(7, [.row 22 2, .row 20022 1, .i x1.2.2.1, .i x1.2.2.2])] [(22, ⟨108, 3, 2, 0, 0, true, 0, [], ((x1.1 ++ [(⟨o.ID, 1, true⟩ : Host)]).map e_Host)⟩)] [] (hc (app_ok e_Host x1.1 [(⟨o.ID, 1, true⟩ : Host)]) (hc (appl_ok e_Host h9) .nil)) ?_
        refine VD [] [4, 5] [4, 5] [22, 20022] [] [] [(4, [.row 22 2, .row 20022 1, .i x1.2.2.1, .i x1.2.2.2]), (5, (c_Fault x))] [] [] .nil ?_
        cases hF
        exact Wk_ret (hfin _ ⟨[22, 20022], [], [22, 20022], [], [], [(22, ⟨0, true, true, false⟩), (20022, ⟨0, true, true, false⟩)], by kernel_rfl⟩)
      ·obtain ⟨h10, hF⟩ := asrt_elim hF
       refine NR [.av (e_Host (lget b.Hosts x7))] [2, 3, 4, 5, 6, 7, 8, 77] [2, 3, 4, 5, 6, 7] [22, 20022] [(77, .bool (decide (1000000000 ≤ ((lget b.Hosts x7).Epoch))))] (hc (idx_ok e_Host h10) .nil) ?_
       refine Nif hF (fun hb hF => ?_) (fun hb hF => ?_)
       ·obtain ⟨x9, h11, hF⟩ := lt_split hF
        refine VR [.callB (.agg (c_Fault x9))] [4, 5] [4, 5] [] [] [] [(5, (c_Fault x9))] [] [] (hc (R_F_ok 9 0 x9 h11) .nil) ?_
        cases hF
        refine Wk_nilrowB 4 0 60010 108 3 rfl rfl rfl rfl rfl ?_
        refine Wk_nilrowB 4 1 60011 64 6 rfl rfl rfl rfl rfl ?_
        refine Wk_ren' ⟨[], [(60010, 22), (60011, 20022)], [], []⟩ rfl ?_
        exact Wk_ret (hfin _ ⟨[22, 20022], [], [22, 20022], [], [], [], by kernel_rfl⟩)
       ·obtain ⟨h12, hF⟩ := asrt_elim hF
        obtain ⟨h13, h14, hF⟩ := asrt2 hF
        refine NDL ((lset x1.1 x7 (⟨o.ID, w64 (((lget b.Hosts x7).Epoch) + 1), true⟩ : Host))) (fun v : List Host => ([], [], [(22, .z 108 3 1 (v.map e_Host))], [])) [.av (e_Host (lget b.Hosts x7)), .av (e_Host (lget x1.1 x7)), .xs ((lset x1.1 x7 (⟨o.ID, w64 (((lget b.Hosts x7).Epoch) + 1), true⟩ : Host)).map e_Host)] [4, 5, 6, 7] [4, 5, 6, 7] [22, 20022] [] (hc (idx_ok e_Host h12) (hc (ixr_ok e_Host h13) (hc (ldr_ok e_Host h14) (hc (set_ok e_Host x1.1 x7 (⟨o.ID, w64 (((lget b.Hosts x7).Epoch) + 1), true⟩ : Host)) (hc (Nat.zero_le x7.toNat) .nil))))) (fun v hv => ?_)
        have hF := lt_elim hF hv
        refine VD [] [4, 5] [4, 5] [22, 20022] [] [] [(4, [.row 22 1, .row 20022 1, .i x1.2.2.1, .i x1.2.2.2]), (5, (c_Fault x))] [] [] .nil ?_
        cases hF
        exact Wk_ret (hfin _ ⟨[22, 20022], [], [22, 20022], [], [], [(22, ⟨0, true, true, false⟩), (20022, ⟨0, true, true, false⟩)], by kernel_rfl⟩)
   ·refine NR [] [2, 3, 4, 5, 6, 7, 98] [2, 3, 4, 5, 6, 7] [22, 20022] [(98, .bool (decide (o.Kind = 2)))] .nil ?_
    refine Nif hF (fun hb hF => ?_) (fun hb hF => ?_)
    ·obtain ⟨x10, h15, hF⟩ := ob_elim hF
     refine NR [.callB (.i x10)] [3, 4, 5, 6, 7, 9] [3, 4, 5, 6, 7] [22, 20022] [(9, .i x10)] (hc (R_HostIn_ok b o.ID true x10 h15) .nil) ?_
     refine NR [] [3, 4, 5, 6, 7, 9, 104] [3, 4, 5, 6, 7] [22, 20022] [(104, .bool (decide (x10 < 0)))] .nil ?_
     refine Nif hF (fun hb hF => ?_) (fun hb hF => ?_)
     ·obtain ⟨x11, h16, hF⟩ := lt_split hF
      refine VR [.callB (.agg (c_Fault x11))] [4, 5] [4, 5] [] [] [] [(5, (c_Fault x11))] [] [] (hc (R_F_ok 6 (-1) x11 h16) .nil) ?_
      cases hF
      refine Wk_nilrowB 4 0 60012 108 3 rfl rfl rfl rfl rfl ?_
      refine Wk_nilrowB 4 1 60013 64 6 rfl rfl rfl rfl rfl ?_
      refine Wk_ren' ⟨[], [(60012, 22), (60013, 20022)], [], []⟩ rfl ?_
      exact Wk_ret (hfin _ ⟨[22, 20022], [], [22, 20022], [], [], [], by kernel_rfl⟩)
     ·obtain ⟨h17, hF⟩ := asrt_elim hF
      obtain ⟨h18, hF⟩ := asrt_elim hF
      refine NRL ((lset x1.1 x10 (⟨(lget x1.1 x10).ID, (lget x1.1 x10).Epoch, false⟩ : Host))) (fun v1 : List Host => ([], [], [(22, .z 108 3 1 (v1.map e_Host))], [])) [.av (e_Host (lget x1.1 x10)), .xs ((lset x1.1 x10 (⟨(lget x1.1 x10).ID, (lget x1.1 x10).Epoch, false⟩ : Host)).map e_Host)] [3, 4, 5, 6, 7] [3, 4, 5, 6, 7] [22, 20022] [] (hc (ixr_ok e_Host h17) (hc (ldr_ok e_Host h18) (hc (set_ok e_Host x1.1 x10 (⟨(lget x1.1 x10).ID, (lget x1.1 x10).Epoch, false⟩ : Host)) (hc (Nat.zero_le x10.toNat) .nil)))) (fun v1 hv => ?_)
      have hF := lt_elim hF hv
      refine NR [] [3, 4, 5, 6, 7, 10] [3, 4, 5, 6, 7] [22, 20022] [(10, .i 0)] .nil ?_
      refine NmeetP (fun v2 : List Slot => (⟨[(4, .ptr 4 0), (5, .ptr 5 0), (6, .ptr 6 0), (7, .ptr 7 0)], [(4, [.nils, .nils, .i 0, .i 0]), (5, [.i 0, .i 0]), (6, (c_Fault x)), (7, [.row 22 1, .row 20022 1, .i x1.2.2.1, .i x1.2.2.2])], [(22, .z 108 3 1 (v1.map e_Host)), (20022, .z 64 6 1 (v2.map e_Slot))], [], []⟩ : S)) (fun v2 => R_Ordered_J1 x x1 v1 v2 = some r) ?_ ?_
      ·refine Nblk ?_
       unfold R_Ordered_L1 at hF
       refine Niter (fun v3 : List Slot × Int => (⟨[(3, .ptr 3 0), (4, .ptr 4 0), (5, .ptr 5 0), (6, .ptr 6 0), (7, .ptr 7 0), (10, .i v3.2)], [(3, (c_Order o)), (4, [.nils, .nils, .i 0, .i 0]), (5, [.i 0, .i 0]), (6, (c_Fault x)), (7, [.row 22 1, .row 20022 1, .i x1.2.2.1, .i x1.2.2.2])], [(22, .z 108 3 1 (v1.map e_Host)), (20022, .z 64 6 1 (v3.1.map e_Slot))], [], []⟩ : S)) [] hF (by kernel_rfl) ?_
       intro n1 v3 y1 hF ih1 dn1
       unfold R_Ordered_B1 at hF
       refine NR [.nat (v3.1.length : Int)] [3, 4, 5, 6, 7, 10, 116] [3, 4, 5, 6, 7] [22, 20022] [(116, .bool (decide (v3.2 < (v3.1.length : Int))))] (hc (len_ok e_Slot v3.1) .nil) ?_
       refine Nif hF (fun hb hF => ?_) (fun hb hF => ?_)
       ·refine Nblk ?_
        obtain ⟨h19, h20, hF⟩ := asrt2 hF
        refine ND [.av (e_Slot (lget v3.1 v3.2))] [3, 4, 5, 6, 7, 10, 127] [3, 4, 5, 6, 7] [22, 20022] [(127, .bool (decide (((lget v3.1 v3.2).Host) = o.ID)))] (hc (ixr_ok e_Slot h19) (hc (ldr_ok e_Slot h20) .nil)) ?_
        obtain ⟨v4, hv, hF⟩ := ob_elim hF
        refine Nmeet (⟨[(3, .ptr 3 0), (4, .ptr 4 0), (5, .ptr 5 0), (6, .ptr 6 0), (7, .ptr 7 0), (10, .i v3.2)], [(3, (c_Order o)), (4, [.nils, .nils, .i 0, .i 0]), (5, [.i 0, .i 0]), (6, (c_Fault x)), (7, [.row 22 1, .row 20022 1, .i x1.2.2.1, .i x1.2.2.2])], [(22, .z 108 3 1 (v1.map e_Host)), (20022, .z 64 6 1 (v4.map e_Slot))], [], []⟩ : S) ?_ ?_
        ·have hF := hv
         refine Nif hF (fun hb hF => ?_) (fun hb hF => ?_)
         ·obtain ⟨h21, hF⟩ := asrt_elim hF
          obtain ⟨h22, hF⟩ := asrt_elim hF
          refine NRL ((lset v3.1 v3.2 (⟨(⟨((lget v3.1 v3.2).Part).From, ((lget v3.1 v3.2).Part).To, ((lget v3.1 v3.2).Part).ID⟩ : Part), (lget v3.1 v3.2).State, 0, (lget v3.1 v3.2).Turn⟩ : Slot))) (fun v5 : List Slot => ([], [], [(20022, .z 64 6 1 (v5.map e_Slot))], [])) [.av (e_Slot (lget v3.1 v3.2)), .xs ((lset v3.1 v3.2 (⟨(⟨((lget v3.1 v3.2).Part).From, ((lget v3.1 v3.2).Part).To, ((lget v3.1 v3.2).Part).ID⟩ : Part), (lget v3.1 v3.2).State, 0, (lget v3.1 v3.2).Turn⟩ : Slot)).map e_Slot)] [3, 4, 5, 6, 7, 10] [3, 4, 5, 6, 7] [22, 20022] [] (hc (ixr_ok e_Slot h21) (hc (ldr_ok e_Slot h22) (hc (set_ok e_Slot v3.1 v3.2 (⟨(⟨((lget v3.1 v3.2).Part).From, ((lget v3.1 v3.2).Part).To, ((lget v3.1 v3.2).Part).ID⟩ : Part), (lget v3.1 v3.2).State, 0, (lget v3.1 v3.2).Turn⟩ : Slot)) (hc (Nat.zero_le v3.2.toNat) .nil)))) (fun v5 hv => ?_)
          have hF := lt_elim hF hv
          obtain ⟨h23, h24, hF⟩ := asrt2 hF
          refine NRL ((lset v5 v3.2 (⟨(⟨((lget v5 v3.2).Part).From, ((lget v5 v3.2).Part).To, ((lget v5 v3.2).Part).ID⟩ : Part), 0, (lget v5 v3.2).Host, (lget v5 v3.2).Turn⟩ : Slot))) (fun v6 : List Slot => ([], [], [(20022, .z 64 6 1 (v6.map e_Slot))], [])) [.av (e_Slot (lget v5 v3.2)), .xs ((lset v5 v3.2 (⟨(⟨((lget v5 v3.2).Part).From, ((lget v5 v3.2).Part).To, ((lget v5 v3.2).Part).ID⟩ : Part), 0, (lget v5 v3.2).Host, (lget v5 v3.2).Turn⟩ : Slot)).map e_Slot)] [3, 4, 5, 6, 7, 10] [3, 4, 5, 6, 7] [22, 20022] [] (hc (ixr_ok e_Slot h23) (hc (ldr_ok e_Slot h24) (hc (set_ok e_Slot v5 v3.2 (⟨(⟨((lget v5 v3.2).Part).From, ((lget v5 v3.2).Part).To, ((lget v5 v3.2).Part).ID⟩ : Part), 0, (lget v5 v3.2).Host, (lget v5 v3.2).Turn⟩ : Slot)) (hc (Nat.zero_le v3.2.toNat) .nil)))) (fun v6 hv => ?_)
          have hF := lt_elim hF hv
          cases hF
          exact met [] (by kernel_rfl)
         ·cases hF
          exact met [] (by kernel_rfl)
        ·refine NR [] [3, 4, 5, 6, 7, 10] [3, 4, 5, 6, 7] [22, 20022] [(10, .i (w64 (v3.2 + 1)))] .nil ?_
         exact Nrnd [] hF ih1 (by kernel_rfl)
       ·refine Nexit rfl ?_
        have hF := inrO_done hF dn1
        exact metP v3.1 [] hF (by kernel_rfl)
      ·intro v2 hF
       have hF : R_Ordered_J1 x x1 v1 v2 = some r := hF
       unfold R_Ordered_J1 at hF
       refine VD [] [4, 5] [4, 5] [22, 20022] [] [] [(4, [.row 22 1, .row 20022 1, .i x1.2.2.1, .i x1.2.2.2]), (5, (c_Fault x))] [] [] .nil ?_
       cases hF
       exact Wk_ret (hfin _ ⟨[22, 20022], [], [22, 20022], [], [], [(22, ⟨0, true, true, false⟩), (20022, ⟨0, true, true, false⟩)], by kernel_rfl⟩)
    ·obtain ⟨x12, h25, hF⟩ := ob_elim hF
     refine NR [.callB (.i x12)] [2, 3, 4, 5, 6, 7, 11] [2, 3, 4, 5, 6, 7] [22, 20022] [(11, .i x12)] (hc (R_SlotIn_ok b o.ID x12 h25) .nil) ?_
     refine NR [.nat (b.Slots.length : Int)] [2, 3, 4, 5, 6, 7, 11, 158] [2, 3, 4, 5, 6, 7] [22, 20022] [(158, .bool ((decide (x12 < 0)) || ((decide (o.Kind = 8)) && (decide ((b.Slots.length : Int) ≤ (w64 (x12 + 1)))))))] (hc (fun (_ : (decide (o.Kind = 8)) = true) (_ : (!(decide (x12 < 0))) = true) => (len_ok e_Slot b.Slots)) .nil) ?_
     refine Nif hF (fun hb hF => ?_) (fun hb hF => ?_)
     ·obtain ⟨x13, h26, hF⟩ := lt_split hF
      refine VR [.callB (.agg (c_Fault x13))] [4, 5] [4, 5] [] [] [] [(5, (c_Fault x13))] [] [] (hc (R_F_ok 6 (-1) x13 h26) .nil) ?_
      cases hF
      refine Wk_nilrowB 4 0 60014 108 3 rfl rfl rfl rfl rfl ?_
      refine Wk_nilrowB 4 1 60015 64 6 rfl rfl rfl rfl rfl ?_
      refine Wk_ren' ⟨[], [(60014, 22), (60015, 20022)], [], []⟩ rfl ?_
      exact Wk_ret (hfin _ ⟨[22, 20022], [], [22, 20022], [], [], [], by kernel_rfl⟩)
     ·obtain ⟨h27, hF⟩ := asrt_elim hF
      refine VR [.av (e_Slot (lget b.Slots x12))] [2, 3, 4, 5, 6, 7, 11, 12] [2, 3, 4, 5, 6, 7, 12] [22, 20022] [] [(12, .ptr 12 0)] [(12, [.str (((lget b.Slots x12).Part).From), .str (((lget b.Slots x12).Part).To), .i (((lget b.Slots x12).Part).ID), .i ((lget b.Slots x12).State), .i ((lget b.Slots x12).Host), .i ((lget b.Slots x12).Turn)])] [] [] (hc (idx_ok e_Slot h27) .nil) ?_
      obtain ⟨x14, h28, hF⟩ := ob_elim hF
      refine NR [.callB (.i x14)] [2, 3, 4, 5, 6, 7, 11, 12, 175] [2, 3, 4, 5, 6, 7, 12] [22, 20022] [(175, .bool ((decide (o.Kind = 3)) && (decide (x14 < 0))))] (hc (fun (ga0 : (decide (o.Kind = 3)) = true) => (R_HostIn_ok b o.Host true x14 (ite_t h28 ga0))) .nil) ?_
      refine Nif hF (fun hb hF => ?_) (fun hb hF => ?_)
      ·obtain ⟨x15, h29, hF⟩ := lt_split hF
       refine VR [.callB (.agg (c_Fault x15))] [4, 5] [4, 5] [] [] [] [(5, (c_Fault x15))] [] [] (hc (R_F_ok 6 (-2) x15 h29) .nil) ?_
       cases hF
       refine Wk_nilrowB 4 0 60016 108 3 rfl rfl rfl rfl rfl ?_
       refine Wk_nilrowB 4 1 60017 64 6 rfl rfl rfl rfl rfl ?_
       refine Wk_ren' ⟨[], [(60016, 22), (60017, 20022)], [], []⟩ rfl ?_
       exact Wk_ret (hfin _ ⟨[22, 20022], [], [22, 20022], [], [], [], by kernel_rfl⟩)
      ·refine NR [] [2, 3, 4, 5, 6, 7, 11, 12, 199] [2, 3, 4, 5, 6, 7, 12] [22, 20022] [(199, .bool (((decide (o.Kind = 4)) || (decide (o.Kind = 6))) && ((!decide (((lget b.Slots x12).Host) = o.Host)) || (!decide (((lget b.Slots x12).Turn) = o.Turn)))))] .nil ?_
       refine Nif hF (fun hb hF => ?_) (fun hb hF => ?_)
       ·obtain ⟨x16, h30, hF⟩ := lt_split hF
        refine VR [.callB (.agg (c_Fault x16))] [4, 5] [4, 5] [] [] [] [(5, (c_Fault x16))] [] [] (hc (R_F_ok 12 (-1) x16 h30) .nil) ?_
        cases hF
        refine Wk_nilrowB 4 0 60018 108 3 rfl rfl rfl rfl rfl ?_
        refine Wk_nilrowB 4 1 60019 64 6 rfl rfl rfl rfl rfl ?_
        refine Wk_ren' ⟨[], [(60018, 22), (60019, 20022)], [], []⟩ rfl ?_
        exact Wk_ret (hfin _ ⟨[22, 20022], [], [22, 20022], [], [], [], by kernel_rfl⟩)
       ·refine NR [.sealed] [2, 3, 4, 5, 6, 7, 11, 12, 13] [2, 3, 4, 5, 6, 7, 12] [22, 20022] [(13, .sl 1 (([0, 0, 0, 0, 1, 2, 3, 0, 0] : List Int).map e_i64))] .nil ?_
        obtain ⟨h31, h32, hF⟩ := asrt2 hF
        refine ND [.av (e_i64 (lget ([0, 0, 0, 0, 1, 2, 3, 0, 0] : List Int) o.Kind)), .av (e_Slot (lget b.Slots (w64 (x12 + 1))))] [2, 3, 4, 5, 6, 7, 11, 12, 225] [2, 3, 4, 5, 6, 7, 12] [22, 20022] [(225, .bool ((!decide (((lget b.Slots x12).State) = (lget ([0, 0, 0, 0, 1, 2, 3, 0, 0] : List Int) o.Kind))) || ((decide (o.Kind = 8)) && (!decide (((lget b.Slots (w64 (x12 + 1))).State) = 0)))))] (hc (idx_ok e_i64 h31) (hc (fun (ga0 : (decide (o.Kind = 8)) = true) (ga1 : (!(!decide (((lget b.Slots x12).State) = (lget ([0, 0, 0, 0, 1, 2, 3, 0, 0] : List Int) o.Kind)))) = true) => (idx_ok e_Slot (h32 ga0 ga1))) .nil)) ?_
        refine Nif hF (fun hb hF => ?_) (fun hb hF => ?_)
        ·obtain ⟨x17, h33, hF⟩ := lt_split hF
         refine VR [.callB (.agg (c_Fault x17))] [4, 5] [4, 5] [] [] [] [(5, (c_Fault x17))] [] [] (hc (R_F_ok 11 (-1) x17 h33) .nil) ?_
         cases hF
         refine Wk_nilrowB 4 0 60020 108 3 rfl rfl rfl rfl rfl ?_
         refine Wk_nilrowB 4 1 60021 64 6 rfl rfl rfl rfl rfl ?_
         refine Wk_ren' ⟨[], [(60020, 22), (60021, 20022)], [], []⟩ rfl ?_
         exact Wk_ret (hfin _ ⟨[22, 20022], [], [22, 20022], [], [], [], by kernel_rfl⟩)
        ·refine NR [] [2, 3, 4, 5, 6, 7, 11, 12, 229] [2, 3, 4, 5, 6, 7, 12] [22, 20022] [(229, .i o.Kind)] .nil ?_
         refine Nblk ?_
         refine NR [] [2, 3, 4, 5, 6, 7, 11, 12, 229, 230] [2, 3, 4, 5, 6, 7, 12] [22, 20022] [(230, .bool (decide (o.Kind = 3)))] .nil ?_
         refine NmeetP (fun v7 : List Slot × Int × Int => (⟨[(4, .ptr 4 0), (5, .ptr 5 0), (6, .ptr 6 0), (7, .ptr 7 0)], [(4, [.nils, .nils, .i 0, .i 0]), (5, [.i 0, .i 0]), (6, (c_Fault x)), (7, [.row 22 1, .row 20022 0, .i v7.2.1, .i v7.2.2])], [(22, .z 108 3 1 (x1.1.map e_Host)), (20022, .z 64 6 0 (v7.1.map e_Slot))], [], []⟩ : S)) (fun v7 => R_Ordered_J2 x x1 v7 = some r) ?_ ?_
         ·refine Nif hF (fun hb hF => ?_) (fun hb hF => ?_)
          ·refine NR [] [2, 3, 4, 5, 6, 7, 11, 12, 234] [2, 3, 4, 5, 6, 7, 12] [22, 20022] [(234, .bool (decide (1000000000 ≤ b.Turn)))] .nil ?_
           refine Nif hF (fun hb hF => ?_) (fun hb hF => ?_)
           ·obtain ⟨x19, h35, hF⟩ := lt_split hF
            refine VR [.callB (.agg (c_Fault x19))] [4, 5] [4, 5] [] [] [] [(5, (c_Fault x19))] [] [] (hc (R_F_ok 9 0 x19 h35) .nil) ?_
            cases hF
            refine Wk_nilrowB 4 0 60024 108 3 rfl rfl rfl rfl rfl ?_
            refine Wk_nilrowB 4 1 60025 64 6 rfl rfl rfl rfl rfl ?_
            refine Wk_ren' ⟨[], [(60024, 22), (60025, 20022)], [], []⟩ rfl ?_
            exact Wk_ret (hfin _ ⟨[22, 20022], [], [22, 20022], [], [], [], by kernel_rfl⟩)
           ·refine VR [] [3, 4, 5, 6, 7, 11, 12] [3, 4, 5, 6, 7, 12] [22, 20022] [] [] [(7, [.row 22 1, .row 20022 1, .i (w64 (b.Turn + 1)), .i x1.2.2.2])] [] [] .nil ?_
            obtain ⟨h36, h37, hF⟩ := asrt2 hF
            refine NRL ((lset x1.2.1 x12 (⟨(⟨((lget b.Slots x12).Part).From, ((lget b.Slots x12).Part).To, ((lget b.Slots x12).Part).ID⟩ : Part), 1, o.Host, w64 (b.Turn + 1)⟩ : Slot))) (fun v8 : List Slot => ([], [], [(20022, .z 64 6 1 (v8.map e_Slot))], [])) [.av (e_Slot (lget x1.2.1 x12)), .xs ((lset x1.2.1 x12 (⟨(⟨((lget b.Slots x12).Part).From, ((lget b.Slots x12).Part).To, ((lget b.Slots x12).Part).ID⟩ : Part), 1, o.Host, w64 (b.Turn + 1)⟩ : Slot)).map e_Slot)] [4, 5, 6, 7] [4, 5, 6, 7] [22, 20022] [] (hc (ixr_ok e_Slot h36) (hc (ldr_ok e_Slot h37) (hc (set_ok e_Slot x1.2.1 x12 (⟨(⟨((lget b.Slots x12).Part).From, ((lget b.Slots x12).Part).To, ((lget b.Slots x12).Part).ID⟩ : Part), 1, o.Host, w64 (b.Turn + 1)⟩ : Slot)) (hc (Nat.zero_le x12.toNat) .nil)))) (fun v8 hv => ?_)
            have hF := lt_elim hF hv
            exact metP (v8, w64 (b.Turn + 1), x1.2.2.2) [(20022, ⟨0, true, true, false⟩)] hF (by kernel_rfl)
          ·refine NR [] [2, 3, 4, 5, 6, 7, 11, 12, 229, 252] [2, 3, 4, 5, 6, 7, 12] [22, 20022] [(252, .bool (decide (o.Kind = 4)))] .nil ?_
           refine Nif hF (fun hb hF => ?_) (fun hb hF => ?_)
           ·obtain ⟨h38, hF⟩ := asrt_elim hF
            obtain ⟨h39, hF⟩ := asrt_elim hF
            refine NRL ((lset x1.2.1 x12 (⟨(⟨((lget x1.2.1 x12).Part).From, ((lget x1.2.1 x12).Part).To, ((lget x1.2.1 x12).Part).ID⟩ : Part), 2, (lget x1.2.1 x12).Host, (lget x1.2.1 x12).Turn⟩ : Slot))) (fun v9 : List Slot => ([], [], [(20022, .z 64 6 1 (v9.map e_Slot))], [])) [.av (e_Slot (lget x1.2.1 x12)), .xs ((lset x1.2.1 x12 (⟨(⟨((lget x1.2.1 x12).Part).From, ((lget x1.2.1 x12).Part).To, ((lget x1.2.1 x12).Part).ID⟩ : Part), 2, (lget x1.2.1 x12).Host, (lget x1.2.1 x12).Turn⟩ : Slot)).map e_Slot)] [4, 5, 6, 7] [4, 5, 6, 7] [22, 20022] [] (hc (ixr_ok e_Slot h38) (hc (ldr_ok e_Slot h39) (hc (set_ok e_Slot x1.2.1 x12 (⟨(⟨((lget x1.2.1 x12).Part).From, ((lget x1.2.1 x12).Part).To, ((lget x1.2.1 x12).Part).ID⟩ : Part), 2, (lget x1.2.1 x12).Host, (lget x1.2.1 x12).Turn⟩ : Slot)) (hc (Nat.zero_le x12.toNat) .nil)))) (fun v9 hv => ?_)
            have hF := lt_elim hF hv
            exact metP (v9, x1.2.2.1, x1.2.2.2) [(20022, ⟨0, true, true, false⟩)] hF (by kernel_rfl)
           ·refine NR [] [2, 3, 4, 5, 6, 7, 11, 12, 229, 259] [2, 3, 4, 5, 6, 7, 12] [22, 20022] [(259, .bool (decide (o.Kind = 5)))] .nil ?_
            refine Nif hF (fun hb hF => ?_) (fun hb hF => ?_)
            ·obtain ⟨h40, hF⟩ := asrt_elim hF
             obtain ⟨h41, hF⟩ := asrt_elim hF
             refine NRL ((lset x1.2.1 x12 (⟨(⟨((lget x1.2.1 x12).Part).From, ((lget x1.2.1 x12).Part).To, ((lget x1.2.1 x12).Part).ID⟩ : Part), 3, (lget x1.2.1 x12).Host, (lget x1.2.1 x12).Turn⟩ : Slot))) (fun v10 : List Slot => ([], [], [(20022, .z 64 6 1 (v10.map e_Slot))], [])) [.av (e_Slot (lget x1.2.1 x12)), .xs ((lset x1.2.1 x12 (⟨(⟨((lget x1.2.1 x12).Part).From, ((lget x1.2.1 x12).Part).To, ((lget x1.2.1 x12).Part).ID⟩ : Part), 3, (lget x1.2.1 x12).Host, (lget x1.2.1 x12).Turn⟩ : Slot)).map e_Slot)] [4, 5, 6, 7] [4, 5, 6, 7] [22, 20022] [] (hc (ixr_ok e_Slot h40) (hc (ldr_ok e_Slot h41) (hc (set_ok e_Slot x1.2.1 x12 (⟨(⟨((lget x1.2.1 x12).Part).From, ((lget x1.2.1 x12).Part).To, ((lget x1.2.1 x12).Part).ID⟩ : Part), 3, (lget x1.2.1 x12).Host, (lget x1.2.1 x12).Turn⟩ : Slot)) (hc (Nat.zero_le x12.toNat) .nil)))) (fun v10 hv => ?_)
             have hF := lt_elim hF hv
             exact metP (v10, x1.2.2.1, x1.2.2.2) [(20022, ⟨0, true, true, false⟩)] hF (by kernel_rfl)
            ·refine NR [] [2, 3, 4, 5, 6, 7, 11, 12, 229, 266] [2, 3, 4, 5, 6, 7, 12] [22, 20022] [(266, .bool (decide (o.Kind = 6)))] .nil ?_
             refine Nif hF (fun hb hF => ?_) (fun hb hF => ?_)
             ·obtain ⟨h42, hF⟩ := asrt_elim hF
              obtain ⟨h43, hF⟩ := asrt_elim hF
              refine NRL ((lset x1.2.1 x12 (⟨(⟨((lget b.Slots x12).Part).From, ((lget b.Slots x12).Part).To, ((lget b.Slots x12).Part).ID⟩ : Part), 0, 0, (lget b.Slots x12).Turn⟩ : Slot))) (fun v11 : List Slot => ([], [], [(20022, .z 64 6 1 (v11.map e_Slot))], [])) [.av (e_Slot (lget x1.2.1 x12)), .xs ((lset x1.2.1 x12 (⟨(⟨((lget b.Slots x12).Part).From, ((lget b.Slots x12).Part).To, ((lget b.Slots x12).Part).ID⟩ : Part), 0, 0, (lget b.Slots x12).Turn⟩ : Slot)).map e_Slot)] [4, 5, 6, 7] [4, 5, 6, 7] [22, 20022] [] (hc (ixr_ok e_Slot h42) (hc (ldr_ok e_Slot h43) (hc (set_ok e_Slot x1.2.1 x12 (⟨(⟨((lget b.Slots x12).Part).From, ((lget b.Slots x12).Part).To, ((lget b.Slots x12).Part).ID⟩ : Part), 0, 0, (lget b.Slots x12).Turn⟩ : Slot)) (hc (Nat.zero_le x12.toNat) .nil)))) (fun v11 hv => ?_)
              have hF := lt_elim hF hv
              exact metP (v11, x1.2.2.1, x1.2.2.2) [(20022, ⟨0, true, true, false⟩)] hF (by kernel_rfl)
             ·refine NR [] [2, 3, 4, 5, 6, 7, 11, 12, 229, 277] [2, 3, 4, 5, 6, 7, 12] [22, 20022] [(277, .bool (decide (o.Kind = 7)))] .nil ?_
              refine Nif hF (fun hb hF => ?_) (fun hb hF => ?_)
              ·refine NR [] [2, 3, 4, 5, 6, 7, 11, 12, 282] [2, 3, 4, 5, 6, 7, 12] [22, 20022] [(282, .bool (decide (40 < (o.Row.length : Int))))] .nil ?_
               refine Nif hF (fun hb hF => ?_) (fun hb hF => ?_)
               ·obtain ⟨x20, h44, hF⟩ := lt_split hF
                refine VR [.callB (.agg (c_Fault x20))] [4, 5] [4, 5] [] [] [] [(5, (c_Fault x20))] [] [] (hc (R_F_ok 8 (-2) x20 h44) .nil) ?_
                cases hF
                refine Wk_nilrowB 4 0 60026 108 3 rfl rfl rfl rfl rfl ?_
                refine Wk_nilrowB 4 1 60027 64 6 rfl rfl rfl rfl rfl ?_
                refine Wk_ren' ⟨[], [(60026, 22), (60027, 20022)], [], []⟩ rfl ?_
                exact Wk_ret (hfin _ ⟨[22, 20022], [], [22, 20022], [], [], [], by kernel_rfl⟩)
               ·obtain ⟨x21, h45, hF⟩ := lt_split hF
                refine NR [.callB (.bool x21)] [2, 3, 4, 5, 6, 7, 11, 12, 298] [2, 3, 4, 5, 6, 7, 12] [22, 20022] [(298, .bool ((decide (o.Row = (((lget b.Slots x12).Part).From))) || (!x21)))] (hc (fun (ga0 : (!(decide (o.Row = (((lget b.Slots x12).Part).From)))) = true) => (R_InPart_ok (⟨((lget b.Slots x12).Part).From, ((lget b.Slots x12).Part).To, ((lget b.Slots x12).Part).ID⟩ : Part) o.Row x21 h45)) .nil) ?_
                refine Nif hF (fun hb hF => ?_) (fun hb hF => ?_)
                ·obtain ⟨x22, h46, hF⟩ := lt_split hF
                 refine VR [.callB (.agg (c_Fault x22))] [4, 5] [4, 5] [] [] [] [(5, (c_Fault x22))] [] [] (hc (R_F_ok 5 (-2) x22 h46) .nil) ?_
                 cases hF
                 refine Wk_nilrowB 4 0 60028 108 3 rfl rfl rfl rfl rfl ?_
                 refine Wk_nilrowB 4 1 60029 64 6 rfl rfl rfl rfl rfl ?_
                 refine Wk_ren' ⟨[], [(60028, 22), (60029, 20022)], [], []⟩ rfl ?_
                 exact Wk_ret (hfin _ ⟨[22, 20022], [], [22, 20022], [], [], [], by kernel_rfl⟩)
                ·refine NR [.nat (b.Slots.length : Int)] [2, 3, 4, 5, 6, 7, 11, 12, 304] [2, 3, 4, 5, 6, 7, 12] [22, 20022] [(304, .bool (decide (200 ≤ (b.Slots.length : Int))))] (hc (len_ok e_Slot b.Slots) .nil) ?_
                 refine Nif hF (fun hb hF => ?_) (fun hb hF => ?_)
                 ·obtain ⟨x23, h47, hF⟩ := lt_split hF
                  refine VR [.callB (.agg (c_Fault x23))] [4, 5] [4, 5] [] [] [] [(5, (c_Fault x23))] [] [] (hc (R_F_ok 2 (-1) x23 h47) .nil) ?_
                  cases hF
                  refine Wk_nilrowB 4 0 60030 108 3 rfl rfl rfl rfl rfl ?_
                  refine Wk_nilrowB 4 1 60031 64 6 rfl rfl rfl rfl rfl ?_
                  refine Wk_ren' ⟨[], [(60030, 22), (60031, 20022)], [], []⟩ rfl ?_
                  exact Wk_ret (hfin _ ⟨[22, 20022], [], [22, 20022], [], [], [], by kernel_rfl⟩)
                 ·refine VR [] [2, 3, 4, 5, 6, 7, 11, 12] [2, 3, 4, 5, 6, 7, 12] [22, 20022] [] [] [(7, [.row 22 1, .row 20022 1, .i x1.2.2.1, .i (w64 (b.Next + 2))])] [] [] .nil ?_
                  obtain ⟨x24, h48, hF⟩ := ob_elim hF
                  refine VR [.sealed, .callE [] [] [] [] (.row 334 3) ⟨[], [], [(334, .z 64 6 3 (x24.map e_Slot))], [], []⟩] [4, 5, 6, 7] [4, 5, 6, 7] [22, 334] [] [] [(7, [.row 22 1, .row 334 3, .i x1.2.2.1, .i (w64 (b.Next + 2))])] [(334, .z 64 6 3 (x24.map e_Slot))] [] (hc (Pe.ren (R_SlotsInstead_ok b.Slots x12 1 [(⟨(⟨((lget b.Slots x12).Part).From, o.Row, b.Next⟩ : Part), 0, 0, 0⟩ : Slot), (⟨(⟨o.Row, ((lget b.Slots x12).Part).To, w64 (b.Next + 1)⟩ : Part), 0, 0, 0⟩ : Slot)] x24 h48) ⟨[], [(13, 334)], [], []⟩) .nil) ?_
                  refine Wk_trim (fs := [4, 5, 6, 7]) (bs := [4, 5, 6, 7]) (rs := [22, 334]) (ms := []) (aa := []) (nv := []) rfl ?_
                  refine Wk_ren' ⟨[], [(334, 20022)], [], []⟩ rfl ?_
                  exact metP (x24, x1.2.2.1, w64 (b.Next + 2)) [(20022, ⟨0, true, true, false⟩)] hF (by kernel_rfl)
              ·refine NR [] [2, 4, 5, 6, 7, 11, 12, 336] [2, 4, 5, 6, 7, 12] [22, 20022] [(336, .bool (decide (o.Kind = 8)))] .nil ?_
               refine Nif hF (fun hb hF => ?_) (fun hb hF => ?_)
               ·refine VR [] [2, 4, 5, 6, 7, 11, 12] [2, 4, 5, 6, 7, 12] [22, 20022] [] [] [(7, [.row 22 1, .row 20022 1, .i x1.2.2.1, .i (w64 (b.Next + 1))])] [] [] .nil ?_
                obtain ⟨h49, hF⟩ := asrt_elim hF
                obtain ⟨x25, h50, hF⟩ := ob_elim hF
                refine VD [.av (e_Slot (lget b.Slots (w64 (x12 + 1)))), .sealed, .callE [] [] [] [] (.row 361 3) ⟨[], [], [(361, .z 64 6 3 (x25.map e_Slot))], [], []⟩] [4, 5, 6, 7] [4, 5, 6, 7] [22, 361] [] [] [(7, [.row 22 1, .row 361 3, .i x1.2.2.1, .i (w64 (b.Next + 1))])] [(361, .z 64 6 3 (x25.map e_Slot))] [] (hc (idx_ok e_Slot h49) (hc (Pe.ren (R_SlotsInstead_ok b.Slots x12 2 [(⟨(⟨((lget b.Slots x12).Part).From, ((lget b.Slots (w64 (x12 + 1))).Part).To, b.Next⟩ : Part), 0, 0, 0⟩ : Slot)] x25 h50) ⟨[], [(13, 361)], [], []⟩) .nil)) ?_
                refine Wk_trim (fs := [4, 5, 6, 7]) (bs := [4, 5, 6, 7]) (rs := [22, 361]) (ms := []) (aa := []) (nv := []) rfl ?_
                refine Wk_ren' ⟨[], [(361, 20022)], [], []⟩ rfl ?_
                exact metP (x25, x1.2.2.1, w64 (b.Next + 1)) [(20022, ⟨0, true, true, false⟩)] hF (by kernel_rfl)
               ·exact metP (x1.2.1, x1.2.2.1, x1.2.2.2) [(20022, ⟨0, true, true, false⟩)] hF (by kernel_rfl)
         ·intro v7 hF
          have hF : R_Ordered_J2 x x1 v7 = some r := hF
          unfold R_Ordered_J2 at hF
          refine NR [] [4, 5, 6, 7, 365] [4, 5, 6, 7] [22, 20022] [(365, .bool (decide (1000000000 < v7.2.2)))] .nil ?_
          refine Nif hF (fun hb hF => ?_) (fun hb hF => ?_)
          ·obtain ⟨x18, h34, hF⟩ := lt_split hF
           refine VR [.callB (.agg (c_Fault x18))] [4, 5] [4, 5] [] [] [] [(5, (c_Fault x18))] [] [] (hc (R_F_ok 9 0 x18 h34) .nil) ?_
           cases hF
           refine Wk_nilrowB 4 0 60022 108 3 rfl rfl rfl rfl rfl ?_
           refine Wk_nilrowB 4 1 60023 64 6 rfl rfl rfl rfl rfl ?_
           refine Wk_ren' ⟨[], [(60022, 22), (60023, 20022)], [], []⟩ rfl ?_
           exact Wk_ret (hfin _ ⟨[22, 20022], [], [22, 20022], [], [], [], by kernel_rfl⟩)
          ·refine VD [] [4, 5] [4, 5] [22, 20022] [] [] [(4, [.row 22 1, .row 20022 0, .i v7.2.1, .i v7.2.2]), (5, (c_Fault x))] [] [] .nil ?_
           cases hF
           exact Wk_ret (hfin _ ⟨[22, 20022], [], [22, 20022], [], [], [(22, ⟨0, true, true, false⟩)], by kernel_rfl⟩)

end G
end Go.Proofs.Ytdjlninhfndjfaa
