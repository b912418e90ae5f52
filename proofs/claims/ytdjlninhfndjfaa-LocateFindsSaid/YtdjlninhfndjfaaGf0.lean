/- The program's functions as plain functions, and that they are these. Written by a program (dec2.py). -/
import Derived.Test.YtdjlninhfndjfaaTys
namespace Go.Proofs.Ytdjlninhfndjfaa
open Go Go.Dm
set_option linter.unusedVariables false
set_option linter.unusedSimpArgs false
set_option maxRecDepth 100000
namespace G
/- tabularylaw.served -/
noncomputable def law_served  : Board :=
 lt ([(⟨(⟨([] : List UInt8), ([] : List UInt8), 1⟩ : Part), 2, 7, 1⟩ : Slot)]) fun (v : List Slot) =>
 (⟨[(⟨7, 1, true⟩ : Host)], v, 1, 2⟩ : Board)
theorem law_served_ok  (r : Board) (hF : law_served  = r) : Pe Try.prog 75 S.none [] (.agg (c_Board r)) S.none := by
 refine Pe_of (N := 7) (res := [.cell 0 62]) (ts := [62]) Ty.ok Fn.b75 Try.func75 rfl rfl rfl rfl rfl rfl ?_
 intro Q g hfin
 unfold law_served at hF
 refine URs [] [0] [0] [] [] [(0, .ptr 0 0)] [(0, [.nils, .nils, .i 0, .i 0])] [] [] .nil ?_
 refine Wk_seq ?_
 refine WRL ([(⟨(⟨([] : List UInt8), ([] : List UInt8), 1⟩ : Part), 2, 7, 1⟩ : Slot)]) (fun v : List Slot => ⟨[(0, .ptr 0 0)], [(0, [.sl 3 ([(⟨7, 1, true⟩ : Host)].map e_Host), .sl 6 (v.map e_Slot), .i 1, .i 2])], [], [], []⟩) [.sealed, .sealed] [0] [0] [] [] [] [] .nil (by kernel_rfl) (fun v hv => ?_)
 have hF := lt_elim hF hv
 exact Wk_ret (hfin _ ⟨[], [], [], [], [], [], by first | (rw [← hF]; kernel_rfl) | kernel_rfl⟩)

/- assign.fault -/
noncomputable def assign_fault (code : Int) (at0 : Int) : Fault :=
 (⟨code, at0⟩ : Fault)
theorem assign_fault_ok (code : Int) (at0 : Int) (r : Fault) (hF : assign_fault code at0 = r) : Pe Try.prog 88 S.none [.i code, .i at0] (.agg [.i r.Code, .i r.At]) S.none := by
 refine Pe_of (N := 8) (res := [.cell 4 26]) (ts := [26]) Ty.ok Fn.b88 Try.func88 rfl rfl rfl rfl rfl rfl ?_
 intro Q g hfin
 unfold assign_fault at hF
 refine URs [] [0, 1, 4] [4] [] [] [(4, .ptr 4 0)] [(4, [.i 0, .i 0])] [] [] .nil ?_
 refine URs [] [4] [4] [] [] [] [(4, [.i code, .i at0])] [] [] .nil ?_
 exact Wk_ret (hfin _ ⟨[], [], [], [], [], [], by first | (rw [← hF]; kernel_rfl) | kernel_rfl⟩)

/- assign.number -/
noncomputable def assign_number (num : Int) : Bool :=
 (decide (1 ≤ num)) && (decide (num ≤ 1000000000))
theorem assign_number_ok (num : Int) (r : Bool) (hF : assign_number num = r) : Pe Try.prog 89 S.none [.i num] (.bool r) S.none := by
 refine Pe_of (N := 9) (res := [.tmp 2]) (ts := [4]) Ty.ok Fn.b89 Try.func89 rfl rfl rfl rfl rfl rfl ?_
 intro Q g hfin
 unfold assign_number at hF
 refine ZRs [] [0] [] [] [] .nil ?_
 refine ZRs [] [2] [] [] [(2, .bool ((decide (1 ≤ num)) && (decide (num ≤ 1000000000))))] .nil ?_
 exact Wk_ret (hfin _ ⟨[], [], [], [], [], [], by first | (rw [← hF]; kernel_rfl) | kernel_rfl⟩)

/- assign.Parts -/
noncomputable def assign_Parts_J1 (v1 : List Part) : Option (List Part) :=
 some v1
noncomputable def assign_Parts_B1 (b : Board) (v2 : List Part × Int) : Option ((List Part × Int) ⊕ (List Part)) :=
 if (decide (v2.2 < (b.Slots.length : Int))) = true then
  asrt (0 ≤ v2.2 ∧ v2.2 < (b.Slots.length : Int)) <|
  asrt (0 ≤ v2.2 ∧ v2.2 < (v2.1.length : Int)) <|
  asrt (0 ≤ v2.2 ∧ v2.2 < (v2.1.length : Int)) <|
  lt ((lset v2.1 v2.2 (⟨((lget b.Slots v2.2).Part).From, ((lget b.Slots v2.2).Part).To, ((lget b.Slots v2.2).Part).ID⟩ : Part))) fun (v3 : List Part) =>
  some (Sum.inl (v3, w64 (v2.2 + 1)))
 else
  inrO (assign_Parts_J1 v2.1)
noncomputable def assign_Parts_L1 (b : Board) (v0 : List Part × Int) : Option (List Part) :=
 loopO (fun y => assign_Parts_B1 b y) v0
noncomputable def assign_Parts (b : Board) : Option (List Part) :=
 asrt (0 ≤ ((b.Slots.length : Int) : Int) ∧ (b.Slots.length : Int) ≤ (b.Slots.length : Int) ∧ (b.Slots.length : Int) * 40 ≤ 140737488351232) <|
 lt ((List.replicate (b.Slots.length : Int).toNat ((⟨([] : List UInt8), ([] : List UInt8), 0⟩ : Part) : Part))) fun (v : List Part) =>
 assign_Parts_L1 b (v, 0)
theorem assign_Parts_ok (b : Board) (r : List Part) (hF : assign_Parts b = some r) : Pe Try.prog 90 ⟨[], [], [], [], []⟩ [.agg (c_Board b)] (.row 9 0) ⟨[], [], [(9, .o 34 3 0 (r.map e_Part))], [], []⟩ := by
 refine Pe_of (N := 25) (res := [.tmp 2]) (ts := [22]) Ty.ok Fn.b90 Try.func90 rfl rfl rfl rfl rfl rfl ?_
 intro Q g hfin
 unfold assign_Parts at hF
 refine URs [] [1] [1] [] [] [(1, .ptr 1 0)] [(1, (c_Board b))] [] [] .nil ?_
 refine Wk_seq ?_
 obtain ⟨h0, hF⟩ := asrt_elim hF
 refine WRL ((List.replicate (b.Slots.length : Int).toNat ((⟨([] : List UInt8), ([] : List UInt8), 0⟩ : Part) : Part))) (fun v : List Part => ⟨[(1, .ptr 1 0), (3, .row 9 0)], [(1, (c_Board b))], [(9, .o 34 3 0 (v.map e_Part))], [], []⟩) [.nat (b.Slots.length : Int), .xs ((List.replicate (b.Slots.length : Int).toNat ((⟨([] : List UInt8), ([] : List UInt8), 0⟩ : Part) : Part)).map e_Part)] [1, 3] [1] [9] [] [] [] (.cons (len_ok e_Slot b.Slots) (.cons (mk_ok h0) (.cons (rep_ok e_Part (b.Slots.length : Int) ((⟨([] : List UInt8), ([] : List UInt8), 0⟩ : Part) : Part)) .nil))) (by kernel_rfl) (fun v hv => ?_)
 have hF := lt_elim hF hv
 refine Wk_seq ?_
 refine ZRs [.nat (b.Slots.length : Int)] [3, 11, 12, 13] [] [9] [(11, .sl 6 (b.Slots.map e_Slot)), (12, .i (b.Slots.length : Int)), (13, .i 0)] (.cons (len_ok e_Slot b.Slots) .nil) ?_
 refine Wk_meetP (fun v1 : List Part => (⟨[(3, .row 9 0)], [], [(9, .o 34 3 0 (v1.map e_Part))], [], []⟩ : S)) (fun v1 => assign_Parts_J1 v1 = some r) ?_ ?_
 ·refine Wk_block ?_
  unfold assign_Parts_L1 at hF
  refine Wk_trim (fs := [3, 11, 12, 13]) (bs := []) (rs := [9]) (ms := []) (aa := []) (nv := []) (t := (fun v2 : List Part × Int => (⟨[(3, .row 9 0), (11, .sl 6 (b.Slots.map e_Slot)), (12, .i (b.Slots.length : Int)), (13, .i v2.2)], [], [(9, .o 34 3 0 (v2.1.map e_Part))], [], []⟩ : S)) (v, 0)) (by kernel_rfl) ?_
  refine Wk_iter (step := fun y => assign_Parts_B1 b y) (r := r) (fun v2 : List Part × Int => (⟨[(3, .row 9 0), (11, .sl 6 (b.Slots.map e_Slot)), (12, .i (b.Slots.length : Int)), (13, .i v2.2)], [], [(9, .o 34 3 0 (v2.1.map e_Part))], [], []⟩ : S)) (v, 0) hF ?_
  intro n1 v2 y1 hF ih1 dn1
  have hF : assign_Parts_B1 b v2 = some y1 := hF
  unfold assign_Parts_B1 at hF
  refine ZRs [] [3, 11, 12, 13, 14] [] [9] [(14, .bool (decide (v2.2 < (b.Slots.length : Int))))] .nil ?_
  refine Wk_seq ?_
  refine Wk_split rfl (fun hb => ?_) (fun hb => ?_)
  ·have hF := ite_t hF hb
   refine Wk_skip ?_
   refine Wk_seq ?_
   refine Wk_block ?_
   refine Wk_seq ?_
   obtain ⟨h1, hF⟩ := asrt_elim hF
   refine UR [.av (e_Slot (lget b.Slots v2.2))] [3, 4, 5, 11, 12, 13] [5] [9] [] [(4, .i v2.2), (5, .ptr 5 0)] [(5, [.str (((lget b.Slots v2.2).Part).From), .str (((lget b.Slots v2.2).Part).To), .i (((lget b.Slots v2.2).Part).ID), .i ((lget b.Slots v2.2).State), .i ((lget b.Slots v2.2).Host), .i ((lget b.Slots v2.2).Turn)])] [] [] (.cons (idx_ok e_Slot h1) .nil) ?_
   obtain ⟨h2, hF⟩ := asrt_elim hF
   obtain ⟨h3, hF⟩ := asrt_elim hF
   refine WRL ((lset v2.1 v2.2 (⟨((lget b.Slots v2.2).Part).From, ((lget b.Slots v2.2).Part).To, ((lget b.Slots v2.2).Part).ID⟩ : Part))) (fun v3 : List Part => ⟨[(3, .row 9 0), (11, .sl 6 (b.Slots.map e_Slot)), (12, .i (b.Slots.length : Int)), (13, .i v2.2)], [], [(9, .o 34 3 0 (v3.map e_Part))], [], []⟩) [.av (e_Part (lget v2.1 v2.2)), .xs ((lset v2.1 v2.2 (⟨((lget b.Slots v2.2).Part).From, ((lget b.Slots v2.2).Part).To, ((lget b.Slots v2.2).Part).ID⟩ : Part)).map e_Part)] [3, 11, 12, 13] [] [9] [] [] [] (.cons (ixr_ok e_Part h2) (.cons (ldr_ok e_Part h3) (.cons (set_ok e_Part v2.1 v2.2 (⟨((lget b.Slots v2.2).Part).From, ((lget b.Slots v2.2).Part).To, ((lget b.Slots v2.2).Part).ID⟩ : Part)) (.cons (Nat.zero_le v2.2.toNat) .nil)))) (by kernel_rfl) (fun v3 hv => ?_)
   have hF := lt_elim hF hv
   refine Wk_blk ?_
   refine ZR [] [3, 11, 12, 13] [] [9] [(13, .i (w64 (v2.2 + 1)))] .nil ?_
   refine Wk_trim (fs := [3, 11, 12, 13]) (bs := []) (rs := [9]) (ms := []) (aa := []) (nv := []) ?_ (ih1 _ (some_elim hF).symm)
   kernel_rfl
  ·have hF := ite_f hF hb
   refine Wk_exit rfl ?_
   have hF := inrO_done hF dn1
   exact Wk_metP v2.1 [3] [] [9] [] [] [] hF (by kernel_rfl)
 ·intro v1 hF
  have hF : assign_Parts_J1 v1 = some r := hF
  unfold assign_Parts_J1 at hF
  refine ZRs [] [2] [] [9] [(2, .row 9 0)] .nil ?_
  have hF := some_elim hF
  exact Wk_ret (hfin _ ⟨[9], [], [9], [], [], [], by first | (rw [← hF]; kernel_rfl) | kernel_rfl⟩)

/- parts.fault -/
noncomputable def parts_fault (code : Int) (at0 : Int) : Fault :=
 (⟨code, at0⟩ : Fault)
theorem parts_fault_ok (code : Int) (at0 : Int) (r : Fault) (hF : parts_fault code at0 = r) : Pe Try.prog 68 S.none [.i code, .i at0] (.agg [.i r.Code, .i r.At]) S.none := by
 refine Pe_of (N := 8) (res := [.cell 4 26]) (ts := [26]) Ty.ok Fn.b68 Try.func68 rfl rfl rfl rfl rfl rfl ?_
 intro Q g hfin
 unfold parts_fault at hF
 refine URs [] [0, 1, 4] [4] [] [] [(4, .ptr 4 0)] [(4, [.i 0, .i 0])] [] [] .nil ?_
 refine URs [] [4] [4] [] [] [] [(4, [.i code, .i at0])] [] [] .nil ?_
 exact Wk_ret (hfin _ ⟨[], [], [], [], [], [], by first | (rw [← hF]; kernel_rfl) | kernel_rfl⟩)

/- parts.number -/
noncomputable def parts_number (num : Int) : Bool :=
 (decide (0 ≤ num)) && (decide (num ≤ 1000000000))
theorem parts_number_ok (num : Int) (r : Bool) (hF : parts_number num = r) : Pe Try.prog 69 S.none [.i num] (.bool r) S.none := by
 refine Pe_of (N := 9) (res := [.tmp 2]) (ts := [4]) Ty.ok Fn.b69 Try.func69 rfl rfl rfl rfl rfl rfl ?_
 intro Q g hfin
 unfold parts_number at hF
 refine ZRs [] [0] [] [] [] .nil ?_
 refine ZRs [] [2] [] [] [(2, .bool ((decide (0 ≤ num)) && (decide (num ≤ 1000000000))))] .nil ?_
 exact Wk_ret (hfin _ ⟨[], [], [], [], [], [], by first | (rw [← hF]; kernel_rfl) | kernel_rfl⟩)

/- parts.Check -/
noncomputable def parts_Check_J1 (v : Unit) : Option Fault :=
 some (⟨0, 0⟩ : Fault)
noncomputable def parts_Check_B1 (l : List Part) (v1 : (List (Int × Int)) × List UInt8 × Int) : Option (((List (Int × Int)) × List UInt8 × Int) ⊕ Fault) :=
 if (decide (v1.2.2 < (l.length : Int))) = true then
  asrt (0 ≤ v1.2.2 ∧ v1.2.2 < (l.length : Int)) <|
  if ((decide (40 < (((lget l v1.2.2).From).length : Int))) || (decide (40 < (((lget l v1.2.2).To).length : Int)))) = true then
   lt (parts_fault 8 v1.2.2) fun x2 =>
   some (Sum.inr x2)
  else
   lt (parts_number ((lget l v1.2.2).ID)) fun x3 =>
   if (!x3) = true then
    lt (parts_fault 3 v1.2.2) fun x4 =>
    some (Sum.inr x4)
   else
    if (((!decide (((lget l v1.2.2).From) = v1.2.1)) || (!((decide (v1.2.2 = (w64 ((l.length : Int) - 1)))) == (decide (((lget l v1.2.2).To) = ([] : List UInt8)))))) || ((!(decide (v1.2.2 = (w64 ((l.length : Int) - 1))))) && (!Op.bytesLess ((lget l v1.2.2).From) ((lget l v1.2.2).To)))) = true then
     lt (parts_fault 5 v1.2.2) fun x5 =>
     some (Sum.inr x5)
    else
     if (decide (0 < ((mget v1.1 ((lget l v1.2.2).ID)).getD (0 : Int)))) = true then
      lt (parts_fault 10 v1.2.2) fun x6 =>
      some (Sum.inr x6)
     else
      some (Sum.inl ((mput v1.1 ((lget l v1.2.2).ID) (1 : Int)), (lget l v1.2.2).To, w64 (v1.2.2 + 1)))
 else
  inrO (parts_Check_J1 ())
noncomputable def parts_Check_L1 (l : List Part) (v0 : (List (Int × Int)) × List UInt8 × Int) : Option Fault :=
 loopO (fun y => parts_Check_B1 l y) v0
noncomputable def parts_Check (l : List Part) : Option Fault :=
 if (decide ((l.length : Int) = 0)) = true then
  lt (parts_fault 6 (-1)) fun x =>
  some x
 else
  if (decide (200 < (l.length : Int))) = true then
   lt (parts_fault 2 (-1)) fun x1 =>
   some x1
  else
   parts_Check_L1 l (([] : List (Int × Int)), ([] : List UInt8), 0)
theorem parts_Check_ok (l : List Part) (r : Fault) (hF : parts_Check l = some r) : Pe Try.prog 17 S.none [.sl 3 (l.map e_Part)] (.agg [.i r.Code, .i r.At]) S.none := by
 refine Pe_of (N := 89) (res := [.cell 2 26]) (ts := [26]) Ty.ok Fn.b17 Try.func17 rfl rfl rfl rfl rfl rfl ?_
 intro Q g hfin
 unfold parts_Check at hF
 refine URs [] [0, 2] [2] [] [] [(2, .ptr 2 0)] [(2, [.i 0, .i 0])] [] [] .nil ?_
 refine Wk_seq ?_
 refine ZRs [.nat (l.length : Int)] [0, 2, 10] [2] [] [(10, .bool (decide ((l.length : Int) = 0)))] (.cons (len_ok e_Part l) .nil) ?_
 refine Wk_split rfl (fun hb => ?_) (fun hb => ?_)
 ·have hF := ite_t hF hb
  refine Wk_seq ?_
  obtain ⟨x, h0, hF⟩ := lt_split hF
  refine UR [.callB (.agg [.i x.Code, .i x.At])] [2] [2] [] [] [] [(2, [.i x.Code, .i x.At])] [] [] (.cons (parts_fault_ok 6 (-1) x h0) .nil) ?_
  have hF := some_elim hF
  exact Wk_ret (hfin _ ⟨[], [], [], [], [], [], by first | (rw [← hF]; kernel_rfl) | kernel_rfl⟩)
 ·have hF := ite_f hF hb
  refine Wk_skip ?_
  refine Wk_seq ?_
  refine ZRs [.nat (l.length : Int)] [0, 2, 14] [2] [] [(14, .bool (decide (200 < (l.length : Int))))] (.cons (len_ok e_Part l) .nil) ?_
  refine Wk_split rfl (fun hb => ?_) (fun hb => ?_)
  ·have hF := ite_t hF hb
   refine Wk_seq ?_
   obtain ⟨x1, h1, hF⟩ := lt_split hF
   refine UR [.callB (.agg [.i x1.Code, .i x1.At])] [2] [2] [] [] [] [(2, [.i x1.Code, .i x1.At])] [] [] (.cons (parts_fault_ok 2 (-1) x1 h1) .nil) ?_
   have hF := some_elim hF
   exact Wk_ret (hfin _ ⟨[], [], [], [], [], [], by first | (rw [← hF]; kernel_rfl) | kernel_rfl⟩)
  ·have hF := ite_f hF hb
   refine Wk_skip ?_
   refine URs [] [0, 2, 3] [2] [] [16] [(3, .mp 16)] [] [] [(16, (([] : List (Int × Int)).map (fun p => (e_i64 p.1, e_i64 p.2))))] .nil ?_
   refine URs [] [0, 2, 3, 4] [2] [] [16] [(4, .str ([] : List UInt8))] [] [] [] .nil ?_
   refine Wk_seq ?_
   refine URs [.nat (l.length : Int)] [0, 2, 3, 4, 17, 18, 19] [2] [] [16] [(17, .sl 3 (l.map e_Part)), (18, .i (l.length : Int)), (19, .i 0)] [] [] [] (.cons (len_ok e_Part l) .nil) ?_
   refine Wk_meetP (fun v : Unit => (⟨[(2, .ptr 2 0)], [(2, [.i 0, .i 0])], [], [], []⟩ : S)) (fun v => parts_Check_J1 v = some r) ?_ ?_
   ·refine Wk_block ?_
    unfold parts_Check_L1 at hF
    refine Wk_trim (fs := [0, 2, 3, 4, 17, 18, 19]) (bs := [2]) (rs := []) (ms := [16]) (aa := []) (nv := []) (t := (fun v1 : (List (Int × Int)) × List UInt8 × Int => (⟨[(0, .sl 3 (l.map e_Part)), (2, .ptr 2 0), (3, .mp 16), (4, .str v1.2.1), (17, .sl 3 (l.map e_Part)), (18, .i (l.length : Int)), (19, .i v1.2.2)], [(2, [.i 0, .i 0])], [], [(16, (v1.1.map (fun p => (e_i64 p.1, e_i64 p.2))))], []⟩ : S)) (([] : List (Int × Int)), ([] : List UInt8), 0)) (by kernel_rfl) ?_
    refine Wk_iter (step := fun y => parts_Check_B1 l y) (r := r) (fun v1 : (List (Int × Int)) × List UInt8 × Int => (⟨[(0, .sl 3 (l.map e_Part)), (2, .ptr 2 0), (3, .mp 16), (4, .str v1.2.1), (17, .sl 3 (l.map e_Part)), (18, .i (l.length : Int)), (19, .i v1.2.2)], [(2, [.i 0, .i 0])], [], [(16, (v1.1.map (fun p => (e_i64 p.1, e_i64 p.2))))], []⟩ : S)) (([] : List (Int × Int)), ([] : List UInt8), 0) hF ?_
    intro n1 v1 y1 hF ih1 dn1
    have hF : parts_Check_B1 l v1 = some y1 := hF
    unfold parts_Check_B1 at hF
    refine URs [] [0, 2, 3, 4, 17, 18, 19, 20] [2] [] [16] [(20, .bool (decide (v1.2.2 < (l.length : Int))))] [] [] [] .nil ?_
    refine Wk_seq ?_
    refine Wk_split rfl (fun hb => ?_) (fun hb => ?_)
    ·have hF := ite_t hF hb
     refine Wk_skip ?_
     refine Wk_seq ?_
     refine Wk_block ?_
     refine Wk_seq ?_
     obtain ⟨h2, hF⟩ := asrt_elim hF
     refine UR [.av (e_Part (lget l v1.2.2))] [0, 2, 3, 4, 5, 6, 17, 18, 19] [2, 6] [] [16] [(5, .i v1.2.2), (6, .ptr 6 0)] [(6, (c_Part (lget l v1.2.2)))] [] [] (.cons (idx_ok e_Part h2) .nil) ?_
     refine URs [.nat (l.length : Int)] [0, 2, 3, 4, 5, 6, 7, 17, 18, 19] [2, 6] [] [16] [(7, .bool (decide (v1.2.2 = (w64 ((l.length : Int) - 1)))))] [] [] [] (.cons (len_ok e_Part l) .nil) ?_
     refine Wk_seq ?_
     refine Wk_block ?_
     refine URs [] [0, 2, 3, 4, 5, 6, 7, 17, 18, 19, 29] [2, 6] [] [16] [(29, .bool ((decide (40 < (((lget l v1.2.2).From).length : Int))) || (decide (40 < (((lget l v1.2.2).To).length : Int)))))] [] [] [] .nil ?_
     refine Wk_split rfl (fun hb => ?_) (fun hb => ?_)
     ·have hF := ite_t hF hb
      refine Wk_seq ?_
      obtain ⟨x2, h3, hF⟩ := lt_split hF
      refine UR [.callB (.agg [.i x2.Code, .i x2.At])] [2] [2] [] [] [] [(2, [.i x2.Code, .i x2.At])] [] [] (.cons (parts_fault_ok 8 v1.2.2 x2 h3) .nil) ?_
      have hF := ret_done hF dn1
      have hF := some_elim hF
      exact Wk_ret (hfin _ ⟨[], [], [], [], [], [], by first | (rw [← hF]; kernel_rfl) | kernel_rfl⟩)
     ·have hF := ite_f hF hb
      refine Wk_seq ?_
      obtain ⟨x3, h4, hF⟩ := lt_split hF
      refine UR [.callB (.bool x3)] [0, 2, 3, 4, 5, 6, 7, 17, 18, 19, 42] [2, 6] [] [16] [(42, .bool (!x3))] [] [] [] (.cons (parts_number_ok ((lget l v1.2.2).ID) x3 h4) .nil) ?_
      refine Wk_split rfl (fun hb => ?_) (fun hb => ?_)
      ·have hF := ite_t hF hb
       refine Wk_seq ?_
       obtain ⟨x4, h5, hF⟩ := lt_split hF
       refine UR [.callB (.agg [.i x4.Code, .i x4.At])] [2] [2] [] [] [] [(2, [.i x4.Code, .i x4.At])] [] [] (.cons (parts_fault_ok 3 v1.2.2 x4 h5) .nil) ?_
       have hF := ret_done hF dn1
       have hF := some_elim hF
       exact Wk_ret (hfin _ ⟨[], [], [], [], [], [], by first | (rw [← hF]; kernel_rfl) | kernel_rfl⟩)
      ·have hF := ite_f hF hb
       refine URs [] [0, 2, 3, 5, 6, 17, 18, 19, 49] [2, 6] [] [16] [(49, .bool (((!decide (((lget l v1.2.2).From) = v1.2.1)) || (!((decide (v1.2.2 = (w64 ((l.length : Int) - 1)))) == (decide (((lget l v1.2.2).To) = ([] : List UInt8)))))) || ((!(decide (v1.2.2 = (w64 ((l.length : Int) - 1))))) && (!Op.bytesLess ((lget l v1.2.2).From) ((lget l v1.2.2).To)))))] [] [] [] .nil ?_
       refine Wk_split rfl (fun hb => ?_) (fun hb => ?_)
       ·have hF := ite_t hF hb
        refine Wk_seq ?_
        obtain ⟨x5, h6, hF⟩ := lt_split hF
        refine UR [.callB (.agg [.i x5.Code, .i x5.At])] [2] [2] [] [] [] [(2, [.i x5.Code, .i x5.At])] [] [] (.cons (parts_fault_ok 5 v1.2.2 x5 h6) .nil) ?_
        have hF := ret_done hF dn1
        have hF := some_elim hF
        exact Wk_ret (hfin _ ⟨[], [], [], [], [], [], by first | (rw [← hF]; kernel_rfl) | kernel_rfl⟩)
       ·have hF := ite_f hF hb
        refine URs [.av (e_i64 ((mget v1.1 ((lget l v1.2.2).ID)).getD (0 : Int))), .bo ((mget v1.1 ((lget l v1.2.2).ID)).isSome)] [0, 2, 3, 5, 6, 17, 18, 19, 74] [2, 6] [] [16] [(74, .bool (decide (0 < ((mget v1.1 ((lget l v1.2.2).ID)).getD (0 : Int)))))] [] [] [] (.cons (mkeys_ok (kenc_i64 : KEnc _ e_i64) e_i64 v1.1) (.cons (mlook_ok (kenc_i64 : KEnc _ e_i64) e_i64 v1.1 ((lget l v1.2.2).ID) (0 : Int)) (.cons (msome_ok (kenc_i64 : KEnc _ e_i64) e_i64 v1.1 ((lget l v1.2.2).ID)) .nil))) ?_
        refine Wk_split rfl (fun hb => ?_) (fun hb => ?_)
        ·have hF := ite_t hF hb
         refine Wk_seq ?_
         obtain ⟨x6, h7, hF⟩ := lt_split hF
         refine UR [.callB (.agg [.i x6.Code, .i x6.At])] [2] [2] [] [] [] [(2, [.i x6.Code, .i x6.At])] [] [] (.cons (parts_fault_ok 10 v1.2.2 x6 h7) .nil) ?_
         have hF := ret_done hF dn1
         have hF := some_elim hF
         exact Wk_ret (hfin _ ⟨[], [], [], [], [], [], by first | (rw [← hF]; kernel_rfl) | kernel_rfl⟩)
        ·have hF := ite_f hF hb
         refine Wk_skip ?_
         refine Wk_blk ?_
         refine UD [.ms ((mput v1.1 ((lget l v1.2.2).ID) (1 : Int)).map (fun p => (e_i64 p.1, e_i64 p.2)))] [0, 2, 3, 4, 17, 18, 19] [2] [] [16] [(4, .str ((lget l v1.2.2).To))] [] [] [(16, ((mput v1.1 ((lget l v1.2.2).ID) (1 : Int)).map (fun p => (e_i64 p.1, e_i64 p.2))))] (.cons (mkeys_ok (kenc_i64 : KEnc _ e_i64) e_i64 v1.1) (.cons (mput_ok (kenc_i64 : KEnc _ e_i64) e_i64 v1.1 ((lget l v1.2.2).ID) (1 : Int)) .nil)) ?_
         refine Wk_blk ?_
         refine UR [] [0, 2, 3, 4, 17, 18, 19] [2] [] [16] [(19, .i (w64 (v1.2.2 + 1)))] [] [] [] .nil ?_
         refine Wk_trim (fs := [0, 2, 3, 4, 17, 18, 19]) (bs := [2]) (rs := []) (ms := [16]) (aa := []) (nv := []) ?_ (ih1 _ (some_elim hF).symm)
         kernel_rfl
    ·have hF := ite_f hF hb
     refine Wk_exit rfl ?_
     have hF := inrO_done hF dn1
     exact Wk_metP () [2] [2] [] [] [] [] hF (by kernel_rfl)
   ·intro v hF
    have hF : parts_Check_J1 v = some r := hF
    unfold parts_Check_J1 at hF
    refine ZRs [] [2] [2] [] [] .nil ?_
    have hF := some_elim hF
    exact Wk_ret (hfin _ ⟨[], [], [], [], [], [], by first | (rw [← hF]; kernel_rfl) | kernel_rfl⟩)

/- assign.HostAt$1 -/
noncomputable def assign_HostAt_1 (hh : Host) (box : Int) : Bool :=
 (decide (hh.ID = box)) && hh.Alive
theorem assign_HostAt_1_ok (hh : Host) (box : Int) (r : Bool) (hF : assign_HostAt_1 hh box = r) : Pe Try.prog 118 ⟨[], [(100000, [.i box])], [], [], []⟩ [.agg (c_Host hh), .ptr 100000 0] (.bool r) ⟨[], [(100000, [.i box])], [], [], []⟩ := by
 refine Pe_of (N := 12) (res := [.tmp 3]) (ts := [4]) Ty.ok Fn.b118 Try.func118 rfl rfl rfl rfl rfl rfl ?_
 intro Q g hfin
 unfold assign_HostAt_1 at hF
 refine URs [] [1, 2] [2, 100000] [] [] [(2, .ptr 2 0)] [(2, (c_Host hh))] [] [] .nil ?_
 refine ZRs [] [3] [100000] [] [(3, .bool ((decide (hh.ID = box)) && hh.Alive))] .nil ?_
 exact Wk_ret (hfin _ ⟨[], [100000], [], [], [], [], by first | (rw [← hF]; kernel_rfl) | kernel_rfl⟩)

/- slices.IndexFunc[[]api.Host,api.Host] -/
noncomputable def slices_IndexFunc_api_Host_api_Host_J1 (v : Unit) : Option Int :=
 some (-1)
noncomputable def slices_IndexFunc_api_Host_api_Host_B1 (s0 : List Host) (box : Int) (v1 : Int) : Option (Int ⊕ Int) :=
 if (decide (v1 < (s0.length : Int))) = true then
  asrt (0 ≤ v1 ∧ v1 < (s0.length : Int)) <|
  lt (assign_HostAt_1 (⟨(lget s0 v1).ID, (lget s0 v1).Epoch, (lget s0 v1).Alive⟩ : Host) box) fun x =>
  if x = true then
   some (Sum.inr v1)
  else
   some (Sum.inl (w64 (v1 + 1)))
 else
  inrO (slices_IndexFunc_api_Host_api_Host_J1 ())
noncomputable def slices_IndexFunc_api_Host_api_Host_L1 (s0 : List Host) (box : Int) (v0 : Int) : Option Int :=
 loopO (fun y => slices_IndexFunc_api_Host_api_Host_B1 s0 box y) v0
noncomputable def slices_IndexFunc_api_Host_api_Host (s0 : List Host) (box : Int) : Option Int :=
 slices_IndexFunc_api_Host_api_Host_L1 s0 box 0
theorem slices_IndexFunc_api_Host_api_Host_ok (s0 : List Host) (box : Int) (r : Int) (hF : slices_IndexFunc_api_Host_api_Host s0 box = some r) : Pe Try.prog 117 ⟨[], [(100000, [.i box])], [], [], []⟩ [.sl 3 (s0.map e_Host), .fn 118 [.ptr 100000 0]] (.i r) ⟨[], [(100000, [.i box])], [], [], []⟩ := by
 refine Pe_of (N := 19) (res := [.tmp 4]) (ts := [3]) Ty.ok Fn.b117 Try.func117 rfl rfl rfl rfl rfl rfl ?_
 intro Q g hfin
 unfold slices_IndexFunc_api_Host_api_Host at hF
 refine ZRs [] [0, 1] [100000] [] [] .nil ?_
 refine Wk_seq ?_
 refine ZRs [.nat (s0.length : Int)] [0, 1, 7, 8] [100000] [] [(7, .i (s0.length : Int)), (8, .i 0)] (.cons (len_ok e_Host s0) .nil) ?_
 refine Wk_meetP (fun v : Unit => (⟨[], [(100000, [.i box])], [], [], []⟩ : S)) (fun v => slices_IndexFunc_api_Host_api_Host_J1 v = some r) ?_ ?_
 ·refine Wk_block ?_
  unfold slices_IndexFunc_api_Host_api_Host_L1 at hF
  refine Wk_trim (fs := [0, 1, 7, 8]) (bs := [100000]) (rs := []) (ms := []) (aa := []) (nv := []) (t := (fun v1 : Int => (⟨[(0, .sl 3 (s0.map e_Host)), (1, .fn 118 [.ptr 100000 0]), (7, .i (s0.length : Int)), (8, .i v1)], [(100000, [.i box])], [], [], []⟩ : S)) 0) (by kernel_rfl) ?_
  refine Wk_iter (step := fun y => slices_IndexFunc_api_Host_api_Host_B1 s0 box y) (r := r) (fun v1 : Int => (⟨[(0, .sl 3 (s0.map e_Host)), (1, .fn 118 [.ptr 100000 0]), (7, .i (s0.length : Int)), (8, .i v1)], [(100000, [.i box])], [], [], []⟩ : S)) 0 hF ?_
  intro n1 v1 y1 hF ih1 dn1
  have hF : slices_IndexFunc_api_Host_api_Host_B1 s0 box v1 = some y1 := hF
  unfold slices_IndexFunc_api_Host_api_Host_B1 at hF
  refine ZRs [] [0, 1, 7, 8, 9] [100000] [] [(9, .bool (decide (v1 < (s0.length : Int))))] .nil ?_
  refine Wk_seq ?_
  refine Wk_split rfl (fun hb => ?_) (fun hb => ?_)
  ·have hF := ite_t hF hb
   refine Wk_skip ?_
   refine Wk_seq ?_
   refine Wk_block ?_
   refine ZRs [] [0, 1, 5, 7, 8] [100000] [] [(5, .i v1)] .nil ?_
   refine Wk_seq ?_
   obtain ⟨h0, hF⟩ := asrt_elim hF
   obtain ⟨x, h1, hF⟩ := lt_split hF
   refine ZR [.av (e_Host (lget s0 v1)), .callR [100000] [] [] [] (.bool x)] [0, 1, 5, 7, 8, 16] [100000] [] [(16, .bool x)] (.cons (idx_ok e_Host h0) (.cons (Pe.ren (assign_HostAt_1_ok (⟨(lget s0 v1).ID, (lget s0 v1).Epoch, (lget s0 v1).Alive⟩ : Host) box x h1) ⟨[], [], [], []⟩) .nil)) ?_
   refine Wk_split rfl (fun hb => ?_) (fun hb => ?_)
   ·have hF := ite_t hF hb
    refine ZRs [] [4] [100000] [] [(4, .i v1)] .nil ?_
    have hF := ret_done hF dn1
    have hF := some_elim hF
    exact Wk_ret (hfin _ ⟨[], [100000], [], [], [], [], by first | (rw [← hF]; kernel_rfl) | kernel_rfl⟩)
   ·have hF := ite_f hF hb
    refine Wk_skip ?_
    refine Wk_blk ?_
    refine ZR [] [0, 1, 7, 8] [100000] [] [(8, .i (w64 (v1 + 1)))] .nil ?_
    refine Wk_trim (fs := [0, 1, 7, 8]) (bs := [100000]) (rs := []) (ms := []) (aa := []) (nv := []) ?_ (ih1 _ (some_elim hF).symm)
    kernel_rfl
  ·have hF := ite_f hF hb
   refine Wk_exit rfl ?_
   have hF := inrO_done hF dn1
   exact Wk_metP () [] [100000] [] [] [] [] hF (by kernel_rfl)
 ·intro v hF
  have hF : slices_IndexFunc_api_Host_api_Host_J1 v = some r := hF
  unfold slices_IndexFunc_api_Host_api_Host_J1 at hF
  refine ZRs [] [4] [100000] [] [(4, .i (-1))] .nil ?_
  have hF := some_elim hF
  exact Wk_ret (hfin _ ⟨[], [100000], [], [], [], [], by first | (rw [← hF]; kernel_rfl) | kernel_rfl⟩)

/- assign.HostAt -/
noncomputable def assign_HostAt (b : Board) (id : Int) : Option Int :=
 ob (slices_IndexFunc_api_Host_api_Host b.Hosts id) fun x =>
 some x
theorem assign_HostAt_ok (b : Board) (id : Int) (r : Int) (hF : assign_HostAt b id = some r) : Pe Try.prog 91 S.none [.agg (c_Board b), .i id] (.i r) S.none := by
 refine Pe_of (N := 9) (res := [.tmp 4]) (ts := [3]) Ty.ok Fn.b91 Try.func91 rfl rfl rfl rfl rfl rfl ?_
 intro Q g hfin
 unfold assign_HostAt at hF
 refine URs [] [2, 3] [2, 3] [] [] [(2, .ptr 2 0), (3, .ptr 3 0)] [(2, (c_Board b)), (3, [.i id])] [] [] .nil ?_
 refine Wk_seq ?_
 obtain ⟨x, h0, hF⟩ := ob_elim hF
 refine ZR [.callR [3] [] [] [] (.i x)] [4] [] [] [(4, .i x)] (.cons (Pe.ren (slices_IndexFunc_api_Host_api_Host_ok b.Hosts id x h0) ⟨[(100000, 3)], [], [], []⟩) .nil) ?_
 have hF := some_elim hF
 exact Wk_ret (hfin _ ⟨[], [], [], [], [], [], by first | (rw [← hF]; kernel_rfl) | kernel_rfl⟩)

/- assign.Check -/
noncomputable def assign_Check_J2 (v1 : Unit) : Option Fault :=
 some (⟨0, 0⟩ : Fault)
noncomputable def assign_Check_B1 (b : Board) (v2 : (List (Int × Int)) × Int) : Option (((List (Int × Int)) × Int) ⊕ Fault) :=
 if (decide (v2.2 < (b.Slots.length : Int))) = true then
  asrt (0 ≤ v2.2 ∧ v2.2 < (b.Slots.length : Int)) <|
  ob (
   if ((((((decide (((lget b.Slots v2.2).State) < 0)) || (decide (3 < ((lget b.Slots v2.2).State)))) || (decide (((lget b.Slots v2.2).Turn) < 0))) || (decide (b.Turn < ((lget b.Slots v2.2).Turn)))) || (decide ((((lget b.Slots v2.2).Part).ID) < 1))) || (decide (b.Next ≤ (((lget b.Slots v2.2).Part).ID)))) = true then
    some 3
   else
    if ((decide (((lget b.Slots v2.2).State) = 0)) && (!decide (((lget b.Slots v2.2).Host) = 0))) = true then
     some 11
    else
     ob (if (!decide (((lget b.Slots v2.2).State) = 0)) = true then (assign_HostAt b ((lget b.Slots v2.2).Host)) else some default) fun x7 =>
     if ((!decide (((lget b.Slots v2.2).State) = 0)) && (decide (x7 < 0))) = true then
      some 6
     else
      if ((!decide (((lget b.Slots v2.2).State) = 0)) && (decide (((lget b.Slots v2.2).Turn) = 0))) = true then
       some 3
      else
       if (decide (0 < ((mget v2.1 ((lget b.Slots v2.2).Turn)).getD (0 : Int)))) = true then
        some 10
       else
        some 0) fun (v3 : Int) =>
  if (!decide (v3 = 0)) = true then
   lt (assign_fault v3 (w64 ((-2001) - v2.2))) fun x8 =>
   some (Sum.inr x8)
  else
   lt ((mput v2.1 ((lget b.Slots v2.2).Turn) ((lget b.Slots v2.2).Turn : Int))) fun (v4 : (List (Int × Int))) =>
   some (Sum.inl (v4, w64 (v2.2 + 1)))
 else
  inrO (assign_Check_J2 ())
noncomputable def assign_Check_L1 (b : Board) (v0 : (List (Int × Int)) × Int) : Option Fault :=
 loopO (fun y => assign_Check_B1 b y) v0
noncomputable def assign_Check_J1 (b : Board) (v : Unit) : Option Fault :=
 lt (assign_number b.Turn) fun x1 =>
 lt (assign_number b.Next) fun x2 =>
 if (((!decide (b.Turn = 0)) && (!x1)) || (!x2)) = true then
  lt (assign_fault 3 (-2)) fun x3 =>
  some x3
 else
  ob (assign_Parts b) fun x4 =>
  ob (parts_Check x4) fun x5 =>
  if (!decide (x5.Code = 0)) = true then
   lt (assign_fault x5.Code (w64 (x5.At - 1000))) fun x6 =>
   some x6
  else
   assign_Check_L1 b (([] : List (Int × Int)), 0)
noncomputable def assign_Check_B2 (b : Board) (v5 : (List (Int × Int)) × Int) : Option (((List (Int × Int)) × Int) ⊕ Fault) :=
 if (decide (v5.2 < (b.Hosts.length : Int))) = true then
  asrt (0 ≤ v5.2 ∧ v5.2 < (b.Hosts.length : Int)) <|
  lt (assign_number ((lget b.Hosts v5.2).ID)) fun x9 =>
  lt (assign_number ((lget b.Hosts v5.2).Epoch)) fun x10 =>
  if ((!x9) || (!x10)) = true then
   lt (assign_fault 3 v5.2) fun x11 =>
   some (Sum.inr x11)
  else
   if (decide (0 < ((mget v5.1 ((lget b.Hosts v5.2).ID)).getD (0 : Int)))) = true then
    lt (assign_fault 10 v5.2) fun x12 =>
    some (Sum.inr x12)
   else
    some (Sum.inl ((mput v5.1 ((lget b.Hosts v5.2).ID) (1 : Int)), w64 (v5.2 + 1)))
 else
  inrO (assign_Check_J1 b ())
noncomputable def assign_Check_L2 (b : Board) (v0 : (List (Int × Int)) × Int) : Option Fault :=
 loopO (fun y => assign_Check_B2 b y) v0
noncomputable def assign_Check (b : Board) : Option Fault :=
 if (decide (20 < (b.Hosts.length : Int))) = true then
  lt (assign_fault 2 (-1)) fun x =>
  some x
 else
  assign_Check_L2 b (([] : List (Int × Int)), 0)
theorem assign_Check_ok (b : Board) (r : Fault) (hF : assign_Check b = some r) : Pe Try.prog 52 S.none [.agg (c_Board b)] (.agg [.i r.Code, .i r.At]) S.none := by
 refine Pe_of (N := 170) (res := [.cell 2 26]) (ts := [26]) Ty.ok Fn.b52 Try.func52 rfl rfl rfl rfl rfl rfl ?_
 intro Q g hfin
 unfold assign_Check at hF
 refine URs [] [1, 2] [1, 2] [] [] [(1, .ptr 1 0), (2, .ptr 2 0)] [(1, (c_Board b)), (2, [.i 0, .i 0])] [] [] .nil ?_
 refine Wk_seq ?_
 refine ZRs [.nat (b.Hosts.length : Int)] [1, 2, 14] [1, 2] [] [(14, .bool (decide (20 < (b.Hosts.length : Int))))] (.cons (len_ok e_Host b.Hosts) .nil) ?_
 refine Wk_split rfl (fun hb => ?_) (fun hb => ?_)
 ·have hF := ite_t hF hb
  refine Wk_seq ?_
  obtain ⟨x, h0, hF⟩ := lt_split hF
  refine UR [.callB (.agg [.i x.Code, .i x.At])] [2] [2] [] [] [] [(2, [.i x.Code, .i x.At])] [] [] (.cons (assign_fault_ok 2 (-1) x h0) .nil) ?_
  have hF := some_elim hF
  exact Wk_ret (hfin _ ⟨[], [], [], [], [], [], by first | (rw [← hF]; kernel_rfl) | kernel_rfl⟩)
 ·have hF := ite_f hF hb
  refine Wk_skip ?_
  refine URs [] [1, 2, 3] [1, 2] [] [16] [(3, .mp 16)] [] [] [(16, (([] : List (Int × Int)).map (fun p => (e_i64 p.1, e_i64 p.2))))] .nil ?_
  refine Wk_seq ?_
  refine URs [.nat (b.Hosts.length : Int)] [1, 2, 3, 18, 19, 20] [1, 2] [] [16] [(18, .sl 3 (b.Hosts.map e_Host)), (19, .i (b.Hosts.length : Int)), (20, .i 0)] [] [] [] (.cons (len_ok e_Host b.Hosts) .nil) ?_
  refine Wk_meetP (fun v : Unit => (⟨[(1, .ptr 1 0), (2, .ptr 2 0)], [(1, (c_Board b)), (2, [.i 0, .i 0])], [], [], []⟩ : S)) (fun v => assign_Check_J1 b v = some r) ?_ ?_
  ·refine Wk_block ?_
   unfold assign_Check_L2 at hF
   refine Wk_trim (fs := [1, 2, 3, 18, 19, 20]) (bs := [1, 2]) (rs := []) (ms := [16]) (aa := []) (nv := []) (t := (fun v5 : (List (Int × Int)) × Int => (⟨[(1, .ptr 1 0), (2, .ptr 2 0), (3, .mp 16), (18, .sl 3 (b.Hosts.map e_Host)), (19, .i (b.Hosts.length : Int)), (20, .i v5.2)], [(1, (c_Board b)), (2, [.i 0, .i 0])], [], [(16, (v5.1.map (fun p => (e_i64 p.1, e_i64 p.2))))], []⟩ : S)) (([] : List (Int × Int)), 0)) (by kernel_rfl) ?_
   refine Wk_iter (step := fun y => assign_Check_B2 b y) (r := r) (fun v5 : (List (Int × Int)) × Int => (⟨[(1, .ptr 1 0), (2, .ptr 2 0), (3, .mp 16), (18, .sl 3 (b.Hosts.map e_Host)), (19, .i (b.Hosts.length : Int)), (20, .i v5.2)], [(1, (c_Board b)), (2, [.i 0, .i 0])], [], [(16, (v5.1.map (fun p => (e_i64 p.1, e_i64 p.2))))], []⟩ : S)) (([] : List (Int × Int)), 0) hF ?_
   intro n1 v5 y1 hF ih1 dn1
   have hF : assign_Check_B2 b v5 = some y1 := hF
   unfold assign_Check_B2 at hF
   refine URs [] [1, 2, 3, 18, 19, 20, 21] [1, 2] [] [16] [(21, .bool (decide (v5.2 < (b.Hosts.length : Int))))] [] [] [] .nil ?_
   refine Wk_seq ?_
   refine Wk_split rfl (fun hb => ?_) (fun hb => ?_)
   ·have hF := ite_t hF hb
    refine Wk_skip ?_
    refine Wk_seq ?_
    refine Wk_block ?_
    refine Wk_seq ?_
    obtain ⟨h10, hF⟩ := asrt_elim hF
    refine UR [.av (e_Host (lget b.Hosts v5.2))] [1, 2, 3, 4, 5, 18, 19, 20] [1, 2, 5] [] [16] [(4, .i v5.2), (5, .ptr 5 0)] [(5, (c_Host (lget b.Hosts v5.2)))] [] [] (.cons (idx_ok e_Host h10) .nil) ?_
    refine Wk_seq ?_
    refine Wk_block ?_
    refine Wk_seq ?_
    obtain ⟨x9, h11, hF⟩ := lt_split hF
    obtain ⟨x10, h12, hF⟩ := lt_split hF
    refine UR [.callB (.bool x9), .callB (.bool x10)] [1, 2, 3, 4, 5, 18, 19, 20, 25] [1, 2, 5] [] [16] [(25, .bool ((!x9) || (!x10)))] [] [] [] (.cons (assign_number_ok ((lget b.Hosts v5.2).ID) x9 h11) (.cons (fun (ga0 : (!(!x9)) = true) => (assign_number_ok ((lget b.Hosts v5.2).Epoch) x10 h12)) .nil)) ?_
    refine Wk_split rfl (fun hb => ?_) (fun hb => ?_)
    ·have hF := ite_t hF hb
     refine Wk_seq ?_
     obtain ⟨x11, h13, hF⟩ := lt_split hF
     refine UR [.callB (.agg [.i x11.Code, .i x11.At])] [2] [2] [] [] [] [(2, [.i x11.Code, .i x11.At])] [] [] (.cons (assign_fault_ok 3 v5.2 x11 h13) .nil) ?_
     have hF := ret_done hF dn1
     have hF := some_elim hF
     exact Wk_ret (hfin _ ⟨[], [], [], [], [], [], by first | (rw [← hF]; kernel_rfl) | kernel_rfl⟩)
    ·have hF := ite_f hF hb
     refine URs [.av (e_i64 ((mget v5.1 ((lget b.Hosts v5.2).ID)).getD (0 : Int))), .bo ((mget v5.1 ((lget b.Hosts v5.2).ID)).isSome)] [1, 2, 3, 4, 5, 18, 19, 20, 38] [1, 2, 5] [] [16] [(38, .bool (decide (0 < ((mget v5.1 ((lget b.Hosts v5.2).ID)).getD (0 : Int)))))] [] [] [] (.cons (mkeys_ok (kenc_i64 : KEnc _ e_i64) e_i64 v5.1) (.cons (mlook_ok (kenc_i64 : KEnc _ e_i64) e_i64 v5.1 ((lget b.Hosts v5.2).ID) (0 : Int)) (.cons (msome_ok (kenc_i64 : KEnc _ e_i64) e_i64 v5.1 ((lget b.Hosts v5.2).ID)) .nil))) ?_
     refine Wk_split rfl (fun hb => ?_) (fun hb => ?_)
     ·have hF := ite_t hF hb
      refine Wk_seq ?_
      obtain ⟨x12, h14, hF⟩ := lt_split hF
      refine UR [.callB (.agg [.i x12.Code, .i x12.At])] [2] [2] [] [] [] [(2, [.i x12.Code, .i x12.At])] [] [] (.cons (assign_fault_ok 10 v5.2 x12 h14) .nil) ?_
      have hF := ret_done hF dn1
      have hF := some_elim hF
      exact Wk_ret (hfin _ ⟨[], [], [], [], [], [], by first | (rw [← hF]; kernel_rfl) | kernel_rfl⟩)
     ·have hF := ite_f hF hb
      refine Wk_skip ?_
      refine Wk_blk ?_
      refine UR [.ms ((mput v5.1 ((lget b.Hosts v5.2).ID) (1 : Int)).map (fun p => (e_i64 p.1, e_i64 p.2)))] [1, 2, 3, 18, 19, 20] [1, 2] [] [16] [] [] [] [(16, ((mput v5.1 ((lget b.Hosts v5.2).ID) (1 : Int)).map (fun p => (e_i64 p.1, e_i64 p.2))))] (.cons (mkeys_ok (kenc_i64 : KEnc _ e_i64) e_i64 v5.1) (.cons (mput_ok (kenc_i64 : KEnc _ e_i64) e_i64 v5.1 ((lget b.Hosts v5.2).ID) (1 : Int)) .nil)) ?_
      refine Wk_blk ?_
      refine UR [] [1, 2, 3, 18, 19, 20] [1, 2] [] [16] [(20, .i (w64 (v5.2 + 1)))] [] [] [] .nil ?_
      refine Wk_trim (fs := [1, 2, 3, 18, 19, 20]) (bs := [1, 2]) (rs := []) (ms := [16]) (aa := []) (nv := []) ?_ (ih1 _ (some_elim hF).symm)
      kernel_rfl
   ·have hF := ite_f hF hb
    refine Wk_exit rfl ?_
    have hF := inrO_done hF dn1
    exact Wk_metP () [1, 2] [1, 2] [] [] [] [] hF (by kernel_rfl)
  ·intro v hF
   have hF : assign_Check_J1 b v = some r := hF
   unfold assign_Check_J1 at hF
   refine Wk_seq ?_
   refine Wk_seq ?_
   obtain ⟨x1, h1, hF⟩ := lt_split hF
   obtain ⟨x2, h2, hF⟩ := lt_split hF
   refine ZR [.callB (.bool x1), .callB (.bool x2)] [1, 2, 64] [1, 2] [] [(64, .bool (((!decide (b.Turn = 0)) && (!x1)) || (!x2)))] (.cons (fun (ga0 : (!decide (b.Turn = 0)) = true) => (assign_number_ok b.Turn x1 h1)) (.cons (fun (ga0 : (!((!decide (b.Turn = 0)) && (!x1))) = true) => (assign_number_ok b.Next x2 h2)) .nil)) ?_
   refine Wk_split rfl (fun hb => ?_) (fun hb => ?_)
   ·have hF := ite_t hF hb
    refine Wk_seq ?_
    obtain ⟨x3, h3, hF⟩ := lt_split hF
    refine UR [.callB (.agg [.i x3.Code, .i x3.At])] [2] [2] [] [] [] [(2, [.i x3.Code, .i x3.At])] [] [] (.cons (assign_fault_ok 3 (-2) x3 h3) .nil) ?_
    have hF := some_elim hF
    exact Wk_ret (hfin _ ⟨[], [], [], [], [], [], by first | (rw [← hF]; kernel_rfl) | kernel_rfl⟩)
   ·have hF := ite_f hF hb
    refine Wk_skip ?_
    refine Wk_seq ?_
    refine Wk_seq ?_
    obtain ⟨x4, h4, hF⟩ := ob_elim hF
    obtain ⟨x5, h5, hF⟩ := ob_elim hF
    refine UR [.callE [] [] [] [] (.row 67 0) ⟨[], [], [(67, .o 34 3 0 (x4.map e_Part))], [], []⟩, .callB (.agg [.i x5.Code, .i x5.At])] [1, 2, 6] [1, 2, 6] [] [] [(6, .ptr 6 0)] [(6, [.i x5.Code, .i x5.At])] [] [] (.cons (Pe.ren (assign_Parts_ok b x4 h4) ⟨[], [(9, 67)], [], []⟩) (.cons (parts_Check_ok x4 x5 h5) .nil)) ?_
    refine ZRs [] [1, 2, 6, 71] [1, 2, 6] [] [(71, .bool (!decide (x5.Code = 0)))] .nil ?_
    refine Wk_split rfl (fun hb => ?_) (fun hb => ?_)
    ·have hF := ite_t hF hb
     refine Wk_seq ?_
     obtain ⟨x6, h6, hF⟩ := lt_split hF
     refine UR [.callB (.agg [.i x6.Code, .i x6.At])] [2] [2] [] [] [] [(2, [.i x6.Code, .i x6.At])] [] [] (.cons (assign_fault_ok x5.Code (w64 (x5.At - 1000)) x6 h6) .nil) ?_
     have hF := some_elim hF
     exact Wk_ret (hfin _ ⟨[], [], [], [], [], [], by first | (rw [← hF]; kernel_rfl) | kernel_rfl⟩)
    ·have hF := ite_f hF hb
     refine Wk_skip ?_
     refine URs [] [1, 2, 7] [1, 2] [] [78] [(7, .mp 78)] [] [] [(78, (([] : List (Int × Int)).map (fun p => (e_i64 p.1, e_i64 p.2))))] .nil ?_
     refine Wk_seq ?_
     refine URs [.nat (b.Slots.length : Int)] [1, 2, 7, 80, 81, 82] [1, 2] [] [78] [(80, .sl 6 (b.Slots.map e_Slot)), (81, .i (b.Slots.length : Int)), (82, .i 0)] [] [] [] (.cons (len_ok e_Slot b.Slots) .nil) ?_
     refine Wk_meetP (fun v1 : Unit => (⟨[(2, .ptr 2 0)], [(2, [.i 0, .i 0])], [], [], []⟩ : S)) (fun v1 => assign_Check_J2 v1 = some r) ?_ ?_
     ·refine Wk_block ?_
      unfold assign_Check_L1 at hF
      refine Wk_trim (fs := [1, 2, 7, 80, 81, 82]) (bs := [1, 2]) (rs := []) (ms := [78]) (aa := []) (nv := []) (t := (fun v2 : (List (Int × Int)) × Int => (⟨[(1, .ptr 1 0), (2, .ptr 2 0), (7, .mp 78), (80, .sl 6 (b.Slots.map e_Slot)), (81, .i (b.Slots.length : Int)), (82, .i v2.2)], [(1, (c_Board b)), (2, [.i 0, .i 0])], [], [(78, (v2.1.map (fun p => (e_i64 p.1, e_i64 p.2))))], []⟩ : S)) (([] : List (Int × Int)), 0)) (by kernel_rfl) ?_
      refine Wk_iter (step := fun y => assign_Check_B1 b y) (r := r) (fun v2 : (List (Int × Int)) × Int => (⟨[(1, .ptr 1 0), (2, .ptr 2 0), (7, .mp 78), (80, .sl 6 (b.Slots.map e_Slot)), (81, .i (b.Slots.length : Int)), (82, .i v2.2)], [(1, (c_Board b)), (2, [.i 0, .i 0])], [], [(78, (v2.1.map (fun p => (e_i64 p.1, e_i64 p.2))))], []⟩ : S)) (([] : List (Int × Int)), 0) hF ?_
      intro n1 v2 y1 hF ih1 dn1
      have hF : assign_Check_B1 b v2 = some y1 := hF
      unfold assign_Check_B1 at hF
      refine URs [] [1, 2, 7, 80, 81, 82, 83] [1, 2] [] [78] [(83, .bool (decide (v2.2 < (b.Slots.length : Int))))] [] [] [] .nil ?_
      refine Wk_seq ?_
      refine Wk_split rfl (fun hb => ?_) (fun hb => ?_)
      ·have hF := ite_t hF hb
       refine Wk_skip ?_
       refine Wk_seq ?_
       refine Wk_block ?_
       refine Wk_seq ?_
       obtain ⟨h7, hF⟩ := asrt_elim hF
       refine UR [.av (e_Slot (lget b.Slots v2.2))] [1, 2, 7, 8, 9, 80, 81, 82] [1, 2, 9] [] [78] [(8, .i v2.2), (9, .ptr 9 0)] [(9, [.str (((lget b.Slots v2.2).Part).From), .str (((lget b.Slots v2.2).Part).To), .i (((lget b.Slots v2.2).Part).ID), .i ((lget b.Slots v2.2).State), .i ((lget b.Slots v2.2).Host), .i ((lget b.Slots v2.2).Turn)])] [] [] (.cons (idx_ok e_Slot h7) .nil) ?_
       refine URs [] [1, 2, 7, 8, 9, 10, 80, 81, 82] [1, 2, 9] [] [78] [(10, .i 0)] [] [] [] .nil ?_
       refine Wk_seq ?_
       refine Wk_block ?_
       refine URs [] [1, 2, 7, 8, 9, 10, 80, 81, 82, 87] [1, 2, 9] [] [78] [(87, .bool ((((((decide (((lget b.Slots v2.2).State) < 0)) || (decide (3 < ((lget b.Slots v2.2).State)))) || (decide (((lget b.Slots v2.2).Turn) < 0))) || (decide (b.Turn < ((lget b.Slots v2.2).Turn)))) || (decide ((((lget b.Slots v2.2).Part).ID) < 1))) || (decide (b.Next ≤ (((lget b.Slots v2.2).Part).ID)))))] [] [] [] .nil ?_
       obtain ⟨v3, hv, hF⟩ := ob_elim hF
       refine Wk_meet (⟨[(1, .ptr 1 0), (2, .ptr 2 0), (7, .mp 78), (8, .i v2.2), (9, .ptr 9 0), (10, .i v3), (80, .sl 6 (b.Slots.map e_Slot)), (81, .i (b.Slots.length : Int)), (82, .i v2.2)], [(1, (c_Board b)), (2, [.i 0, .i 0]), (9, [.str (((lget b.Slots v2.2).Part).From), .str (((lget b.Slots v2.2).Part).To), .i (((lget b.Slots v2.2).Part).ID), .i ((lget b.Slots v2.2).State), .i ((lget b.Slots v2.2).Host), .i ((lget b.Slots v2.2).Turn)])], [], [(78, (v2.1.map (fun p => (e_i64 p.1, e_i64 p.2))))], []⟩ : S) ?_ ?_
       ·have hF := hv
        refine Wk_split rfl (fun hb => ?_) (fun hb => ?_)
        ·have hF := ite_t hF hb
         refine UR [] [1, 2, 7, 8, 9, 10, 80, 81, 82] [1, 2, 9] [] [78] [(10, .i 3)] [] [] [] .nil ?_
         exact Wk_met (fs := [1, 2, 7, 8, 9, 10, 80, 81, 82]) (bs := [1, 2, 9]) (rs := []) (ms := [78]) (aa := []) (nv := []) (by first | (rw [← some_elim hF]; kernel_rfl) | kernel_rfl)
        ·have hF := ite_f hF hb
         refine URs [] [1, 2, 7, 8, 9, 10, 80, 81, 82, 122] [1, 2, 9] [] [78] [(122, .bool ((decide (((lget b.Slots v2.2).State) = 0)) && (!decide (((lget b.Slots v2.2).Host) = 0))))] [] [] [] .nil ?_
         refine Wk_split rfl (fun hb => ?_) (fun hb => ?_)
         ·have hF := ite_t hF hb
          refine UR [] [1, 2, 7, 8, 9, 10, 80, 81, 82] [1, 2, 9] [] [78] [(10, .i 11)] [] [] [] .nil ?_
          exact Wk_met (fs := [1, 2, 7, 8, 9, 10, 80, 81, 82]) (bs := [1, 2, 9]) (rs := []) (ms := [78]) (aa := []) (nv := []) (by first | (rw [← some_elim hF]; kernel_rfl) | kernel_rfl)
         ·have hF := ite_f hF hb
          refine Wk_seq ?_
          obtain ⟨x7, h8, hF⟩ := ob_elim hF
          refine UR [.callB (.i x7)] [1, 2, 7, 8, 9, 10, 80, 81, 82, 131] [1, 2, 9] [] [78] [(131, .bool ((!decide (((lget b.Slots v2.2).State) = 0)) && (decide (x7 < 0))))] [] [] [] (.cons (fun (ga0 : (!decide (((lget b.Slots v2.2).State) = 0)) = true) => (assign_HostAt_ok b ((lget b.Slots v2.2).Host) x7 (ite_t h8 ga0))) .nil) ?_
          refine Wk_split rfl (fun hb => ?_) (fun hb => ?_)
          ·have hF := ite_t hF hb
           refine UR [] [1, 2, 7, 8, 9, 10, 80, 81, 82] [1, 2, 9] [] [78] [(10, .i 6)] [] [] [] .nil ?_
           exact Wk_met (fs := [1, 2, 7, 8, 9, 10, 80, 81, 82]) (bs := [1, 2, 9]) (rs := []) (ms := [78]) (aa := []) (nv := []) (by first | (rw [← some_elim hF]; kernel_rfl) | kernel_rfl)
          ·have hF := ite_f hF hb
           refine URs [] [1, 2, 7, 8, 9, 10, 80, 81, 82, 142] [1, 2, 9] [] [78] [(142, .bool ((!decide (((lget b.Slots v2.2).State) = 0)) && (decide (((lget b.Slots v2.2).Turn) = 0))))] [] [] [] .nil ?_
           refine Wk_split rfl (fun hb => ?_) (fun hb => ?_)
           ·have hF := ite_t hF hb
            refine UR [] [1, 2, 7, 8, 9, 10, 80, 81, 82] [1, 2, 9] [] [78] [(10, .i 3)] [] [] [] .nil ?_
            exact Wk_met (fs := [1, 2, 7, 8, 9, 10, 80, 81, 82]) (bs := [1, 2, 9]) (rs := []) (ms := [78]) (aa := []) (nv := []) (by first | (rw [← some_elim hF]; kernel_rfl) | kernel_rfl)
           ·have hF := ite_f hF hb
            refine URs [.av (e_i64 ((mget v2.1 ((lget b.Slots v2.2).Turn)).getD (0 : Int))), .bo ((mget v2.1 ((lget b.Slots v2.2).Turn)).isSome)] [1, 2, 7, 8, 9, 10, 80, 81, 82, 151] [1, 2, 9] [] [78] [(151, .bool (decide (0 < ((mget v2.1 ((lget b.Slots v2.2).Turn)).getD (0 : Int)))))] [] [] [] (.cons (mkeys_ok (kenc_i64 : KEnc _ e_i64) e_i64 v2.1) (.cons (mlook_ok (kenc_i64 : KEnc _ e_i64) e_i64 v2.1 ((lget b.Slots v2.2).Turn) (0 : Int)) (.cons (msome_ok (kenc_i64 : KEnc _ e_i64) e_i64 v2.1 ((lget b.Slots v2.2).Turn)) .nil))) ?_
            refine Wk_split rfl (fun hb => ?_) (fun hb => ?_)
            ·have hF := ite_t hF hb
             refine UR [] [1, 2, 7, 8, 9, 10, 80, 81, 82] [1, 2, 9] [] [78] [(10, .i 10)] [] [] [] .nil ?_
             exact Wk_met (fs := [1, 2, 7, 8, 9, 10, 80, 81, 82]) (bs := [1, 2, 9]) (rs := []) (ms := [78]) (aa := []) (nv := []) (by first | (rw [← some_elim hF]; kernel_rfl) | kernel_rfl)
            ·have hF := ite_f hF hb
             refine Wk_skip ?_
             exact Wk_met (fs := [1, 2, 7, 8, 9, 10, 80, 81, 82]) (bs := [1, 2, 9]) (rs := []) (ms := [78]) (aa := []) (nv := []) (by first | (rw [← some_elim hF]; kernel_rfl) | kernel_rfl)
       ·refine Wk_blk ?_
        refine Wk_seq ?_
        refine URs [] [1, 2, 7, 8, 9, 10, 80, 81, 82, 158] [1, 2, 9] [] [78] [(158, .bool (!decide (v3 = 0)))] [] [] [] .nil ?_
        refine Wk_split rfl (fun hb => ?_) (fun hb => ?_)
        ·have hF := ite_t hF hb
         refine Wk_seq ?_
         obtain ⟨x8, h9, hF⟩ := lt_split hF
         refine UR [.callB (.agg [.i x8.Code, .i x8.At])] [2] [2] [] [] [] [(2, [.i x8.Code, .i x8.At])] [] [] (.cons (assign_fault_ok v3 (w64 ((-2001) - v2.2)) x8 h9) .nil) ?_
         have hF := ret_done hF dn1
         have hF := some_elim hF
         exact Wk_ret (hfin _ ⟨[], [], [], [], [], [], by first | (rw [← hF]; kernel_rfl) | kernel_rfl⟩)
        ·have hF := ite_f hF hb
         refine Wk_skip ?_
         refine WRL ((mput v2.1 ((lget b.Slots v2.2).Turn) ((lget b.Slots v2.2).Turn : Int))) (fun v4 : (List (Int × Int)) => ⟨[(1, .ptr 1 0), (2, .ptr 2 0), (7, .mp 78), (80, .sl 6 (b.Slots.map e_Slot)), (81, .i (b.Slots.length : Int)), (82, .i v2.2)], [(1, (c_Board b)), (2, [.i 0, .i 0])], [], [(78, (v4.map (fun p => (e_i64 p.1, e_i64 p.2))))], []⟩) [.ms ((mput v2.1 ((lget b.Slots v2.2).Turn) ((lget b.Slots v2.2).Turn : Int)).map (fun p => (e_i64 p.1, e_i64 p.2)))] [1, 2, 7, 80, 81, 82] [1, 2] [] [78] [] [] (.cons (mkeys_ok (kenc_i64 : KEnc _ e_i64) e_i64 v2.1) (.cons (mput_ok (kenc_i64 : KEnc _ e_i64) e_i64 v2.1 ((lget b.Slots v2.2).Turn) ((lget b.Slots v2.2).Turn : Int)) .nil)) (by kernel_rfl) (fun v4 hv => ?_)
         have hF := lt_elim hF hv
         refine Wk_blk ?_
         refine UR [] [1, 2, 7, 80, 81, 82] [1, 2] [] [78] [(82, .i (w64 (v2.2 + 1)))] [] [] [] .nil ?_
         refine Wk_trim (fs := [1, 2, 7, 80, 81, 82]) (bs := [1, 2]) (rs := []) (ms := [78]) (aa := []) (nv := []) ?_ (ih1 _ (some_elim hF).symm)
         kernel_rfl
      ·have hF := ite_f hF hb
       refine Wk_exit rfl ?_
       have hF := inrO_done hF dn1
       exact Wk_metP () [2] [2] [] [] [] [] hF (by kernel_rfl)
     ·intro v1 hF
      have hF : assign_Check_J2 v1 = some r := hF
      unfold assign_Check_J2 at hF
      refine ZRs [] [2] [2] [] [] .nil ?_
      have hF := some_elim hF
      exact Wk_ret (hfin _ ⟨[], [], [], [], [], [], by first | (rw [← hF]; kernel_rfl) | kernel_rfl⟩)

/- locate.fault -/
noncomputable def locate_fault (code : Int) (at0 : Int) : Fault :=
 (⟨code, at0⟩ : Fault)
theorem locate_fault_ok (code : Int) (at0 : Int) (r : Fault) (hF : locate_fault code at0 = r) : Pe Try.prog 81 S.none [.i code, .i at0] (.agg [.i r.Code, .i r.At]) S.none := by
 refine Pe_of (N := 8) (res := [.cell 4 26]) (ts := [26]) Ty.ok Fn.b81 Try.func81 rfl rfl rfl rfl rfl rfl ?_
 intro Q g hfin
 unfold locate_fault at hF
 refine URs [] [0, 1, 4] [4] [] [] [(4, .ptr 4 0)] [(4, [.i 0, .i 0])] [] [] .nil ?_
 refine URs [] [4] [4] [] [] [] [(4, [.i code, .i at0])] [] [] .nil ?_
 exact Wk_ret (hfin _ ⟨[], [], [], [], [], [], by first | (rw [← hF]; kernel_rfl) | kernel_rfl⟩)

/- locate.code -/
noncomputable def locate_code (k0 : Known) : Int :=
 if ((decide (40 < (k0.Part.From.length : Int))) || (decide (40 < (k0.Part.To.length : Int)))) = true then
  8
 else
  if ((!decide (k0.Part.To = ([] : List UInt8))) && (!Op.bytesLess k0.Part.From k0.Part.To)) = true then
   5
  else
   0
theorem locate_code_ok (k0 : Known) (r : Int) (hF : locate_code k0 = r) : Pe Try.prog 87 S.none [.agg (c_Known k0)] (.i r) S.none := by
 refine Pe_of (N := 28) (res := [.tmp 2]) (ts := [3]) Ty.ok Fn.b87 Try.func87 rfl rfl rfl rfl rfl rfl ?_
 intro Q g hfin
 unfold locate_code at hF
 refine URs [] [1] [1] [] [] [(1, .ptr 1 0)] [(1, (c_Known k0))] [] [] .nil ?_
 refine Wk_seq ?_
 refine URs [] [3] [3] [] [] [(3, .ptr 3 0)] [(3, (c_Part k0.Part))] [] [] .nil ?_
 refine Wk_block ?_
 refine ZRs [] [3, 6] [3] [] [(6, .bool ((decide (40 < (k0.Part.From.length : Int))) || (decide (40 < (k0.Part.To.length : Int)))))] .nil ?_
 refine Wk_split rfl (fun hb => ?_) (fun hb => ?_)
 ·have hF := ite_t hF hb
  refine ZRs [] [2] [] [] [(2, .i 8)] .nil ?_
  exact Wk_ret (hfin _ ⟨[], [], [], [], [], [], by first | (rw [← hF]; kernel_rfl) | kernel_rfl⟩)
 ·have hF := ite_f hF hb
  refine ZRs [] [17] [] [] [(17, .bool ((!decide (k0.Part.To = ([] : List UInt8))) && (!Op.bytesLess k0.Part.From k0.Part.To)))] .nil ?_
  refine Wk_split rfl (fun hb => ?_) (fun hb => ?_)
  ·have hF := ite_t hF hb
   refine ZRs [] [2] [] [] [(2, .i 5)] .nil ?_
   exact Wk_ret (hfin _ ⟨[], [], [], [], [], [], by first | (rw [← hF]; kernel_rfl) | kernel_rfl⟩)
  ·have hF := ite_f hF hb
   refine Wk_skip ?_
   refine Wk_blk ?_
   refine ZRs [] [2] [] [] [(2, .i 0)] .nil ?_
   exact Wk_ret (hfin _ ⟨[], [], [], [], [], [], by first | (rw [← hF]; kernel_rfl) | kernel_rfl⟩)

/- locate.Check -/
noncomputable def locate_Check_J1 (v : Unit) : Option Fault :=
 some (⟨0, 0⟩ : Fault)
noncomputable def locate_Check_J2 (v1 : Int) (v2 : Unit) : Option (Int ⊕ Fault) :=
 some (Sum.inl (w64 (v1 + 1)))
noncomputable def locate_Check_B1 (l : List Known) (v1 : Int) : Option (Int ⊕ Fault) :=
 if (decide (v1 < (l.length : Int))) = true then
  asrt (0 ≤ v1 ∧ v1 < (l.length : Int)) <|
  lt (locate_code (⟨(⟨((lget l v1).Part).From, ((lget l v1).Part).To, ((lget l v1).Part).ID⟩ : Part), (lget l v1).Host, (lget l v1).Turn⟩ : Known)) fun x1 =>
  if (!decide (x1 = 0)) = true then
   lt (locate_fault x1 v1) fun x2 =>
   some (Sum.inr x2)
  else
   if (decide (0 < v1)) = true then
    asrt (0 ≤ w64 (v1 - 1) ∧ w64 (v1 - 1) < (l.length : Int)) <|
    if ((decide ((((lget l (w64 (v1 - 1))).Part).To) = ([] : List UInt8))) || (Op.bytesLess (((lget l v1).Part).From) (((lget l (w64 (v1 - 1))).Part).To))) = true then
     lt (locate_fault 10 v1) fun x3 =>
     some (Sum.inr x3)
    else
     locate_Check_J2 v1 ()
   else
    locate_Check_J2 v1 ()
 else
  inrO (locate_Check_J1 ())
noncomputable def locate_Check_L1 (l : List Known) (v0 : Int) : Option Fault :=
 loopO (fun y => locate_Check_B1 l y) v0
noncomputable def locate_Check (l : List Known) : Option Fault :=
 if (decide (200 < (l.length : Int))) = true then
  lt (locate_fault 2 (-1)) fun x =>
  some x
 else
  locate_Check_L1 l 0
theorem locate_Check_ok (l : List Known) (r : Fault) (hF : locate_Check l = some r) : Pe Try.prog 45 S.none [.sl 5 (l.map e_Known)] (.agg [.i r.Code, .i r.At]) S.none := by
 refine Pe_of (N := 47) (res := [.cell 2 26]) (ts := [26]) Ty.ok Fn.b45 Try.func45 rfl rfl rfl rfl rfl rfl ?_
 intro Q g hfin
 unfold locate_Check at hF
 refine URs [] [0, 2] [2] [] [] [(2, .ptr 2 0)] [(2, [.i 0, .i 0])] [] [] .nil ?_
 refine Wk_seq ?_
 refine ZRs [.nat (l.length : Int)] [0, 2, 9] [2] [] [(9, .bool (decide (200 < (l.length : Int))))] (.cons (len_ok e_Known l) .nil) ?_
 refine Wk_split rfl (fun hb => ?_) (fun hb => ?_)
 ·have hF := ite_t hF hb
  refine Wk_seq ?_
  obtain ⟨x, h0, hF⟩ := lt_split hF
  refine UR [.callB (.agg [.i x.Code, .i x.At])] [2] [2] [] [] [] [(2, [.i x.Code, .i x.At])] [] [] (.cons (locate_fault_ok 2 (-1) x h0) .nil) ?_
  have hF := some_elim hF
  exact Wk_ret (hfin _ ⟨[], [], [], [], [], [], by first | (rw [← hF]; kernel_rfl) | kernel_rfl⟩)
 ·have hF := ite_f hF hb
  refine Wk_skip ?_
  refine Wk_seq ?_
  refine ZRs [.nat (l.length : Int)] [0, 2, 11, 12, 13] [2] [] [(11, .sl 5 (l.map e_Known)), (12, .i (l.length : Int)), (13, .i 0)] (.cons (len_ok e_Known l) .nil) ?_
  refine Wk_meetP (fun v : Unit => (⟨[(2, .ptr 2 0)], [(2, [.i 0, .i 0])], [], [], []⟩ : S)) (fun v => locate_Check_J1 v = some r) ?_ ?_
  ·refine Wk_block ?_
   unfold locate_Check_L1 at hF
   refine Wk_trim (fs := [0, 2, 11, 12, 13]) (bs := [2]) (rs := []) (ms := []) (aa := []) (nv := []) (t := (fun v1 : Int => (⟨[(0, .sl 5 (l.map e_Known)), (2, .ptr 2 0), (11, .sl 5 (l.map e_Known)), (12, .i (l.length : Int)), (13, .i v1)], [(2, [.i 0, .i 0])], [], [], []⟩ : S)) 0) (by kernel_rfl) ?_
   refine Wk_iter (step := fun y => locate_Check_B1 l y) (r := r) (fun v1 : Int => (⟨[(0, .sl 5 (l.map e_Known)), (2, .ptr 2 0), (11, .sl 5 (l.map e_Known)), (12, .i (l.length : Int)), (13, .i v1)], [(2, [.i 0, .i 0])], [], [], []⟩ : S)) 0 hF ?_
   intro n1 v1 y1 hF ih1 dn1
   have hF : locate_Check_B1 l v1 = some y1 := hF
   unfold locate_Check_B1 at hF
   refine ZRs [] [0, 2, 11, 12, 13, 14] [2] [] [(14, .bool (decide (v1 < (l.length : Int))))] .nil ?_
   refine Wk_seq ?_
   refine Wk_split rfl (fun hb => ?_) (fun hb => ?_)
   ·have hF := ite_t hF hb
    refine Wk_skip ?_
    refine Wk_seq ?_
    refine Wk_block ?_
    refine Wk_seq ?_
    obtain ⟨h1, hF⟩ := asrt_elim hF
    refine UR [.av (e_Known (lget l v1))] [0, 2, 3, 4, 11, 12, 13] [2, 4] [] [] [(3, .i v1), (4, .ptr 4 0)] [(4, [.str (((lget l v1).Part).From), .str (((lget l v1).Part).To), .i (((lget l v1).Part).ID), .i ((lget l v1).Host), .i ((lget l v1).Turn)])] [] [] (.cons (idx_ok e_Known h1) .nil) ?_
    refine Wk_seq ?_
    refine Wk_seq ?_
    obtain ⟨x1, h2, hF⟩ := lt_split hF
    refine ZR [.callB (.i x1)] [0, 2, 3, 4, 5, 11, 12, 13] [2, 4] [] [(5, .i x1)] (.cons (locate_code_ok (⟨(⟨((lget l v1).Part).From, ((lget l v1).Part).To, ((lget l v1).Part).ID⟩ : Part), (lget l v1).Host, (lget l v1).Turn⟩ : Known) x1 h2) .nil) ?_
    refine ZRs [] [0, 2, 3, 4, 5, 11, 12, 13, 21] [2, 4] [] [(21, .bool (!decide (x1 = 0)))] .nil ?_
    refine Wk_split rfl (fun hb => ?_) (fun hb => ?_)
    ·have hF := ite_t hF hb
     refine Wk_seq ?_
     obtain ⟨x2, h3, hF⟩ := lt_split hF
     refine UR [.callB (.agg [.i x2.Code, .i x2.At])] [2] [2] [] [] [] [(2, [.i x2.Code, .i x2.At])] [] [] (.cons (locate_fault_ok x1 v1 x2 h3) .nil) ?_
     have hF := ret_done hF dn1
     have hF := some_elim hF
     exact Wk_ret (hfin _ ⟨[], [], [], [], [], [], by first | (rw [← hF]; kernel_rfl) | kernel_rfl⟩)
    ·have hF := ite_f hF hb
     refine Wk_skip ?_
     refine ZRs [] [0, 2, 3, 4, 11, 12, 13, 26] [2, 4] [] [(26, .bool (decide (0 < v1)))] .nil ?_
     refine Wk_meetP (fun v2 : Unit => (⟨[(0, .sl 5 (l.map e_Known)), (2, .ptr 2 0), (11, .sl 5 (l.map e_Known)), (12, .i (l.length : Int)), (13, .i v1)], [(2, [.i 0, .i 0])], [], [], []⟩ : S)) (fun v2 => locate_Check_J2 v1 v2 = some y1) ?_ ?_
     ·refine Wk_split rfl (fun hb => ?_) (fun hb => ?_)
      ·have hF := ite_t hF hb
       refine Wk_seq ?_
       obtain ⟨h4, hF⟩ := asrt_elim hF
       refine ZR [.av (e_Known (lget l (w64 (v1 - 1))))] [0, 2, 3, 4, 6, 11, 12, 13] [2, 4] [] [(6, .str (((lget l (w64 (v1 - 1))).Part).To))] (.cons (idx_ok e_Known h4) .nil) ?_
       refine ZRs [] [0, 2, 3, 11, 12, 13, 42] [2] [] [(42, .bool ((decide ((((lget l (w64 (v1 - 1))).Part).To) = ([] : List UInt8))) || (Op.bytesLess (((lget l v1).Part).From) (((lget l (w64 (v1 - 1))).Part).To))))] .nil ?_
       refine Wk_split rfl (fun hb => ?_) (fun hb => ?_)
       ·have hF := ite_t hF hb
        refine Wk_seq ?_
        obtain ⟨x3, h5, hF⟩ := lt_split hF
        refine UR [.callB (.agg [.i x3.Code, .i x3.At])] [2] [2] [] [] [] [(2, [.i x3.Code, .i x3.At])] [] [] (.cons (locate_fault_ok 10 v1 x3 h5) .nil) ?_
        have hF := ret_done hF dn1
        have hF := some_elim hF
        exact Wk_ret (hfin _ ⟨[], [], [], [], [], [], by first | (rw [← hF]; kernel_rfl) | kernel_rfl⟩)
       ·have hF := ite_f hF hb
        refine Wk_skip ?_
        exact Wk_metP () [0, 2, 11, 12, 13] [2] [] [] [] [] hF (by kernel_rfl)
      ·have hF := ite_f hF hb
       refine Wk_skip ?_
       exact Wk_metP () [0, 2, 11, 12, 13] [2] [] [] [] [] hF (by kernel_rfl)
     ·intro v2 hF
      have hF : locate_Check_J2 v1 v2 = some y1 := hF
      unfold locate_Check_J2 at hF
      refine Wk_blk ?_
      refine ZR [] [0, 2, 11, 12, 13] [2] [] [(13, .i (w64 (v1 + 1)))] .nil ?_
      refine Wk_trim (fs := [0, 2, 11, 12, 13]) (bs := [2]) (rs := []) (ms := []) (aa := []) (nv := []) ?_ (ih1 _ (some_elim hF).symm)
      kernel_rfl
   ·have hF := ite_f hF hb
    refine Wk_exit rfl ?_
    have hF := inrO_done hF dn1
    exact Wk_metP () [2] [2] [] [] [] [] hF (by kernel_rfl)
  ·intro v hF
   have hF : locate_Check_J1 v = some r := hF
   unfold locate_Check_J1 at hF
   refine ZRs [] [2] [2] [] [] .nil ?_
   have hF := some_elim hF
   exact Wk_ret (hfin _ ⟨[], [], [], [], [], [], by first | (rw [← hF]; kernel_rfl) | kernel_rfl⟩)

/- slices.Clone[[]api.Known,api.Known] -/
noncomputable def slices_Clone_api_Known_api_Known (s0 : List Known) : Option (List Known) :=
 ubO (decide (s0.length = 0)) (
  some ([] : List Known)) (
  asrt (((([] : List Known) ++ s0).length : Int) * 56 ≤ 140737488351232) <|
  some (([] : List Known) ++ s0))
theorem slices_Clone_api_Known_api_Known_ok (s0 : List Known) (r : List Known) (hF : slices_Clone_api_Known_api_Known s0 = some r) : Pe Try.prog 76 ⟨[], [], [], [], []⟩ [.sl 5 (s0.map e_Known)] (.row 5 0) ⟨[], [], [(5, .o 67 5 0 (r.map e_Known))], [], []⟩ := by
 refine Pe_of (N := 8) (res := [.tmp 2]) (ts := [58]) Ty.ok Fn.b76 Try.func76 rfl rfl rfl rfl rfl rfl ?_
 intro Q g hfin
 unfold slices_Clone_api_Known_api_Known at hF
 refine ZRs [] [0] [] [] [] .nil ?_
 refine Wk_seq ?_
 refine ZRs [.bo (decide (s0.length = 0))] [0, 4] [] [] [(4, .ub (decide (s0.length = 0)) true)] (.cons (ubn_ok e_Known s0) .nil) ?_
 refine Wk_ub 4 rfl fun b hb1 hb2 => ?_
 refine Wk_split rfl (fun hb => ?_) (fun hb => ?_)
 ·have hb := hb1 hb
  have hF := (ubO_elim hF).1 hb
  refine ZRs [] [2] [] [] [(2, .nils)] .nil ?_
  have hF := some_elim hF
  refine Wk_nilrow 2 60000 67 5 rfl rfl rfl ?_
  refine Wk_ren' ⟨[], [(60000, 5)], [], []⟩ rfl ?_
  exact Wk_ret (hfin _ ⟨[5], [], [5], [], [], [(5, ⟨0, true, false, false⟩)], by first | (rw [← hF]; kernel_rfl) | kernel_rfl⟩)
 ·have hF := (ubO_elim hF).2
  refine Wk_skip ?_
  refine Wk_seq ?_
  obtain ⟨h0, hF⟩ := asrt_elim hF
  refine UR [.xs ((([] : List Known) ++ s0).map e_Known)] [2] [] [5] [] [(2, .row 5 1)] [] [(5, .o 67 5 1 ((([] : List Known) ++ s0).map e_Known))] [] (.cons (app_ok e_Known ([] : List Known) s0) (.cons (appl_ok e_Known h0) .nil)) ?_
  have hF := some_elim hF
  exact Wk_ret (hfin _ ⟨[5], [], [5], [], [], [(5, ⟨0, true, true, false⟩)], by first | (rw [← hF]; kernel_rfl) | kernel_rfl⟩)

/- locate.has -/
noncomputable def locate_has (p : Part) (row : List UInt8) : Bool :=
 lt ((!Op.bytesLess row p.From) && ((decide (p.To = ([] : List UInt8))) || (Op.bytesLess row p.To))) fun (v : Bool) =>
 v
theorem locate_has_ok (p : Part) (row : List UInt8) (r : Bool) (hF : locate_has p row = r) : Pe Try.prog 110 S.none [.agg (c_Part p), .str row] (.bool r) S.none := by
 refine Pe_of (N := 20) (res := [.tmp 4]) (ts := [4]) Ty.ok Fn.b110 Try.func110 rfl rfl rfl rfl rfl rfl ?_
 intro Q g hfin
 unfold locate_has at hF
 refine URs [] [1, 2] [2] [] [] [(2, .ptr 2 0)] [(2, (c_Part p))] [] [] .nil ?_
 refine Wk_seq ?_
 refine WRL ((!Op.bytesLess row p.From) && ((decide (p.To = ([] : List UInt8))) || (Op.bytesLess row p.To))) (fun v : Bool => ⟨[(4, .bool v)], [], [], [], []⟩) [] [4] [] [] [] [] [] .nil (by kernel_rfl) (fun v hv => ?_)
 have hF := lt_elim hF hv
 exact Wk_ret (hfin _ ⟨[], [], [], [], [], [], by first | (rw [← hF]; kernel_rfl) | kernel_rfl⟩)

/- locate.find$1 -/
noncomputable def locate_find_1 (k0 : Known) (box : List UInt8) : Bool :=
 lt (locate_has k0.Part box) fun x =>
 x
theorem locate_find_1_ok (k0 : Known) (box : List UInt8) (r : Bool) (hF : locate_find_1 k0 box = r) : Pe Try.prog 109 ⟨[], [(100000, [.str box])], [], [], []⟩ [.agg (c_Known k0), .ptr 100000 0] (.bool r) ⟨[], [(100000, [.str box])], [], [], []⟩ := by
 refine Pe_of (N := 8) (res := [.tmp 3]) (ts := [4]) Ty.ok Fn.b109 Try.func109 rfl rfl rfl rfl rfl rfl ?_
 intro Q g hfin
 unfold locate_find_1 at hF
 refine URs [] [1, 2] [2, 100000] [] [] [(2, .ptr 2 0)] [(2, (c_Known k0))] [] [] .nil ?_
 refine Wk_seq ?_
 obtain ⟨x, h0, hF⟩ := lt_split hF
 refine ZR [.callB (.bool x)] [3] [100000] [] [(3, .bool x)] (.cons (locate_has_ok k0.Part box x h0) .nil) ?_
 exact Wk_ret (hfin _ ⟨[], [100000], [], [], [], [], by first | (rw [← hF]; kernel_rfl) | kernel_rfl⟩)

/- slices.IndexFunc[[]api.Known,api.Known] -/
noncomputable def slices_IndexFunc_api_Known_api_Known_J1 (v : Unit) : Option Int :=
 some (-1)
noncomputable def slices_IndexFunc_api_Known_api_Known_B1 (s0 : List Known) (box : List UInt8) (v1 : Int) : Option (Int ⊕ Int) :=
 if (decide (v1 < (s0.length : Int))) = true then
  asrt (0 ≤ v1 ∧ v1 < (s0.length : Int)) <|
  lt (locate_find_1 (⟨(⟨((lget s0 v1).Part).From, ((lget s0 v1).Part).To, ((lget s0 v1).Part).ID⟩ : Part), (lget s0 v1).Host, (lget s0 v1).Turn⟩ : Known) box) fun x =>
  if x = true then
   some (Sum.inr v1)
  else
   some (Sum.inl (w64 (v1 + 1)))
 else
  inrO (slices_IndexFunc_api_Known_api_Known_J1 ())
noncomputable def slices_IndexFunc_api_Known_api_Known_L1 (s0 : List Known) (box : List UInt8) (v0 : Int) : Option Int :=
 loopO (fun y => slices_IndexFunc_api_Known_api_Known_B1 s0 box y) v0
noncomputable def slices_IndexFunc_api_Known_api_Known (s0 : List Known) (box : List UInt8) : Option Int :=
 slices_IndexFunc_api_Known_api_Known_L1 s0 box 0
theorem slices_IndexFunc_api_Known_api_Known_ok (s0 : List Known) (box : List UInt8) (r : Int) (hF : slices_IndexFunc_api_Known_api_Known s0 box = some r) : Pe Try.prog 108 ⟨[], [(100000, [.str box])], [], [], []⟩ [.sl 5 (s0.map e_Known), .fn 109 [.ptr 100000 0]] (.i r) ⟨[], [(100000, [.str box])], [], [], []⟩ := by
 refine Pe_of (N := 19) (res := [.tmp 4]) (ts := [3]) Ty.ok Fn.b108 Try.func108 rfl rfl rfl rfl rfl rfl ?_
 intro Q g hfin
 unfold slices_IndexFunc_api_Known_api_Known at hF
 refine ZRs [] [0, 1] [100000] [] [] .nil ?_
 refine Wk_seq ?_
 refine ZRs [.nat (s0.length : Int)] [0, 1, 7, 8] [100000] [] [(7, .i (s0.length : Int)), (8, .i 0)] (.cons (len_ok e_Known s0) .nil) ?_
 refine Wk_meetP (fun v : Unit => (⟨[], [(100000, [.str box])], [], [], []⟩ : S)) (fun v => slices_IndexFunc_api_Known_api_Known_J1 v = some r) ?_ ?_
 ·refine Wk_block ?_
  unfold slices_IndexFunc_api_Known_api_Known_L1 at hF
  refine Wk_trim (fs := [0, 1, 7, 8]) (bs := [100000]) (rs := []) (ms := []) (aa := []) (nv := []) (t := (fun v1 : Int => (⟨[(0, .sl 5 (s0.map e_Known)), (1, .fn 109 [.ptr 100000 0]), (7, .i (s0.length : Int)), (8, .i v1)], [(100000, [.str box])], [], [], []⟩ : S)) 0) (by kernel_rfl) ?_
  refine Wk_iter (step := fun y => slices_IndexFunc_api_Known_api_Known_B1 s0 box y) (r := r) (fun v1 : Int => (⟨[(0, .sl 5 (s0.map e_Known)), (1, .fn 109 [.ptr 100000 0]), (7, .i (s0.length : Int)), (8, .i v1)], [(100000, [.str box])], [], [], []⟩ : S)) 0 hF ?_
  intro n1 v1 y1 hF ih1 dn1
  have hF : slices_IndexFunc_api_Known_api_Known_B1 s0 box v1 = some y1 := hF
  unfold slices_IndexFunc_api_Known_api_Known_B1 at hF
  refine ZRs [] [0, 1, 7, 8, 9] [100000] [] [(9, .bool (decide (v1 < (s0.length : Int))))] .nil ?_
  refine Wk_seq ?_
  refine Wk_split rfl (fun hb => ?_) (fun hb => ?_)
  ·have hF := ite_t hF hb
   refine Wk_skip ?_
   refine Wk_seq ?_
   refine Wk_block ?_
   refine ZRs [] [0, 1, 5, 7, 8] [100000] [] [(5, .i v1)] .nil ?_
   refine Wk_seq ?_
   obtain ⟨h0, hF⟩ := asrt_elim hF
   obtain ⟨x, h1, hF⟩ := lt_split hF
   refine ZR [.av (e_Known (lget s0 v1)), .callR [100000] [] [] [] (.bool x)] [0, 1, 5, 7, 8, 16] [100000] [] [(16, .bool x)] (.cons (idx_ok e_Known h0) (.cons (Pe.ren (locate_find_1_ok (⟨(⟨((lget s0 v1).Part).From, ((lget s0 v1).Part).To, ((lget s0 v1).Part).ID⟩ : Part), (lget s0 v1).Host, (lget s0 v1).Turn⟩ : Known) box x h1) ⟨[], [], [], []⟩) .nil)) ?_
   refine Wk_split rfl (fun hb => ?_) (fun hb => ?_)
   ·have hF := ite_t hF hb
    refine ZRs [] [4] [100000] [] [(4, .i v1)] .nil ?_
    have hF := ret_done hF dn1
    have hF := some_elim hF
    exact Wk_ret (hfin _ ⟨[], [100000], [], [], [], [], by first | (rw [← hF]; kernel_rfl) | kernel_rfl⟩)
   ·have hF := ite_f hF hb
    refine Wk_skip ?_
    refine Wk_blk ?_
    refine ZR [] [0, 1, 7, 8] [100000] [] [(8, .i (w64 (v1 + 1)))] .nil ?_
    refine Wk_trim (fs := [0, 1, 7, 8]) (bs := [100000]) (rs := []) (ms := []) (aa := []) (nv := []) ?_ (ih1 _ (some_elim hF).symm)
    kernel_rfl
  ·have hF := ite_f hF hb
   refine Wk_exit rfl ?_
   have hF := inrO_done hF dn1
   exact Wk_metP () [] [100000] [] [] [] [] hF (by kernel_rfl)
 ·intro v hF
  have hF : slices_IndexFunc_api_Known_api_Known_J1 v = some r := hF
  unfold slices_IndexFunc_api_Known_api_Known_J1 at hF
  refine ZRs [] [4] [100000] [] [(4, .i (-1))] .nil ?_
  have hF := some_elim hF
  exact Wk_ret (hfin _ ⟨[], [100000], [], [], [], [], by first | (rw [← hF]; kernel_rfl) | kernel_rfl⟩)

/- locate.find -/
noncomputable def locate_find (l : List Known) (row : List UInt8) : Option Int :=
 ob (slices_IndexFunc_api_Known_api_Known l row) fun x =>
 some x
theorem locate_find_ok (l : List Known) (row : List UInt8) (r : Int) (hF : locate_find l row = some r) : Pe Try.prog 77 S.none [.sl 5 (l.map e_Known), .str row] (.i r) S.none := by
 refine Pe_of (N := 8) (res := [.tmp 4]) (ts := [3]) Ty.ok Fn.b77 Try.func77 rfl rfl rfl rfl rfl rfl ?_
 intro Q g hfin
 unfold locate_find at hF
 refine URs [] [0, 3] [3] [] [] [(3, .ptr 3 0)] [(3, [.str row])] [] [] .nil ?_
 refine Wk_seq ?_
 obtain ⟨x, h0, hF⟩ := ob_elim hF
 refine ZR [.callR [3] [] [] [] (.i x)] [4] [] [] [(4, .i x)] (.cons (Pe.ren (slices_IndexFunc_api_Known_api_Known_ok l row x h0) ⟨[(100000, 3)], [], [], []⟩) .nil) ?_
 have hF := some_elim hF
 exact Wk_ret (hfin _ ⟨[], [], [], [], [], [], by first | (rw [← hF]; kernel_rfl) | kernel_rfl⟩)

/- locate.slot$1 -/
noncomputable def locate_slot_1 (s0 : Slot) (box : List UInt8) : Bool :=
 lt (locate_has s0.Part box) fun x =>
 x
theorem locate_slot_1_ok (s0 : Slot) (box : List UInt8) (r : Bool) (hF : locate_slot_1 s0 box = r) : Pe Try.prog 112 ⟨[], [(100000, [.str box])], [], [], []⟩ [.agg (c_Slot s0), .ptr 100000 0] (.bool r) ⟨[], [(100000, [.str box])], [], [], []⟩ := by
 refine Pe_of (N := 8) (res := [.tmp 3]) (ts := [4]) Ty.ok Fn.b112 Try.func112 rfl rfl rfl rfl rfl rfl ?_
 intro Q g hfin
 unfold locate_slot_1 at hF
 refine URs [] [1, 2] [2, 100000] [] [] [(2, .ptr 2 0)] [(2, (c_Slot s0))] [] [] .nil ?_
 refine Wk_seq ?_
 obtain ⟨x, h0, hF⟩ := lt_split hF
 refine ZR [.callB (.bool x)] [3] [100000] [] [(3, .bool x)] (.cons (locate_has_ok s0.Part box x h0) .nil) ?_
 exact Wk_ret (hfin _ ⟨[], [100000], [], [], [], [], by first | (rw [← hF]; kernel_rfl) | kernel_rfl⟩)

/- slices.IndexFunc[[]api.Slot,api.Slot] -/
noncomputable def slices_IndexFunc_api_Slot_api_Slot_J1 (v : Unit) : Option Int :=
 some (-1)
noncomputable def slices_IndexFunc_api_Slot_api_Slot_B1 (s0 : List Slot) (box : List UInt8) (v1 : Int) : Option (Int ⊕ Int) :=
 if (decide (v1 < (s0.length : Int))) = true then
  asrt (0 ≤ v1 ∧ v1 < (s0.length : Int)) <|
  lt (locate_slot_1 (⟨(⟨((lget s0 v1).Part).From, ((lget s0 v1).Part).To, ((lget s0 v1).Part).ID⟩ : Part), (lget s0 v1).State, (lget s0 v1).Host, (lget s0 v1).Turn⟩ : Slot) box) fun x =>
  if x = true then
   some (Sum.inr v1)
  else
   some (Sum.inl (w64 (v1 + 1)))
 else
  inrO (slices_IndexFunc_api_Slot_api_Slot_J1 ())
noncomputable def slices_IndexFunc_api_Slot_api_Slot_L1 (s0 : List Slot) (box : List UInt8) (v0 : Int) : Option Int :=
 loopO (fun y => slices_IndexFunc_api_Slot_api_Slot_B1 s0 box y) v0
noncomputable def slices_IndexFunc_api_Slot_api_Slot (s0 : List Slot) (box : List UInt8) : Option Int :=
 slices_IndexFunc_api_Slot_api_Slot_L1 s0 box 0
theorem slices_IndexFunc_api_Slot_api_Slot_ok (s0 : List Slot) (box : List UInt8) (r : Int) (hF : slices_IndexFunc_api_Slot_api_Slot s0 box = some r) : Pe Try.prog 111 ⟨[], [(100000, [.str box])], [], [], []⟩ [.sl 6 (s0.map e_Slot), .fn 112 [.ptr 100000 0]] (.i r) ⟨[], [(100000, [.str box])], [], [], []⟩ := by
 refine Pe_of (N := 19) (res := [.tmp 4]) (ts := [3]) Ty.ok Fn.b111 Try.func111 rfl rfl rfl rfl rfl rfl ?_
 intro Q g hfin
 unfold slices_IndexFunc_api_Slot_api_Slot at hF
 refine ZRs [] [0, 1] [100000] [] [] .nil ?_
 refine Wk_seq ?_
 refine ZRs [.nat (s0.length : Int)] [0, 1, 7, 8] [100000] [] [(7, .i (s0.length : Int)), (8, .i 0)] (.cons (len_ok e_Slot s0) .nil) ?_
 refine Wk_meetP (fun v : Unit => (⟨[], [(100000, [.str box])], [], [], []⟩ : S)) (fun v => slices_IndexFunc_api_Slot_api_Slot_J1 v = some r) ?_ ?_
 ·refine Wk_block ?_
  unfold slices_IndexFunc_api_Slot_api_Slot_L1 at hF
  refine Wk_trim (fs := [0, 1, 7, 8]) (bs := [100000]) (rs := []) (ms := []) (aa := []) (nv := []) (t := (fun v1 : Int => (⟨[(0, .sl 6 (s0.map e_Slot)), (1, .fn 112 [.ptr 100000 0]), (7, .i (s0.length : Int)), (8, .i v1)], [(100000, [.str box])], [], [], []⟩ : S)) 0) (by kernel_rfl) ?_
  refine Wk_iter (step := fun y => slices_IndexFunc_api_Slot_api_Slot_B1 s0 box y) (r := r) (fun v1 : Int => (⟨[(0, .sl 6 (s0.map e_Slot)), (1, .fn 112 [.ptr 100000 0]), (7, .i (s0.length : Int)), (8, .i v1)], [(100000, [.str box])], [], [], []⟩ : S)) 0 hF ?_
  intro n1 v1 y1 hF ih1 dn1
  have hF : slices_IndexFunc_api_Slot_api_Slot_B1 s0 box v1 = some y1 := hF
  unfold slices_IndexFunc_api_Slot_api_Slot_B1 at hF
  refine ZRs [] [0, 1, 7, 8, 9] [100000] [] [(9, .bool (decide (v1 < (s0.length : Int))))] .nil ?_
  refine Wk_seq ?_
  refine Wk_split rfl (fun hb => ?_) (fun hb => ?_)
  ·have hF := ite_t hF hb
   refine Wk_skip ?_
   refine Wk_seq ?_
   refine Wk_block ?_
   refine ZRs [] [0, 1, 5, 7, 8] [100000] [] [(5, .i v1)] .nil ?_
   refine Wk_seq ?_
   obtain ⟨h0, hF⟩ := asrt_elim hF
   obtain ⟨x, h1, hF⟩ := lt_split hF
   refine ZR [.av (e_Slot (lget s0 v1)), .callR [100000] [] [] [] (.bool x)] [0, 1, 5, 7, 8, 16] [100000] [] [(16, .bool x)] (.cons (idx_ok e_Slot h0) (.cons (Pe.ren (locate_slot_1_ok (⟨(⟨((lget s0 v1).Part).From, ((lget s0 v1).Part).To, ((lget s0 v1).Part).ID⟩ : Part), (lget s0 v1).State, (lget s0 v1).Host, (lget s0 v1).Turn⟩ : Slot) box x h1) ⟨[], [], [], []⟩) .nil)) ?_
   refine Wk_split rfl (fun hb => ?_) (fun hb => ?_)
   ·have hF := ite_t hF hb
    refine ZRs [] [4] [100000] [] [(4, .i v1)] .nil ?_
    have hF := ret_done hF dn1
    have hF := some_elim hF
    exact Wk_ret (hfin _ ⟨[], [100000], [], [], [], [], by first | (rw [← hF]; kernel_rfl) | kernel_rfl⟩)
   ·have hF := ite_f hF hb
    refine Wk_skip ?_
    refine Wk_blk ?_
    refine ZR [] [0, 1, 7, 8] [100000] [] [(8, .i (w64 (v1 + 1)))] .nil ?_
    refine Wk_trim (fs := [0, 1, 7, 8]) (bs := [100000]) (rs := []) (ms := []) (aa := []) (nv := []) ?_ (ih1 _ (some_elim hF).symm)
    kernel_rfl
  ·have hF := ite_f hF hb
   refine Wk_exit rfl ?_
   have hF := inrO_done hF dn1
   exact Wk_metP () [] [100000] [] [] [] [] hF (by kernel_rfl)
 ·intro v hF
  have hF : slices_IndexFunc_api_Slot_api_Slot_J1 v = some r := hF
  unfold slices_IndexFunc_api_Slot_api_Slot_J1 at hF
  refine ZRs [] [4] [100000] [] [(4, .i (-1))] .nil ?_
  have hF := some_elim hF
  exact Wk_ret (hfin _ ⟨[], [100000], [], [], [], [], by first | (rw [← hF]; kernel_rfl) | kernel_rfl⟩)

/- locate.slot -/
noncomputable def locate_slot (b : Board) (row : List UInt8) : Option Slot :=
 ob (slices_IndexFunc_api_Slot_api_Slot b.Slots row) fun x =>
 asrt (0 ≤ x ∧ x < (b.Slots.length : Int)) <|
 some (⟨(⟨((lget b.Slots x).Part).From, ((lget b.Slots x).Part).To, ((lget b.Slots x).Part).ID⟩ : Part), (lget b.Slots x).State, (lget b.Slots x).Host, (lget b.Slots x).Turn⟩ : Slot)
theorem locate_slot_ok (b : Board) (row : List UInt8) (r : Slot) (hF : locate_slot b row = some r) : Pe Try.prog 80 S.none [.agg (c_Board b), .str row] (.agg (c_Slot r)) S.none := by
 refine Pe_of (N := 15) (res := [.cell 4 64]) (ts := [64]) Ty.ok Fn.b80 Try.func80 rfl rfl rfl rfl rfl rfl ?_
 intro Q g hfin
 unfold locate_slot at hF
 refine URs [] [2, 3, 4] [2, 3, 4] [] [] [(2, .ptr 2 0), (3, .ptr 3 0), (4, .ptr 4 0)] [(2, (c_Board b)), (3, [.str row]), (4, [.str [], .str [], .i 0, .i 0, .i 0, .i 0])] [] [] .nil ?_
 refine Wk_seq ?_
 obtain ⟨x, h0, hF⟩ := ob_elim hF
 refine ZR [.callR [3] [] [] [] (.i x)] [2, 4, 5] [2, 4] [] [(5, .i x)] (.cons (Pe.ren (slices_IndexFunc_api_Slot_api_Slot_ok b.Slots row x h0) ⟨[(100000, 3)], [], [], []⟩) .nil) ?_
 refine Wk_seq ?_
 obtain ⟨h1, hF⟩ := asrt_elim hF
 refine UR [.av (e_Slot (lget b.Slots x))] [4] [4] [] [] [] [(4, [.str (((lget b.Slots x).Part).From), .str (((lget b.Slots x).Part).To), .i (((lget b.Slots x).Part).ID), .i ((lget b.Slots x).State), .i ((lget b.Slots x).Host), .i ((lget b.Slots x).Turn)])] [] [] (.cons (idx_ok e_Slot h1) .nil) ?_
 have hF := some_elim hF
 exact Wk_ret (hfin _ ⟨[], [], [], [], [], [], by first | (rw [← hF]; kernel_rfl) | kernel_rfl⟩)

/- locate.serves -/
noncomputable def locate_serves (b : Board) (host : Int) (turn : Int) (row : List UInt8) : Option Bool :=
 ob (locate_slot b row) fun x =>
 lt (((decide (x.State = 2)) && (decide (x.Host = host))) && (decide (x.Turn = turn))) fun (v : Bool) =>
 some v
theorem locate_serves_ok (b : Board) (host : Int) (turn : Int) (row : List UInt8) (r : Bool) (hF : locate_serves b host turn row = some r) : Pe Try.prog 78 S.none [.agg (c_Board b), .i host, .i turn, .str row] (.bool r) S.none := by
 refine Pe_of (N := 28) (res := [.tmp 8]) (ts := [4]) Ty.ok Fn.b78 Try.func78 rfl rfl rfl rfl rfl rfl ?_
 intro Q g hfin
 unfold locate_serves at hF
 refine URs [] [1, 2, 3, 4] [4] [] [] [(4, .ptr 4 0)] [(4, (c_Board b))] [] [] .nil ?_
 refine Wk_seq ?_
 obtain ⟨x, h0, hF⟩ := ob_elim hF
 refine UR [.callB (.agg (c_Slot x))] [1, 2, 9] [9] [] [] [(9, .ptr 9 0)] [(9, (c_Slot x))] [] [] (.cons (locate_slot_ok b row x h0) .nil) ?_
 refine Wk_seq ?_
 refine WRL (((decide (x.State = 2)) && (decide (x.Host = host))) && (decide (x.Turn = turn))) (fun v : Bool => ⟨[(8, .bool v)], [], [], [], []⟩) [] [8] [] [] [] [] [] .nil (by kernel_rfl) (fun v hv => ?_)
 have hF := lt_elim hF hv
 have hF := some_elim hF
 exact Wk_ret (hfin _ ⟨[], [], [], [], [], [], by first | (rw [← hF]; kernel_rfl) | kernel_rfl⟩)

/- slices.Delete[[]api.Known,api.Known] -/
noncomputable def slices_Delete_api_Known_api_Known_v1 (i : Int) (j : Int) (row : List Known) : Option (List Known) :=
 asrt ((0 : Int) ≤ i ∧ i ≤ j ∧ j ≤ (row.length : Int) ∧ (row.length : Int) ≤ (row.length : Int)) <|
 if (decide (i = j)) = true then
  some row
 else
  asrt (0 ≤ i ∧ i ≤ (row.length : Int)) <|
  asrt (0 ≤ j ∧ j ≤ (row.length : Int)) <|
  asrt (((row.take i.toNat ++ ((row.drop j.toNat).take (row.length - j.toNat))).length : Int) * 56 ≤ 140737488351232) <|
  asrt (i.toNat ≤ row.length) <|
  asrt (j.toNat + (row.length - j.toNat) ≤ row.length) <|
  asrt (0 ≤ ((row.take i.toNat ++ ((row.drop j.toNat).take (row.length - j.toNat))).length : Int) ∧ ((row.take i.toNat ++ ((row.drop j.toNat).take (row.length - j.toNat))).length : Int) ≤ (row.length : Int) ∧ ((row.length : Int).toNat ≤ (row.take i.toNat ++ ((row.drop j.toNat).take (row.length - j.toNat))).length ∨ (row.length : Int).toNat ≤ ((row.map e_Known).length))) <|
  lt ((lclear (row.take i.toNat ++ ((row.drop j.toNat).take (row.length - j.toNat))) (((row.take i.toNat ++ ((row.drop j.toNat).take (row.length - j.toNat))).length : Int).toNat) ((row.length : Int).toNat - ((row.take i.toNat ++ ((row.drop j.toNat).take (row.length - j.toNat))).length : Int).toNat) ((⟨(⟨([] : List UInt8), ([] : List UInt8), 0⟩ : Part), 0, 0⟩ : Known) : Known))) fun (v : List Known) =>
  some v
theorem slices_Delete_api_Known_api_Known_v1_ok (i : Int) (j : Int) (row : List Known) (rk : Nat) (rc : Nat) (rn : Bool) (r : List Known) (hF : slices_Delete_api_Known_api_Known_v1 i j row = some r) : Pe Try.prog 79 ⟨[], [], [(100000, ⟨67, 5, 0, 0, rc, rn, 0, [], (row.map e_Known)⟩)], [], []⟩ [.row 100000 0, .i i, .i j] (.row 100000 1) ⟨[], [], [(100000, .o 67 5 1 (r.map e_Known))], [], []⟩ := by
 refine Pe_of (N := 33) (res := [.tmp 6]) (ts := [58]) Ty.ok Fn.b79 Try.func79 rfl rfl rfl rfl rfl rfl ?_
 intro Q g hfin
 unfold slices_Delete_api_Known_api_Known_v1 at hF
 refine ZRs [] [0, 1, 2] [] [100000] [] .nil ?_
 refine Wk_seq ?_
 obtain ⟨h0, hF⟩ := asrt_elim hF
 refine ZR [.nat (row.length : Int)] [0, 1, 2] [] [100000] [] (.cons (len_ok e_Known row) (.cons (s3_ok e_Known h0) .nil)) ?_
 refine Wk_seq ?_
 refine ZRs [] [0, 1, 2, 16] [] [100000] [(16, .bool (decide (i = j)))] .nil ?_
 refine Wk_split rfl (fun hb => ?_) (fun hb => ?_)
 ·have hF := ite_t hF hb
  refine ZRs [] [6] [] [100000] [(6, .row 100000 0)] .nil ?_
  have hF := some_elim hF
  exact Wk_ret (hfin _ ⟨[100000], [], [100000], [], [], [(100000, ⟨1, false, false, false⟩)], by first | (rw [← hF]; kernel_rfl) | kernel_rfl⟩)
 ·have hF := ite_f hF hb
  refine Wk_skip ?_
  refine ZRs [.nat (row.length : Int)] [0, 1, 2, 7] [] [100000] [(7, .i (row.length : Int))] (.cons (len_ok e_Known row) .nil) ?_
  refine Wk_seq ?_
  obtain ⟨h1, hF⟩ := asrt_elim hF
  obtain ⟨h2, hF⟩ := asrt_elim hF
  obtain ⟨h3, hF⟩ := asrt_elim hF
  obtain ⟨h4, hF⟩ := asrt_elim hF
  obtain ⟨h5, hF⟩ := asrt_elim hF
  refine UD [.vw i.toNat, .vw (row.length - j.toNat), .xs ((row.take i.toNat ++ ((row.drop j.toNat).take (row.length - j.toNat))).map e_Known)] [0, 7] [] [100000] [] [(0, .row 100000 1)] [] [(100000, ⟨67, 5, 1, 0, (row.map e_Known).length, false, 0, [], ((row.take i.toNat ++ ((row.drop j.toNat).take (row.length - j.toNat))).map e_Known)⟩)] [] (.cons (vw01_ok (cm := rc) e_Known h1) (.cons (vw10_ok e_Known h2) (.cons (tapv_ok e_Known row i.toNat row j.toNat (row.length - j.toNat)) (.cons (appl_ok e_Known h3) (.cons (tk_ok e_Known h4) (.cons (srcv_ok e_Known h5) .nil)))))) ?_
  refine Wk_seq ?_
  obtain ⟨h7, hF⟩ := asrt_elim hF
  refine WRL ((lclear (row.take i.toNat ++ ((row.drop j.toNat).take (row.length - j.toNat))) (((row.take i.toNat ++ ((row.drop j.toNat).take (row.length - j.toNat))).length : Int).toNat) ((row.length : Int).toNat - ((row.take i.toNat ++ ((row.drop j.toNat).take (row.length - j.toNat))).length : Int).toNat) ((⟨(⟨([] : List UInt8), ([] : List UInt8), 0⟩ : Part), 0, 0⟩ : Known) : Known))) (fun v : List Known => ⟨[(0, .row 100000 1)], [], [(100000, ⟨67, 5, 1, 0, (row.map e_Known).length, false, 0, [], (v.map e_Known)⟩)], [], []⟩) [.nat ((row.take i.toNat ++ ((row.drop j.toNat).take (row.length - j.toNat))).length : Int), .vw ((row.length : Int).toNat - ((row.take i.toNat ++ ((row.drop j.toNat).take (row.length - j.toNat))).length : Int).toNat), .xs ((lclear (row.take i.toNat ++ ((row.drop j.toNat).take (row.length - j.toNat))) (((row.take i.toNat ++ ((row.drop j.toNat).take (row.length - j.toNat))).length : Int).toNat) ((row.length : Int).toNat - ((row.take i.toNat ++ ((row.drop j.toNat).take (row.length - j.toNat))).length : Int).toNat) ((⟨(⟨([] : List UInt8), ([] : List UInt8), 0⟩ : Part), 0, 0⟩ : Known) : Known)).map e_Known)] [0] [] [100000] [] [] [] (.cons (len_ok e_Known (row.take i.toNat ++ ((row.drop j.toNat).take (row.length - j.toNat)))) (.cons (vw11c_ok e_Known h7) (.cons (clr_ok e_Known (row.take i.toNat ++ ((row.drop j.toNat).take (row.length - j.toNat))) (((row.take i.toNat ++ ((row.drop j.toNat).take (row.length - j.toNat))).length : Int).toNat) ((row.length : Int).toNat - ((row.take i.toNat ++ ((row.drop j.toNat).take (row.length - j.toNat))).length : Int).toNat) ((⟨(⟨([] : List UInt8), ([] : List UInt8), 0⟩ : Part), 0, 0⟩ : Known) : Known)) (.cons (Nat.zero_le (((row.take i.toNat ++ ((row.drop j.toNat).take (row.length - j.toNat))).length : Int).toNat)) .nil)))) (by kernel_rfl) (fun v hv => ?_)
  have hF := lt_elim hF hv
  refine ZRs [] [6] [] [100000] [(6, .row 100000 1)] .nil ?_
  have hF := some_elim hF
  exact Wk_ret (hfin _ ⟨[100000], [], [100000], [], [], [(100000, ⟨1, false, true, false⟩)], by first | (rw [← hF]; kernel_rfl) | kernel_rfl⟩)

/- locate.learn$1 -/
noncomputable def locate_learn_1 (x : Known) (box : Known) : Bool :=
 lt (locate_has x.Part box.Part.From) fun x1 =>
 lt (locate_has box.Part x.Part.From) fun x2 =>
 x1 || x2
theorem locate_learn_1_ok (x : Known) (box : Known) (r : Bool) (hF : locate_learn_1 x box = r) : Pe Try.prog 114 ⟨[], [(100000, (c_Known box))], [], [], []⟩ [.agg (c_Known x), .ptr 100000 0] (.bool r) ⟨[], [(100000, (c_Known box))], [], [], []⟩ := by
 refine Pe_of (N := 18) (res := [.tmp 3]) (ts := [4]) Ty.ok Fn.b114 Try.func114 rfl rfl rfl rfl rfl rfl ?_
 intro Q g hfin
 unfold locate_learn_1 at hF
 refine URs [] [1, 2] [2, 100000] [] [] [(2, .ptr 2 0)] [(2, (c_Known x))] [] [] .nil ?_
 refine Wk_seq ?_
 obtain ⟨x1, h0, hF⟩ := lt_split hF
 obtain ⟨x2, h1, hF⟩ := lt_split hF
 refine ZR [.callB (.bool x1), .callB (.bool x2)] [3] [100000] [] [(3, .bool (x1 || x2))] (.cons (locate_has_ok x.Part box.Part.From x1 h0) (.cons (fun (ga0 : (!x1) = true) => (locate_has_ok box.Part x.Part.From x2 h1)) .nil)) ?_
 exact Wk_ret (hfin _ ⟨[], [100000], [], [], [], [], by first | (rw [← hF]; kernel_rfl) | kernel_rfl⟩)

/- slices.IndexFunc[[]api.Known,api.Known] -/
noncomputable def slices_IndexFunc_api_Known_api_Known_v2_J1 (v : Unit) : Option Int :=
 some (-1)
noncomputable def slices_IndexFunc_api_Known_api_Known_v2_B1 (box : Known) (row : List Known) (v1 : Int) : Option (Int ⊕ Int) :=
 if (decide (v1 < (row.length : Int))) = true then
  asrt (0 ≤ v1 ∧ v1 < (row.length : Int)) <|
  asrt (0 ≤ v1 ∧ v1 < (row.length : Int)) <|
  lt (locate_learn_1 (⟨(⟨((lget row v1).Part).From, ((lget row v1).Part).To, ((lget row v1).Part).ID⟩ : Part), (lget row v1).Host, (lget row v1).Turn⟩ : Known) box) fun x =>
  if x = true then
   some (Sum.inr v1)
  else
   some (Sum.inl (w64 (v1 + 1)))
 else
  inrO (slices_IndexFunc_api_Known_api_Known_v2_J1 ())
noncomputable def slices_IndexFunc_api_Known_api_Known_v2_L1 (box : Known) (row : List Known) (v0 : Int) : Option Int :=
 loopO (fun y => slices_IndexFunc_api_Known_api_Known_v2_B1 box row y) v0
noncomputable def slices_IndexFunc_api_Known_api_Known_v2 (box : Known) (row : List Known) : Option Int :=
 slices_IndexFunc_api_Known_api_Known_v2_L1 box row 0
theorem slices_IndexFunc_api_Known_api_Known_v2_ok (box : Known) (row : List Known) (rk : Nat) (rc : Nat) (rn : Bool) (r : Int) (hF : slices_IndexFunc_api_Known_api_Known_v2 box row = some r) : Pe Try.prog 108 ⟨[], [(100000, (c_Known box))], [(100000, ⟨67, 5, 0, rk, rc, rn, 0, [], (row.map e_Known)⟩)], [], []⟩ [.row 100000 0, .fn 114 [.ptr 100000 0]] (.i r) ⟨[], [(100000, (c_Known box))], [(100000, ⟨67, 5, 0, rk, rc, rn, 0, [], (row.map e_Known)⟩)], [], []⟩ := by
 refine Pe_of (N := 19) (res := [.tmp 4]) (ts := [3]) Ty.ok Fn.b108 Try.func108 rfl rfl rfl rfl rfl rfl ?_
 intro Q g hfin
 unfold slices_IndexFunc_api_Known_api_Known_v2 at hF
 refine ZRs [] [0, 1] [100000] [100000] [] .nil ?_
 refine Wk_seq ?_
 refine ZRs [.nat (row.length : Int)] [0, 1, 7, 8] [100000] [100000] [(7, .i (row.length : Int)), (8, .i 0)] (.cons (len_ok e_Known row) .nil) ?_
 refine Wk_meetP (fun v : Unit => (⟨[], [(100000, (c_Known box))], [(100000, ⟨67, 5, 0, rk, rc, rn, 0, [], (row.map e_Known)⟩)], [], []⟩ : S)) (fun v => slices_IndexFunc_api_Known_api_Known_v2_J1 v = some r) ?_ ?_
 ·refine Wk_block ?_
  unfold slices_IndexFunc_api_Known_api_Known_v2_L1 at hF
  refine Wk_trim (fs := [0, 1, 7, 8]) (bs := [100000]) (rs := [100000]) (ms := []) (aa := []) (nv := []) (t := (fun v1 : Int => (⟨[(0, .row 100000 0), (1, .fn 114 [.ptr 100000 0]), (7, .i (row.length : Int)), (8, .i v1)], [(100000, (c_Known box))], [(100000, ⟨67, 5, 0, rk, rc, rn, 0, [], (row.map e_Known)⟩)], [], []⟩ : S)) 0) (by kernel_rfl) ?_
  refine Wk_iter (step := fun y => slices_IndexFunc_api_Known_api_Known_v2_B1 box row y) (r := r) (fun v1 : Int => (⟨[(0, .row 100000 0), (1, .fn 114 [.ptr 100000 0]), (7, .i (row.length : Int)), (8, .i v1)], [(100000, (c_Known box))], [(100000, ⟨67, 5, 0, rk, rc, rn, 0, [], (row.map e_Known)⟩)], [], []⟩ : S)) 0 hF ?_
  intro n1 v1 y1 hF ih1 dn1
  have hF : slices_IndexFunc_api_Known_api_Known_v2_B1 box row v1 = some y1 := hF
  unfold slices_IndexFunc_api_Known_api_Known_v2_B1 at hF
  refine ZRs [] [0, 1, 7, 8, 9] [100000] [100000] [(9, .bool (decide (v1 < (row.length : Int))))] .nil ?_
  refine Wk_seq ?_
  refine Wk_split rfl (fun hb => ?_) (fun hb => ?_)
  ·have hF := ite_t hF hb
   refine Wk_skip ?_
   refine Wk_seq ?_
   refine Wk_block ?_
   refine ZRs [] [0, 1, 5, 7, 8] [100000] [100000] [(5, .i v1)] .nil ?_
   refine Wk_seq ?_
   obtain ⟨h0, hF⟩ := asrt_elim hF
   obtain ⟨h1, hF⟩ := asrt_elim hF
   obtain ⟨x, h2, hF⟩ := lt_split hF
   refine ZR [.av (e_Known (lget row v1)), .callR [100000] [] [] [] (.bool x)] [0, 1, 5, 7, 8, 16] [100000] [100000] [(16, .bool x)] (.cons (ixr_ok e_Known h0) (.cons (ldr_ok e_Known h1) (.cons (Pe.ren (locate_learn_1_ok (⟨(⟨((lget row v1).Part).From, ((lget row v1).Part).To, ((lget row v1).Part).ID⟩ : Part), (lget row v1).Host, (lget row v1).Turn⟩ : Known) box x h2) ⟨[], [], [], []⟩) .nil))) ?_
   refine Wk_split rfl (fun hb => ?_) (fun hb => ?_)
   ·have hF := ite_t hF hb
    refine ZRs [] [4] [100000] [100000] [(4, .i v1)] .nil ?_
    have hF := ret_done hF dn1
    have hF := some_elim hF
    exact Wk_ret (hfin _ ⟨[100000], [100000], [100000], [], [], [], by first | (rw [← hF]; kernel_rfl) | kernel_rfl⟩)
   ·have hF := ite_f hF hb
    refine Wk_skip ?_
    refine Wk_blk ?_
    refine ZR [] [0, 1, 7, 8] [100000] [100000] [(8, .i (w64 (v1 + 1)))] .nil ?_
    refine Wk_trim (fs := [0, 1, 7, 8]) (bs := [100000]) (rs := [100000]) (ms := []) (aa := []) (nv := []) ?_ (ih1 _ (some_elim hF).symm)
    kernel_rfl
  ·have hF := ite_f hF hb
   refine Wk_exit rfl ?_
   have hF := inrO_done hF dn1
   exact Wk_metP () [] [100000] [100000] [] [] [] hF (by kernel_rfl)
 ·intro v hF
  have hF : slices_IndexFunc_api_Known_api_Known_v2_J1 v = some r := hF
  unfold slices_IndexFunc_api_Known_api_Known_v2_J1 at hF
  refine ZRs [] [4] [100000] [100000] [(4, .i (-1))] .nil ?_
  have hF := some_elim hF
  exact Wk_ret (hfin _ ⟨[100000], [100000], [100000], [], [], [], by first | (rw [← hF]; kernel_rfl) | kernel_rfl⟩)

/- slices.DeleteFunc[[]api.Known,api.Known] -/
noncomputable def slices_DeleteFunc_api_Known_api_Known_v1_J1 (v : List Known × Int) : Option (List Known) :=
 asrt (0 ≤ v.2 ∧ v.2 ≤ (v.1.length : Int)) <|
 lt ((lclear v.1 v.2.toNat (v.1.length - v.2.toNat) ((⟨(⟨([] : List UInt8), ([] : List UInt8), 0⟩ : Part), 0, 0⟩ : Known) : Known))) fun (v1 : List Known) =>
 asrt (0 ≤ v.2 ∧ v.2 ≤ (v1.length : Int)) <|
 asrt (v.2.toNat ≤ v1.length) <|
 some (v1.take v.2.toNat)
noncomputable def slices_DeleteFunc_api_Known_api_Known_v1_B1 (box : Known) (v2 : List Known × Int × Int) : Option ((List Known × Int × Int) ⊕ (List Known)) :=
 if (decide (v2.2.2 < (v2.1.length : Int))) = true then
  asrt (0 ≤ v2.2.2 ∧ v2.2.2 < (v2.1.length : Int)) <|
  asrt (0 ≤ v2.2.2 ∧ v2.2.2 < (v2.1.length : Int)) <|
  lt (locate_learn_1 (⟨(⟨((lget v2.1 v2.2.2).Part).From, ((lget v2.1 v2.2.2).Part).To, ((lget v2.1 v2.2.2).Part).ID⟩ : Part), (lget v2.1 v2.2.2).Host, (lget v2.1 v2.2.2).Turn⟩ : Known) box) fun x1 =>
  ob (
   if (!x1) = true then
    asrt (0 ≤ v2.2.1 ∧ v2.2.1 < (v2.1.length : Int)) <|
    asrt (0 ≤ v2.2.1 ∧ v2.2.1 < (v2.1.length : Int)) <|
    lt ((lset v2.1 v2.2.1 (⟨(⟨((lget v2.1 v2.2.2).Part).From, ((lget v2.1 v2.2.2).Part).To, ((lget v2.1 v2.2.2).Part).ID⟩ : Part), (lget v2.1 v2.2.2).Host, (lget v2.1 v2.2.2).Turn⟩ : Known))) fun (v4 : List Known) =>
    some (v4, w64 (v2.2.1 + 1))
   else
    some (v2.1, v2.2.1)) fun (v3 : List Known × Int) =>
  some (Sum.inl (v3.1, v3.2, w64 (v2.2.2 + 1)))
 else
  inrO (slices_DeleteFunc_api_Known_api_Known_v1_J1 (v2.1, v2.2.1))
noncomputable def slices_DeleteFunc_api_Known_api_Known_v1_L1 (box : Known) (v0 : List Known × Int × Int) : Option (List Known) :=
 loopO (fun y => slices_DeleteFunc_api_Known_api_Known_v1_B1 box y) v0
noncomputable def slices_DeleteFunc_api_Known_api_Known_v1 (box : Known) (row : List Known) : Option (List Known) :=
 ob (slices_IndexFunc_api_Known_api_Known_v2 box row) fun x =>
 if (decide (x = (-1))) = true then
  some row
 else
  slices_DeleteFunc_api_Known_api_Known_v1_L1 box (row, x, w64 (x + 1))
theorem slices_DeleteFunc_api_Known_api_Known_v1_ok (box : Known) (row : List Known) (rk : Nat) (rc : Nat) (rn : Bool) (r : List Known) (hF : slices_DeleteFunc_api_Known_api_Known_v1 box row = some r) : Pe Try.prog 113 ⟨[], [(100000, (c_Known box))], [(100000, ⟨67, 5, 0, 0, rc, rn, 0, [], (row.map e_Known)⟩)], [], []⟩ [.row 100000 0, .fn 114 [.ptr 100000 0]] (.row 100000 1) ⟨[], [(100000, (c_Known box))], [(100000, .o 67 5 1 (r.map e_Known))], [], []⟩ := by
 refine Pe_of (N := 42) (res := [.tmp 4]) (ts := [58]) Ty.ok Fn.b113 Try.func113 rfl rfl rfl rfl rfl rfl ?_
 intro Q g hfin
 unfold slices_DeleteFunc_api_Known_api_Known_v1 at hF
 refine ZRs [] [0, 1] [100000] [100000] [] .nil ?_
 refine Wk_seq ?_
 obtain ⟨x, h0, hF⟩ := ob_elim hF
 refine ZR [.callR [100000] [100000] [] [] (.i x)] [0, 1, 5] [100000] [100000] [(5, .i x)] (.cons (Pe.ren (slices_IndexFunc_api_Known_api_Known_v2_ok box row 0 rc rn x h0) ⟨[], [], [], []⟩) .nil) ?_
 refine Wk_seq ?_
 refine ZRs [] [0, 1, 5, 12] [100000] [100000] [(12, .bool (decide (x = (-1))))] .nil ?_
 refine Wk_split rfl (fun hb => ?_) (fun hb => ?_)
 ·have hF := ite_t hF hb
  refine ZRs [] [4] [100000] [100000] [(4, .row 100000 0)] .nil ?_
  have hF := some_elim hF
  exact Wk_ret (hfin _ ⟨[100000], [100000], [100000], [], [], [(100000, ⟨1, false, false, false⟩)], by first | (rw [← hF]; kernel_rfl) | kernel_rfl⟩)
 ·have hF := ite_f hF hb
  refine Wk_skip ?_
  refine Wk_seq ?_
  refine ZRs [] [0, 1, 5, 6] [100000] [100000] [(6, .i (w64 (x + 1)))] .nil ?_
  refine Wk_meetP (fun v : List Known × Int => (⟨[(0, .row 100000 0), (5, .i v.2)], [(100000, (c_Known box))], [(100000, ⟨67, 5, 0, 0, rc, rn, 0, [], (v.1.map e_Known)⟩)], [], []⟩ : S)) (fun v => slices_DeleteFunc_api_Known_api_Known_v1_J1 v = some r) ?_ ?_
  ·refine Wk_block ?_
   unfold slices_DeleteFunc_api_Known_api_Known_v1_L1 at hF
   refine Wk_trim (fs := [0, 1, 5, 6]) (bs := [100000]) (rs := [100000]) (ms := []) (aa := []) (nv := []) (t := (fun v2 : List Known × Int × Int => (⟨[(0, .row 100000 0), (1, .fn 114 [.ptr 100000 0]), (5, .i v2.2.1), (6, .i v2.2.2)], [(100000, (c_Known box))], [(100000, ⟨67, 5, 0, 0, rc, rn, 0, [], (v2.1.map e_Known)⟩)], [], []⟩ : S)) (row, x, w64 (x + 1))) (by kernel_rfl) ?_
   refine Wk_iter (step := fun y => slices_DeleteFunc_api_Known_api_Known_v1_B1 box y) (r := r) (fun v2 : List Known × Int × Int => (⟨[(0, .row 100000 0), (1, .fn 114 [.ptr 100000 0]), (5, .i v2.2.1), (6, .i v2.2.2)], [(100000, (c_Known box))], [(100000, ⟨67, 5, 0, 0, rc, rn, 0, [], (v2.1.map e_Known)⟩)], [], []⟩ : S)) (row, x, w64 (x + 1)) hF ?_
   intro n1 v2 y1 hF ih1 dn1
   have hF : slices_DeleteFunc_api_Known_api_Known_v1_B1 box v2 = some y1 := hF
   unfold slices_DeleteFunc_api_Known_api_Known_v1_B1 at hF
   refine Wk_seq ?_
   refine ZRs [.nat (v2.1.length : Int)] [0, 1, 5, 6, 19] [100000] [100000] [(19, .bool (decide (v2.2.2 < (v2.1.length : Int))))] (.cons (len_ok e_Known v2.1) .nil) ?_
   refine Wk_split rfl (fun hb => ?_) (fun hb => ?_)
   ·have hF := ite_t hF hb
    refine Wk_skip ?_
    refine Wk_seq ?_
    refine Wk_block ?_
    refine Wk_seq ?_
    obtain ⟨h4, hF⟩ := asrt_elim hF
    obtain ⟨h5, hF⟩ := asrt_elim hF
    refine UR [.av (e_Known (lget v2.1 v2.2.2))] [0, 1, 5, 6, 7] [7, 100000] [100000] [] [(7, .ptr 7 0)] [(7, [.str (((lget v2.1 v2.2.2).Part).From), .str (((lget v2.1 v2.2.2).Part).To), .i (((lget v2.1 v2.2.2).Part).ID), .i ((lget v2.1 v2.2.2).Host), .i ((lget v2.1 v2.2.2).Turn)])] [] [] (.cons (ixr_ok e_Known h4) (.cons (ldr_ok e_Known h5) .nil)) ?_
    refine Wk_seq ?_
    obtain ⟨x1, h6, hF⟩ := lt_split hF
    refine ZR [.callR [100000] [] [] [] (.bool x1)] [0, 1, 5, 6, 7, 29] [7, 100000] [100000] [(29, .bool (!x1))] (.cons (Pe.ren (locate_learn_1_ok (⟨(⟨((lget v2.1 v2.2.2).Part).From, ((lget v2.1 v2.2.2).Part).To, ((lget v2.1 v2.2.2).Part).ID⟩ : Part), (lget v2.1 v2.2.2).Host, (lget v2.1 v2.2.2).Turn⟩ : Known) box x1 h6) ⟨[], [], [], []⟩) .nil) ?_
    obtain ⟨v3, hv, hF⟩ := ob_elim hF
    refine Wk_meet (⟨[(0, .row 100000 0), (1, .fn 114 [.ptr 100000 0]), (5, .i v3.2), (6, .i v2.2.2)], [(100000, (c_Known box))], [(100000, ⟨67, 5, 0, 0, rc, rn, 0, [], (v3.1.map e_Known)⟩)], [], []⟩ : S) ?_ ?_
    ·have hF := hv
     refine Wk_split rfl (fun hb => ?_) (fun hb => ?_)
     ·have hF := ite_t hF hb
      refine Wk_seq ?_
      obtain ⟨h7, hF⟩ := asrt_elim hF
      obtain ⟨h8, hF⟩ := asrt_elim hF
      refine WRL ((lset v2.1 v2.2.1 (⟨(⟨((lget v2.1 v2.2.2).Part).From, ((lget v2.1 v2.2.2).Part).To, ((lget v2.1 v2.2.2).Part).ID⟩ : Part), (lget v2.1 v2.2.2).Host, (lget v2.1 v2.2.2).Turn⟩ : Known))) (fun v4 : List Known => ⟨[(0, .row 100000 0), (1, .fn 114 [.ptr 100000 0]), (5, .i v2.2.1), (6, .i v2.2.2)], [(100000, (c_Known box))], [(100000, ⟨67, 5, 0, 0, rc, rn, 0, [], (v4.map e_Known)⟩)], [], []⟩) [.av (e_Known (lget v2.1 v2.2.1)), .xs ((lset v2.1 v2.2.1 (⟨(⟨((lget v2.1 v2.2.2).Part).From, ((lget v2.1 v2.2.2).Part).To, ((lget v2.1 v2.2.2).Part).ID⟩ : Part), (lget v2.1 v2.2.2).Host, (lget v2.1 v2.2.2).Turn⟩ : Known)).map e_Known)] [0, 1, 5, 6] [100000] [100000] [] [] [] (.cons (ixr_ok e_Known h7) (.cons (ldr_ok e_Known h8) (.cons (set_ok e_Known v2.1 v2.2.1 (⟨(⟨((lget v2.1 v2.2.2).Part).From, ((lget v2.1 v2.2.2).Part).To, ((lget v2.1 v2.2.2).Part).ID⟩ : Part), (lget v2.1 v2.2.2).Host, (lget v2.1 v2.2.2).Turn⟩ : Known)) (.cons (Nat.zero_le v2.2.1.toNat) .nil)))) (by kernel_rfl) (fun v4 hv => ?_)
      have hF := lt_elim hF hv
      refine ZR [] [0, 1, 5, 6] [100000] [100000] [(5, .i (w64 (v2.2.1 + 1)))] .nil ?_
      exact Wk_met (fs := [0, 1, 5, 6]) (bs := [100000]) (rs := [100000]) (ms := []) (aa := []) (nv := []) (by first | (rw [← some_elim hF]; kernel_rfl) | kernel_rfl)
     ·have hF := ite_f hF hb
      refine Wk_skip ?_
      exact Wk_met (fs := [0, 1, 5, 6]) (bs := [100000]) (rs := [100000]) (ms := []) (aa := []) (nv := []) (by first | (rw [← some_elim hF]; kernel_rfl) | kernel_rfl)
    ·refine Wk_blk ?_
     refine ZR [] [0, 1, 5, 6] [100000] [100000] [(6, .i (w64 (v2.2.2 + 1)))] .nil ?_
     refine Wk_trim (fs := [0, 1, 5, 6]) (bs := [100000]) (rs := [100000]) (ms := []) (aa := []) (nv := []) ?_ (ih1 _ (some_elim hF).symm)
     kernel_rfl
   ·have hF := ite_f hF hb
    refine Wk_exit rfl ?_
    have hF := inrO_done hF dn1
    exact Wk_metP (v2.1, v2.2.1) [0, 5] [100000] [100000] [] [] [] hF (by kernel_rfl)
  ·intro v hF
   have hF : slices_DeleteFunc_api_Known_api_Known_v1_J1 v = some r := hF
   unfold slices_DeleteFunc_api_Known_api_Known_v1_J1 at hF
   refine Wk_seq ?_
   obtain ⟨h1, hF⟩ := asrt_elim hF
   refine WRL ((lclear v.1 v.2.toNat (v.1.length - v.2.toNat) ((⟨(⟨([] : List UInt8), ([] : List UInt8), 0⟩ : Part), 0, 0⟩ : Known) : Known))) (fun v1 : List Known => ⟨[(0, .row 100000 0), (5, .i v.2)], [(100000, (c_Known box))], [(100000, ⟨67, 5, 0, 0, rc, rn, 0, [], (v1.map e_Known)⟩)], [], []⟩) [.vw (v.1.length - v.2.toNat), .xs ((lclear v.1 v.2.toNat (v.1.length - v.2.toNat) ((⟨(⟨([] : List UInt8), ([] : List UInt8), 0⟩ : Part), 0, 0⟩ : Known) : Known)).map e_Known)] [0, 5] [100000] [100000] [] [] [] (.cons (vw10_ok e_Known h1) (.cons (clr_ok e_Known v.1 v.2.toNat (v.1.length - v.2.toNat) ((⟨(⟨([] : List UInt8), ([] : List UInt8), 0⟩ : Part), 0, 0⟩ : Known) : Known)) (.cons (Nat.zero_le v.2.toNat) .nil))) (by kernel_rfl) (fun v1 hv => ?_)
   have hF := lt_elim hF hv
   refine Wk_seq ?_
   obtain ⟨h2, hF⟩ := asrt_elim hF
   refine ZR [.vw v.2.toNat] [4] [100000] [100000] [(4, .rowv 100000 0 0 v.2.toNat)] (.cons (vw01_ok (cm := rc) e_Known h2) .nil) ?_
   obtain ⟨h3, hF⟩ := asrt_elim hF
   refine Wk_truncL 4 100000 0 v.2.toNat ((v1.take v.2.toNat).map e_Known) rfl rfl rfl rfl (tk_ok e_Known h3).1 (Nat.zero_le _) (List.map_take).symm ?_
   have hF := some_elim hF
   exact Wk_ret (hfin _ ⟨[100000], [100000], [100000], [], [], [(100000, ⟨1, false, true, false⟩)], by first | (rw [← hF]; kernel_rfl) | kernel_rfl⟩)

/- locate.learn$2 -/
noncomputable def locate_learn_2 (x : Known) (box : Known) : Bool :=
 Op.bytesLess box.Part.From x.Part.From
theorem locate_learn_2_ok (x : Known) (box : Known) (r : Bool) (hF : locate_learn_2 x box = r) : Pe Try.prog 115 ⟨[], [(100000, (c_Known box))], [], [], []⟩ [.agg (c_Known x), .ptr 100000 0] (.bool r) ⟨[], [(100000, (c_Known box))], [], [], []⟩ := by
 refine Pe_of (N := 11) (res := [.tmp 3]) (ts := [4]) Ty.ok Fn.b115 Try.func115 rfl rfl rfl rfl rfl rfl ?_
 intro Q g hfin
 unfold locate_learn_2 at hF
 refine URs [] [1, 2] [2, 100000] [] [] [(2, .ptr 2 0)] [(2, (c_Known x))] [] [] .nil ?_
 refine ZRs [] [3] [100000] [] [(3, .bool (Op.bytesLess box.Part.From x.Part.From))] .nil ?_
 exact Wk_ret (hfin _ ⟨[], [100000], [], [], [], [], by first | (rw [← hF]; kernel_rfl) | kernel_rfl⟩)

/- slices.Insert[[]api.Known,api.Known] -/
set_option maxHeartbeats 4000000 in
theorem slices_Insert_api_Known_api_Known_w : InsW Try.prog 116 128 58 5 where
 shift := by
  intro b n c i va m vc w W1 W2 hi hm hroom hc63 hov hcp1 hcp2
  have mixed : Try.prog.follows .mixedOrders = true := Ty.mixed
  have hz1 : ¬ ((m : Int) = 0) := by omega
  have hz2 : ¬ ((i : Int) = (n : Int)) := by omega
  have hw1 : IntKind.i64.wrap ((i : Int) + (m : Int)) = (i : Int) + (m : Int) := by rw [IntKind.wrap_i64]; omega
  have hw2 : IntKind.i64.wrap ((n : Int) + (m : Int)) = (n : Int) + (m : Int) := by rw [IntKind.wrap_i64]; omega
  have hb1 : (0 : Int) ≤ (i : Int) + (m : Int) := by omega
  have hin : i ≤ n := by omega
  have htn : ((i : Int) + (m : Int)).toNat = i + m := by omega
  have hb2 : ¬ (c = i + m) := by omega
  have hb3 : (i : Int) ≤ (n : Int) + (m : Int) := by omega
  have hb4 : ¬ (c = i) := by omega
  have hx : ¬ ((c : Int) < (n : Int) + (m : Int)) := by omega
  go_enter Try.func116, Try.ntmps116
  go_wp2_with (simp only [hov])
  go_region_law_o (refine step_copy_runI rfl _ _ 58 58 rfl _ _ (by simp [Act.eval, Act.put]) (by simp [Act.eval, Act.put]) (hcp1 _ _ _) ?_)
  go_wp2_with (at_builtin; refine wpList_copy_runI _ rfl _ _ 58 58 rfl _ _ rfl rfl (hcp2 _ _) ?_)
  go_ret
  exact ⟨rfl, rfl⟩
 fin := by
  intro a n c va m vc w W1 v1 hm hap hsl
  have mixed : Try.prog.follows .mixedOrders = true := Ty.mixed
  have hz1 : ¬ ((m : Int) = 0) := by omega
  obtain ⟨b, k, l, rfl⟩ := hsl
  go_enter Try.func116, Try.ntmps116
  go_wp2_with (at_builtin; refine Go.Lib.wpList_append_run _ rfl _ _ _ _ rfl _ _ rfl rfl _ _ (hap _) ?_)
  all_goals (go_ret; exact ⟨rfl, rfl⟩)
 grow := by
  intro b n c i g G va m vc w W1 W2 W3 hi hm hroom hnc hc63 hG hG63 hrz hcp1 hcp2
  have mixed : Try.prog.follows .mixedOrders = true := Ty.mixed
  have hz1 : ¬ ((m : Int) = 0) := by omega
  have hz2 : ¬ ((i : Int) = (n : Int)) := by omega
  have hz3 : (c : Int) < (n : Int) + (m : Int) := by omega
  have hw1 : IntKind.i64.wrap ((i : Int) + (m : Int)) = (i : Int) + (m : Int) := by rw [IntKind.wrap_i64]; omega
  have hw2 : IntKind.i64.wrap ((n : Int) + (m : Int)) = (n : Int) + (m : Int) := by rw [IntKind.wrap_i64]; omega
  have hw3 : IntKind.i64.wrap ((n : Int) + (m : Int) - (i : Int)) = (n : Int) + (m : Int) - (i : Int) := by rw [IntKind.wrap_i64]; omega
  have hb1 : (0 : Int) ≤ (i : Int) + (m : Int) := by omega
  have hin : i ≤ n := by omega
  have htn : ((i : Int) + (m : Int)).toNat = i + m := by omega
  have hb3 : (i : Int) ≤ (n : Int) := by omega
  have hGi : ¬ (G = i) := by omega
  have hGim : ¬ (G = i + m) := by omega
  have hci : ¬ (c = i) := by omega
  go_enter Try.func116, Try.ntmps116
  go_wp2_with (first
   | (at_builtin; refine Go.Lib.wpList_append_run _ rfl _ _ _ _ rfl _ _ rfl rfl _ _ (hrz _) ?_)
   | (at_builtin; refine wpList_copy_runI _ rfl _ _ 58 58 rfl _ _ rfl rfl (hcp1 _ _) ?_))
  go_region_law_o (refine step_copy_runI rfl _ _ 58 58 rfl (.slice (some ⟨g, (i + m) * 5, none⟩) (n + m - (i + m)) (G - (i + m))) (.slice (some ⟨b, i * 5, none⟩) (n - i) (c - i)) (by simp [Act.eval, Act.put]) (by simp [Act.eval, Act.put]) (hcp2 _ _ _) ?_)
  go_wp2
  go_ret
  exact ⟨rfl, rfl⟩
noncomputable def slices_Insert_api_Known_api_Known (i : Int) (v : List Known) (row : List Known) : Option (List Known) :=
 asrt (0 ≤ i ∧ i ≤ (row.length : Int)) <|
 asrt (v.length ≠ 0) <|
 asrt ((row.length + v.length) * 56 ≤ 140737488351232) <|
 some (row.take i.toNat ++ v ++ row.drop i.toNat)
theorem slices_Insert_api_Known_api_Known_ok (i : Int) (v : List Known) (row : List Known) (rk : Nat) (rc : Nat) (rn : Bool) (r : List Known) (hF : slices_Insert_api_Known_api_Known i v row = some r) : Pe Try.prog 116 ⟨[], [], [(100000, ⟨67, 5, 0, 0, rc, rn, 0, [], (row.map e_Known)⟩)], [], []⟩ [.row 100000 0, .i i, .sl 5 (v.map e_Known)] (.row 100000 1) ⟨[], [], [(100000, .o 67 5 1 (r.map e_Known))], [], []⟩ := by
 unfold slices_Insert_api_Known_api_Known at hF
 obtain ⟨h0, hF⟩ := asrt_elim hF
 obtain ⟨h1, hF⟩ := asrt_elim hF
 obtain ⟨h2, hF⟩ := asrt_elim hF
 have hF := some_elim hF
 rw [← hF, List.map_append, List.map_append, List.map_take, List.map_drop]
 exact Pe_insT Ty.ok ⟨_, Try.func116, rfl, rfl⟩ slices_Insert_api_Known_api_Known_w rfl rfl rfl rfl rfl rfl rfl
  (fun args w => run_callFunc_extern Try.func128 (by kernel_rfl) (by kernel_rfl) (by kernel_rfl) (e := Extern.SlicesOverlaps.overlaps #[58, 58] #[4]) (by kernel_rfl) args w)
  (by rw [List.length_map]; exact h0) (by rw [List.length_map]; exact h1) (by rw [List.length_map, List.length_map]; exact h2) (by rw [List.length_map, List.length_map]; omega)

/- slices.IndexFunc[[]api.Known,api.Known] -/
noncomputable def slices_IndexFunc_api_Known_api_Known_v4_J1 (v : Unit) : Option Int :=
 some (-1)
noncomputable def slices_IndexFunc_api_Known_api_Known_v4_B1 (box : Known) (row : List Known) (v1 : Int) : Option (Int ⊕ Int) :=
 if (decide (v1 < (row.length : Int))) = true then
  asrt (0 ≤ v1 ∧ v1 < (row.length : Int)) <|
  asrt (0 ≤ v1 ∧ v1 < (row.length : Int)) <|
  lt (locate_learn_2 (⟨(⟨((lget row v1).Part).From, ((lget row v1).Part).To, ((lget row v1).Part).ID⟩ : Part), (lget row v1).Host, (lget row v1).Turn⟩ : Known) box) fun x =>
  if x = true then
   some (Sum.inr v1)
  else
   some (Sum.inl (w64 (v1 + 1)))
 else
  inrO (slices_IndexFunc_api_Known_api_Known_v4_J1 ())
noncomputable def slices_IndexFunc_api_Known_api_Known_v4_L1 (box : Known) (row : List Known) (v0 : Int) : Option Int :=
 loopO (fun y => slices_IndexFunc_api_Known_api_Known_v4_B1 box row y) v0
noncomputable def slices_IndexFunc_api_Known_api_Known_v4 (box : Known) (row : List Known) : Option Int :=
 slices_IndexFunc_api_Known_api_Known_v4_L1 box row 0
theorem slices_IndexFunc_api_Known_api_Known_v4_ok (box : Known) (row : List Known) (rk : Nat) (rc : Nat) (rn : Bool) (r : Int) (hF : slices_IndexFunc_api_Known_api_Known_v4 box row = some r) : Pe Try.prog 108 ⟨[], [(100000, (c_Known box))], [(100000, ⟨67, 5, 0, rk, rc, rn, 0, [], (row.map e_Known)⟩)], [], []⟩ [.row 100000 0, .fn 115 [.ptr 100000 0]] (.i r) ⟨[], [(100000, (c_Known box))], [(100000, ⟨67, 5, 0, rk, rc, rn, 0, [], (row.map e_Known)⟩)], [], []⟩ := by
 refine Pe_of (N := 19) (res := [.tmp 4]) (ts := [3]) Ty.ok Fn.b108 Try.func108 rfl rfl rfl rfl rfl rfl ?_
 intro Q g hfin
 unfold slices_IndexFunc_api_Known_api_Known_v4 at hF
 refine ZRs [] [0, 1] [100000] [100000] [] .nil ?_
 refine Wk_seq ?_
 refine ZRs [.nat (row.length : Int)] [0, 1, 7, 8] [100000] [100000] [(7, .i (row.length : Int)), (8, .i 0)] (.cons (len_ok e_Known row) .nil) ?_
 refine Wk_meetP (fun v : Unit => (⟨[], [(100000, (c_Known box))], [(100000, ⟨67, 5, 0, rk, rc, rn, 0, [], (row.map e_Known)⟩)], [], []⟩ : S)) (fun v => slices_IndexFunc_api_Known_api_Known_v4_J1 v = some r) ?_ ?_
 ·refine Wk_block ?_
  unfold slices_IndexFunc_api_Known_api_Known_v4_L1 at hF
  refine Wk_trim (fs := [0, 1, 7, 8]) (bs := [100000]) (rs := [100000]) (ms := []) (aa := []) (nv := []) (t := (fun v1 : Int => (⟨[(0, .row 100000 0), (1, .fn 115 [.ptr 100000 0]), (7, .i (row.length : Int)), (8, .i v1)], [(100000, (c_Known box))], [(100000, ⟨67, 5, 0, rk, rc, rn, 0, [], (row.map e_Known)⟩)], [], []⟩ : S)) 0) (by kernel_rfl) ?_
  refine Wk_iter (step := fun y => slices_IndexFunc_api_Known_api_Known_v4_B1 box row y) (r := r) (fun v1 : Int => (⟨[(0, .row 100000 0), (1, .fn 115 [.ptr 100000 0]), (7, .i (row.length : Int)), (8, .i v1)], [(100000, (c_Known box))], [(100000, ⟨67, 5, 0, rk, rc, rn, 0, [], (row.map e_Known)⟩)], [], []⟩ : S)) 0 hF ?_
  intro n1 v1 y1 hF ih1 dn1
  have hF : slices_IndexFunc_api_Known_api_Known_v4_B1 box row v1 = some y1 := hF
  unfold slices_IndexFunc_api_Known_api_Known_v4_B1 at hF
  refine ZRs [] [0, 1, 7, 8, 9] [100000] [100000] [(9, .bool (decide (v1 < (row.length : Int))))] .nil ?_
  refine Wk_seq ?_
  refine Wk_split rfl (fun hb => ?_) (fun hb => ?_)
  ·have hF := ite_t hF hb
   refine Wk_skip ?_
   refine Wk_seq ?_
   refine Wk_block ?_
   refine ZRs [] [0, 1, 5, 7, 8] [100000] [100000] [(5, .i v1)] .nil ?_
   refine Wk_seq ?_
   obtain ⟨h0, hF⟩ := asrt_elim hF
   obtain ⟨h1, hF⟩ := asrt_elim hF
   obtain ⟨x, h2, hF⟩ := lt_split hF
   refine ZR [.av (e_Known (lget row v1)), .callR [100000] [] [] [] (.bool x)] [0, 1, 5, 7, 8, 16] [100000] [100000] [(16, .bool x)] (.cons (ixr_ok e_Known h0) (.cons (ldr_ok e_Known h1) (.cons (Pe.ren (locate_learn_2_ok (⟨(⟨((lget row v1).Part).From, ((lget row v1).Part).To, ((lget row v1).Part).ID⟩ : Part), (lget row v1).Host, (lget row v1).Turn⟩ : Known) box x h2) ⟨[], [], [], []⟩) .nil))) ?_
   refine Wk_split rfl (fun hb => ?_) (fun hb => ?_)
   ·have hF := ite_t hF hb
    refine ZRs [] [4] [100000] [100000] [(4, .i v1)] .nil ?_
    have hF := ret_done hF dn1
    have hF := some_elim hF
    exact Wk_ret (hfin _ ⟨[100000], [100000], [100000], [], [], [], by first | (rw [← hF]; kernel_rfl) | kernel_rfl⟩)
   ·have hF := ite_f hF hb
    refine Wk_skip ?_
    refine Wk_blk ?_
    refine ZR [] [0, 1, 7, 8] [100000] [100000] [(8, .i (w64 (v1 + 1)))] .nil ?_
    refine Wk_trim (fs := [0, 1, 7, 8]) (bs := [100000]) (rs := [100000]) (ms := []) (aa := []) (nv := []) ?_ (ih1 _ (some_elim hF).symm)
    kernel_rfl
  ·have hF := ite_f hF hb
   refine Wk_exit rfl ?_
   have hF := inrO_done hF dn1
   exact Wk_metP () [] [100000] [100000] [] [] [] hF (by kernel_rfl)
 ·intro v hF
  have hF : slices_IndexFunc_api_Known_api_Known_v4_J1 v = some r := hF
  unfold slices_IndexFunc_api_Known_api_Known_v4_J1 at hF
  refine ZRs [] [4] [100000] [100000] [(4, .i (-1))] .nil ?_
  have hF := some_elim hF
  exact Wk_ret (hfin _ ⟨[100000], [100000], [100000], [], [], [], by first | (rw [← hF]; kernel_rfl) | kernel_rfl⟩)

/- locate.learn -/
noncomputable def locate_learn (l : List Known) (k0 : Known) : Option (List Known) :=
 ob (slices_Clone_api_Known_api_Known l) fun x =>
 ob (slices_DeleteFunc_api_Known_api_Known_v1 k0 x) fun x1 =>
 ob (slices_IndexFunc_api_Known_api_Known_v4 k0 x1) fun x2 =>
 ob (
  if (decide (x2 < 0)) = true then
   some (x1.length : Int)
  else
   some x2) fun (v : Int) =>
 ob (slices_Insert_api_Known_api_Known v [k0] x1) fun x3 =>
 some x3
theorem locate_learn_ok (l : List Known) (k0 : Known) (r : List Known) (hF : locate_learn l k0 = some r) : Pe Try.prog 82 ⟨[], [], [], [], []⟩ [.sl 5 (l.map e_Known), .agg (c_Known k0)] (.row 7 2) ⟨[], [], [(7, .o 67 5 2 (r.map e_Known))], [], []⟩ := by
 refine Pe_of (N := 22) (res := [.tmp 4]) (ts := [58]) Ty.ok Fn.b82 Try.func82 rfl rfl rfl rfl rfl rfl ?_
 intro Q g hfin
 unfold locate_learn at hF
 refine URs [] [0, 3] [3] [] [] [(3, .ptr 3 0)] [(3, (c_Known k0))] [] [] .nil ?_
 refine Wk_seq ?_
 obtain ⟨x, h0, hF⟩ := ob_elim hF
 obtain ⟨x1, h1, hF⟩ := ob_elim hF
 refine UR [.callE [] [] [] [] (.row 7 0) ⟨[], [], [(7, .o 67 5 0 (x.map e_Known))], [], []⟩, .callE [3] [7] [] [] (.row 7 1) ⟨[], [(3, (c_Known k0))], [(7, .o 67 5 1 (x1.map e_Known))], [], []⟩] [0, 3] [3] [7] [] [(0, .row 7 1)] [] [(7, .o 67 5 1 (x1.map e_Known))] [] (.cons (Pe.ren (slices_Clone_api_Known_api_Known_ok l x h0) ⟨[], [(5, 7)], [], []⟩) (.cons (Pe.ren (slices_DeleteFunc_api_Known_api_Known_v1_ok k0 x 0 0 false x1 h1) ⟨[(100000, 3)], [(100000, 7)], [], []⟩) .nil)) ?_
 refine Wk_seq ?_
 obtain ⟨x2, h2, hF⟩ := ob_elim hF
 refine ZR [.callR [3] [7] [] [] (.i x2)] [0, 3, 5] [3] [7] [(5, .i x2)] (.cons (Pe.ren (slices_IndexFunc_api_Known_api_Known_v4_ok k0 x1 0 0 false x2 h2) ⟨[(100000, 3)], [(100000, 7)], [], [(100000, 1)]⟩) .nil) ?_
 refine Wk_seq ?_
 refine ZRs [] [0, 3, 5, 14] [3] [7] [(14, .bool (decide (x2 < 0)))] .nil ?_
 obtain ⟨v, hv, hF⟩ := ob_elim hF
 refine Wk_meet (⟨[(0, .row 7 1), (3, .ptr 3 0), (5, .i v)], [(3, (c_Known k0))], [(7, .o 67 5 1 (x1.map e_Known))], [], []⟩ : S) ?_ ?_
 ·have hF := hv
  refine Wk_split rfl (fun hb => ?_) (fun hb => ?_)
  ·have hF := ite_t hF hb
   refine ZR [.nat (x1.length : Int)] [0, 3, 5] [3] [7] [(5, .i (x1.length : Int))] (.cons (len_ok e_Known x1) .nil) ?_
   exact Wk_met (fs := [0, 3, 5]) (bs := [3]) (rs := [7]) (ms := []) (aa := []) (nv := []) (by first | (rw [← some_elim hF]; kernel_rfl) | kernel_rfl)
  ·have hF := ite_f hF hb
   refine Wk_skip ?_
   exact Wk_met (fs := [0, 3, 5]) (bs := [3]) (rs := [7]) (ms := []) (aa := []) (nv := []) (by first | (rw [← some_elim hF]; kernel_rfl) | kernel_rfl)
 ·refine Wk_seq ?_
  obtain ⟨x3, h3, hF⟩ := ob_elim hF
  refine UR [.callE [] [7] [] [] (.row 7 2) ⟨[], [], [(7, .o 67 5 2 (x3.map e_Known))], [], []⟩] [4] [] [7] [] [(4, .row 7 2)] [] [(7, .o 67 5 2 (x3.map e_Known))] [] (.cons (Pe.ren (slices_Insert_api_Known_api_Known_ok v [k0] x1 0 0 false x3 h3) ⟨[], [(100000, 7)], [], [(100000, 1)]⟩) .nil) ?_
  have hF := some_elim hF
  exact Wk_ret (hfin _ ⟨[7], [], [7], [], [], [], by first | (rw [← hF]; kernel_rfl) | kernel_rfl⟩)

end G
end Go.Proofs.Ytdjlninhfndjfaa
