/- The program's functions as plain functions, and that they are these. Written by a program (dec2.py). -/
import Derived.Test.YtdjlninhfndjfaaTys
namespace Go.Proofs.Ytdjlninhfndjfaa
open Go Go.Dm
set_option linter.unusedVariables false
set_option linter.unusedSimpArgs false
set_option maxRecDepth 100000
namespace G
/- tabularylaw.lopsided -/
noncomputable def law_lopsided  : Board :=
 lt ([(⟨(⟨([] : List UInt8), ([104] : List UInt8), 1⟩ : Part), 2, 1, 1⟩ : Slot), (⟨(⟨([104] : List UInt8), ([112] : List UInt8), 2⟩ : Part), 2, 1, 2⟩ : Slot), (⟨(⟨([112] : List UInt8), ([] : List UInt8), 3⟩ : Part), 2, 1, 3⟩ : Slot)]) fun (v : List Slot) =>
 (⟨[(⟨1, 1, true⟩ : Host), (⟨2, 1, true⟩ : Host)], v, 3, 4⟩ : Board)
theorem law_lopsided_ok  (r : Board) (hF : law_lopsided  = r) : Pe Try.prog 100 S.none [] (.agg (c_Board r)) S.none := by
 refine PeN 15 [.cell 0 62] [62] Ty.ok Fn.b100 Try.func100 ?_
 intro Q g hfin
 unfold law_lopsided at hF
 refine VR [] [0] [0] [] [] [(0, .ptr 0 0)] [(0, [.nils, .nils, .i 0, .i 0])] [] [] .nil ?_
 refine VR [.sealed] [0, 1] [0, 1] [] [] [(1, .ptr 1 0)] [(1, [.sl 3 ([(⟨1, 1, true⟩ : Host), (⟨2, 1, true⟩ : Host)].map e_Host), .nils, .i 3, .i 4])] [] [] .nil ?_
 refine NRL ([(⟨(⟨([] : List UInt8), ([104] : List UInt8), 1⟩ : Part), 2, 1, 1⟩ : Slot), (⟨(⟨([104] : List UInt8), ([112] : List UInt8), 2⟩ : Part), 2, 1, 2⟩ : Slot), (⟨(⟨([112] : List UInt8), ([] : List UInt8), 3⟩ : Part), 2, 1, 3⟩ : Slot)]) (fun v : List Slot => ([], [(1, [.sl 3 ([(⟨1, 1, true⟩ : Host), (⟨2, 1, true⟩ : Host)].map e_Host), .sl 6 (v.map e_Slot), .i 3, .i 4])], [], [])) [.sealed] [0, 1] [0, 1] [] [] .nil (fun v hv => ?_)
 have hF := lt_elim hF hv
 refine VR [] [0] [0] [] [] [] [(0, [.sl 3 ([(⟨1, 1, true⟩ : Host), (⟨2, 1, true⟩ : Host)].map e_Host), .sl 6 (v.map e_Slot), .i 3, .i 4])] [] [] .nil ?_
 cases hF
 exact Wk_ret (hfin _ ⟨[], [], [], [], [], [], by kernel_rfl⟩)

/- assign.fault -/
noncomputable def assign_fault (code : Int) (at0 : Int) : Fault :=
 (⟨code, at0⟩ : Fault)
theorem assign_fault_ok (code : Int) (at0 : Int) (r : Fault) (hF : assign_fault code at0 = r) : Pe Try.prog 88 S.none [.i code, .i at0] (.agg (c_Fault r)) S.none := by
 refine PeN 8 [.cell 4 26] [26] Ty.ok Fn.b88 Try.func88 ?_
 intro Q g hfin
 unfold assign_fault at hF
 refine VR [] [0, 1, 4] [4] [] [] [(4, .ptr 4 0)] [(4, [.i 0, .i 0])] [] [] .nil ?_
 refine VR [] [4] [4] [] [] [] [(4, [.i code, .i at0])] [] [] .nil ?_
 cases hF
 exact Wk_ret (hfin _ ⟨[], [], [], [], [], [], by kernel_rfl⟩)

/- assign.number -/
noncomputable def assign_number (num : Int) : Bool :=
 (decide (1 ≤ num)) && (decide (num ≤ 1000000000))
theorem assign_number_ok (num : Int) (r : Bool) (hF : assign_number num = r) : Pe Try.prog 89 S.none [.i num] (.bool r) S.none := by
 refine PeN 9 [.tmp 2] [4] Ty.ok Fn.b89 Try.func89 ?_
 intro Q g hfin
 unfold assign_number at hF
 refine NR [] [0] [] [] [] .nil ?_
 refine NR [] [2] [] [] [(2, .bool ((decide (1 ≤ num)) && (decide (num ≤ 1000000000))))] .nil ?_
 cases hF
 exact Wk_ret (hfin _ ⟨[], [], [], [], [], [], by kernel_rfl⟩)

/- assign.Parts -/
noncomputable def assign_Parts_J1 (v1 : List Part) : Option (List Part) :=
 some v1
noncomputable def assign_Parts_B1 (b : Board) (v2 : List Part × Int) : Option ((List Part × Int) ⊕ (List Part)) :=
 if (decide (v2.2 < (b.Slots.length : Int))) = true then
  asrt (0 ≤ v2.2 ∧ v2.2 < (b.Slots.length : Int)) <|
  asrt (0 ≤ v2.2 ∧ v2.2 < (v2.1.length : Int)) <|
  asrt (0 ≤ v2.2 ∧ v2.2 < (v2.1.length : Int)) <|
  lt ((lset v2.1 v2.2 (⟨((lget b.Slots v2.2).Part).From, ((lget b.Slots v2.2).Part).To, ((lget b.Slots v2.2).Part).ID⟩ : Part))) fun (v3 : List Part) =>
  some (Sum.inl (v3, w64 (v2.2 + 1)))
 else
  inrO (assign_Parts_J1 v2.1)
noncomputable def assign_Parts_L1 (b : Board) (v0 : List Part × Int) : Option (List Part) :=
 loopO (fun y => assign_Parts_B1 b y) v0
noncomputable def assign_Parts (b : Board) : Option (List Part) :=
 asrt (0 ≤ ((b.Slots.length : Int) : Int) ∧ (b.Slots.length : Int) ≤ (b.Slots.length : Int) ∧ (b.Slots.length : Int) * 40 ≤ 140737488351232) <|
 lt ((List.replicate (b.Slots.length : Int).toNat ((⟨([] : List UInt8), ([] : List UInt8), 0⟩ : Part) : Part))) fun (v : List Part) =>
 assign_Parts_L1 b (v, 0)
theorem assign_Parts_ok (b : Board) (r : List Part) (hF : assign_Parts b = some r) : Pe Try.prog 90 S.none [.agg (c_Board b)] (.row 9 0) ⟨[], [], [(9, .o 34 3 0 (r.map e_Part))], [], []⟩ := by
 refine PeN 25 [.tmp 2] [22] Ty.ok Fn.b90 Try.func90 ?_
 intro Q g hfin
 unfold assign_Parts at hF
 refine VR [] [1] [1] [] [] [(1, .ptr 1 0)] [(1, (c_Board b))] [] [] .nil ?_
 obtain ⟨h0, hF⟩ := asrt_elim hF
 refine NRL ((List.replicate (b.Slots.length : Int).toNat ((⟨([] : List UInt8), ([] : List UInt8), 0⟩ : Part) : Part))) (fun v : List Part => ([(3, .row 9 0)], [], [(9, .o 34 3 0 (v.map e_Part))], [])) [.nat (b.Slots.length : Int), .xs ((List.replicate (b.Slots.length : Int).toNat ((⟨([] : List UInt8), ([] : List UInt8), 0⟩ : Part) : Part)).map e_Part)] [1, 3] [1] [9] [] (hc (len_ok e_Slot b.Slots) (hc (mk_ok h0) (hc (rep_ok e_Part (b.Slots.length : Int) ((⟨([] : List UInt8), ([] : List UInt8), 0⟩ : Part) : Part)) .nil))) (fun v hv => ?_)
 have hF := lt_elim hF hv
 refine NR [.nat (b.Slots.length : Int)] [3, 11, 12, 13] [] [9] [(11, .sl 6 (b.Slots.map e_Slot)), (12, .i (b.Slots.length : Int)), (13, .i 0)] (hc (len_ok e_Slot b.Slots) .nil) ?_
 refine NmeetP (fun v1 : List Part => (⟨[(3, .row 9 0)], [], [(9, .o 34 3 0 (v1.map e_Part))], [], []⟩ : S)) (fun v1 => assign_Parts_J1 v1 = some r) ?_ ?_
 ·refine Nblk ?_
  unfold assign_Parts_L1 at hF
  refine Niter (fun v2 : List Part × Int => (⟨[(3, .row 9 0), (11, .sl 6 (b.Slots.map e_Slot)), (12, .i (b.Slots.length : Int)), (13, .i v2.2)], [], [(9, .o 34 3 0 (v2.1.map e_Part))], [], []⟩ : S)) [] hF (by kernel_rfl) ?_
  intro n1 v2 y1 hF ih1 dn1
  unfold assign_Parts_B1 at hF
  refine NR [] [3, 11, 12, 13, 14] [] [9] [(14, .bool (decide (v2.2 < (b.Slots.length : Int))))] .nil ?_
  refine Nif hF (fun hb hF => ?_) (fun hb hF => ?_)
  ·refine Nblk ?_
   obtain ⟨h1, hF⟩ := asrt_elim hF
   refine VR [.av (e_Slot (lget b.Slots v2.2))] [3, 4, 5, 11, 12, 13] [5] [9] [] [(4, .i v2.2), (5, .ptr 5 0)] [(5, [.str (((lget b.Slots v2.2).Part).From), .str (((lget b.Slots v2.2).Part).To), .i (((lget b.Slots v2.2).Part).ID), .i ((lget b.Slots v2.2).State), .i ((lget b.Slots v2.2).Host), .i ((lget b.Slots v2.2).Turn)])] [] [] (hc (idx_ok e_Slot h1) .nil) ?_
   obtain ⟨h2, h3, hF⟩ := asrt2 hF
   refine NRL ((lset v2.1 v2.2 (⟨((lget b.Slots v2.2).Part).From, ((lget b.Slots v2.2).Part).To, ((lget b.Slots v2.2).Part).ID⟩ : Part))) (fun v3 : List Part => ([], [], [(9, .o 34 3 0 (v3.map e_Part))], [])) [.av (e_Part (lget v2.1 v2.2)), .xs ((lset v2.1 v2.2 (⟨((lget b.Slots v2.2).Part).From, ((lget b.Slots v2.2).Part).To, ((lget b.Slots v2.2).Part).ID⟩ : Part)).map e_Part)] [3, 11, 12, 13] [] [9] [] (hc (ixr_ok e_Part h2) (hc (ldr_ok e_Part h3) (hc (set_ok e_Part v2.1 v2.2 (⟨((lget b.Slots v2.2).Part).From, ((lget b.Slots v2.2).Part).To, ((lget b.Slots v2.2).Part).ID⟩ : Part)) (hc (Nat.zero_le v2.2.toNat) .nil)))) (fun v3 hv => ?_)
   have hF := lt_elim hF hv
   refine NR [] [3, 11, 12, 13] [] [9] [(13, .i (w64 (v2.2 + 1)))] .nil ?_
   exact Nrnd [] hF ih1 (by kernel_rfl)
  ·refine Nexit rfl ?_
   have hF := inrO_done hF dn1
   exact metP v2.1 [] hF (by kernel_rfl)
 ·intro v1 hF
  have hF : assign_Parts_J1 v1 = some r := hF
  unfold assign_Parts_J1 at hF
  refine NR [] [2] [] [9] [(2, .row 9 0)] .nil ?_
  cases hF
  exact Wk_ret (hfin _ ⟨[9], [], [9], [], [], [], by kernel_rfl⟩)

/- parts.fault -/
noncomputable def parts_fault (code : Int) (at0 : Int) : Fault :=
 (⟨code, at0⟩ : Fault)
theorem parts_fault_ok (code : Int) (at0 : Int) (r : Fault) (hF : parts_fault code at0 = r) : Pe Try.prog 68 S.none [.i code, .i at0] (.agg (c_Fault r)) S.none := by
 refine PeN 8 [.cell 4 26] [26] Ty.ok Fn.b68 Try.func68 ?_
 intro Q g hfin
 unfold parts_fault at hF
 refine VR [] [0, 1, 4] [4] [] [] [(4, .ptr 4 0)] [(4, [.i 0, .i 0])] [] [] .nil ?_
 refine VR [] [4] [4] [] [] [] [(4, [.i code, .i at0])] [] [] .nil ?_
 cases hF
 exact Wk_ret (hfin _ ⟨[], [], [], [], [], [], by kernel_rfl⟩)

/- parts.number -/
noncomputable def parts_number (num : Int) : Bool :=
 (decide (0 ≤ num)) && (decide (num ≤ 1000000000))
theorem parts_number_ok (num : Int) (r : Bool) (hF : parts_number num = r) : Pe Try.prog 69 S.none [.i num] (.bool r) S.none := by
 refine PeN 9 [.tmp 2] [4] Ty.ok Fn.b69 Try.func69 ?_
 intro Q g hfin
 unfold parts_number at hF
 refine NR [] [0] [] [] [] .nil ?_
 refine NR [] [2] [] [] [(2, .bool ((decide (0 ≤ num)) && (decide (num ≤ 1000000000))))] .nil ?_
 cases hF
 exact Wk_ret (hfin _ ⟨[], [], [], [], [], [], by kernel_rfl⟩)

/- parts.Check -/
noncomputable def parts_Check_J1 (v : Unit) : Option Fault :=
 some (⟨0, 0⟩ : Fault)
noncomputable def parts_Check_B1 (l : List Part) (v1 : (List (Int × Int)) × List UInt8 × Int) : Option (((List (Int × Int)) × List UInt8 × Int) ⊕ Fault) :=
 if (decide (v1.2.2 < (l.length : Int))) = true then
  asrt (0 ≤ v1.2.2 ∧ v1.2.2 < (l.length : Int)) <|
  if ((decide (40 < (((lget l v1.2.2).From).length : Int))) || (decide (40 < (((lget l v1.2.2).To).length : Int)))) = true then
   lt (parts_fault 8 v1.2.2) fun x2 =>
   some (Sum.inr x2)
  else
   lt (parts_number ((lget l v1.2.2).ID)) fun x3 =>
   if (!x3) = true then
    lt (parts_fault 3 v1.2.2) fun x4 =>
    some (Sum.inr x4)
   else
    if (((!decide (((lget l v1.2.2).From) = v1.2.1)) || (!((decide (v1.2.2 = (w64 ((l.length : Int) - 1)))) == (decide (((lget l v1.2.2).To) = ([] : List UInt8)))))) || ((!(decide (v1.2.2 = (w64 ((l.length : Int) - 1))))) && (!Op.bytesLess ((lget l v1.2.2).From) ((lget l v1.2.2).To)))) = true then
     lt (parts_fault 5 v1.2.2) fun x5 =>
     some (Sum.inr x5)
    else
     if (decide (0 < ((mget v1.1 ((lget l v1.2.2).ID)).getD (0 : Int)))) = true then
      lt (parts_fault 10 v1.2.2) fun x6 =>
      some (Sum.inr x6)
     else
      some (Sum.inl ((mput v1.1 ((lget l v1.2.2).ID) (1 : Int)), (lget l v1.2.2).To, w64 (v1.2.2 + 1)))
 else
  inrO (parts_Check_J1 ())
noncomputable def parts_Check_L1 (l : List Part) (v0 : (List (Int × Int)) × List UInt8 × Int) : Option Fault :=
 loopO (fun y => parts_Check_B1 l y) v0
noncomputable def parts_Check (l : List Part) : Option Fault :=
 if (decide ((l.length : Int) = 0)) = true then
  lt (parts_fault 6 (-1)) fun x =>
  some x
 else
  if (decide (200 < (l.length : Int))) = true then
   lt (parts_fault 2 (-1)) fun x1 =>
   some x1
  else
   parts_Check_L1 l (([] : List (Int × Int)), ([] : List UInt8), 0)
theorem parts_Check_ok (l : List Part) (r : Fault) (hF : parts_Check l = some r) : Pe Try.prog 17 S.none [.sl 3 (l.map e_Part)] (.agg (c_Fault r)) S.none := by
 refine PeN 89 [.cell 2 26] [26] Ty.ok Fn.b17 Try.func17 ?_
 intro Q g hfin
 unfold parts_Check at hF
 refine VR [] [0, 2] [2] [] [] [(2, .ptr 2 0)] [(2, [.i 0, .i 0])] [] [] .nil ?_
 refine NR [.nat (l.length : Int)] [0, 2, 10] [2] [] [(10, .bool (decide ((l.length : Int) = 0)))] (hc (len_ok e_Part l) .nil) ?_
 refine Nif hF (fun hb hF => ?_) (fun hb hF => ?_)
 ·obtain ⟨x, h0, hF⟩ := lt_split hF
  refine VR [.callB (.agg (c_Fault x))] [2] [2] [] [] [] [(2, (c_Fault x))] [] [] (hc (parts_fault_ok 6 (-1) x h0) .nil) ?_
  cases hF
  exact Wk_ret (hfin _ ⟨[], [], [], [], [], [], by kernel_rfl⟩)
 ·refine NR [.nat (l.length : Int)] [0, 2, 14] [2] [] [(14, .bool (decide (200 < (l.length : Int))))] (hc (len_ok e_Part l) .nil) ?_
  refine Nif hF (fun hb hF => ?_) (fun hb hF => ?_)
  ·obtain ⟨x1, h1, hF⟩ := lt_split hF
   refine VR [.callB (.agg (c_Fault x1))] [2] [2] [] [] [] [(2, (c_Fault x1))] [] [] (hc (parts_fault_ok 2 (-1) x1 h1) .nil) ?_
   cases hF
   exact Wk_ret (hfin _ ⟨[], [], [], [], [], [], by kernel_rfl⟩)
  ·refine VR [] [0, 2, 3] [2] [] [16] [(3, .mp 16)] [] [] [(16, (([] : List (Int × Int)).map (fun p => (e_i64 p.1, e_i64 p.2))))] .nil ?_
   refine VR [] [0, 2, 3, 4] [2] [] [16] [(4, .str ([] : List UInt8))] [] [] [] .nil ?_
   refine VR [.nat (l.length : Int)] [0, 2, 3, 4, 17, 18, 19] [2] [] [16] [(17, .sl 3 (l.map e_Part)), (18, .i (l.length : Int)), (19, .i 0)] [] [] [] (hc (len_ok e_Part l) .nil) ?_
   refine NmeetP (fun v : Unit => (⟨[(2, .ptr 2 0)], [(2, [.i 0, .i 0])], [], [], []⟩ : S)) (fun v => parts_Check_J1 v = some r) ?_ ?_
   ·refine Nblk ?_
    unfold parts_Check_L1 at hF
    refine Niter (fun v1 : (List (Int × Int)) × List UInt8 × Int => (⟨[(0, .sl 3 (l.map e_Part)), (2, .ptr 2 0), (3, .mp 16), (4, .str v1.2.1), (17, .sl 3 (l.map e_Part)), (18, .i (l.length : Int)), (19, .i v1.2.2)], [(2, [.i 0, .i 0])], [], [(16, (v1.1.map (fun p => (e_i64 p.1, e_i64 p.2))))], []⟩ : S)) [] hF (by kernel_rfl) ?_
    intro n1 v1 y1 hF ih1 dn1
    unfold parts_Check_B1 at hF
    refine VR [] [0, 2, 3, 4, 17, 18, 19, 20] [2] [] [16] [(20, .bool (decide (v1.2.2 < (l.length : Int))))] [] [] [] .nil ?_
    refine Nif hF (fun hb hF => ?_) (fun hb hF => ?_)
    ·refine Nblk ?_
     obtain ⟨h2, hF⟩ := asrt_elim hF
     refine VR [.av (e_Part (lget l v1.2.2))] [0, 2, 3, 4, 5, 6, 17, 18, 19] [2, 6] [] [16] [(5, .i v1.2.2), (6, .ptr 6 0)] [(6, (c_Part (lget l v1.2.2)))] [] [] (hc (idx_ok e_Part h2) .nil) ?_
     refine VR [.nat (l.length : Int)] [0, 2, 3, 4, 5, 6, 7, 17, 18, 19] [2, 6] [] [16] [(7, .bool (decide (v1.2.2 = (w64 ((l.length : Int) - 1)))))] [] [] [] (hc (len_ok e_Part l) .nil) ?_
     refine Nblk ?_
     refine VR [] [0, 2, 3, 4, 5, 6, 7, 17, 18, 19, 29] [2, 6] [] [16] [(29, .bool ((decide (40 < (((lget l v1.2.2).From).length : Int))) || (decide (40 < (((lget l v1.2.2).To).length : Int)))))] [] [] [] .nil ?_
     refine Nif hF (fun hb hF => ?_) (fun hb hF => ?_)
     ·obtain ⟨x2, h3, hF⟩ := lt_split hF
      refine VR [.callB (.agg (c_Fault x2))] [2] [2] [] [] [] [(2, (c_Fault x2))] [] [] (hc (parts_fault_ok 8 v1.2.2 x2 h3) .nil) ?_
      have hF := ret_done hF dn1
      cases hF
      exact Wk_ret (hfin _ ⟨[], [], [], [], [], [], by kernel_rfl⟩)
     ·obtain ⟨x3, h4, hF⟩ := lt_split hF
      refine VR [.callB (.bool x3)] [0, 2, 3, 4, 5, 6, 7, 17, 18, 19, 42] [2, 6] [] [16] [(42, .bool (!x3))] [] [] [] (hc (parts_number_ok ((lget l v1.2.2).ID) x3 h4) .nil) ?_
      refine Nif hF (fun hb hF => ?_) (fun hb hF => ?_)
      ·obtain ⟨x4, h5, hF⟩ := lt_split hF
       refine VR [.callB (.agg (c_Fault x4))] [2] [2] [] [] [] [(2, (c_Fault x4))] [] [] (hc (parts_fault_ok 3 v1.2.2 x4 h5) .nil) ?_
       have hF := ret_done hF dn1
       cases hF
       exact Wk_ret (hfin _ ⟨[], [], [], [], [], [], by kernel_rfl⟩)
      ·refine VR [] [0, 2, 3, 5, 6, 17, 18, 19, 49] [2, 6] [] [16] [(49, .bool (((!decide (((lget l v1.2.2).From) = v1.2.1)) || (!((decide (v1.2.2 = (w64 ((l.length : Int) - 1)))) == (decide (((lget l v1.2.2).To) = ([] : List UInt8)))))) || ((!(decide (v1.2.2 = (w64 ((l.length : Int) - 1))))) && (!Op.bytesLess ((lget l v1.2.2).From) ((lget l v1.2.2).To)))))] [] [] [] .nil ?_
       refine Nif hF (fun hb hF => ?_) (fun hb hF => ?_)
       ·obtain ⟨x5, h6, hF⟩ := lt_split hF
        refine VR [.callB (.agg (c_Fault x5))] [2] [2] [] [] [] [(2, (c_Fault x5))] [] [] (hc (parts_fault_ok 5 v1.2.2 x5 h6) .nil) ?_
        have hF := ret_done hF dn1
        cases hF
        exact Wk_ret (hfin _ ⟨[], [], [], [], [], [], by kernel_rfl⟩)
       ·refine VR [.av (e_i64 ((mget v1.1 ((lget l v1.2.2).ID)).getD (0 : Int))), .bo ((mget v1.1 ((lget l v1.2.2).ID)).isSome)] [0, 2, 3, 5, 6, 17, 18, 19, 74] [2, 6] [] [16] [(74, .bool (decide (0 < ((mget v1.1 ((lget l v1.2.2).ID)).getD (0 : Int)))))] [] [] [] (hc (mkeys_ok (kenc_i64 : KEnc _ e_i64) e_i64 v1.1) (hc (mlook_ok (kenc_i64 : KEnc _ e_i64) e_i64 v1.1 ((lget l v1.2.2).ID) (0 : Int)) (hc (msome_ok (kenc_i64 : KEnc _ e_i64) e_i64 v1.1 ((lget l v1.2.2).ID)) .nil))) ?_
        refine Nif hF (fun hb hF => ?_) (fun hb hF => ?_)
        ·obtain ⟨x6, h7, hF⟩ := lt_split hF
         refine VR [.callB (.agg (c_Fault x6))] [2] [2] [] [] [] [(2, (c_Fault x6))] [] [] (hc (parts_fault_ok 10 v1.2.2 x6 h7) .nil) ?_
         have hF := ret_done hF dn1
         cases hF
         exact Wk_ret (hfin _ ⟨[], [], [], [], [], [], by kernel_rfl⟩)
        ·refine VD [.ms ((mput v1.1 ((lget l v1.2.2).ID) (1 : Int)).map (fun p => (e_i64 p.1, e_i64 p.2)))] [0, 2, 3, 4, 17, 18, 19] [2] [] [16] [(4, .str ((lget l v1.2.2).To))] [] [] [(16, ((mput v1.1 ((lget l v1.2.2).ID) (1 : Int)).map (fun p => (e_i64 p.1, e_i64 p.2))))] (hc (mkeys_ok (kenc_i64 : KEnc _ e_i64) e_i64 v1.1) (hc (mput_ok (kenc_i64 : KEnc _ e_i64) e_i64 v1.1 ((lget l v1.2.2).ID) (1 : Int)) .nil)) ?_
         refine VR [] [0, 2, 3, 4, 17, 18, 19] [2] [] [16] [(19, .i (w64 (v1.2.2 + 1)))] [] [] [] .nil ?_
         exact Nrnd [] hF ih1 (by kernel_rfl)
    ·refine Nexit rfl ?_
     have hF := inrO_done hF dn1
     exact metP () [] hF (by kernel_rfl)
   ·intro v hF
    have hF : parts_Check_J1 v = some r := hF
    unfold parts_Check_J1 at hF
    refine NR [] [2] [2] [] [] .nil ?_
    cases hF
    exact Wk_ret (hfin _ ⟨[], [], [], [], [], [], by kernel_rfl⟩)

/- assign.HostAt$1 -/
noncomputable def assign_HostAt_1 (hh : Host) (box : Int) : Bool :=
 (decide (hh.ID = box)) && hh.Alive
theorem assign_HostAt_1_ok (hh : Host) (box : Int) (r : Bool) (hF : assign_HostAt_1 hh box = r) : Pe Try.prog 118 ⟨[], [(100000, [.i box])], [], [], []⟩ [.agg (c_Host hh), .ptr 100000 0] (.bool r) ⟨[], [(100000, [.i box])], [], [], []⟩ := by
 refine PeN 12 [.tmp 3] [4] Ty.ok Fn.b118 Try.func118 ?_
 intro Q g hfin
 unfold assign_HostAt_1 at hF
 refine VR [] [1, 2] [2, 100000] [] [] [(2, .ptr 2 0)] [(2, (c_Host hh))] [] [] .nil ?_
 refine NR [] [3] [100000] [] [(3, .bool ((decide (hh.ID = box)) && hh.Alive))] .nil ?_
 cases hF
 exact Wk_ret (hfin _ ⟨[], [100000], [], [], [], [], by kernel_rfl⟩)

/- slices.IndexFunc[[]api.Host,api.Host] -/
noncomputable def slices_IndexFunc_api_Host_api_Host_J1 (v : Unit) : Option Int :=
 some (-1)
noncomputable def slices_IndexFunc_api_Host_api_Host_B1 (s0 : List Host) (box : Int) (v1 : Int) : Option (Int ⊕ Int) :=
 if (decide (v1 < (s0.length : Int))) = true then
  asrt (0 ≤ v1 ∧ v1 < (s0.length : Int)) <|
  lt (assign_HostAt_1 (⟨(lget s0 v1).ID, (lget s0 v1).Epoch, (lget s0 v1).Alive⟩ : Host) box) fun x =>
  if x = true then
   some (Sum.inr v1)
  else
   some (Sum.inl (w64 (v1 + 1)))
 else
  inrO (slices_IndexFunc_api_Host_api_Host_J1 ())
noncomputable def slices_IndexFunc_api_Host_api_Host_L1 (s0 : List Host) (box : Int) (v0 : Int) : Option Int :=
 loopO (fun y => slices_IndexFunc_api_Host_api_Host_B1 s0 box y) v0
noncomputable def slices_IndexFunc_api_Host_api_Host (s0 : List Host) (box : Int) : Option Int :=
 slices_IndexFunc_api_Host_api_Host_L1 s0 box 0
theorem slices_IndexFunc_api_Host_api_Host_ok (s0 : List Host) (box : Int) (r : Int) (hF : slices_IndexFunc_api_Host_api_Host s0 box = some r) : Pe Try.prog 117 ⟨[], [(100000, [.i box])], [], [], []⟩ [.sl 3 (s0.map e_Host), .fn 118 [.ptr 100000 0]] (.i r) ⟨[], [(100000, [.i box])], [], [], []⟩ := by
 refine PeN 19 [.tmp 4] [3] Ty.ok Fn.b117 Try.func117 ?_
 intro Q g hfin
 unfold slices_IndexFunc_api_Host_api_Host at hF
 refine NR [] [0, 1] [100000] [] [] .nil ?_
 refine NR [.nat (s0.length : Int)] [0, 1, 7, 8] [100000] [] [(7, .i (s0.length : Int)), (8, .i 0)] (hc (len_ok e_Host s0) .nil) ?_
 refine NmeetP (fun v : Unit => (⟨[], [(100000, [.i box])], [], [], []⟩ : S)) (fun v => slices_IndexFunc_api_Host_api_Host_J1 v = some r) ?_ ?_
 ·refine Nblk ?_
  unfold slices_IndexFunc_api_Host_api_Host_L1 at hF
  refine Niter (fun v1 : Int => (⟨[(0, .sl 3 (s0.map e_Host)), (1, .fn 118 [.ptr 100000 0]), (7, .i (s0.length : Int)), (8, .i v1)], [(100000, [.i box])], [], [], []⟩ : S)) [] hF (by kernel_rfl) ?_
  intro n1 v1 y1 hF ih1 dn1
  unfold slices_IndexFunc_api_Host_api_Host_B1 at hF
  refine NR [] [0, 1, 7, 8, 9] [100000] [] [(9, .bool (decide (v1 < (s0.length : Int))))] .nil ?_
  refine Nif hF (fun hb hF => ?_) (fun hb hF => ?_)
  ·refine Nblk ?_
   refine NR [] [0, 1, 5, 7, 8] [100000] [] [(5, .i v1)] .nil ?_
   obtain ⟨h0, hF⟩ := asrt_elim hF
   obtain ⟨x, h1, hF⟩ := lt_split hF
   refine NR [.av (e_Host (lget s0 v1)), .callR [100000] [] [] [] (.bool x)] [0, 1, 5, 7, 8, 16] [100000] [] [(16, .bool x)] (hc (idx_ok e_Host h0) (hc (Pe.ren (assign_HostAt_1_ok (⟨(lget s0 v1).ID, (lget s0 v1).Epoch, (lget s0 v1).Alive⟩ : Host) box x h1) ⟨[], [], [], []⟩) .nil)) ?_
   refine Nif hF (fun hb hF => ?_) (fun hb hF => ?_)
   ·refine NR [] [4] [100000] [] [(4, .i v1)] .nil ?_
    have hF := ret_done hF dn1
    cases hF
    exact Wk_ret (hfin _ ⟨[], [100000], [], [], [], [], by kernel_rfl⟩)
   ·refine NR [] [0, 1, 7, 8] [100000] [] [(8, .i (w64 (v1 + 1)))] .nil ?_
    exact Nrnd [] hF ih1 (by kernel_rfl)
  ·refine Nexit rfl ?_
   have hF := inrO_done hF dn1
   exact metP () [] hF (by kernel_rfl)
 ·intro v hF
  have hF : slices_IndexFunc_api_Host_api_Host_J1 v = some r := hF
  unfold slices_IndexFunc_api_Host_api_Host_J1 at hF
  refine NR [] [4] [100000] [] [(4, .i (-1))] .nil ?_
  cases hF
  exact Wk_ret (hfin _ ⟨[], [100000], [], [], [], [], by kernel_rfl⟩)

/- assign.HostAt -/
noncomputable def assign_HostAt (b : Board) (id : Int) : Option Int :=
 ob (slices_IndexFunc_api_Host_api_Host b.Hosts id) fun x =>
 some x
theorem assign_HostAt_ok (b : Board) (id : Int) (r : Int) (hF : assign_HostAt b id = some r) : Pe Try.prog 91 S.none [.agg (c_Board b), .i id] (.i r) S.none := by
 refine PeN 9 [.tmp 4] [3] Ty.ok Fn.b91 Try.func91 ?_
 intro Q g hfin
 unfold assign_HostAt at hF
 refine VR [] [2, 3] [2, 3] [] [] [(2, .ptr 2 0), (3, .ptr 3 0)] [(2, (c_Board b)), (3, [.i id])] [] [] .nil ?_
 obtain ⟨x, h0, hF⟩ := ob_elim hF
 refine NR [.callR [3] [] [] [] (.i x)] [4] [] [] [(4, .i x)] (hc (Pe.ren (slices_IndexFunc_api_Host_api_Host_ok b.Hosts id x h0) ⟨[(100000, 3)], [], [], []⟩) .nil) ?_
 cases hF
 exact Wk_ret (hfin _ ⟨[], [], [], [], [], [], by kernel_rfl⟩)

/- assign.Check -/
noncomputable def assign_Check_J2 (v1 : Unit) : Option Fault :=
 some (⟨0, 0⟩ : Fault)
noncomputable def assign_Check_B1 (b : Board) (v2 : (List (Int × Int)) × Int) : Option (((List (Int × Int)) × Int) ⊕ Fault) :=
 if (decide (v2.2 < (b.Slots.length : Int))) = true then
  asrt (0 ≤ v2.2 ∧ v2.2 < (b.Slots.length : Int)) <|
  ob (
   if ((((((decide (((lget b.Slots v2.2).State) < 0)) || (decide (3 < ((lget b.Slots v2.2).State)))) || (decide (((lget b.Slots v2.2).Turn) < 0))) || (decide (b.Turn < ((lget b.Slots v2.2).Turn)))) || (decide ((((lget b.Slots v2.2).Part).ID) < 1))) || (decide (b.Next ≤ (((lget b.Slots v2.2).Part).ID)))) = true then
    some 3
   else
    if ((decide (((lget b.Slots v2.2).State) = 0)) && (!decide (((lget b.Slots v2.2).Host) = 0))) = true then
     some 11
    else
     ob (if (!decide (((lget b.Slots v2.2).State) = 0)) = true then (assign_HostAt b ((lget b.Slots v2.2).Host)) else some default) fun x7 =>
     if ((!decide (((lget b.Slots v2.2).State) = 0)) && (decide (x7 < 0))) = true then
      some 6
     else
      if ((!decide (((lget b.Slots v2.2).State) = 0)) && (decide (((lget b.Slots v2.2).Turn) = 0))) = true then
       some 3
      else
       if (decide (0 < ((mget v2.1 ((lget b.Slots v2.2).Turn)).getD (0 : Int)))) = true then
        some 10
       else
        some 0) fun (v3 : Int) =>
  if (!decide (v3 = 0)) = true then
   lt (assign_fault v3 (w64 ((-2001) - v2.2))) fun x8 =>
   some (Sum.inr x8)
  else
   lt ((mput v2.1 ((lget b.Slots v2.2).Turn) ((lget b.Slots v2.2).Turn : Int))) fun (v4 : (List (Int × Int))) =>
   some (Sum.inl (v4, w64 (v2.2 + 1)))
 else
  inrO (assign_Check_J2 ())
noncomputable def assign_Check_L1 (b : Board) (v0 : (List (Int × Int)) × Int) : Option Fault :=
 loopO (fun y => assign_Check_B1 b y) v0
noncomputable def assign_Check_J1 (b : Board) (v : Unit) : Option Fault :=
 lt (assign_number b.Turn) fun x1 =>
 lt (assign_number b.Next) fun x2 =>
 if (((!decide (b.Turn = 0)) && (!x1)) || (!x2)) = true then
  lt (assign_fault 3 (-2)) fun x3 =>
  some x3
 else
  ob (assign_Parts b) fun x4 =>
  ob (parts_Check x4) fun x5 =>
  if (!decide (x5.Code = 0)) = true then
   lt (assign_fault x5.Code (w64 (x5.At - 1000))) fun x6 =>
   some x6
  else
   assign_Check_L1 b (([] : List (Int × Int)), 0)
noncomputable def assign_Check_B2 (b : Board) (v5 : (List (Int × Int)) × Int) : Option (((List (Int × Int)) × Int) ⊕ Fault) :=
 if (decide (v5.2 < (b.Hosts.length : Int))) = true then
  asrt (0 ≤ v5.2 ∧ v5.2 < (b.Hosts.length : Int)) <|
  lt (assign_number ((lget b.Hosts v5.2).ID)) fun x9 =>
  lt (assign_number ((lget b.Hosts v5.2).Epoch)) fun x10 =>
  if ((!x9) || (!x10)) = true then
   lt (assign_fault 3 v5.2) fun x11 =>
   some (Sum.inr x11)
  else
   if (decide (0 < ((mget v5.1 ((lget b.Hosts v5.2).ID)).getD (0 : Int)))) = true then
    lt (assign_fault 10 v5.2) fun x12 =>
    some (Sum.inr x12)
   else
    some (Sum.inl ((mput v5.1 ((lget b.Hosts v5.2).ID) (1 : Int)), w64 (v5.2 + 1)))
 else
  inrO (assign_Check_J1 b ())
noncomputable def assign_Check_L2 (b : Board) (v0 : (List (Int × Int)) × Int) : Option Fault :=
 loopO (fun y => assign_Check_B2 b y) v0
noncomputable def assign_Check (b : Board) : Option Fault :=
 if (decide (20 < (b.Hosts.length : Int))) = true then
  lt (assign_fault 2 (-1)) fun x =>
  some x
 else
  assign_Check_L2 b (([] : List (Int × Int)), 0)
theorem assign_Check_ok (b : Board) (r : Fault) (hF : assign_Check b = some r) : Pe Try.prog 52 S.none [.agg (c_Board b)] (.agg (c_Fault r)) S.none := by
 refine PeN 170 [.cell 2 26] [26] Ty.ok Fn.b52 Try.func52 ?_
 intro Q g hfin
 unfold assign_Check at hF
 refine VR [] [1, 2] [1, 2] [] [] [(1, .ptr 1 0), (2, .ptr 2 0)] [(1, (c_Board b)), (2, [.i 0, .i 0])] [] [] .nil ?_
 refine NR [.nat (b.Hosts.length : Int)] [1, 2, 14] [1, 2] [] [(14, .bool (decide (20 < (b.Hosts.length : Int))))] (hc (len_ok e_Host b.Hosts) .nil) ?_
 refine Nif hF (fun hb hF => ?_) (fun hb hF => ?_)
 ·obtain ⟨x, h0, hF⟩ := lt_split hF
  refine VR [.callB (.agg (c_Fault x))] [2] [2] [] [] [] [(2, (c_Fault x))] [] [] (hc (assign_fault_ok 2 (-1) x h0) .nil) ?_
  cases hF
  exact Wk_ret (hfin _ ⟨[], [], [], [], [], [], by kernel_rfl⟩)
 ·refine VR [] [1, 2, 3] [1, 2] [] [16] [(3, .mp 16)] [] [] [(16, (([] : List (Int × Int)).map (fun p => (e_i64 p.1, e_i64 p.2))))] .nil ?_
  refine VR [.nat (b.Hosts.length : Int)] [1, 2, 3, 18, 19, 20] [1, 2] [] [16] [(18, .sl 3 (b.Hosts.map e_Host)), (19, .i (b.Hosts.length : Int)), (20, .i 0)] [] [] [] (hc (len_ok e_Host b.Hosts) .nil) ?_
  refine NmeetP (fun v : Unit => (⟨[(1, .ptr 1 0), (2, .ptr 2 0)], [(1, (c_Board b)), (2, [.i 0, .i 0])], [], [], []⟩ : S)) (fun v => assign_Check_J1 b v = some r) ?_ ?_
  ·refine Nblk ?_
   unfold assign_Check_L2 at hF
   refine Niter (fun v5 : (List (Int × Int)) × Int => (⟨[(1, .ptr 1 0), (2, .ptr 2 0), (3, .mp 16), (18, .sl 3 (b.Hosts.map e_Host)), (19, .i (b.Hosts.length : Int)), (20, .i v5.2)], [(1, (c_Board b)), (2, [.i 0, .i 0])], [], [(16, (v5.1.map (fun p => (e_i64 p.1, e_i64 p.2))))], []⟩ : S)) [] hF (by kernel_rfl) ?_
   intro n1 v5 y1 hF ih1 dn1
   unfold assign_Check_B2 at hF
   refine VR [] [1, 2, 3, 18, 19, 20, 21] [1, 2] [] [16] [(21, .bool (decide (v5.2 < (b.Hosts.length : Int))))] [] [] [] .nil ?_
   refine Nif hF (fun hb hF => ?_) (fun hb hF => ?_)
   ·refine Nblk ?_
    obtain ⟨h10, hF⟩ := asrt_elim hF
    refine VR [.av (e_Host (lget b.Hosts v5.2))] [1, 2, 3, 4, 5, 18, 19, 20] [1, 2, 5] [] [16] [(4, .i v5.2), (5, .ptr 5 0)] [(5, (c_Host (lget b.Hosts v5.2)))] [] [] (hc (idx_ok e_Host h10) .nil) ?_
    refine Nblk ?_
    obtain ⟨x9, h11, hF⟩ := lt_split hF
    obtain ⟨x10, h12, hF⟩ := lt_split hF
    refine VR [.callB (.bool x9), .callB (.bool x10)] [1, 2, 3, 4, 5, 18, 19, 20, 25] [1, 2, 5] [] [16] [(25, .bool ((!x9) || (!x10)))] [] [] [] (hc (assign_number_ok ((lget b.Hosts v5.2).ID) x9 h11) (hc (fun (ga0 : (!(!x9)) = true) => (assign_number_ok ((lget b.Hosts v5.2).Epoch) x10 h12)) .nil)) ?_
    refine Nif hF (fun hb hF => ?_) (fun hb hF => ?_)
    ·obtain ⟨x11, h13, hF⟩ := lt_split hF
     refine VR [.callB (.agg (c_Fault x11))] [2] [2] [] [] [] [(2, (c_Fault x11))] [] [] (hc (assign_fault_ok 3 v5.2 x11 h13) .nil) ?_
     have hF := ret_done hF dn1
     cases hF
     exact Wk_ret (hfin _ ⟨[], [], [], [], [], [], by kernel_rfl⟩)
    ·refine VR [.av (e_i64 ((mget v5.1 ((lget b.Hosts v5.2).ID)).getD (0 : Int))), .bo ((mget v5.1 ((lget b.Hosts v5.2).ID)).isSome)] [1, 2, 3, 4, 5, 18, 19, 20, 38] [1, 2, 5] [] [16] [(38, .bool (decide (0 < ((mget v5.1 ((lget b.Hosts v5.2).ID)).getD (0 : Int)))))] [] [] [] (hc (mkeys_ok (kenc_i64 : KEnc _ e_i64) e_i64 v5.1) (hc (mlook_ok (kenc_i64 : KEnc _ e_i64) e_i64 v5.1 ((lget b.Hosts v5.2).ID) (0 : Int)) (hc (msome_ok (kenc_i64 : KEnc _ e_i64) e_i64 v5.1 ((lget b.Hosts v5.2).ID)) .nil))) ?_
     refine Nif hF (fun hb hF => ?_) (fun hb hF => ?_)
     ·obtain ⟨x12, h14, hF⟩ := lt_split hF
      refine VR [.callB (.agg (c_Fault x12))] [2] [2] [] [] [] [(2, (c_Fault x12))] [] [] (hc (assign_fault_ok 10 v5.2 x12 h14) .nil) ?_
      have hF := ret_done hF dn1
      cases hF
      exact Wk_ret (hfin _ ⟨[], [], [], [], [], [], by kernel_rfl⟩)
     ·refine VR [.ms ((mput v5.1 ((lget b.Hosts v5.2).ID) (1 : Int)).map (fun p => (e_i64 p.1, e_i64 p.2)))] [1, 2, 3, 18, 19, 20] [1, 2] [] [16] [] [] [] [(16, ((mput v5.1 ((lget b.Hosts v5.2).ID) (1 : Int)).map (fun p => (e_i64 p.1, e_i64 p.2))))] (hc (mkeys_ok (kenc_i64 : KEnc _ e_i64) e_i64 v5.1) (hc (mput_ok (kenc_i64 : KEnc _ e_i64) e_i64 v5.1 ((lget b.Hosts v5.2).ID) (1 : Int)) .nil)) ?_
      refine VR [] [1, 2, 3, 18, 19, 20] [1, 2] [] [16] [(20, .i (w64 (v5.2 + 1)))] [] [] [] .nil ?_
      exact Nrnd [] hF ih1 (by kernel_rfl)
   ·refine Nexit rfl ?_
    have hF := inrO_done hF dn1
    exact metP () [] hF (by kernel_rfl)
  ·intro v hF
   have hF : assign_Check_J1 b v = some r := hF
   unfold assign_Check_J1 at hF
   obtain ⟨x1, h1, hF⟩ := lt_split hF
   obtain ⟨x2, h2, hF⟩ := lt_split hF
   refine NR [.callB (.bool x1), .callB (.bool x2)] [1, 2, 64] [1, 2] [] [(64, .bool (((!decide (b.Turn = 0)) && (!x1)) || (!x2)))] (hc (fun (ga0 : (!decide (b.Turn = 0)) = true) => (assign_number_ok b.Turn x1 h1)) (hc (fun (ga0 : (!((!decide (b.Turn = 0)) && (!x1))) = true) => (assign_number_ok b.Next x2 h2)) .nil)) ?_
   refine Nif hF (fun hb hF => ?_) (fun hb hF => ?_)
   ·obtain ⟨x3, h3, hF⟩ := lt_split hF
    refine VR [.callB (.agg (c_Fault x3))] [2] [2] [] [] [] [(2, (c_Fault x3))] [] [] (hc (assign_fault_ok 3 (-2) x3 h3) .nil) ?_
    cases hF
    exact Wk_ret (hfin _ ⟨[], [], [], [], [], [], by kernel_rfl⟩)
   ·obtain ⟨x4, h4, hF⟩ := ob_elim hF
    obtain ⟨x5, h5, hF⟩ := ob_elim hF
    refine VR [.callE [] [] [] [] (.row 67 0) ⟨[], [], [(67, .o 34 3 0 (x4.map e_Part))], [], []⟩, .callB (.agg (c_Fault x5))] [1, 2, 6] [1, 2, 6] [] [] [(6, .ptr 6 0)] [(6, (c_Fault x5))] [] [] (hc (Pe.ren (assign_Parts_ok b x4 h4) ⟨[], [(9, 67)], [], []⟩) (hc (parts_Check_ok x4 x5 h5) .nil)) ?_
    refine NR [] [1, 2, 6, 71] [1, 2, 6] [] [(71, .bool (!decide (x5.Code = 0)))] .nil ?_
    refine Nif hF (fun hb hF => ?_) (fun hb hF => ?_)
    ·obtain ⟨x6, h6, hF⟩ := lt_split hF
     refine VR [.callB (.agg (c_Fault x6))] [2] [2] [] [] [] [(2, (c_Fault x6))] [] [] (hc (assign_fault_ok x5.Code (w64 (x5.At - 1000)) x6 h6) .nil) ?_
     cases hF
     exact Wk_ret (hfin _ ⟨[], [], [], [], [], [], by kernel_rfl⟩)
    ·refine VR [] [1, 2, 7] [1, 2] [] [78] [(7, .mp 78)] [] [] [(78, (([] : List (Int × Int)).map (fun p => (e_i64 p.1, e_i64 p.2))))] .nil ?_
     refine VR [.nat (b.Slots.length : Int)] [1, 2, 7, 80, 81, 82] [1, 2] [] [78] [(80, .sl 6 (b.Slots.map e_Slot)), (81, .i (b.Slots.length : Int)), (82, .i 0)] [] [] [] (hc (len_ok e_Slot b.Slots) .nil) ?_
     refine NmeetP (fun v1 : Unit => (⟨[(2, .ptr 2 0)], [(2, [.i 0, .i 0])], [], [], []⟩ : S)) (fun v1 => assign_Check_J2 v1 = some r) ?_ ?_
     ·refine Nblk ?_
      unfold assign_Check_L1 at hF
      refine Niter (fun v2 : (List (Int × Int)) × Int => (⟨[(1, .ptr 1 0), (2, .ptr 2 0), (7, .mp 78), (80, .sl 6 (b.Slots.map e_Slot)), (81, .i (b.Slots.length : Int)), (82, .i v2.2)], [(1, (c_Board b)), (2, [.i 0, .i 0])], [], [(78, (v2.1.map (fun p => (e_i64 p.1, e_i64 p.2))))], []⟩ : S)) [] hF (by kernel_rfl) ?_
      intro n1 v2 y1 hF ih1 dn1
      unfold assign_Check_B1 at hF
      refine VR [] [1, 2, 7, 80, 81, 82, 83] [1, 2] [] [78] [(83, .bool (decide (v2.2 < (b.Slots.length : Int))))] [] [] [] .nil ?_
      refine Nif hF (fun hb hF => ?_) (fun hb hF => ?_)
      ·refine Nblk ?_
       obtain ⟨h7, hF⟩ := asrt_elim hF
       refine VR [.av (e_Slot (lget b.Slots v2.2))] [1, 2, 7, 8, 9, 80, 81, 82] [1, 2, 9] [] [78] [(8, .i v2.2), (9, .ptr 9 0)] [(9, [.str (((lget b.Slots v2.2).Part).From), .str (((lget b.Slots v2.2).Part).To), .i (((lget b.Slots v2.2).Part).ID), .i ((lget b.Slots v2.2).State), .i ((lget b.Slots v2.2).Host), .i ((lget b.Slots v2.2).Turn)])] [] [] (hc (idx_ok e_Slot h7) .nil) ?_
       refine VR [] [1, 2, 7, 8, 9, 10, 80, 81, 82] [1, 2, 9] [] [78] [(10, .i 0)] [] [] [] .nil ?_
       refine Nblk ?_
       refine VR [] [1, 2, 7, 8, 9, 10, 80, 81, 82, 87] [1, 2, 9] [] [78] [(87, .bool ((((((decide (((lget b.Slots v2.2).State) < 0)) || (decide (3 < ((lget b.Slots v2.2).State)))) || (decide (((lget b.Slots v2.2).Turn) < 0))) || (decide (b.Turn < ((lget b.Slots v2.2).Turn)))) || (decide ((((lget b.Slots v2.2).Part).ID) < 1))) || (decide (b.Next ≤ (((lget b.Slots v2.2).Part).ID)))))] [] [] [] .nil ?_
       obtain ⟨v3, hv, hF⟩ := ob_elim hF
       refine Nmeet (⟨[(1, .ptr 1 0), (2, .ptr 2 0), (7, .mp 78), (8, .i v2.2), (9, .ptr 9 0), (10, .i v3), (80, .sl 6 (b.Slots.map e_Slot)), (81, .i (b.Slots.length : Int)), (82, .i v2.2)], [(1, (c_Board b)), (2, [.i 0, .i 0]), (9, [.str (((lget b.Slots v2.2).Part).From), .str (((lget b.Slots v2.2).Part).To), .i (((lget b.Slots v2.2).Part).ID), .i ((lget b.Slots v2.2).State), .i ((lget b.Slots v2.2).Host), .i ((lget b.Slots v2.2).Turn)])], [], [(78, (v2.1.map (fun p => (e_i64 p.1, e_i64 p.2))))], []⟩ : S) ?_ ?_
       ·have hF := hv
        refine Nif hF (fun hb hF => ?_) (fun hb hF => ?_)
        ·refine VR [] [1, 2, 7, 8, 9, 10, 80, 81, 82] [1, 2, 9] [] [78] [(10, .i 3)] [] [] [] .nil ?_
         cases hF
         exact met [] (by kernel_rfl)
        ·refine VR [] [1, 2, 7, 8, 9, 10, 80, 81, 82, 122] [1, 2, 9] [] [78] [(122, .bool ((decide (((lget b.Slots v2.2).State) = 0)) && (!decide (((lget b.Slots v2.2).Host) = 0))))] [] [] [] .nil ?_
         refine Nif hF (fun hb hF => ?_) (fun hb hF => ?_)
         ·refine VR [] [1, 2, 7, 8, 9, 10, 80, 81, 82] [1, 2, 9] [] [78] [(10, .i 11)] [] [] [] .nil ?_
          cases hF
          exact met [] (by kernel_rfl)
         ·obtain ⟨x7, h8, hF⟩ := ob_elim hF
          refine VR [.callB (.i x7)] [1, 2, 7, 8, 9, 10, 80, 81, 82, 131] [1, 2, 9] [] [78] [(131, .bool ((!decide (((lget b.Slots v2.2).State) = 0)) && (decide (x7 < 0))))] [] [] [] (hc (fun (ga0 : (!decide (((lget b.Slots v2.2).State) = 0)) = true) => (assign_HostAt_ok b ((lget b.Slots v2.2).Host) x7 (ite_t h8 ga0))) .nil) ?_
          refine Nif hF (fun hb hF => ?_) (fun hb hF => ?_)
          ·refine VR [] [1, 2, 7, 8, 9, 10, 80, 81, 82] [1, 2, 9] [] [78] [(10, .i 6)] [] [] [] .nil ?_
           cases hF
           exact met [] (by kernel_rfl)
          ·refine VR [] [1, 2, 7, 8, 9, 10, 80, 81, 82, 142] [1, 2, 9] [] [78] [(142, .bool ((!decide (((lget b.Slots v2.2).State) = 0)) && (decide (((lget b.Slots v2.2).Turn) = 0))))] [] [] [] .nil ?_
           refine Nif hF (fun hb hF => ?_) (fun hb hF => ?_)
           ·refine VR [] [1, 2, 7, 8, 9, 10, 80, 81, 82] [1, 2, 9] [] [78] [(10, .i 3)] [] [] [] .nil ?_
            cases hF
            exact met [] (by kernel_rfl)
           ·refine VR [.av (e_i64 ((mget v2.1 ((lget b.Slots v2.2).Turn)).getD (0 : Int))), .bo ((mget v2.1 ((lget b.Slots v2.2).Turn)).isSome)] [1, 2, 7, 8, 9, 10, 80, 81, 82, 151] [1, 2, 9] [] [78] [(151, .bool (decide (0 < ((mget v2.1 ((lget b.Slots v2.2).Turn)).getD (0 : Int)))))] [] [] [] (hc (mkeys_ok (kenc_i64 : KEnc _ e_i64) e_i64 v2.1) (hc (mlook_ok (kenc_i64 : KEnc _ e_i64) e_i64 v2.1 ((lget b.Slots v2.2).Turn) (0 : Int)) (hc (msome_ok (kenc_i64 : KEnc _ e_i64) e_i64 v2.1 ((lget b.Slots v2.2).Turn)) .nil))) ?_
            refine Nif hF (fun hb hF => ?_) (fun hb hF => ?_)
            ·refine VR [] [1, 2, 7, 8, 9, 10, 80, 81, 82] [1, 2, 9] [] [78] [(10, .i 10)] [] [] [] .nil ?_
             cases hF
             exact met [] (by kernel_rfl)
            ·cases hF
             exact met [] (by kernel_rfl)
       ·refine VR [] [1, 2, 7, 8, 9, 10, 80, 81, 82, 158] [1, 2, 9] [] [78] [(158, .bool (!decide (v3 = 0)))] [] [] [] .nil ?_
        refine Nif hF (fun hb hF => ?_) (fun hb hF => ?_)
        ·obtain ⟨x8, h9, hF⟩ := lt_split hF
         refine VR [.callB (.agg (c_Fault x8))] [2] [2] [] [] [] [(2, (c_Fault x8))] [] [] (hc (assign_fault_ok v3 (w64 ((-2001) - v2.2)) x8 h9) .nil) ?_
         have hF := ret_done hF dn1
         cases hF
         exact Wk_ret (hfin _ ⟨[], [], [], [], [], [], by kernel_rfl⟩)
        ·refine NRL ((mput v2.1 ((lget b.Slots v2.2).Turn) ((lget b.Slots v2.2).Turn : Int))) (fun v4 : (List (Int × Int)) => ([], [], [], [(78, (v4.map (fun p => (e_i64 p.1, e_i64 p.2))))])) [.ms ((mput v2.1 ((lget b.Slots v2.2).Turn) ((lget b.Slots v2.2).Turn : Int)).map (fun p => (e_i64 p.1, e_i64 p.2)))] [1, 2, 7, 80, 81, 82] [1, 2] [] [78] (hc (mkeys_ok (kenc_i64 : KEnc _ e_i64) e_i64 v2.1) (hc (mput_ok (kenc_i64 : KEnc _ e_i64) e_i64 v2.1 ((lget b.Slots v2.2).Turn) ((lget b.Slots v2.2).Turn : Int)) .nil)) (fun v4 hv => ?_)
         have hF := lt_elim hF hv
         refine VR [] [1, 2, 7, 80, 81, 82] [1, 2] [] [78] [(82, .i (w64 (v2.2 + 1)))] [] [] [] .nil ?_
         exact Nrnd [] hF ih1 (by kernel_rfl)
      ·refine Nexit rfl ?_
       have hF := inrO_done hF dn1
       exact metP () [] hF (by kernel_rfl)
     ·intro v1 hF
      have hF : assign_Check_J2 v1 = some r := hF
      unfold assign_Check_J2 at hF
      refine NR [] [2] [2] [] [] .nil ?_
      cases hF
      exact Wk_ret (hfin _ ⟨[], [], [], [], [], [], by kernel_rfl⟩)

/- assign.Loads -/
noncomputable def assign_Loads_J1 (v : List Int) : Option (List Int) :=
 some v
noncomputable def assign_Loads_B1 (b : Board) (v1 : List Int × Int) : Option ((List Int × Int) ⊕ (List Int)) :=
 if (decide (v1.2 < (b.Slots.length : Int))) = true then
  asrt (0 ≤ v1.2 ∧ v1.2 < (b.Slots.length : Int)) <|
  ob (assign_HostAt b ((lget b.Slots v1.2).Host)) fun x =>
  ob (
   if (decide (0 ≤ x)) = true then
    asrt (0 ≤ x ∧ x < (v1.1.length : Int)) <|
    asrt (0 ≤ x ∧ x < (v1.1.length : Int)) <|
    asrt (0 ≤ x ∧ x < (v1.1.length : Int)) <|
    asrt (0 ≤ x ∧ x < (v1.1.length : Int)) <|
    some (lset v1.1 x (w64 ((lget v1.1 x) + 1)))
   else
    some v1.1) fun (v2 : List Int) =>
  some (Sum.inl (v2, w64 (v1.2 + 1)))
 else
  inrO (assign_Loads_J1 v1.1)
noncomputable def assign_Loads_L1 (b : Board) (v0 : List Int × Int) : Option (List Int) :=
 loopO (fun y => assign_Loads_B1 b y) v0
noncomputable def assign_Loads (b : Board) : Option (List Int) :=
 asrt (0 ≤ ((b.Hosts.length : Int) : Int) ∧ (b.Hosts.length : Int) ≤ (b.Hosts.length : Int) ∧ (b.Hosts.length : Int) * 8 ≤ 140737488351232) <|
 assign_Loads_L1 b ((List.replicate (b.Hosts.length : Int).toNat (0 : Int)), 0)
theorem assign_Loads_ok (b : Board) (r : List Int) (hF : assign_Loads b = some r) : Pe Try.prog 97 S.none [.agg (c_Board b)] (.row 10 0) ⟨[], [], [(10, .o 3 1 0 (r.map e_i64))], [], []⟩ := by
 refine PeN 32 [.tmp 2] [109] Ty.ok Fn.b97 Try.func97 ?_
 intro Q g hfin
 unfold assign_Loads at hF
 refine VR [] [1] [1] [] [] [(1, .ptr 1 0)] [(1, (c_Board b))] [] [] .nil ?_
 obtain ⟨h0, hF⟩ := asrt_elim hF
 refine VR [.nat (b.Hosts.length : Int), .xs ((List.replicate (b.Hosts.length : Int).toNat (0 : Int)).map e_i64)] [1, 3] [1] [10] [] [(3, .row 10 0)] [] [(10, .o 3 1 0 ((List.replicate (b.Hosts.length : Int).toNat (0 : Int)).map e_i64))] [] (hc (len_ok e_Host b.Hosts) (hc (mk_ok h0) (hc (rep_ok e_i64 (b.Hosts.length : Int) (0 : Int)) .nil))) ?_
 refine NR [.nat (b.Slots.length : Int)] [1, 3, 12, 13, 14] [1] [10] [(12, .sl 6 (b.Slots.map e_Slot)), (13, .i (b.Slots.length : Int)), (14, .i 0)] (hc (len_ok e_Slot b.Slots) .nil) ?_
 refine NmeetP (fun v : List Int => (⟨[(3, .row 10 0)], [], [(10, .o 3 1 0 (v.map e_i64))], [], []⟩ : S)) (fun v => assign_Loads_J1 v = some r) ?_ ?_
 ·refine Nblk ?_
  unfold assign_Loads_L1 at hF
  refine Niter (fun v1 : List Int × Int => (⟨[(1, .ptr 1 0), (3, .row 10 0), (12, .sl 6 (b.Slots.map e_Slot)), (13, .i (b.Slots.length : Int)), (14, .i v1.2)], [(1, (c_Board b))], [(10, .o 3 1 0 (v1.1.map e_i64))], [], []⟩ : S)) [] hF (by kernel_rfl) ?_
  intro n1 v1 y1 hF ih1 dn1
  unfold assign_Loads_B1 at hF
  refine NR [] [1, 3, 12, 13, 14, 15] [1] [10] [(15, .bool (decide (v1.2 < (b.Slots.length : Int))))] .nil ?_
  refine Nif hF (fun hb hF => ?_) (fun hb hF => ?_)
  ·refine Nblk ?_
   obtain ⟨h1, hF⟩ := asrt_elim hF
   refine VR [.av (e_Slot (lget b.Slots v1.2))] [1, 3, 5, 12, 13, 14] [1, 5] [10] [] [(5, .ptr 5 0)] [(5, [.str (((lget b.Slots v1.2).Part).From), .str (((lget b.Slots v1.2).Part).To), .i (((lget b.Slots v1.2).Part).ID), .i ((lget b.Slots v1.2).State), .i ((lget b.Slots v1.2).Host), .i ((lget b.Slots v1.2).Turn)])] [] [] (hc (idx_ok e_Slot h1) .nil) ?_
   obtain ⟨x, h2, hF⟩ := ob_elim hF
   refine NR [.callB (.i x)] [1, 3, 6, 12, 13, 14] [1] [10] [(6, .i x)] (hc (assign_HostAt_ok b ((lget b.Slots v1.2).Host) x h2) .nil) ?_
   refine NR [] [1, 3, 6, 12, 13, 14, 23] [1] [10] [(23, .bool (decide (0 ≤ x)))] .nil ?_
   obtain ⟨v2, hv, hF⟩ := ob_elim hF
   refine Nmeet (⟨[(1, .ptr 1 0), (3, .row 10 0), (12, .sl 6 (b.Slots.map e_Slot)), (13, .i (b.Slots.length : Int)), (14, .i v1.2)], [(1, (c_Board b))], [(10, .o 3 1 0 (v2.map e_i64))], [], []⟩ : S) ?_ ?_
   ·have hF := hv
    refine Nif hF (fun hb hF => ?_) (fun hb hF => ?_)
    ·obtain ⟨h3, hF⟩ := asrt_elim hF
     obtain ⟨h4, h5, hF⟩ := asrt2 hF
     obtain ⟨h6, hF⟩ := asrt_elim hF
     refine VR [.av (e_i64 (lget v1.1 x)), .av (e_i64 (lget v1.1 x)), .xs ((lset v1.1 x (w64 ((lget v1.1 x) + 1))).map e_i64)] [1, 3, 12, 13, 14] [1] [10] [] [] [] [(10, .o 3 1 0 ((lset v1.1 x (w64 ((lget v1.1 x) + 1))).map e_i64))] [] (hc (ixr_ok e_i64 h3) (hc (ldr_ok e_i64 h4) (hc (ixr_ok e_i64 h5) (hc (ldr_ok e_i64 h6) (hc (set_ok e_i64 v1.1 x (w64 ((lget v1.1 x) + 1))) (hc (Nat.zero_le x.toNat) .nil)))))) ?_
     cases hF
     exact met [] (by kernel_rfl)
    ·cases hF
     exact met [] (by kernel_rfl)
   ·refine NR [] [1, 3, 12, 13, 14] [1] [10] [(14, .i (w64 (v1.2 + 1)))] .nil ?_
    exact Nrnd [] hF ih1 (by kernel_rfl)
  ·refine Nexit rfl ?_
   have hF := inrO_done hF dn1
   exact metP v1.1 [] hF (by kernel_rfl)
 ·intro v hF
  have hF : assign_Loads_J1 v = some r := hF
  unfold assign_Loads_J1 at hF
  refine NR [] [2] [] [10] [(2, .row 10 0)] .nil ?_
  cases hF
  exact Wk_ret (hfin _ ⟨[10], [], [10], [], [], [], by kernel_rfl⟩)

/- balance.Loads -/
noncomputable def balance_Loads (b : Board) : Option (List Int × Fault) :=
 ob (assign_Check b) fun x =>
 if (!decide (x.Code = 0)) = true then
  some (([] : List Int), x)
 else
  ob (assign_Loads b) fun x1 =>
  some (x1, (⟨0, 0⟩ : Fault))
theorem balance_Loads_ok (b : Board) (r : List Int × Fault) (hF : balance_Loads b = some r) : Pe Try.prog 62 S.none [.agg (c_Board b)] (.tup [.row 12 0, .agg (c_Fault r.2)]) ⟨[], [], [(12, .o 3 1 0 (r.1.map e_i64))], [], []⟩ := by
 refine PeN 14 [.tmp 2, .cell 3 26] [109, 26] Ty.ok Fn.b62 Try.func62 ?_
 intro Q g hfin
 unfold balance_Loads at hF
 refine VR [] [1, 3] [1, 3] [] [] [(1, .ptr 1 0), (3, .ptr 3 0)] [(1, (c_Board b)), (3, [.i 0, .i 0])] [] [] .nil ?_
 obtain ⟨x, h0, hF⟩ := ob_elim hF
 refine VR [.callB (.agg (c_Fault x))] [1, 3, 4] [1, 3, 4] [] [] [(4, .ptr 4 0)] [(4, (c_Fault x))] [] [] (hc (assign_Check_ok b x h0) .nil) ?_
 refine NR [] [1, 3, 4, 9] [1, 3, 4] [] [(9, .bool (!decide (x.Code = 0)))] .nil ?_
 refine Nif hF (fun hb hF => ?_) (fun hb hF => ?_)
 ·refine VD [] [2, 3] [3] [] [] [(2, .nils)] [(3, (c_Fault x))] [] [] .nil ?_
  cases hF
  refine Wk_nilrow 2 60000 3 1 rfl rfl rfl ?_
  refine Wk_ren' ⟨[], [(60000, 12)], [], []⟩ rfl ?_
  exact Wk_ret (hfin _ ⟨[12], [], [12], [], [], [(12, ⟨0, true, false, false⟩)], by kernel_rfl⟩)
 ·obtain ⟨x1, h1, hF⟩ := ob_elim hF
  refine VR [.callE [] [] [] [] (.row 12 0) ⟨[], [], [(12, .o 3 1 0 (x1.map e_i64))], [], []⟩] [2, 3] [3] [12] [] [(2, .row 12 0)] [] [(12, .o 3 1 0 (x1.map e_i64))] [] (hc (Pe.ren (assign_Loads_ok b x1 h1) ⟨[], [(10, 12)], [], []⟩) .nil) ?_
  cases hF
  exact Wk_ret (hfin _ ⟨[12], [], [12], [], [], [], by kernel_rfl⟩)

/- balance.ends -/
noncomputable def balance_ends_J1 (v : Int × Int) : Option (Int × Int) :=
 some (v.1, v.2)
noncomputable def balance_ends_B1 (b : Board) (loads : List Int) (v1 : Int × Int × Int) : Option ((Int × Int × Int) ⊕ (Int × Int)) :=
 if (decide (v1.2.2 < (b.Hosts.length : Int))) = true then
  ob (
   asrt (0 ≤ v1.2.2 ∧ v1.2.2 < (b.Hosts.length : Int)) <|
   if (!((lget b.Hosts v1.2.2).Alive)) = true then
    some (v1.1, v1.2.1)
   else
    asrt ((!(decide (v1.1 < 0))) = true → 0 ≤ v1.2.2 ∧ v1.2.2 < (loads.length : Int)) <|
    asrt ((!(decide (v1.1 < 0))) = true → 0 ≤ v1.1 ∧ v1.1 < (loads.length : Int)) <|
    ob (
     if ((decide (v1.1 < 0)) || (decide ((lget loads v1.1) < (lget loads v1.2.2)))) = true then
      some v1.2.2
     else
      some v1.1) fun (v3 : Int) =>
    asrt ((!(decide (v1.2.1 < 0))) = true → 0 ≤ v1.2.2 ∧ v1.2.2 < (loads.length : Int)) <|
    asrt ((!(decide (v1.2.1 < 0))) = true → 0 ≤ v1.2.1 ∧ v1.2.1 < (loads.length : Int)) <|
    if ((decide (v1.2.1 < 0)) || (decide ((lget loads v1.2.2) < (lget loads v1.2.1)))) = true then
     some (v3, v1.2.2)
    else
     some (v3, v1.2.1)) fun (v2 : Int × Int) =>
  some (Sum.inl (v2.1, v2.2, w64 (v1.2.2 + 1)))
 else
  inrO (balance_ends_J1 (v1.1, v1.2.1))
noncomputable def balance_ends_L1 (b : Board) (loads : List Int) (v0 : Int × Int × Int) : Option (Int × Int) :=
 loopO (fun y => balance_ends_B1 b loads y) v0
noncomputable def balance_ends (b : Board) (loads : List Int) : Option (Int × Int) :=
 balance_ends_L1 b loads ((-1), (-1), 0)
theorem balance_ends_ok (b : Board) (loads : List Int) (r : Int × Int) (hF : balance_ends b loads = some r) : Pe Try.prog 101 S.none [.agg (c_Board b), .sl 1 (loads.map e_i64)] (.tup [.i r.1, .i r.2]) S.none := by
 refine PeN 50 [.tmp 4, .tmp 5] [3, 3] Ty.ok Fn.b101 Try.func101 ?_
 intro Q g hfin
 unfold balance_ends at hF
 refine VR [] [1, 2] [2] [] [] [(2, .ptr 2 0)] [(2, (c_Board b))] [] [] .nil ?_
 refine NR [] [1, 2, 4, 5] [2] [] [(4, .i (-1)), (5, .i (-1))] .nil ?_
 refine NR [.nat (b.Hosts.length : Int)] [1, 4, 5, 9, 10, 11] [] [] [(9, .sl 3 (b.Hosts.map e_Host)), (10, .i (b.Hosts.length : Int)), (11, .i 0)] (hc (len_ok e_Host b.Hosts) .nil) ?_
 refine NmeetP (fun v : Int × Int => (⟨[(4, .i v.1), (5, .i v.2)], [], [], [], []⟩ : S)) (fun v => balance_ends_J1 v = some r) ?_ ?_
 ·refine Nblk ?_
  unfold balance_ends_L1 at hF
  refine Niter (fun v1 : Int × Int × Int => (⟨[(1, .sl 1 (loads.map e_i64)), (4, .i v1.1), (5, .i v1.2.1), (9, .sl 3 (b.Hosts.map e_Host)), (10, .i (b.Hosts.length : Int)), (11, .i v1.2.2)], [], [], [], []⟩ : S)) [] hF (by kernel_rfl) ?_
  intro n1 v1 y1 hF ih1 dn1
  unfold balance_ends_B1 at hF
  refine NR [] [1, 4, 5, 9, 10, 11, 12] [] [] [(12, .bool (decide (v1.2.2 < (b.Hosts.length : Int))))] .nil ?_
  refine Nif hF (fun hb hF => ?_) (fun hb hF => ?_)
  ·obtain ⟨v2, hv, hF⟩ := ob_elim hF
   refine Nmeet (⟨[(1, .sl 1 (loads.map e_i64)), (4, .i v2.1), (5, .i v2.2), (9, .sl 3 (b.Hosts.map e_Host)), (10, .i (b.Hosts.length : Int)), (11, .i v1.2.2)], [], [], [], []⟩ : S) ?_ ?_
   ·have hF := hv
    refine Nblk ?_
    obtain ⟨h0, hF⟩ := asrt_elim hF
    refine VR [.av (e_Host (lget b.Hosts v1.2.2))] [1, 4, 5, 6, 7, 9, 10, 11] [7] [] [] [(6, .i v1.2.2), (7, .ptr 7 0)] [(7, (c_Host (lget b.Hosts v1.2.2)))] [] [] (hc (idx_ok e_Host h0) .nil) ?_
    refine NR [] [1, 4, 5, 6, 9, 10, 11, 18] [] [] [(18, .bool (!((lget b.Hosts v1.2.2).Alive)))] .nil ?_
    refine Nif hF (fun hb hF => ?_) (fun hb hF => ?_)
    ·refine Nexit rfl ?_
     cases hF
     exact met [] (by kernel_rfl)
    ·obtain ⟨h1, hF⟩ := asrt_elim hF
     obtain ⟨h2, hF⟩ := asrt_elim hF
     refine ND [.av (e_i64 (lget loads v1.2.2)), .av (e_i64 (lget loads v1.1))] [1, 4, 5, 6, 9, 10, 11, 31] [] [] [(31, .bool ((decide (v1.1 < 0)) || (decide ((lget loads v1.1) < (lget loads v1.2.2)))))] (hc (fun (ga0 : (!(decide (v1.1 < 0))) = true) => (idx_ok e_i64 (h1 ga0))) (hc (fun (ga0 : (!(decide (v1.1 < 0))) = true) => (idx_ok e_i64 (h2 ga0))) .nil)) ?_
     obtain ⟨v3, hv, hF⟩ := ob_elim hF
     refine Nmeet (⟨[(1, .sl 1 (loads.map e_i64)), (4, .i v3), (5, .i v1.2.1), (6, .i v1.2.2), (9, .sl 3 (b.Hosts.map e_Host)), (10, .i (b.Hosts.length : Int)), (11, .i v1.2.2)], [], [], [], []⟩ : S) ?_ ?_
     ·have hF := hv
      refine Nif hF (fun hb hF => ?_) (fun hb hF => ?_)
      ·refine NR [] [1, 4, 5, 6, 9, 10, 11] [] [] [(4, .i v1.2.2)] .nil ?_
       cases hF
       exact met [] (by kernel_rfl)
      ·cases hF
       exact met [] (by kernel_rfl)
     ·obtain ⟨h3, hF⟩ := asrt_elim hF
      obtain ⟨h4, hF⟩ := asrt_elim hF
      refine ND [.av (e_i64 (lget loads v1.2.2)), .av (e_i64 (lget loads v1.2.1))] [1, 4, 5, 6, 9, 10, 11, 45] [] [] [(45, .bool ((decide (v1.2.1 < 0)) || (decide ((lget loads v1.2.2) < (lget loads v1.2.1)))))] (hc (fun (ga0 : (!(decide (v1.2.1 < 0))) = true) => (idx_ok e_i64 (h3 ga0))) (hc (fun (ga0 : (!(decide (v1.2.1 < 0))) = true) => (idx_ok e_i64 (h4 ga0))) .nil)) ?_
      refine Nif hF (fun hb hF => ?_) (fun hb hF => ?_)
      ·refine NR [] [1, 4, 5, 9, 10, 11] [] [] [(5, .i v1.2.2)] .nil ?_
       cases hF
       exact met [] (by kernel_rfl)
      ·cases hF
       exact met [] (by kernel_rfl)
   ·refine NR [] [1, 4, 5, 9, 10, 11] [] [] [(11, .i (w64 (v1.2.2 + 1)))] .nil ?_
    exact Nrnd [] hF ih1 (by kernel_rfl)
  ·refine Nexit rfl ?_
   have hF := inrO_done hF dn1
   exact metP (v1.1, v1.2.1) [] hF (by kernel_rfl)
 ·intro v hF
  have hF : balance_ends_J1 v = some r := hF
  unfold balance_ends_J1 at hF
  refine NR [] [4, 5] [] [] [] .nil ?_
  cases hF
  exact Wk_ret (hfin _ ⟨[], [], [], [], [], [], by kernel_rfl⟩)

/- balance.Moves -/
noncomputable def balance_Moves_J1 (b : Board) (x : List Int × Fault) (v : List Int × (List (Int × Int)) × List Order) (x1 : Int × Int) (v1 : Int) : Option ((List Int × (List (Int × Int)) × List Order) ⊕ (List Order × Fault)) :=
 if (decide (v1 = 0)) = true then
  some (Sum.inr (v.2.2, x.2))
 else
  asrt (0 ≤ x1.1 ∧ x1.1 < (v.1.length : Int)) <|
  asrt (0 ≤ x1.1 ∧ x1.1 < (v.1.length : Int)) <|
  asrt (0 ≤ x1.1 ∧ x1.1 < (v.1.length : Int)) <|
  asrt (0 ≤ x1.1 ∧ x1.1 < (v.1.length : Int)) <|
  asrt (0 ≤ x1.2 ∧ x1.2 < ((lset v.1 x1.1 (w64 ((lget v.1 x1.1) - 1))).length : Int)) <|
  asrt (0 ≤ x1.2 ∧ x1.2 < ((lset v.1 x1.1 (w64 ((lget v.1 x1.1) - 1))).length : Int)) <|
  asrt (0 ≤ x1.2 ∧ x1.2 < ((lset v.1 x1.1 (w64 ((lget v.1 x1.1) - 1))).length : Int)) <|
  asrt (0 ≤ x1.2 ∧ x1.2 < ((lset v.1 x1.1 (w64 ((lget v.1 x1.1) - 1))).length : Int)) <|
  lt ((lset (lset v.1 x1.1 (w64 ((lget v.1 x1.1) - 1))) x1.2 (w64 ((lget (lset v.1 x1.1 (w64 ((lget v.1 x1.1) - 1))) x1.2) + 1)))) fun (v2 : List Int) =>
  asrt (0 ≤ x1.2 ∧ x1.2 < (b.Hosts.length : Int)) <|
  asrt (((v.2.2 ++ [(⟨9, v1, (lget b.Hosts x1.2).ID, 0, ([] : List UInt8)⟩ : Order)]).length : Int) * 48 ≤ 140737488351232) <|
  lt ((v.2.2 ++ [(⟨9, v1, (lget b.Hosts x1.2).ID, 0, ([] : List UInt8)⟩ : Order)])) fun (v3 : List Order) =>
  some (Sum.inl (v2, (mput v.2.1 v1 (1 : Int)), v3))
noncomputable def balance_Moves_B2 (b : Board) (x : List Int × Fault) (v : List Int × (List (Int × Int)) × List Order) (x1 : Int × Int) (v4 : Int) : Option (Int ⊕ ((List Int × (List (Int × Int)) × List Order) ⊕ (List Order × Fault))) :=
 if (decide (v4 < (b.Slots.length : Int))) = true then
  asrt (0 ≤ v4 ∧ v4 < (b.Slots.length : Int)) <|
  asrt ((decide (((lget b.Slots v4).State) = 2)) = true → 0 ≤ x1.1 ∧ x1.1 < (b.Hosts.length : Int)) <|
  if (((decide (((lget b.Slots v4).State) = 2)) && (decide (((lget b.Slots v4).Host) = ((lget b.Hosts x1.1).ID)))) && (decide (((mget v.2.1 (((lget b.Slots v4).Part).ID)).getD (0 : Int)) = 0))) = true then
   inrO (balance_Moves_J1 b x v x1 (((lget b.Slots v4).Part).ID))
  else
   some (Sum.inl (w64 (v4 + 1)))
 else
  inrO (balance_Moves_J1 b x v x1 0)
noncomputable def balance_Moves_L2 (b : Board) (x : List Int × Fault) (v : List Int × (List (Int × Int)) × List Order) (x1 : Int × Int) (v0 : Int) : Option ((List Int × (List (Int × Int)) × List Order) ⊕ (List Order × Fault)) :=
 loopO (fun y => balance_Moves_B2 b x v x1 y) v0
noncomputable def balance_Moves_B1 (b : Board) (x : List Int × Fault) (v : List Int × (List (Int × Int)) × List Order) : Option ((List Int × (List (Int × Int)) × List Order) ⊕ (List Order × Fault)) :=
 ob (balance_ends b v.1) fun x1 =>
 asrt ((!(decide (x1.1 < 0))) = true → 0 ≤ x1.1 ∧ x1.1 < (v.1.length : Int)) <|
 asrt ((!(decide (x1.1 < 0))) = true → 0 ≤ x1.1 ∧ x1.1 < (v.1.length : Int)) <|
 asrt ((!(decide (x1.1 < 0))) = true → 0 ≤ x1.2 ∧ x1.2 < (v.1.length : Int)) <|
 asrt ((!(decide (x1.1 < 0))) = true → 0 ≤ x1.2 ∧ x1.2 < (v.1.length : Int)) <|
 if ((decide (x1.1 < 0)) || (decide ((w64 ((lget v.1 x1.1) - (lget v.1 x1.2))) < 2))) = true then
  some (Sum.inr (v.2.2, x.2))
 else
  balance_Moves_L2 b x v x1 0
noncomputable def balance_Moves_L1 (b : Board) (x : List Int × Fault) (v0 : List Int × (List (Int × Int)) × List Order) : Option (List Order × Fault) :=
 loopO (fun y => balance_Moves_B1 b x y) v0
noncomputable def balance_Moves (b : Board) : Option (List Order × Fault) :=
 ob (balance_Loads b) fun x =>
 if (!decide (x.2.Code = 0)) = true then
  some (([] : List Order), x.2)
 else
  balance_Moves_L1 b x (x.1, ([] : List (Int × Int)), ([] : List Order))

/- balance.Moves -/
noncomputable def balance_Moves_v1_J1 (b : Board) (x : List Int × Fault) (v : List Int × (List (Int × Int)) × List Order) (x1 : Int × Int) (v1 : Int) : Option ((List Int × (List (Int × Int)) × List Order) ⊕ (List Order × Fault)) :=
 if (decide (v1 = 0)) = true then
  some (Sum.inr (v.2.2, x.2))
 else
  asrt (0 ≤ x1.1 ∧ x1.1 < (v.1.length : Int)) <|
  asrt (0 ≤ x1.1 ∧ x1.1 < (v.1.length : Int)) <|
  asrt (0 ≤ x1.1 ∧ x1.1 < (v.1.length : Int)) <|
  asrt (0 ≤ x1.1 ∧ x1.1 < (v.1.length : Int)) <|
  asrt (0 ≤ x1.2 ∧ x1.2 < ((lset v.1 x1.1 (w64 ((lget v.1 x1.1) - 1))).length : Int)) <|
  asrt (0 ≤ x1.2 ∧ x1.2 < ((lset v.1 x1.1 (w64 ((lget v.1 x1.1) - 1))).length : Int)) <|
  asrt (0 ≤ x1.2 ∧ x1.2 < ((lset v.1 x1.1 (w64 ((lget v.1 x1.1) - 1))).length : Int)) <|
  asrt (0 ≤ x1.2 ∧ x1.2 < ((lset v.1 x1.1 (w64 ((lget v.1 x1.1) - 1))).length : Int)) <|
  lt ((lset (lset v.1 x1.1 (w64 ((lget v.1 x1.1) - 1))) x1.2 (w64 ((lget (lset v.1 x1.1 (w64 ((lget v.1 x1.1) - 1))) x1.2) + 1)))) fun (v2 : List Int) =>
  asrt (0 ≤ x1.2 ∧ x1.2 < (b.Hosts.length : Int)) <|
  asrt (((v.2.2 ++ [(⟨9, v1, (lget b.Hosts x1.2).ID, 0, ([] : List UInt8)⟩ : Order)]).length : Int) * 48 ≤ 140737488351232) <|
  lt ((v.2.2 ++ [(⟨9, v1, (lget b.Hosts x1.2).ID, 0, ([] : List UInt8)⟩ : Order)])) fun (v3 : List Order) =>
  some (Sum.inl (v2, (mput v.2.1 v1 (1 : Int)), v3))
noncomputable def balance_Moves_v1_B2 (b : Board) (x : List Int × Fault) (v : List Int × (List (Int × Int)) × List Order) (x1 : Int × Int) (v4 : Int) : Option (Int ⊕ ((List Int × (List (Int × Int)) × List Order) ⊕ (List Order × Fault))) :=
 if (decide (v4 < (b.Slots.length : Int))) = true then
  asrt (0 ≤ v4 ∧ v4 < (b.Slots.length : Int)) <|
  asrt ((decide (((lget b.Slots v4).State) = 2)) = true → 0 ≤ x1.1 ∧ x1.1 < (b.Hosts.length : Int)) <|
  if (((decide (((lget b.Slots v4).State) = 2)) && (decide (((lget b.Slots v4).Host) = ((lget b.Hosts x1.1).ID)))) && (decide (((mget v.2.1 (((lget b.Slots v4).Part).ID)).getD (0 : Int)) = 0))) = true then
   inrO (balance_Moves_v1_J1 b x v x1 (((lget b.Slots v4).Part).ID))
  else
   some (Sum.inl (w64 (v4 + 1)))
 else
  inrO (balance_Moves_v1_J1 b x v x1 0)
noncomputable def balance_Moves_v1_L2 (b : Board) (x : List Int × Fault) (v : List Int × (List (Int × Int)) × List Order) (x1 : Int × Int) (v0 : Int) : Option ((List Int × (List (Int × Int)) × List Order) ⊕ (List Order × Fault)) :=
 loopO (fun y => balance_Moves_v1_B2 b x v x1 y) v0
noncomputable def balance_Moves_v1_B1 (b : Board) (x : List Int × Fault) (v : List Int × (List (Int × Int)) × List Order) : Option ((List Int × (List (Int × Int)) × List Order) ⊕ (List Order × Fault)) :=
 ob (balance_ends b v.1) fun x1 =>
 asrt ((!(decide (x1.1 < 0))) = true → 0 ≤ x1.1 ∧ x1.1 < (v.1.length : Int)) <|
 asrt ((!(decide (x1.1 < 0))) = true → 0 ≤ x1.1 ∧ x1.1 < (v.1.length : Int)) <|
 asrt ((!(decide (x1.1 < 0))) = true → 0 ≤ x1.2 ∧ x1.2 < (v.1.length : Int)) <|
 asrt ((!(decide (x1.1 < 0))) = true → 0 ≤ x1.2 ∧ x1.2 < (v.1.length : Int)) <|
 if ((decide (x1.1 < 0)) || (decide ((w64 ((lget v.1 x1.1) - (lget v.1 x1.2))) < 2))) = true then
  some (Sum.inr (v.2.2, x.2))
 else
  balance_Moves_v1_L2 b x v x1 0
noncomputable def balance_Moves_v1_L1 (b : Board) (x : List Int × Fault) (v0 : List Int × (List (Int × Int)) × List Order) : Option (List Order × Fault) :=
 loopO (fun y => balance_Moves_v1_B1 b x y) v0
noncomputable def balance_Moves_v1 (b : Board) : Option (List Order × Fault) :=
 ob (balance_Loads b) fun x =>
 if (!decide (x.2.Code = 0)) = true then
  some (([] : List Order), x.2)
 else
  balance_Moves_v1_L1 b x (x.1, ([] : List (Int × Int)), ([] : List Order))
theorem balance_Moves_v1_ok (b : Board) (r : List Order × Fault) (hF : balance_Moves_v1 b = some r) : Pe Try.prog 63 S.none [.agg (c_Board b)] (.tup [.sl 5 (r.1.map e_Order), .agg (c_Fault r.2)]) S.none := by
 refine PeN 107 [.tmp 2, .cell 3 26] [53, 26] Ty.ok Fn.b63 Try.func63 ?_
 intro Q g hfin
 unfold balance_Moves_v1 at hF
 refine VR [] [1, 3] [1, 3] [] [] [(1, .ptr 1 0), (3, .ptr 3 0)] [(1, (c_Board b)), (3, [.i 0, .i 0])] [] [] .nil ?_
 obtain ⟨x, h0, hF⟩ := ob_elim hF
 refine VR [.callE [] [] [] [] (.tup [.row 15 0, .agg (c_Fault x.2)]) ⟨[], [], [(15, .o 3 1 0 (x.1.map e_i64))], [], []⟩] [1, 3, 4, 5] [1, 3, 5] [15] [] [(4, .row 15 0), (5, .ptr 5 0)] [(5, (c_Fault x.2))] [(15, .o 3 1 0 (x.1.map e_i64))] [] (hc (Pe.ren (balance_Loads_ok b x h0) ⟨[], [(12, 15)], [], []⟩) .nil) ?_
 refine NR [] [1, 3, 4, 5, 20] [1, 3, 5] [15] [(20, .bool (!decide (x.2.Code = 0)))] .nil ?_
 refine Nif hF (fun hb hF => ?_) (fun hb hF => ?_)
 ·refine VD [] [2, 3] [3] [] [] [(2, .nils)] [(3, (c_Fault x.2))] [] [] .nil ?_
  cases hF
  exact Wk_ret (hfin _ ⟨[], [], [], [], [], [], by kernel_rfl⟩)
 ·refine VR [] [1, 3, 4, 5, 6] [1, 3, 5] [15] [22] [(6, .mp 22)] [] [] [(22, (([] : List (Int × Int)).map (fun p => (e_i64 p.1, e_i64 p.2))))] .nil ?_
  refine VR [] [1, 3, 4, 5, 6, 7] [1, 3, 5] [15] [22] [(7, .nils)] [] [] [] .nil ?_
  refine Nblk ?_
  unfold balance_Moves_v1_L1 at hF
  refine Wk_nilrow 7 60000 91 5 rfl rfl rfl ?_
  refine Wk_trim (fs := [1, 3, 4, 5, 6, 7]) (bs := [1, 3, 5]) (rs := [15, 60000]) (ms := [22]) (aa := []) (nv := []) rfl ?_
  refine Wk_ren' ⟨[], [(60000, 106)], [], []⟩ rfl ?_
  refine Niter (fun v : List Int × (List (Int × Int)) × List Order => (⟨[(1, .ptr 1 0), (3, .ptr 3 0), (4, .row 15 0), (5, .ptr 5 0), (6, .mp 22), (7, .row 106 0)], [(1, (c_Board b)), (3, [.i 0, .i 0]), (5, (c_Fault x.2))], [(15, .o 3 1 0 (v.1.map e_i64)), (106, .z 91 5 0 (v.2.2.map e_Order))], [(22, (v.2.1.map (fun p => (e_i64 p.1, e_i64 p.2))))], []⟩ : S)) [] hF (by kernel_rfl) ?_
  intro n1 v y1 hF ih1 dn1
  unfold balance_Moves_v1_B1 at hF
  refine Nblk ?_
  obtain ⟨x1, h1, hF⟩ := ob_elim hF
  refine VR [.callB (.tup [.i x1.1, .i x1.2])] [1, 3, 4, 5, 6, 7, 8, 9] [1, 3, 5] [15, 106] [22] [(8, .i x1.1), (9, .i x1.2)] [] [] [] (hc (balance_ends_ok b v.1 x1 h1) .nil) ?_
  obtain ⟨h2, h3, h4, h5, hF⟩ := asrt4 hF
  refine VD [.av (e_i64 (lget v.1 x1.1)), .av (e_i64 (lget v.1 x1.2))] [1, 3, 4, 5, 6, 7, 8, 9, 42] [1, 3, 5] [15, 106] [22] [(42, .bool ((decide (x1.1 < 0)) || (decide ((w64 ((lget v.1 x1.1) - (lget v.1 x1.2))) < 2))))] [] [] [] (hc (fun (ga0 : (!(decide (x1.1 < 0))) = true) => (ixr_ok e_i64 (h2 ga0))) (hc (fun (ga0 : (!(decide (x1.1 < 0))) = true) => (ldr_ok e_i64 (h3 ga0))) (hc (fun (ga0 : (!(decide (x1.1 < 0))) = true) => (ixr_ok e_i64 (h4 ga0))) (hc (fun (ga0 : (!(decide (x1.1 < 0))) = true) => (ldr_ok e_i64 (h5 ga0))) .nil)))) ?_
  refine Nif hF (fun hb hF => ?_) (fun hb hF => ?_)
  ·refine VD [] [2, 3] [3] [106] [] [(2, .row 106 0)] [(3, (c_Fault x.2))] [] [] .nil ?_
   have hF := ret_done hF dn1
   cases hF
   exact Wk_ret (hfin _ ⟨[], [], [], [], [], [], by kernel_rfl⟩)
  ·refine VR [] [1, 3, 4, 5, 6, 7, 8, 9, 10] [1, 3, 5] [15, 106] [22] [(10, .i 0)] [] [] [] .nil ?_
   refine VR [.nat (b.Slots.length : Int)] [1, 3, 4, 5, 6, 7, 8, 9, 10, 46, 47, 48] [1, 3, 5] [15, 106] [22] [(46, .sl 6 (b.Slots.map e_Slot)), (47, .i (b.Slots.length : Int)), (48, .i 0)] [] [] [] (hc (len_ok e_Slot b.Slots) .nil) ?_
   refine NmeetP (fun v1 : Int => (⟨[(1, .ptr 1 0), (3, .ptr 3 0), (4, .row 15 0), (5, .ptr 5 0), (6, .mp 22), (7, .row 106 0), (8, .i x1.1), (9, .i x1.2), (10, .i v1)], [(1, (c_Board b)), (3, [.i 0, .i 0]), (5, (c_Fault x.2))], [(15, .o 3 1 0 (v.1.map e_i64)), (106, .z 91 5 0 (v.2.2.map e_Order))], [(22, (v.2.1.map (fun p => (e_i64 p.1, e_i64 p.2))))], []⟩ : S)) (fun v1 => balance_Moves_v1_J1 b x v x1 v1 = some y1) ?_ ?_
   ·refine Nblk ?_
    unfold balance_Moves_v1_L2 at hF
    refine Niter (fun v4 : Int => (⟨[(1, .ptr 1 0), (3, .ptr 3 0), (4, .row 15 0), (5, .ptr 5 0), (6, .mp 22), (7, .row 106 0), (8, .i x1.1), (9, .i x1.2), (10, .i 0), (46, .sl 6 (b.Slots.map e_Slot)), (47, .i (b.Slots.length : Int)), (48, .i v4)], [(1, (c_Board b)), (3, [.i 0, .i 0]), (5, (c_Fault x.2))], [(15, .o 3 1 0 (v.1.map e_i64)), (106, .z 91 5 0 (v.2.2.map e_Order))], [(22, (v.2.1.map (fun p => (e_i64 p.1, e_i64 p.2))))], []⟩ : S)) [] hF (by kernel_rfl) ?_
    intro n2 v4 y2 hF ih2 dn2
    unfold balance_Moves_v1_B2 at hF
    refine VR [] [1, 3, 4, 5, 6, 7, 8, 9, 10, 46, 47, 48, 49] [1, 3, 5] [15, 106] [22] [(49, .bool (decide (v4 < (b.Slots.length : Int))))] [] [] [] .nil ?_
    refine Nif hF (fun hb hF => ?_) (fun hb hF => ?_)
    ·refine Nblk ?_
     obtain ⟨h16, hF⟩ := asrt_elim hF
     refine VR [.av (e_Slot (lget b.Slots v4))] [1, 3, 4, 5, 6, 7, 8, 9, 10, 12, 46, 47, 48] [1, 3, 5, 12] [15, 106] [22] [(12, .ptr 12 0)] [(12, [.str (((lget b.Slots v4).Part).From), .str (((lget b.Slots v4).Part).To), .i (((lget b.Slots v4).Part).ID), .i ((lget b.Slots v4).State), .i ((lget b.Slots v4).Host), .i ((lget b.Slots v4).Turn)])] [] [] (hc (idx_ok e_Slot h16) .nil) ?_
     obtain ⟨h17, hF⟩ := asrt_elim hF
     refine VD [.av (e_Host (lget b.Hosts x1.1)), .av (e_i64 ((mget v.2.1 (((lget b.Slots v4).Part).ID)).getD (0 : Int))), .bo ((mget v.2.1 (((lget b.Slots v4).Part).ID)).isSome)] [1, 3, 4, 5, 6, 7, 8, 9, 10, 12, 46, 47, 48, 73] [1, 3, 5, 12] [15, 106] [22] [(73, .bool (((decide (((lget b.Slots v4).State) = 2)) && (decide (((lget b.Slots v4).Host) = ((lget b.Hosts x1.1).ID)))) && (decide (((mget v.2.1 (((lget b.Slots v4).Part).ID)).getD (0 : Int)) = 0))))] [] [] [] (hc (fun (ga0 : (decide (((lget b.Slots v4).State) = 2)) = true) => (idx_ok e_Host (h17 ga0))) (hc (fun (_ : ((decide (((lget b.Slots v4).State) = 2)) && (decide (((lget b.Slots v4).Host) = ((lget b.Hosts x1.1).ID)))) = true) => (mkeys_ok (kenc_i64 : KEnc _ e_i64) e_i64 v.2.1)) (hc (fun (_ : ((decide (((lget b.Slots v4).State) = 2)) && (decide (((lget b.Slots v4).Host) = ((lget b.Hosts x1.1).ID)))) = true) => (mlook_ok (kenc_i64 : KEnc _ e_i64) e_i64 v.2.1 (((lget b.Slots v4).Part).ID) (0 : Int))) (hc (fun (_ : ((decide (((lget b.Slots v4).State) = 2)) && (decide (((lget b.Slots v4).Host) = ((lget b.Hosts x1.1).ID)))) = true) => (msome_ok (kenc_i64 : KEnc _ e_i64) e_i64 v.2.1 (((lget b.Slots v4).Part).ID))) .nil)))) ?_
     refine Nif hF (fun hb hF => ?_) (fun hb hF => ?_)
     ·refine VR [] [1, 3, 4, 5, 6, 7, 8, 9, 10] [1, 3, 5] [15, 106] [22] [(10, .i (((lget b.Slots v4).Part).ID))] [] [] [] .nil ?_
      refine Nexit rfl ?_
      have hF := inrO_done hF dn2
      exact metP (((lget b.Slots v4).Part).ID) [] hF (by kernel_rfl)
     ·refine VR [] [1, 3, 4, 5, 6, 7, 8, 9, 10, 46, 47, 48] [1, 3, 5] [15, 106] [22] [(48, .i (w64 (v4 + 1)))] [] [] [] .nil ?_
      exact Nrnd [] hF ih2 (by kernel_rfl)
    ·refine Nexit rfl ?_
     have hF := inrO_done hF dn2
     exact metP 0 [] hF (by kernel_rfl)
   ·intro v1 hF
    have hF : balance_Moves_v1_J1 b x v x1 v1 = some y1 := hF
    unfold balance_Moves_v1_J1 at hF
    refine VR [] [1, 3, 4, 5, 6, 7, 8, 9, 10, 79] [1, 3, 5] [15, 106] [22] [(79, .bool (decide (v1 = 0)))] [] [] [] .nil ?_
    refine Nif hF (fun hb hF => ?_) (fun hb hF => ?_)
    ·refine VD [] [2, 3] [3] [106] [] [(2, .row 106 0)] [(3, (c_Fault x.2))] [] [] .nil ?_
     have hF := ret_done hF dn1
     cases hF
     exact Wk_ret (hfin _ ⟨[], [], [], [], [], [], by kernel_rfl⟩)
    ·refine VR [.ms ((mput v.2.1 v1 (1 : Int)).map (fun p => (e_i64 p.1, e_i64 p.2)))] [1, 3, 4, 5, 6, 7, 8, 9, 10] [1, 3, 5] [15, 106] [22] [] [] [] [(22, ((mput v.2.1 v1 (1 : Int)).map (fun p => (e_i64 p.1, e_i64 p.2))))] (hc (mkeys_ok (kenc_i64 : KEnc _ e_i64) e_i64 v.2.1) (hc (mput_ok (kenc_i64 : KEnc _ e_i64) e_i64 v.2.1 v1 (1 : Int)) .nil)) ?_
     obtain ⟨h6, h7, h8, h9, hF⟩ := asrt4 hF
     refine VR [.av (e_i64 (lget v.1 x1.1)), .av (e_i64 (lget v.1 x1.1)), .xs ((lset v.1 x1.1 (w64 ((lget v.1 x1.1) - 1))).map e_i64)] [1, 3, 4, 5, 6, 7, 9, 10] [1, 3, 5] [15, 106] [22] [] [] [(15, .o 3 1 0 ((lset v.1 x1.1 (w64 ((lget v.1 x1.1) - 1))).map e_i64))] [] (hc (ixr_ok e_i64 h6) (hc (ldr_ok e_i64 h7) (hc (ixr_ok e_i64 h8) (hc (ldr_ok e_i64 h9) (hc (set_ok e_i64 v.1 x1.1 (w64 ((lget v.1 x1.1) - 1))) (hc (Nat.zero_le x1.1.toNat) .nil)))))) ?_
     obtain ⟨h10, h11, h12, h13, hF⟩ := asrt4 hF
     refine NRL ((lset (lset v.1 x1.1 (w64 ((lget v.1 x1.1) - 1))) x1.2 (w64 ((lget (lset v.1 x1.1 (w64 ((lget v.1 x1.1) - 1))) x1.2) + 1)))) (fun v2 : List Int => ([], [], [(15, .o 3 1 0 (v2.map e_i64))], [])) [.av (e_i64 (lget (lset v.1 x1.1 (w64 ((lget v.1 x1.1) - 1))) x1.2)), .av (e_i64 (lget (lset v.1 x1.1 (w64 ((lget v.1 x1.1) - 1))) x1.2)), .xs ((lset (lset v.1 x1.1 (w64 ((lget v.1 x1.1) - 1))) x1.2 (w64 ((lget (lset v.1 x1.1 (w64 ((lget v.1 x1.1) - 1))) x1.2) + 1))).map e_i64)] [1, 3, 4, 5, 6, 7, 9, 10] [1, 3, 5] [15, 106] [22] (hc (ixr_ok e_i64 h10) (hc (ldr_ok e_i64 h11) (hc (ixr_ok e_i64 h12) (hc (ldr_ok e_i64 h13) (hc (set_ok e_i64 (lset v.1 x1.1 (w64 ((lget v.1 x1.1) - 1))) x1.2 (w64 ((lget (lset v.1 x1.1 (w64 ((lget v.1 x1.1) - 1))) x1.2) + 1))) (hc (Nat.zero_le x1.2.toNat) .nil)))))) (fun v2 hv => ?_)
     have hF := lt_elim hF hv
     obtain ⟨h14, h15, hF⟩ := asrt2 hF
     refine NRL ((v.2.2 ++ [(⟨9, v1, (lget b.Hosts x1.2).ID, 0, ([] : List UInt8)⟩ : Order)])) (fun v3 : List Order => ([(7, .row 106 1)], [], [(106, .z 91 5 1 (v3.map e_Order))], [])) [.av (e_Host (lget b.Hosts x1.2)), .sealed, .xs ((v.2.2 ++ [(⟨9, v1, (lget b.Hosts x1.2).ID, 0, ([] : List UInt8)⟩ : Order)]).map e_Order)] [1, 3, 4, 5, 6, 7] [1, 3, 5] [15, 106] [22] (hc (idx_ok e_Host h14) (hc (app_ok e_Order v.2.2 [(⟨9, v1, (lget b.Hosts x1.2).ID, 0, ([] : List UInt8)⟩ : Order)]) (hc (appl_ok e_Order h15) .nil))) (fun v3 hv => ?_)
     have hF := lt_elim hF hv
     exact Nrnd [(106, ⟨0, true, true, false⟩)] hF ih1 (by kernel_rfl)

/- tabularyref.SameOrders -/
noncomputable def R_SameOrders_J1 (v : Unit) : Option Bool :=
 some true
noncomputable def R_SameOrders_B1 (a0 : List Order) (b : List Order) (v1 : Int) : Option (Int ⊕ Bool) :=
 if (decide (v1 < (a0.length : Int))) = true then
  asrt (0 ≤ v1 ∧ v1 < (a0.length : Int)) <|
  asrt (0 ≤ v1 ∧ v1 < (b.length : Int)) <|
  if (!(decide ((lget a0 v1).Kind = (lget b v1).Kind) && (decide ((lget a0 v1).ID = (lget b v1).ID) && (decide ((lget a0 v1).Host = (lget b v1).Host) && (decide ((lget a0 v1).Turn = (lget b v1).Turn) && (decide ((lget a0 v1).Row = (lget b v1).Row) && true)))))) = true then
   some (Sum.inr false)
  else
   some (Sum.inl (w64 (v1 + 1)))
 else
  inrO (R_SameOrders_J1 ())
noncomputable def R_SameOrders_L1 (a0 : List Order) (b : List Order) (v0 : Int) : Option Bool :=
 loopO (fun y => R_SameOrders_B1 a0 b y) v0
noncomputable def R_SameOrders (a0 : List Order) (b : List Order) : Option Bool :=
 if (!decide ((a0.length : Int) = (b.length : Int))) = true then
  some false
 else
  R_SameOrders_L1 a0 b 0
theorem R_SameOrders_ok (a0 : List Order) (b : List Order) (r : Bool) (hF : R_SameOrders a0 b = some r) : Pe Try.prog 56 S.none [.sl 5 (a0.map e_Order), .sl 5 (b.map e_Order)] (.bool r) S.none := by
 refine PeN 26 [.tmp 4] [4] Ty.ok Fn.b56 Try.func56 ?_
 intro Q g hfin
 unfold R_SameOrders at hF
 refine NR [] [0, 1] [] [] [] .nil ?_
 refine NR [.nat (a0.length : Int), .nat (b.length : Int)] [0, 1, 10] [] [] [(10, .bool (!decide ((a0.length : Int) = (b.length : Int))))] (hc (len_ok e_Order a0) (hc (len_ok e_Order b) .nil)) ?_
 refine Nif hF (fun hb hF => ?_) (fun hb hF => ?_)
 ·refine NR [] [4] [] [] [(4, .bool false)] .nil ?_
  cases hF
  exact Wk_ret (hfin _ ⟨[], [], [], [], [], [], by kernel_rfl⟩)
 ·refine NR [] [0, 1, 5] [] [] [(5, .i 0)] .nil ?_
  refine NmeetP (fun v : Unit => (S.none : S)) (fun v => R_SameOrders_J1 v = some r) ?_ ?_
  ·refine Nblk ?_
   unfold R_SameOrders_L1 at hF
   refine Niter (fun v1 : Int => (⟨[(0, .sl 5 (a0.map e_Order)), (1, .sl 5 (b.map e_Order)), (5, .i v1)], [], [], [], []⟩ : S)) [] hF (by kernel_rfl) ?_
   intro n1 v1 y1 hF ih1 dn1
   unfold R_SameOrders_B1 at hF
   refine NR [.nat (a0.length : Int)] [0, 1, 5, 14] [] [] [(14, .bool (decide (v1 < (a0.length : Int))))] (hc (len_ok e_Order a0) .nil) ?_
   refine Nif hF (fun hb hF => ?_) (fun hb hF => ?_)
   ·refine Nblk ?_
    obtain ⟨h0, h1, hF⟩ := asrt2 hF
    refine ND [.av (e_Order (lget a0 v1)), .av (e_Order (lget b v1))] [0, 1, 5, 25] [] [] [(25, .bool (!(decide ((lget a0 v1).Kind = (lget b v1).Kind) && (decide ((lget a0 v1).ID = (lget b v1).ID) && (decide ((lget a0 v1).Host = (lget b v1).Host) && (decide ((lget a0 v1).Turn = (lget b v1).Turn) && (decide ((lget a0 v1).Row = (lget b v1).Row) && true)))))))] (hc (idx_ok e_Order h0) (hc (idx_ok e_Order h1) .nil)) ?_
    refine Nif hF (fun hb hF => ?_) (fun hb hF => ?_)
    ·refine NR [] [4] [] [] [(4, .bool false)] .nil ?_
     have hF := ret_done hF dn1
     cases hF
     exact Wk_ret (hfin _ ⟨[], [], [], [], [], [], by kernel_rfl⟩)
    ·refine NR [] [0, 1, 5] [] [] [(5, .i (w64 (v1 + 1)))] .nil ?_
     exact Nrnd [] hF ih1 (by kernel_rfl)
   ·refine Nexit rfl ?_
    have hF := inrO_done hF dn1
    exact metP () [] hF (by kernel_rfl)
  ·intro v hF
   have hF : R_SameOrders_J1 v = some r := hF
   unfold R_SameOrders_J1 at hF
   refine NR [] [4] [] [] [(4, .bool true)] .nil ?_
   cases hF
   exact Wk_ret (hfin _ ⟨[], [], [], [], [], [], by kernel_rfl⟩)

/- tabularylaw.balanceBegun -/
noncomputable def law_balanceBegun  : Option Bool :=
 lt (law_lopsided) fun x =>
 ob (balance_Moves_v1 x) fun x1 =>
 ob (if (decide (x1.2.Code = 0)) = true then (R_SameOrders x1.1 [(⟨9, 1, 2, 0, ([] : List UInt8)⟩ : Order)]) else some default) fun x2 =>
 some ((decide (x1.2.Code = 0)) && x2)
theorem law_balanceBegun_ok  (r : Bool) (hF : law_balanceBegun  = some r) : Pe Try.prog 61 S.none [] (.bool r) S.none := by
 refine PeN 17 [.tmp 0] [4] Ty.ok Fn.b61 Try.func61 ?_
 intro Q g hfin
 unfold law_balanceBegun at hF
 refine NR [] [] [] [] [] .nil ?_
 obtain ⟨x, h0, hF⟩ := lt_split hF
 obtain ⟨x1, h1, hF⟩ := ob_elim hF
 refine VR [.call (.agg (c_Board x)), .call (.tup [.sl 5 (x1.1.map e_Order), .agg (c_Fault x1.2)])] [1, 2] [2] [] [] [(1, .sl 5 (x1.1.map e_Order)), (2, .ptr 2 0)] [(2, (c_Fault x1.2))] [] [] (hc (law_lopsided_ok  x h0) (hc (balance_Moves_v1_ok x x1 h1) .nil)) ?_
 obtain ⟨x2, h2, hF⟩ := ob_elim hF
 refine NR [.sealed, .callB (.bool x2)] [0] [] [] [(0, .bool ((decide (x1.2.Code = 0)) && x2))] (hc (fun (ga0 : (decide (x1.2.Code = 0)) = true) => (R_SameOrders_ok x1.1 [(⟨9, 1, 2, 0, ([] : List UInt8)⟩ : Order)] x2 (ite_t h2 ga0))) .nil) ?_
 cases hF
 exact Wk_ret (hfin _ ⟨[], [], [], [], [], [], by kernel_rfl⟩)

/- tabularylaw.vastBoard -/
noncomputable def law_vastBoard (b : Board) : Bool :=
 lt ((decide (100 < (b.Hosts.length : Int))) || (decide (400 < (b.Slots.length : Int)))) fun (v : Bool) =>
 v

/- tabularyref.CopyBoard -/
noncomputable def R_CopyBoard (b : Board) : Option (List Host × List Slot × Int × Int) :=
 asrt ((b.Hosts.length : Int) * 24 ≤ 140737488351232) <|
 asrt ((b.Slots.length : Int) * 64 ≤ 140737488351232) <|
 some (b.Hosts, b.Slots, b.Turn, b.Next)
theorem R_CopyBoard_ok (b : Board) (r : List Host × List Slot × Int × Int) (hF : R_CopyBoard b = some r) : Pe Try.prog 39 S.none [.agg (c_Board b)] (.agg [.row 5 1, .row 9 1, .i r.2.2.1, .i r.2.2.2]) ⟨[], [], [(5, .z 108 3 1 (r.1.map e_Host)), (9, .z 64 6 1 (r.2.1.map e_Slot))], [], []⟩ := by
 refine PeN 12 [.cell 2 62] [62] Ty.ok Fn.b39 Try.func39 ?_
 intro Q g hfin
 unfold R_CopyBoard at hF
 refine VR [] [1, 2] [1, 2] [] [] [(1, .ptr 1 0), (2, .ptr 2 0)] [(1, (c_Board b)), (2, [.nils, .nils, .i 0, .i 0])] [] [] .nil ?_
 obtain ⟨h0, hF⟩ := asrt_elim hF
 refine VR [.xs (b.Hosts.map e_Host)] [1, 2] [1, 2] [5] [] [] [(1, [.row 5 1, .sl 6 (b.Slots.map e_Slot), .i b.Turn, .i b.Next])] [(5, .z 108 3 1 (b.Hosts.map e_Host))] [] (hc (app0_ok e_Host b.Hosts) (hc (appl_ok e_Host h0) .nil)) ?_
 obtain ⟨h1, hF⟩ := asrt_elim hF
 refine VR [.xs (b.Slots.map e_Slot)] [1, 2] [1, 2] [5, 9] [] [] [(1, [.row 5 1, .row 9 1, .i b.Turn, .i b.Next])] [(9, .z 64 6 1 (b.Slots.map e_Slot))] [] (hc (app0_ok e_Slot b.Slots) (hc (appl_ok e_Slot h1) .nil)) ?_
 refine VR [] [2] [2] [5, 9] [] [] [(2, [.row 5 1, .row 9 1, .i b.Turn, .i b.Next])] [] [] .nil ?_
 cases hF
 exact Wk_ret (hfin _ ⟨[5, 9], [], [5, 9], [], [], [], by kernel_rfl⟩)

/- balance.fault -/
noncomputable def balance_fault (code : Int) (at0 : Int) : Fault :=
 (⟨code, at0⟩ : Fault)
theorem balance_fault_ok (code : Int) (at0 : Int) (r : Fault) (hF : balance_fault code at0 = r) : Pe Try.prog 102 S.none [.i code, .i at0] (.agg (c_Fault r)) S.none := by
 refine PeN 8 [.cell 4 26] [26] Ty.ok Fn.b102 Try.func102 ?_
 intro Q g hfin
 unfold balance_fault at hF
 refine VR [] [0, 1, 4] [4] [] [] [(4, .ptr 4 0)] [(4, [.i 0, .i 0])] [] [] .nil ?_
 refine VR [] [4] [4] [] [] [] [(4, [.i code, .i at0])] [] [] .nil ?_
 cases hF
 exact Wk_ret (hfin _ ⟨[], [], [], [], [], [], by kernel_rfl⟩)

/- assign.SlotAt$1 -/
noncomputable def assign_SlotAt_1 (s0 : Slot) (box : Int) : Bool :=
 decide (s0.Part.ID = box)
theorem assign_SlotAt_1_ok (s0 : Slot) (box : Int) (r : Bool) (hF : assign_SlotAt_1 s0 box = r) : Pe Try.prog 123 ⟨[], [(100000, [.i box])], [], [], []⟩ [.agg (c_Slot s0), .ptr 100000 0] (.bool r) ⟨[], [(100000, [.i box])], [], [], []⟩ := by
 refine PeN 9 [.tmp 3] [4] Ty.ok Fn.b123 Try.func123 ?_
 intro Q g hfin
 unfold assign_SlotAt_1 at hF
 refine VR [] [1, 2] [2, 100000] [] [] [(2, .ptr 2 0)] [(2, (c_Slot s0))] [] [] .nil ?_
 refine NR [] [3] [100000] [] [(3, .bool (decide (s0.Part.ID = box)))] .nil ?_
 cases hF
 exact Wk_ret (hfin _ ⟨[], [100000], [], [], [], [], by kernel_rfl⟩)

/- slices.IndexFunc[[]api.Slot,api.Slot] -/
noncomputable def slices_IndexFunc_api_Slot_api_Slot_J1 (v : Unit) : Option Int :=
 some (-1)
noncomputable def slices_IndexFunc_api_Slot_api_Slot_B1 (s0 : List Slot) (box : Int) (v1 : Int) : Option (Int ⊕ Int) :=
 if (decide (v1 < (s0.length : Int))) = true then
  asrt (0 ≤ v1 ∧ v1 < (s0.length : Int)) <|
  lt (assign_SlotAt_1 (⟨(⟨((lget s0 v1).Part).From, ((lget s0 v1).Part).To, ((lget s0 v1).Part).ID⟩ : Part), (lget s0 v1).State, (lget s0 v1).Host, (lget s0 v1).Turn⟩ : Slot) box) fun x =>
  if x = true then
   some (Sum.inr v1)
  else
   some (Sum.inl (w64 (v1 + 1)))
 else
  inrO (slices_IndexFunc_api_Slot_api_Slot_J1 ())
noncomputable def slices_IndexFunc_api_Slot_api_Slot_L1 (s0 : List Slot) (box : Int) (v0 : Int) : Option Int :=
 loopO (fun y => slices_IndexFunc_api_Slot_api_Slot_B1 s0 box y) v0
noncomputable def slices_IndexFunc_api_Slot_api_Slot (s0 : List Slot) (box : Int) : Option Int :=
 slices_IndexFunc_api_Slot_api_Slot_L1 s0 box 0
theorem slices_IndexFunc_api_Slot_api_Slot_ok (s0 : List Slot) (box : Int) (r : Int) (hF : slices_IndexFunc_api_Slot_api_Slot s0 box = some r) : Pe Try.prog 111 ⟨[], [(100000, [.i box])], [], [], []⟩ [.sl 6 (s0.map e_Slot), .fn 123 [.ptr 100000 0]] (.i r) ⟨[], [(100000, [.i box])], [], [], []⟩ := by
 refine PeN 19 [.tmp 4] [3] Ty.ok Fn.b111 Try.func111 ?_
 intro Q g hfin
 unfold slices_IndexFunc_api_Slot_api_Slot at hF
 refine NR [] [0, 1] [100000] [] [] .nil ?_
 refine NR [.nat (s0.length : Int)] [0, 1, 7, 8] [100000] [] [(7, .i (s0.length : Int)), (8, .i 0)] (hc (len_ok e_Slot s0) .nil) ?_
 refine NmeetP (fun v : Unit => (⟨[], [(100000, [.i box])], [], [], []⟩ : S)) (fun v => slices_IndexFunc_api_Slot_api_Slot_J1 v = some r) ?_ ?_
 ·refine Nblk ?_
  unfold slices_IndexFunc_api_Slot_api_Slot_L1 at hF
  refine Niter (fun v1 : Int => (⟨[(0, .sl 6 (s0.map e_Slot)), (1, .fn 123 [.ptr 100000 0]), (7, .i (s0.length : Int)), (8, .i v1)], [(100000, [.i box])], [], [], []⟩ : S)) [] hF (by kernel_rfl) ?_
  intro n1 v1 y1 hF ih1 dn1
  unfold slices_IndexFunc_api_Slot_api_Slot_B1 at hF
  refine NR [] [0, 1, 7, 8, 9] [100000] [] [(9, .bool (decide (v1 < (s0.length : Int))))] .nil ?_
  refine Nif hF (fun hb hF => ?_) (fun hb hF => ?_)
  ·refine Nblk ?_
   refine NR [] [0, 1, 5, 7, 8] [100000] [] [(5, .i v1)] .nil ?_
   obtain ⟨h0, hF⟩ := asrt_elim hF
   obtain ⟨x, h1, hF⟩ := lt_split hF
   refine NR [.av (e_Slot (lget s0 v1)), .callR [100000] [] [] [] (.bool x)] [0, 1, 5, 7, 8, 16] [100000] [] [(16, .bool x)] (hc (idx_ok e_Slot h0) (hc (Pe.ren (assign_SlotAt_1_ok (⟨(⟨((lget s0 v1).Part).From, ((lget s0 v1).Part).To, ((lget s0 v1).Part).ID⟩ : Part), (lget s0 v1).State, (lget s0 v1).Host, (lget s0 v1).Turn⟩ : Slot) box x h1) ⟨[], [], [], []⟩) .nil)) ?_
   refine Nif hF (fun hb hF => ?_) (fun hb hF => ?_)
   ·refine NR [] [4] [100000] [] [(4, .i v1)] .nil ?_
    have hF := ret_done hF dn1
    cases hF
    exact Wk_ret (hfin _ ⟨[], [100000], [], [], [], [], by kernel_rfl⟩)
   ·refine NR [] [0, 1, 7, 8] [100000] [] [(8, .i (w64 (v1 + 1)))] .nil ?_
    exact Nrnd [] hF ih1 (by kernel_rfl)
  ·refine Nexit rfl ?_
   have hF := inrO_done hF dn1
   exact metP () [] hF (by kernel_rfl)
 ·intro v hF
  have hF : slices_IndexFunc_api_Slot_api_Slot_J1 v = some r := hF
  unfold slices_IndexFunc_api_Slot_api_Slot_J1 at hF
  refine NR [] [4] [100000] [] [(4, .i (-1))] .nil ?_
  cases hF
  exact Wk_ret (hfin _ ⟨[], [100000], [], [], [], [], by kernel_rfl⟩)

/- assign.SlotAt -/
noncomputable def assign_SlotAt (b : Board) (id : Int) : Option Int :=
 ob (slices_IndexFunc_api_Slot_api_Slot b.Slots id) fun x =>
 some x
theorem assign_SlotAt_ok (b : Board) (id : Int) (r : Int) (hF : assign_SlotAt b id = some r) : Pe Try.prog 95 S.none [.agg (c_Board b), .i id] (.i r) S.none := by
 refine PeN 9 [.tmp 4] [3] Ty.ok Fn.b95 Try.func95 ?_
 intro Q g hfin
 unfold assign_SlotAt at hF
 refine VR [] [2, 3] [2, 3] [] [] [(2, .ptr 2 0), (3, .ptr 3 0)] [(2, (c_Board b)), (3, [.i id])] [] [] .nil ?_
 obtain ⟨x, h0, hF⟩ := ob_elim hF
 refine NR [.callR [3] [] [] [] (.i x)] [4] [] [] [(4, .i x)] (hc (Pe.ren (slices_IndexFunc_api_Slot_api_Slot_ok b.Slots id x h0) ⟨[(100000, 3)], [], [], []⟩) .nil) ?_
 cases hF
 exact Wk_ret (hfin _ ⟨[], [], [], [], [], [], by kernel_rfl⟩)

/- slices.Clone[[]api.Host,api.Host] -/
noncomputable def slices_Clone_api_Host_api_Host (s0 : List Host) : Option (List Host) :=
 ubO (decide (s0.length = 0)) (
  some ([] : List Host)) (
  asrt (((([] : List Host) ++ s0).length : Int) * 24 ≤ 140737488351232) <|
  some (([] : List Host) ++ s0))
theorem slices_Clone_api_Host_api_Host_ok (s0 : List Host) (r : List Host) (hF : slices_Clone_api_Host_api_Host s0 = some r) : Pe Try.prog 119 S.none [.sl 3 (s0.map e_Host)] (.row 5 0) ⟨[], [], [(5, .o 108 3 0 (r.map e_Host))], [], []⟩ := by
 refine PeN 8 [.tmp 2] [59] Ty.ok Fn.b119 Try.func119 ?_
 intro Q g hfin
 unfold slices_Clone_api_Host_api_Host at hF
 refine NR [] [0] [] [] [] .nil ?_
 refine NR [.bo (decide (s0.length = 0))] [0, 4] [] [] [(4, .ub (decide (s0.length = 0)) true)] (hc (ubn_ok e_Host s0) .nil) ?_
 refine Wk_ub 4 rfl fun b hb1 hb2 => ?_
 refine Nsplit rfl (fun hb => ?_) (fun hb => ?_)
 ·have hb := hb1 hb
  have hF := (ubO_elim hF).1 hb
  refine NR [] [2] [] [] [(2, .nils)] .nil ?_
  cases hF
  refine Wk_nilrow 2 60000 108 3 rfl rfl rfl ?_
  refine Wk_ren' ⟨[], [(60000, 5)], [], []⟩ rfl ?_
  exact Wk_ret (hfin _ ⟨[5], [], [5], [], [], [(5, ⟨0, true, false, false⟩)], by kernel_rfl⟩)
 ·have hF := (ubO_elim hF).2
  obtain ⟨h0, hF⟩ := asrt_elim hF
  refine VR [.xs ((([] : List Host) ++ s0).map e_Host)] [2] [] [5] [] [(2, .row 5 1)] [] [(5, .o 108 3 1 ((([] : List Host) ++ s0).map e_Host))] [] (hc (app_ok e_Host ([] : List Host) s0) (hc (appl_ok e_Host h0) .nil)) ?_
  cases hF
  exact Wk_ret (hfin _ ⟨[5], [], [5], [], [], [(5, ⟨0, true, true, false⟩)], by kernel_rfl⟩)

/- slices.Clone[[]api.Slot,api.Slot] -/
noncomputable def slices_Clone_api_Slot_api_Slot (s0 : List Slot) : Option (List Slot) :=
 ubO (decide (s0.length = 0)) (
  some ([] : List Slot)) (
  asrt (((([] : List Slot) ++ s0).length : Int) * 64 ≤ 140737488351232) <|
  some (([] : List Slot) ++ s0))
theorem slices_Clone_api_Slot_api_Slot_ok (s0 : List Slot) (r : List Slot) (hF : slices_Clone_api_Slot_api_Slot s0 = some r) : Pe Try.prog 120 S.none [.sl 6 (s0.map e_Slot)] (.row 5 0) ⟨[], [], [(5, .o 64 6 0 (r.map e_Slot))], [], []⟩ := by
 refine PeN 8 [.tmp 2] [60] Ty.ok Fn.b120 Try.func120 ?_
 intro Q g hfin
 unfold slices_Clone_api_Slot_api_Slot at hF
 refine NR [] [0] [] [] [] .nil ?_
 refine NR [.bo (decide (s0.length = 0))] [0, 4] [] [] [(4, .ub (decide (s0.length = 0)) true)] (hc (ubn_ok e_Slot s0) .nil) ?_
 refine Wk_ub 4 rfl fun b hb1 hb2 => ?_
 refine Nsplit rfl (fun hb => ?_) (fun hb => ?_)
 ·have hb := hb1 hb
  have hF := (ubO_elim hF).1 hb
  refine NR [] [2] [] [] [(2, .nils)] .nil ?_
  cases hF
  refine Wk_nilrow 2 60000 64 6 rfl rfl rfl ?_
  refine Wk_ren' ⟨[], [(60000, 5)], [], []⟩ rfl ?_
  exact Wk_ret (hfin _ ⟨[5], [], [5], [], [], [(5, ⟨0, true, false, false⟩)], by kernel_rfl⟩)
 ·have hF := (ubO_elim hF).2
  obtain ⟨h0, hF⟩ := asrt_elim hF
  refine VR [.xs ((([] : List Slot) ++ s0).map e_Slot)] [2] [] [5] [] [(2, .row 5 1)] [] [(5, .o 64 6 1 ((([] : List Slot) ++ s0).map e_Slot))] [] (hc (app_ok e_Slot ([] : List Slot) s0) (hc (appl_ok e_Slot h0) .nil)) ?_
  cases hF
  exact Wk_ret (hfin _ ⟨[5], [], [5], [], [], [(5, ⟨0, true, true, false⟩)], by kernel_rfl⟩)

/- assign.own -/
noncomputable def assign_own (b : Board) : Option (List Host × List Slot × Int × Int) :=
 ob (slices_Clone_api_Host_api_Host b.Hosts) fun x =>
 ob (slices_Clone_api_Slot_api_Slot b.Slots) fun x1 =>
 some (x, x1, b.Turn, b.Next)
theorem assign_own_ok (b : Board) (r : List Host × List Slot × Int × Int) (hF : assign_own b = some r) : Pe Try.prog 92 S.none [.agg (c_Board b)] (.agg [.row 5 0, .row 8 0, .i r.2.2.1, .i r.2.2.2]) ⟨[], [], [(5, .o 108 3 0 (r.1.map e_Host)), (8, .o 64 6 0 (r.2.1.map e_Slot))], [], []⟩ := by
 refine PeN 12 [.cell 2 62] [62] Ty.ok Fn.b92 Try.func92 ?_
 intro Q g hfin
 unfold assign_own at hF
 refine VR [] [1, 2] [1, 2] [] [] [(1, .ptr 1 0), (2, .ptr 2 0)] [(1, (c_Board b)), (2, [.nils, .nils, .i 0, .i 0])] [] [] .nil ?_
 obtain ⟨x, h0, hF⟩ := ob_elim hF
 obtain ⟨x1, h1, hF⟩ := ob_elim hF
 refine VD [.callE [] [] [] [] (.row 5 0) ⟨[], [], [(5, .o 108 3 0 (x.map e_Host))], [], []⟩, .callE [] [] [] [] (.row 8 0) ⟨[], [], [(8, .o 64 6 0 (x1.map e_Slot))], [], []⟩] [1, 2] [1, 2] [5, 8] [] [] [(1, [.row 5 0, .row 8 0, .i b.Turn, .i b.Next])] [(5, .o 108 3 0 (x.map e_Host)), (8, .o 64 6 0 (x1.map e_Slot))] [] (hc (Pe.ren (slices_Clone_api_Host_api_Host_ok b.Hosts x h0) ⟨[], [], [], []⟩) (hc (Pe.ren (slices_Clone_api_Slot_api_Slot_ok b.Slots x1 h1) ⟨[], [(5, 8)], [], []⟩) .nil)) ?_
 refine VR [] [2] [2] [5, 8] [] [] [(2, [.row 5 0, .row 8 0, .i b.Turn, .i b.Next])] [] [] .nil ?_
 cases hF
 exact Wk_ret (hfin _ ⟨[5, 8], [], [5, 8], [], [], [], by kernel_rfl⟩)

/- assign.come$1 -/
noncomputable def assign_come_1 (hh : Host) (box : Int) : Bool :=
 decide (hh.ID = box)
theorem assign_come_1_ok (hh : Host) (box : Int) (r : Bool) (hF : assign_come_1 hh box = r) : Pe Try.prog 121 ⟨[], [(100000, [.i box])], [], [], []⟩ [.agg (c_Host hh), .ptr 100000 0] (.bool r) ⟨[], [(100000, [.i box])], [], [], []⟩ := by
 refine PeN 8 [.tmp 3] [4] Ty.ok Fn.b121 Try.func121 ?_
 intro Q g hfin
 unfold assign_come_1 at hF
 refine VR [] [1, 2] [2, 100000] [] [] [(2, .ptr 2 0)] [(2, (c_Host hh))] [] [] .nil ?_
 refine NR [] [3] [100000] [] [(3, .bool (decide (hh.ID = box)))] .nil ?_
 cases hF
 exact Wk_ret (hfin _ ⟨[], [100000], [], [], [], [], by kernel_rfl⟩)

/- slices.IndexFunc[[]api.Host,api.Host] -/
noncomputable def slices_IndexFunc_api_Host_api_Host_v2_J1 (v : Unit) : Option Int :=
 some (-1)
noncomputable def slices_IndexFunc_api_Host_api_Host_v2_B1 (box : Int) (row : List Host) (v1 : Int) : Option (Int ⊕ Int) :=
 if (decide (v1 < (row.length : Int))) = true then
  asrt (0 ≤ v1 ∧ v1 < (row.length : Int)) <|
  asrt (0 ≤ v1 ∧ v1 < (row.length : Int)) <|
  lt (assign_come_1 (⟨(lget row v1).ID, (lget row v1).Epoch, (lget row v1).Alive⟩ : Host) box) fun x =>
  if x = true then
   some (Sum.inr v1)
  else
   some (Sum.inl (w64 (v1 + 1)))
 else
  inrO (slices_IndexFunc_api_Host_api_Host_v2_J1 ())
noncomputable def slices_IndexFunc_api_Host_api_Host_v2_L1 (box : Int) (row : List Host) (v0 : Int) : Option Int :=
 loopO (fun y => slices_IndexFunc_api_Host_api_Host_v2_B1 box row y) v0
noncomputable def slices_IndexFunc_api_Host_api_Host_v2 (box : Int) (row : List Host) : Option Int :=
 slices_IndexFunc_api_Host_api_Host_v2_L1 box row 0
theorem slices_IndexFunc_api_Host_api_Host_v2_ok (box : Int) (row : List Host) (rk : Nat) (rc : Nat) (rn : Bool) (r : Int) (hF : slices_IndexFunc_api_Host_api_Host_v2 box row = some r) : Pe Try.prog 117 ⟨[], [(100000, [.i box])], [(100000, ⟨108, 3, 0, rk, rc, rn, 0, [], (row.map e_Host)⟩)], [], []⟩ [.row 100000 0, .fn 121 [.ptr 100000 0]] (.i r) ⟨[], [(100000, [.i box])], [(100000, ⟨108, 3, 0, rk, rc, rn, 0, [], (row.map e_Host)⟩)], [], []⟩ := by
 refine PeN 19 [.tmp 4] [3] Ty.ok Fn.b117 Try.func117 ?_
 intro Q g hfin
 unfold slices_IndexFunc_api_Host_api_Host_v2 at hF
 refine NR [] [0, 1] [100000] [100000] [] .nil ?_
 refine NR [.nat (row.length : Int)] [0, 1, 7, 8] [100000] [100000] [(7, .i (row.length : Int)), (8, .i 0)] (hc (len_ok e_Host row) .nil) ?_
 refine NmeetP (fun v : Unit => (⟨[], [(100000, [.i box])], [(100000, ⟨108, 3, 0, rk, rc, rn, 0, [], (row.map e_Host)⟩)], [], []⟩ : S)) (fun v => slices_IndexFunc_api_Host_api_Host_v2_J1 v = some r) ?_ ?_
 ·refine Nblk ?_
  unfold slices_IndexFunc_api_Host_api_Host_v2_L1 at hF
  refine Niter (fun v1 : Int => (⟨[(0, .row 100000 0), (1, .fn 121 [.ptr 100000 0]), (7, .i (row.length : Int)), (8, .i v1)], [(100000, [.i box])], [(100000, ⟨108, 3, 0, rk, rc, rn, 0, [], (row.map e_Host)⟩)], [], []⟩ : S)) [] hF (by kernel_rfl) ?_
  intro n1 v1 y1 hF ih1 dn1
  unfold slices_IndexFunc_api_Host_api_Host_v2_B1 at hF
  refine NR [] [0, 1, 7, 8, 9] [100000] [100000] [(9, .bool (decide (v1 < (row.length : Int))))] .nil ?_
  refine Nif hF (fun hb hF => ?_) (fun hb hF => ?_)
  ·refine Nblk ?_
   refine NR [] [0, 1, 5, 7, 8] [100000] [100000] [(5, .i v1)] .nil ?_
   obtain ⟨h0, h1, hF⟩ := asrt2 hF
   obtain ⟨x, h2, hF⟩ := lt_split hF
   refine NR [.av (e_Host (lget row v1)), .callR [100000] [] [] [] (.bool x)] [0, 1, 5, 7, 8, 16] [100000] [100000] [(16, .bool x)] (hc (ixr_ok e_Host h0) (hc (ldr_ok e_Host h1) (hc (Pe.ren (assign_come_1_ok (⟨(lget row v1).ID, (lget row v1).Epoch, (lget row v1).Alive⟩ : Host) box x h2) ⟨[], [], [], []⟩) .nil))) ?_
   refine Nif hF (fun hb hF => ?_) (fun hb hF => ?_)
   ·refine NR [] [4] [100000] [100000] [(4, .i v1)] .nil ?_
    have hF := ret_done hF dn1
    cases hF
    exact Wk_ret (hfin _ ⟨[100000], [100000], [100000], [], [], [], by kernel_rfl⟩)
   ·refine NR [] [0, 1, 7, 8] [100000] [100000] [(8, .i (w64 (v1 + 1)))] .nil ?_
    exact Nrnd [] hF ih1 (by kernel_rfl)
  ·refine Nexit rfl ?_
   have hF := inrO_done hF dn1
   exact metP () [] hF (by kernel_rfl)
 ·intro v hF
  have hF : slices_IndexFunc_api_Host_api_Host_v2_J1 v = some r := hF
  unfold slices_IndexFunc_api_Host_api_Host_v2_J1 at hF
  refine NR [] [4] [100000] [100000] [(4, .i (-1))] .nil ?_
  cases hF
  exact Wk_ret (hfin _ ⟨[100000], [100000], [100000], [], [], [], by kernel_rfl⟩)

/- assign.come -/
noncomputable def assign_come (id : Int) (box : Int) (box1 : Int) (row : List Host) (row1 : List Slot) : Option (Fault × List Host × Int × Int) :=
 lt (assign_number id) fun x =>
 if (!x) = true then
  lt (assign_fault 3 (-1)) fun x1 =>
  some (x1, row, box, box1)
 else
  ob (slices_IndexFunc_api_Host_api_Host_v2 id row) fun x2 =>
  asrt ((decide (0 ≤ x2)) = true → 0 ≤ x2 ∧ x2 < (row.length : Int)) <|
  asrt ((decide (0 ≤ x2)) = true → 0 ≤ x2 ∧ x2 < (row.length : Int)) <|
  if ((decide (0 ≤ x2)) && ((lget row x2).Alive)) = true then
   lt (assign_fault 10 (-1)) fun x3 =>
   some (x3, row, box, box1)
  else
   if ((decide (x2 < 0)) && (decide ((row.length : Int) = 20))) = true then
    lt (assign_fault 2 (-1)) fun x4 =>
    some (x4, row, box, box1)
   else
    if (decide (x2 < 0)) = true then
     asrt (((row ++ [(⟨id, 1, true⟩ : Host)]).length : Int) * 24 ≤ 140737488351232) <|
     some ((⟨0, 0⟩ : Fault), (row ++ [(⟨id, 1, true⟩ : Host)]), box, box1)
    else
     asrt (0 ≤ x2 ∧ x2 < (row.length : Int)) <|
     asrt (0 ≤ x2 ∧ x2 < (row.length : Int)) <|
     asrt (0 ≤ x2 ∧ x2 < (row.length : Int)) <|
     lt ((lset row x2 (⟨(lget row x2).ID, w64 (((lget row x2).Epoch) + 1), (lget row x2).Alive⟩ : Host))) fun (v : List Host) =>
     asrt (0 ≤ x2 ∧ x2 < (v.length : Int)) <|
     if (decide (1000000000 < ((lget v x2).Epoch))) = true then
      lt (assign_fault 9 0) fun x5 =>
      some (x5, v, box, box1)
     else
      asrt (0 ≤ x2 ∧ x2 < (v.length : Int)) <|
      some ((⟨0, 0⟩ : Fault), (lset v x2 (⟨(lget v x2).ID, (lget v x2).Epoch, true⟩ : Host)), box, box1)
theorem assign_come_ok (id : Int) (box : Int) (box1 : Int) (row : List Host) (row1 : List Slot) (rk : Nat) (rc : Nat) (rn : Bool) (rk1 : Nat) (rc1 : Nat) (rn1 : Bool) (r : Fault × List Host × Int × Int) (hF : assign_come id box box1 row row1 = some r) : Pe Try.prog 93 ⟨[], [(100000, [.row 100000 0, .row 100001 0, .i box, .i box1])], [(100000, ⟨108, 3, 0, 0, rc, rn, 0, [], (row.map e_Host)⟩), (100001, ⟨64, 6, 0, rk1, rc1, rn1, 0, [], (row1.map e_Slot)⟩)], [], []⟩ [.ptr 100000 0, .i id] (.agg (c_Fault r.1)) ⟨[], [(100000, [.row 100000 1, .row 100001 0, .i r.2.2.1, .i r.2.2.2])], [(100000, ⟨108, 3, 1, 0, rc, rn, 0, [], (r.2.1.map e_Host)⟩), (100001, ⟨64, 6, 0, rk1, rc1, rn1, 0, [], (row1.map e_Slot)⟩)], [], []⟩ := by
 refine PeN 81 [.cell 4 26] [26] Ty.ok Fn.b93 Try.func93 ?_
 intro Q g hfin
 unfold assign_come at hF
 refine VR [] [0, 3, 4] [3, 4, 100000] [100000, 100001] [] [(3, .ptr 3 0), (4, .ptr 4 0)] [(3, [.i id]), (4, [.i 0, .i 0])] [] [] .nil ?_
 obtain ⟨x, h0, hF⟩ := lt_split hF
 refine NR [.callB (.bool x)] [0, 3, 4, 9] [3, 4, 100000] [100000, 100001] [(9, .bool (!x))] (hc (assign_number_ok id x h0) .nil) ?_
 refine Nif hF (fun hb hF => ?_) (fun hb hF => ?_)
 ·obtain ⟨x1, h1, hF⟩ := lt_split hF
  refine VR [.callB (.agg (c_Fault x1))] [4] [4, 100000] [100000, 100001] [] [] [(4, (c_Fault x1))] [] [] (hc (assign_fault_ok 3 (-1) x1 h1) .nil) ?_
  cases hF
  exact Wk_ret (hfin _ ⟨[100000, 100001], [100000], [100000, 100001], [], [], [(100000, ⟨1, true, true, false⟩)], by kernel_rfl⟩)
 ·obtain ⟨x2, h2, hF⟩ := ob_elim hF
  refine NR [.callR [3] [100000] [] [] (.i x2)] [0, 3, 4, 5] [3, 4, 100000] [100000, 100001] [(5, .i x2)] (hc (Pe.ren (slices_IndexFunc_api_Host_api_Host_v2_ok id row 0 rc rn x2 h2) ⟨[(100000, 3)], [], [], []⟩) .nil) ?_
  refine Nblk ?_
  obtain ⟨h3, h4, hF⟩ := asrt2 hF
  refine NR [.av (e_Host (lget row x2))] [0, 3, 4, 5, 17] [3, 4, 100000] [100000, 100001] [(17, .bool ((decide (0 ≤ x2)) && ((lget row x2).Alive)))] (hc (fun (ga0 : (decide (0 ≤ x2)) = true) => (ixr_ok e_Host (h3 ga0))) (hc (fun (ga0 : (decide (0 ≤ x2)) = true) => (ldr_ok e_Host (h4 ga0))) .nil)) ?_
  refine Nif hF (fun hb hF => ?_) (fun hb hF => ?_)
  ·obtain ⟨x3, h5, hF⟩ := lt_split hF
   refine VR [.callB (.agg (c_Fault x3))] [4] [4, 100000] [100000, 100001] [] [] [(4, (c_Fault x3))] [] [] (hc (assign_fault_ok 10 (-1) x3 h5) .nil) ?_
   cases hF
   exact Wk_ret (hfin _ ⟨[100000, 100001], [100000], [100000, 100001], [], [], [(100000, ⟨1, true, true, false⟩)], by kernel_rfl⟩)
  ·refine NR [.nat (row.length : Int)] [0, 3, 4, 5, 31] [3, 4, 100000] [100000, 100001] [(31, .bool ((decide (x2 < 0)) && (decide ((row.length : Int) = 20))))] (hc (fun (_ : (decide (x2 < 0)) = true) => (len_ok e_Host row)) .nil) ?_
   refine Nif hF (fun hb hF => ?_) (fun hb hF => ?_)
   ·obtain ⟨x4, h6, hF⟩ := lt_split hF
    refine VR [.callB (.agg (c_Fault x4))] [4] [4, 100000] [100000, 100001] [] [] [(4, (c_Fault x4))] [] [] (hc (assign_fault_ok 2 (-1) x4 h6) .nil) ?_
    cases hF
    exact Wk_ret (hfin _ ⟨[100000, 100001], [100000], [100000, 100001], [], [], [(100000, ⟨1, true, true, false⟩)], by kernel_rfl⟩)
   ·refine NR [] [0, 3, 4, 5, 43] [3, 4, 100000] [100000, 100001] [(43, .bool (decide (x2 < 0)))] .nil ?_
    refine Nif hF (fun hb hF => ?_) (fun hb hF => ?_)
    ·obtain ⟨h7, hF⟩ := asrt_elim hF
     refine VD [.sealed, .xs ((row ++ [(⟨id, 1, true⟩ : Host)]).map e_Host)] [4] [4, 100000] [100000, 100001] [] [] [(100000, [.row 100000 1, .row 100001 0, .i box, .i box1])] [(100000, ⟨108, 3, 1, 0, rc, rn, 0, [], ((row ++ [(⟨id, 1, true⟩ : Host)]).map e_Host)⟩)] [] (hc (app_ok e_Host row [(⟨id, 1, true⟩ : Host)]) (hc (appl_ok e_Host h7) .nil)) ?_
     refine NR [] [4] [4, 100000] [100000, 100001] [] .nil ?_
     cases hF
     exact Wk_ret (hfin _ ⟨[100000, 100001], [100000], [100000, 100001], [], [], [], by kernel_rfl⟩)
    ·obtain ⟨h8, hF⟩ := asrt_elim hF
     refine NR [] [4, 6] [4, 100000] [100000, 100001] [(6, .ep 100000 0 x2.toNat 0)] (hc (ixr_ok e_Host h8) .nil) ?_
     obtain ⟨h9, h10, hF⟩ := asrt2 hF
     refine NRL ((lset row x2 (⟨(lget row x2).ID, w64 (((lget row x2).Epoch) + 1), (lget row x2).Alive⟩ : Host))) (fun v : List Host => ([], [], [(100000, ⟨108, 3, 0, 0, rc, rn, 0, [], (v.map e_Host)⟩)], [])) [.av (e_Host (lget row x2)), .av (e_Host (lget row x2)), .xs ((lset row x2 (⟨(lget row x2).ID, w64 (((lget row x2).Epoch) + 1), (lget row x2).Alive⟩ : Host)).map e_Host)] [4, 6] [4, 100000] [100000, 100001] [] (hc (ldr_ok e_Host h9) (hc (ldr_ok e_Host h10) (hc (set_ok e_Host row x2 (⟨(lget row x2).ID, w64 (((lget row x2).Epoch) + 1), (lget row x2).Alive⟩ : Host)) (hc (Nat.zero_le x2.toNat) .nil)))) (fun v hv => ?_)
     have hF := lt_elim hF hv
     obtain ⟨h11, hF⟩ := asrt_elim hF
     refine NR [.av (e_Host (lget v x2))] [4, 6, 75] [4, 100000] [100000, 100001] [(75, .bool (decide (1000000000 < ((lget v x2).Epoch))))] (hc (ldr_ok e_Host h11) .nil) ?_
     refine Nif hF (fun hb hF => ?_) (fun hb hF => ?_)
     ·obtain ⟨x5, h12, hF⟩ := lt_split hF
      refine VR [.callB (.agg (c_Fault x5))] [4] [4, 100000] [100000, 100001] [] [] [(4, (c_Fault x5))] [] [] (hc (assign_fault_ok 9 0 x5 h12) .nil) ?_
      cases hF
      exact Wk_ret (hfin _ ⟨[100000, 100001], [100000], [100000, 100001], [], [], [(100000, ⟨1, true, true, false⟩)], by kernel_rfl⟩)
     ·obtain ⟨h13, hF⟩ := asrt_elim hF
      refine VR [.av (e_Host (lget v x2)), .xs ((lset v x2 (⟨(lget v x2).ID, (lget v x2).Epoch, true⟩ : Host)).map e_Host)] [4] [4, 100000] [100000, 100001] [] [] [] [(100000, ⟨108, 3, 0, 0, rc, rn, 0, [], ((lset v x2 (⟨(lget v x2).ID, (lget v x2).Epoch, true⟩ : Host)).map e_Host)⟩)] [] (hc (ldr_ok e_Host h13) (hc (set_ok e_Host v x2 (⟨(lget v x2).ID, (lget v x2).Epoch, true⟩ : Host)) (hc (Nat.zero_le x2.toNat) .nil))) ?_
      refine NR [] [4] [4, 100000] [100000, 100001] [] .nil ?_
      cases hF
      exact Wk_ret (hfin _ ⟨[100000, 100001], [100000], [100000, 100001], [], [], [(100000, ⟨1, true, true, false⟩)], by kernel_rfl⟩)

/- assign.off -/
noncomputable def assign_off (s0 : Int) (row : List Slot) : Option (List Slot) :=
 asrt (0 ≤ s0 ∧ s0 < (row.length : Int)) <|
 asrt (0 ≤ s0 ∧ s0 < ((lset row s0 (⟨(⟨((lget row s0).Part).From, ((lget row s0).Part).To, ((lget row s0).Part).ID⟩ : Part), 0, (lget row s0).Host, (lget row s0).Turn⟩ : Slot)).length : Int)) <|
 lt ((lset (lset row s0 (⟨(⟨((lget row s0).Part).From, ((lget row s0).Part).To, ((lget row s0).Part).ID⟩ : Part), 0, (lget row s0).Host, (lget row s0).Turn⟩ : Slot)) s0 (⟨(⟨((lget (lset row s0 (⟨(⟨((lget row s0).Part).From, ((lget row s0).Part).To, ((lget row s0).Part).ID⟩ : Part), 0, (lget row s0).Host, (lget row s0).Turn⟩ : Slot)) s0).Part).From, ((lget (lset row s0 (⟨(⟨((lget row s0).Part).From, ((lget row s0).Part).To, ((lget row s0).Part).ID⟩ : Part), 0, (lget row s0).Host, (lget row s0).Turn⟩ : Slot)) s0).Part).To, ((lget (lset row s0 (⟨(⟨((lget row s0).Part).From, ((lget row s0).Part).To, ((lget row s0).Part).ID⟩ : Part), 0, (lget row s0).Host, (lget row s0).Turn⟩ : Slot)) s0).Part).ID⟩ : Part), (lget (lset row s0 (⟨(⟨((lget row s0).Part).From, ((lget row s0).Part).To, ((lget row s0).Part).ID⟩ : Part), 0, (lget row s0).Host, (lget row s0).Turn⟩ : Slot)) s0).State, 0, (lget (lset row s0 (⟨(⟨((lget row s0).Part).From, ((lget row s0).Part).To, ((lget row s0).Part).ID⟩ : Part), 0, (lget row s0).Host, (lget row s0).Turn⟩ : Slot)) s0).Turn⟩ : Slot))) fun (v : List Slot) =>
 some v
theorem assign_off_ok (s0 : Int) (row : List Slot) (rk : Nat) (rc : Nat) (rn : Bool) (r : List Slot) (hF : assign_off s0 row = some r) : Pe Try.prog 122 ⟨[], [], [(100000, ⟨64, 6, 0, 0, rc, rn, 0, [], (row.map e_Slot)⟩)], [], []⟩ [.ep 100000 0 s0.toNat 0] (.tup []) ⟨[], [], [(100000, ⟨64, 6, 0, 0, rc, rn, 0, [], (r.map e_Slot)⟩)], [], []⟩ := by
 refine PeN 8 [] [] Ty.ok Fn.b122 Try.func122 ?_
 intro Q g hfin
 unfold assign_off at hF
 obtain ⟨h0, h1, hF⟩ := asrt2 hF
 refine NRL ((lset (lset row s0 (⟨(⟨((lget row s0).Part).From, ((lget row s0).Part).To, ((lget row s0).Part).ID⟩ : Part), 0, (lget row s0).Host, (lget row s0).Turn⟩ : Slot)) s0 (⟨(⟨((lget (lset row s0 (⟨(⟨((lget row s0).Part).From, ((lget row s0).Part).To, ((lget row s0).Part).ID⟩ : Part), 0, (lget row s0).Host, (lget row s0).Turn⟩ : Slot)) s0).Part).From, ((lget (lset row s0 (⟨(⟨((lget row s0).Part).From, ((lget row s0).Part).To, ((lget row s0).Part).ID⟩ : Part), 0, (lget row s0).Host, (lget row s0).Turn⟩ : Slot)) s0).Part).To, ((lget (lset row s0 (⟨(⟨((lget row s0).Part).From, ((lget row s0).Part).To, ((lget row s0).Part).ID⟩ : Part), 0, (lget row s0).Host, (lget row s0).Turn⟩ : Slot)) s0).Part).ID⟩ : Part), (lget (lset row s0 (⟨(⟨((lget row s0).Part).From, ((lget row s0).Part).To, ((lget row s0).Part).ID⟩ : Part), 0, (lget row s0).Host, (lget row s0).Turn⟩ : Slot)) s0).State, 0, (lget (lset row s0 (⟨(⟨((lget row s0).Part).From, ((lget row s0).Part).To, ((lget row s0).Part).ID⟩ : Part), 0, (lget row s0).Host, (lget row s0).Turn⟩ : Slot)) s0).Turn⟩ : Slot))) (fun v : List Slot => ([], [], [(100000, ⟨64, 6, 0, 0, rc, rn, 0, [], (v.map e_Slot)⟩)], [])) [.av (e_Slot (lget row s0)), .xs ((lset row s0 (⟨(⟨((lget row s0).Part).From, ((lget row s0).Part).To, ((lget row s0).Part).ID⟩ : Part), 0, (lget row s0).Host, (lget row s0).Turn⟩ : Slot)).map e_Slot), .av (e_Slot (lget (lset row s0 (⟨(⟨((lget row s0).Part).From, ((lget row s0).Part).To, ((lget row s0).Part).ID⟩ : Part), 0, (lget row s0).Host, (lget row s0).Turn⟩ : Slot)) s0)), .xs ((lset (lset row s0 (⟨(⟨((lget row s0).Part).From, ((lget row s0).Part).To, ((lget row s0).Part).ID⟩ : Part), 0, (lget row s0).Host, (lget row s0).Turn⟩ : Slot)) s0 (⟨(⟨((lget (lset row s0 (⟨(⟨((lget row s0).Part).From, ((lget row s0).Part).To, ((lget row s0).Part).ID⟩ : Part), 0, (lget row s0).Host, (lget row s0).Turn⟩ : Slot)) s0).Part).From, ((lget (lset row s0 (⟨(⟨((lget row s0).Part).From, ((lget row s0).Part).To, ((lget row s0).Part).ID⟩ : Part), 0, (lget row s0).Host, (lget row s0).Turn⟩ : Slot)) s0).Part).To, ((lget (lset row s0 (⟨(⟨((lget row s0).Part).From, ((lget row s0).Part).To, ((lget row s0).Part).ID⟩ : Part), 0, (lget row s0).Host, (lget row s0).Turn⟩ : Slot)) s0).Part).ID⟩ : Part), (lget (lset row s0 (⟨(⟨((lget row s0).Part).From, ((lget row s0).Part).To, ((lget row s0).Part).ID⟩ : Part), 0, (lget row s0).Host, (lget row s0).Turn⟩ : Slot)) s0).State, 0, (lget (lset row s0 (⟨(⟨((lget row s0).Part).From, ((lget row s0).Part).To, ((lget row s0).Part).ID⟩ : Part), 0, (lget row s0).Host, (lget row s0).Turn⟩ : Slot)) s0).Turn⟩ : Slot)).map e_Slot)] [] [] [100000] [] (hc (ldr_ok e_Slot h0) (hc (set_ok e_Slot row s0 (⟨(⟨((lget row s0).Part).From, ((lget row s0).Part).To, ((lget row s0).Part).ID⟩ : Part), 0, (lget row s0).Host, (lget row s0).Turn⟩ : Slot)) (hc (Nat.zero_le s0.toNat) (hc (ldr_ok e_Slot h1) (hc (set_ok e_Slot (lset row s0 (⟨(⟨((lget row s0).Part).From, ((lget row s0).Part).To, ((lget row s0).Part).ID⟩ : Part), 0, (lget row s0).Host, (lget row s0).Turn⟩ : Slot)) s0 (⟨(⟨((lget (lset row s0 (⟨(⟨((lget row s0).Part).From, ((lget row s0).Part).To, ((lget row s0).Part).ID⟩ : Part), 0, (lget row s0).Host, (lget row s0).Turn⟩ : Slot)) s0).Part).From, ((lget (lset row s0 (⟨(⟨((lget row s0).Part).From, ((lget row s0).Part).To, ((lget row s0).Part).ID⟩ : Part), 0, (lget row s0).Host, (lget row s0).Turn⟩ : Slot)) s0).Part).To, ((lget (lset row s0 (⟨(⟨((lget row s0).Part).From, ((lget row s0).Part).To, ((lget row s0).Part).ID⟩ : Part), 0, (lget row s0).Host, (lget row s0).Turn⟩ : Slot)) s0).Part).ID⟩ : Part), (lget (lset row s0 (⟨(⟨((lget row s0).Part).From, ((lget row s0).Part).To, ((lget row s0).Part).ID⟩ : Part), 0, (lget row s0).Host, (lget row s0).Turn⟩ : Slot)) s0).State, 0, (lget (lset row s0 (⟨(⟨((lget row s0).Part).From, ((lget row s0).Part).To, ((lget row s0).Part).ID⟩ : Part), 0, (lget row s0).Host, (lget row s0).Turn⟩ : Slot)) s0).Turn⟩ : Slot)) (hc (Nat.zero_le s0.toNat) .nil)))))) (fun v hv => ?_)
 have hF := lt_elim hF hv
 cases hF
 exact Wk_end (hfin _ ⟨[100000], [], [100000], [], [], [], by kernel_rfl⟩)

/- assign.lost -/
noncomputable def assign_lost_J1 (row : List Host) (x : Int) (v : List Slot) : Option (Fault × List Host × List Slot) :=
 some ((⟨0, 0⟩ : Fault), (lset row x (⟨(lget row x).ID, (lget row x).Epoch, false⟩ : Host)), v)
noncomputable def assign_lost_B1 (id : Int) (row : List Host) (row1 : List Slot) (x : Int) (v1 : List Slot × Int) : Option ((List Slot × Int) ⊕ (Fault × List Host × List Slot)) :=
 if (decide (v1.2 < (row1.length : Int))) = true then
  asrt (0 ≤ v1.2 ∧ v1.2 < (v1.1.length : Int)) <|
  asrt (0 ≤ v1.2 ∧ v1.2 < (v1.1.length : Int)) <|
  ob (
   if (decide (((lget v1.1 v1.2).Host) = id)) = true then
    asrt (0 ≤ v1.2 ∧ v1.2 < (v1.1.length : Int)) <|
    ob (assign_off v1.2 v1.1) fun x2 =>
    some x2
   else
    some v1.1) fun (v2 : List Slot) =>
  some (Sum.inl (v2, w64 (v1.2 + 1)))
 else
  inrO (assign_lost_J1 row x v1.1)
noncomputable def assign_lost_L1 (id : Int) (row : List Host) (row1 : List Slot) (x : Int) (v0 : List Slot × Int) : Option (Fault × List Host × List Slot) :=
 loopO (fun y => assign_lost_B1 id row row1 x y) v0
noncomputable def assign_lost (id : Int) (box : Int) (box1 : Int) (row : List Host) (row1 : List Slot) : Option (Fault × List Host × List Slot) :=
 ob (assign_HostAt (⟨row, row1, box, box1⟩ : Board) id) fun x =>
 if (decide (x < 0)) = true then
  lt (assign_fault 6 (-1)) fun x1 =>
  some (x1, row, row1)
 else
  asrt (0 ≤ x ∧ x < (row.length : Int)) <|
  asrt (0 ≤ x ∧ x < (row.length : Int)) <|
  assign_lost_L1 id row row1 x (row1, 0)
theorem assign_lost_ok (id : Int) (box : Int) (box1 : Int) (row : List Host) (row1 : List Slot) (rk : Nat) (rc : Nat) (rn : Bool) (rk1 : Nat) (rc1 : Nat) (rn1 : Bool) (r : Fault × List Host × List Slot) (hF : assign_lost id box box1 row row1 = some r) : Pe Try.prog 94 ⟨[], [(100000, [.row 100000 0, .row 100001 0, .i box, .i box1])], [(100000, ⟨108, 3, 0, 0, rc, rn, 0, [], (row.map e_Host)⟩), (100001, ⟨64, 6, 0, 0, rc1, rn1, 0, [], (row1.map e_Slot)⟩)], [], []⟩ [.ptr 100000 0, .i id] (.agg (c_Fault r.1)) ⟨[], [(100000, [.row 100000 0, .row 100001 0, .i box, .i box1])], [(100000, ⟨108, 3, 0, 0, rc, rn, 0, [], (r.2.1.map e_Host)⟩), (100001, ⟨64, 6, 0, 0, rc1, rn1, 0, [], (r.2.2.map e_Slot)⟩)], [], []⟩ := by
 refine PeN 49 [.cell 4 26] [26] Ty.ok Fn.b94 Try.func94 ?_
 intro Q g hfin
 unfold assign_lost at hF
 refine VR [] [0, 1, 4] [4, 100000] [100000, 100001] [] [(4, .ptr 4 0)] [(4, [.i 0, .i 0])] [] [] .nil ?_
 obtain ⟨x, h0, hF⟩ := ob_elim hF
 refine NR [.callB (.i x)] [0, 1, 4, 5] [4, 100000] [100000, 100001] [(5, .i x)] (hc (assign_HostAt_ok (⟨row, row1, box, box1⟩ : Board) id x h0) .nil) ?_
 refine NR [] [0, 1, 4, 5, 13] [4, 100000] [100000, 100001] [(13, .bool (decide (x < 0)))] .nil ?_
 refine Nif hF (fun hb hF => ?_) (fun hb hF => ?_)
 ·obtain ⟨x1, h1, hF⟩ := lt_split hF
  refine VR [.callB (.agg (c_Fault x1))] [4] [4, 100000] [100000, 100001] [] [] [(4, (c_Fault x1))] [] [] (hc (assign_fault_ok 6 (-1) x1 h1) .nil) ?_
  cases hF
  exact Wk_ret (hfin _ ⟨[100000, 100001], [100000], [100000, 100001], [], [], [], by kernel_rfl⟩)
 ·obtain ⟨h2, hF⟩ := asrt_elim hF
  obtain ⟨h3, hF⟩ := asrt_elim hF
  refine VR [.av (e_Host (lget row x)), .xs ((lset row x (⟨(lget row x).ID, (lget row x).Epoch, false⟩ : Host)).map e_Host)] [0, 1, 4] [4, 100000] [100000, 100001] [] [] [] [(100000, ⟨108, 3, 0, 0, rc, rn, 0, [], ((lset row x (⟨(lget row x).ID, (lget row x).Epoch, false⟩ : Host)).map e_Host)⟩)] [] (hc (ixr_ok e_Host h2) (hc (ldr_ok e_Host h3) (hc (set_ok e_Host row x (⟨(lget row x).ID, (lget row x).Epoch, false⟩ : Host)) (hc (Nat.zero_le x.toNat) .nil)))) ?_
  refine NR [.nat (row1.length : Int)] [0, 1, 4, 26, 27] [4, 100000] [100000, 100001] [(26, .i (row1.length : Int)), (27, .i 0)] (hc (len_ok e_Slot row1) .nil) ?_
  refine NmeetP (fun v : List Slot => (⟨[(4, .ptr 4 0)], [(4, [.i 0, .i 0]), (100000, [.row 100000 0, .row 100001 0, .i box, .i box1])], [(100000, ⟨108, 3, 0, 0, rc, rn, 0, [], ((lset row x (⟨(lget row x).ID, (lget row x).Epoch, false⟩ : Host)).map e_Host)⟩), (100001, ⟨64, 6, 0, 0, rc1, rn1, 0, [], (v.map e_Slot)⟩)], [], []⟩ : S)) (fun v => assign_lost_J1 row x v = some r) ?_ ?_
  ·refine Nblk ?_
   unfold assign_lost_L1 at hF
   refine Niter (fun v1 : List Slot × Int => (⟨[(0, .ptr 100000 0), (1, .i id), (4, .ptr 4 0), (26, .i (row1.length : Int)), (27, .i v1.2)], [(4, [.i 0, .i 0]), (100000, [.row 100000 0, .row 100001 0, .i box, .i box1])], [(100000, ⟨108, 3, 0, 0, rc, rn, 0, [], ((lset row x (⟨(lget row x).ID, (lget row x).Epoch, false⟩ : Host)).map e_Host)⟩), (100001, ⟨64, 6, 0, 0, rc1, rn1, 0, [], (v1.1.map e_Slot)⟩)], [], []⟩ : S)) [] hF (by kernel_rfl) ?_
   intro n1 v1 y1 hF ih1 dn1
   unfold assign_lost_B1 at hF
   refine NR [] [0, 1, 4, 26, 27, 28] [4, 100000] [100000, 100001] [(28, .bool (decide (v1.2 < (row1.length : Int))))] .nil ?_
   refine Nif hF (fun hb hF => ?_) (fun hb hF => ?_)
   ·refine Nblk ?_
    refine NR [] [0, 1, 4, 6, 26, 27] [4, 100000] [100000, 100001] [(6, .i v1.2)] .nil ?_
    obtain ⟨h4, h5, hF⟩ := asrt2 hF
    refine NR [.av (e_Slot (lget v1.1 v1.2))] [0, 1, 4, 6, 26, 27, 39] [4, 100000] [100000, 100001] [(39, .bool (decide (((lget v1.1 v1.2).Host) = id)))] (hc (ixr_ok e_Slot h4) (hc (ldr_ok e_Slot h5) .nil)) ?_
    obtain ⟨v2, hv, hF⟩ := ob_elim hF
    refine Nmeet (⟨[(0, .ptr 100000 0), (1, .i id), (4, .ptr 4 0), (26, .i (row1.length : Int)), (27, .i v1.2)], [(4, [.i 0, .i 0]), (100000, [.row 100000 0, .row 100001 0, .i box, .i box1])], [(100000, ⟨108, 3, 0, 0, rc, rn, 0, [], ((lset row x (⟨(lget row x).ID, (lget row x).Epoch, false⟩ : Host)).map e_Host)⟩), (100001, ⟨64, 6, 0, 0, rc1, rn1, 0, [], (v2.map e_Slot)⟩)], [], []⟩ : S) ?_ ?_
    ·have hF := hv
     refine Nif hF (fun hb hF => ?_) (fun hb hF => ?_)
     ·obtain ⟨h6, hF⟩ := asrt_elim hF
      obtain ⟨x2, h7, hF⟩ := ob_elim hF
      refine VR [.callE [] [100001] [] [] (.tup []) ⟨[], [], [(100001, ⟨64, 6, 0, 0, rc1, rn1, 0, [], (x2.map e_Slot)⟩)], [], []⟩] [0, 1, 4, 26, 27] [4, 100000] [100000, 100001] [] [] [] [(100001, ⟨64, 6, 0, 0, rc1, rn1, 0, [], (x2.map e_Slot)⟩)] [] (hc (ixr_ok e_Slot h6) (hc (Pe.ren (assign_off_ok v1.2 v1.1 0 rc1 rn1 x2 h7) ⟨[], [(100000, 100001)], [], []⟩) .nil)) ?_
      cases hF
      exact met [] (by kernel_rfl)
     ·cases hF
      exact met [] (by kernel_rfl)
    ·refine NR [] [0, 1, 4, 26, 27] [4, 100000] [100000, 100001] [(27, .i (w64 (v1.2 + 1)))] .nil ?_
     exact Nrnd [] hF ih1 (by kernel_rfl)
   ·refine Nexit rfl ?_
    have hF := inrO_done hF dn1
    exact metP v1.1 [] hF (by kernel_rfl)
  ·intro v hF
   have hF : assign_lost_J1 row x v = some r := hF
   unfold assign_lost_J1 at hF
   refine NR [] [4] [4, 100000] [100000, 100001] [] .nil ?_
   cases hF
   exact Wk_ret (hfin _ ⟨[100000, 100001], [100000], [100000, 100001], [], [], [], by kernel_rfl⟩)

/- assign.given -/
noncomputable def assign_given (s0 : Int) (o : Order) (state : Int) (row : List Slot) : Option Fault :=
 asrt (0 ≤ s0 ∧ s0 < (row.length : Int)) <|
 asrt ((!(!decide (((lget row s0).Host) = o.Host))) = true → 0 ≤ s0 ∧ s0 < (row.length : Int)) <|
 if ((!decide (((lget row s0).Host) = o.Host)) || (!decide (((lget row s0).Turn) = o.Turn))) = true then
  lt (assign_fault 12 (-1)) fun x =>
  some x
 else
  asrt (0 ≤ s0 ∧ s0 < (row.length : Int)) <|
  if (!decide (((lget row s0).State) = state)) = true then
   lt (assign_fault 11 (-1)) fun x1 =>
   some x1
  else
   some (⟨0, 0⟩ : Fault)
theorem assign_given_ok (s0 : Int) (o : Order) (state : Int) (row : List Slot) (rk : Nat) (rc : Nat) (rn : Bool) (r : Fault) (hF : assign_given s0 o state row = some r) : Pe Try.prog 124 ⟨[], [], [(100000, ⟨64, 6, 0, rk, rc, rn, 0, [], (row.map e_Slot)⟩)], [], []⟩ [.ep 100000 0 s0.toNat 0, .agg (c_Order o), .i state] (.agg (c_Fault r)) ⟨[], [], [(100000, ⟨64, 6, 0, rk, rc, rn, 0, [], (row.map e_Slot)⟩)], [], []⟩ := by
 refine PeN 34 [.cell 6 26] [26] Ty.ok Fn.b124 Try.func124 ?_
 intro Q g hfin
 unfold assign_given at hF
 refine VR [] [0, 2, 4, 6] [4, 6] [100000] [] [(4, .ptr 4 0), (6, .ptr 6 0)] [(4, (c_Order o)), (6, [.i 0, .i 0])] [] [] .nil ?_
 refine Nblk ?_
 obtain ⟨h0, h1, hF⟩ := asrt2 hF
 refine ND [.av (e_Slot (lget row s0)), .av (e_Slot (lget row s0))] [0, 2, 6, 7] [6] [100000] [(7, .bool ((!decide (((lget row s0).Host) = o.Host)) || (!decide (((lget row s0).Turn) = o.Turn))))] (hc (ldr_ok e_Slot h0) (hc (fun (ga0 : (!(!decide (((lget row s0).Host) = o.Host))) = true) => (ldr_ok e_Slot (h1 ga0))) .nil)) ?_
 refine Nif hF (fun hb hF => ?_) (fun hb hF => ?_)
 ·obtain ⟨x, h2, hF⟩ := lt_split hF
  refine VR [.callB (.agg (c_Fault x))] [6] [6] [100000] [] [] [(6, (c_Fault x))] [] [] (hc (assign_fault_ok 12 (-1) x h2) .nil) ?_
  cases hF
  exact Wk_ret (hfin _ ⟨[100000], [], [100000], [], [], [], by kernel_rfl⟩)
 ·obtain ⟨h3, hF⟩ := asrt_elim hF
  refine NR [.av (e_Slot (lget row s0))] [6, 25] [6] [100000] [(25, .bool (!decide (((lget row s0).State) = state)))] (hc (ldr_ok e_Slot h3) .nil) ?_
  refine Nif hF (fun hb hF => ?_) (fun hb hF => ?_)
  ·obtain ⟨x1, h4, hF⟩ := lt_split hF
   refine VR [.callB (.agg (c_Fault x1))] [6] [6] [100000] [] [] [(6, (c_Fault x1))] [] [] (hc (assign_fault_ok 11 (-1) x1 h4) .nil) ?_
   cases hF
   exact Wk_ret (hfin _ ⟨[100000], [], [100000], [], [], [], by kernel_rfl⟩)
  ·refine NR [] [6] [6] [100000] [] .nil ?_
   cases hF
   exact Wk_ret (hfin _ ⟨[100000], [], [100000], [], [], [], by kernel_rfl⟩)

/- parts.find$1 -/
noncomputable def parts_find_1 (i : Int) (box : List Part) (box1 : List UInt8) : Option Bool :=
 asrt (0 ≤ i ∧ i < (box.length : Int)) <|
 some (Op.bytesLess box1 ((lget box i).From))
theorem parts_find_1_ok (i : Int) (box : List Part) (box1 : List UInt8) (r : Bool) (hF : parts_find_1 i box box1 = some r) : Pe Try.prog 103 ⟨[], [(100000, [.sl 3 (box.map e_Part)]), (100001, [.str box1])], [], [], []⟩ [.i i, .ptr 100000 0, .ptr 100001 0] (.bool r) ⟨[], [(100000, [.sl 3 (box.map e_Part)]), (100001, [.str box1])], [], [], []⟩ := by
 refine PeN 12 [.tmp 4] [4] Ty.ok Fn.b103 Try.func103 ?_
 intro Q g hfin
 unfold parts_find_1 at hF
 refine NR [] [0, 1, 2] [100000, 100001] [] [] .nil ?_
 obtain ⟨h0, hF⟩ := asrt_elim hF
 refine ND [.av (e_Part (lget box i))] [4] [100000, 100001] [] [(4, .bool (Op.bytesLess box1 ((lget box i).From)))] (hc (idx_ok e_Part h0) .nil) ?_
 cases hF
 exact Wk_ret (hfin _ ⟨[], [100000, 100001], [], [], [], [], by kernel_rfl⟩)

/- sort.Search -/
noncomputable def sort_Search_J1 (v : Int) : Option Int :=
 some v
noncomputable def sort_Search_B1 (box : List Part) (box1 : List UInt8) (v1 : Int × Int) : Option ((Int × Int) ⊕ Int) :=
 if (decide (v1.1 < v1.2)) = true then
  lt (w64 (Int.fdiv (IntKind.u64.wrap (w64 (v1.1 + v1.2))) (2 ^ (min (1 : Int).toNat 64)))) fun (v2 : Int) =>
  ob (parts_find_1 v2 box box1) fun x =>
  if (!x) = true then
   some (Sum.inl (w64 (v2 + 1), v1.2))
  else
   some (Sum.inl (v1.1, v2))
 else
  inrO (sort_Search_J1 v1.1)
noncomputable def sort_Search_L1 (box : List Part) (box1 : List UInt8) (v0 : Int × Int) : Option Int :=
 loopO (fun y => sort_Search_B1 box box1 y) v0
noncomputable def sort_Search (num : Int) (box : List Part) (box1 : List UInt8) : Option Int :=
 sort_Search_L1 box box1 (0, num)
theorem sort_Search_ok (num : Int) (box : List Part) (box1 : List UInt8) (r : Int) (hF : sort_Search num box box1 = some r) : Pe Try.prog 73 ⟨[], [(100000, [.sl 3 (box.map e_Part)]), (100001, [.str box1])], [], [], []⟩ [.i num, .fn 103 [.ptr 100000 0, .ptr 100001 0]] (.i r) ⟨[], [(100000, [.sl 3 (box.map e_Part)]), (100001, [.str box1])], [], [], []⟩ := by
 refine PeN 26 [.tmp 4] [3] Ty.ok Fn.b73 Try.func73 ?_
 intro Q g hfin
 unfold sort_Search at hF
 refine NR [] [0, 1] [100000, 100001] [] [] .nil ?_
 refine NR [] [1, 5, 6] [100000, 100001] [] [(5, .i 0), (6, .i num)] .nil ?_
 refine NmeetP (fun v : Int => (⟨[(5, .i v)], [(100000, [.sl 3 (box.map e_Part)]), (100001, [.str box1])], [], [], []⟩ : S)) (fun v => sort_Search_J1 v = some r) ?_ ?_
 ·refine Nblk ?_
  unfold sort_Search_L1 at hF
  refine Niter (fun v1 : Int × Int => (⟨[(1, .fn 103 [.ptr 100000 0, .ptr 100001 0]), (5, .i v1.1), (6, .i v1.2)], [(100000, [.sl 3 (box.map e_Part)]), (100001, [.str box1])], [], [], []⟩ : S)) [] hF (by kernel_rfl) ?_
  intro n1 v1 y1 hF ih1 dn1
  unfold sort_Search_B1 at hF
  refine NR [] [1, 5, 6, 11] [100000, 100001] [] [(11, .bool (decide (v1.1 < v1.2)))] .nil ?_
  refine Nif hF (fun hb hF => ?_) (fun hb hF => ?_)
  ·refine Nblk ?_
   refine NRL (w64 (Int.fdiv (IntKind.u64.wrap (w64 (v1.1 + v1.2))) (2 ^ (min (1 : Int).toNat 64)))) (fun v2 : Int => ([(7, .i v2)], [], [], [])) [] [1, 5, 6, 7] [100000, 100001] [] [] (hc (by decide : (0 : Int) ≤ 1) .nil) (fun v2 hv => ?_)
   have hF := lt_elim hF hv
   obtain ⟨x, h0, hF⟩ := ob_elim hF
   refine NR [.callR [100000, 100001] [] [] [] (.bool x)] [1, 5, 6, 7, 21] [100000, 100001] [] [(21, .bool (!x))] (hc (Pe.ren (parts_find_1_ok v2 box box1 x h0) ⟨[], [], [], []⟩) .nil) ?_
   refine Nif hF (fun hb hF => ?_) (fun hb hF => ?_)
   ·refine NR [] [1, 5, 6] [100000, 100001] [] [(5, .i (w64 (v2 + 1)))] .nil ?_
    exact Nrnd [] hF ih1 (by kernel_rfl)
   ·refine NR [] [1, 5, 6] [100000, 100001] [] [(6, .i v2)] .nil ?_
    exact Nrnd [] hF ih1 (by kernel_rfl)
  ·refine Nexit rfl ?_
   have hF := inrO_done hF dn1
   exact metP v1.1 [] hF (by kernel_rfl)
 ·intro v hF
  have hF : sort_Search_J1 v = some r := hF
  unfold sort_Search_J1 at hF
  refine NR [] [4] [100000, 100001] [] [(4, .i v)] .nil ?_
  cases hF
  exact Wk_ret (hfin _ ⟨[], [100000, 100001], [], [], [], [], by kernel_rfl⟩)

/- parts.find -/
noncomputable def parts_find (l : List Part) (row : List UInt8) : Option Int :=
 ob (sort_Search (l.length : Int) l row) fun x =>
 some (w64 (x - 1))
theorem parts_find_ok (l : List Part) (row : List UInt8) (r : Int) (hF : parts_find l row = some r) : Pe Try.prog 70 S.none [.sl 3 (l.map e_Part), .str row] (.i r) S.none := by
 refine PeN 10 [.tmp 4] [3] Ty.ok Fn.b70 Try.func70 ?_
 intro Q g hfin
 unfold parts_find at hF
 refine VR [] [2, 3] [2, 3] [] [] [(2, .ptr 2 0), (3, .ptr 3 0)] [(2, [.sl 3 (l.map e_Part)]), (3, [.str row])] [] [] .nil ?_
 obtain ⟨x, h0, hF⟩ := ob_elim hF
 refine NR [.nat (l.length : Int), .callR [2, 3] [] [] [] (.i x)] [4] [] [] [(4, .i (w64 (x - 1)))] (hc (len_ok e_Part l) (hc (Pe.ren (sort_Search_ok (l.length : Int) l row x h0) ⟨[(100000, 2), (100001, 3)], [], [], []⟩) .nil)) ?_
 cases hF
 exact Wk_ret (hfin _ ⟨[], [], [], [], [], [], by kernel_rfl⟩)

/- parts.others$1 -/
noncomputable def parts_others_1 (p : Part) (box : Int) : Bool :=
 decide (p.ID = box)
theorem parts_others_1_ok (p : Part) (box : Int) (r : Bool) (hF : parts_others_1 p box = r) : Pe Try.prog 105 ⟨[], [(100000, [.i box])], [], [], []⟩ [.agg (c_Part p), .ptr 100000 0] (.bool r) ⟨[], [(100000, [.i box])], [], [], []⟩ := by
 refine PeN 8 [.tmp 3] [4] Ty.ok Fn.b105 Try.func105 ?_
 intro Q g hfin
 unfold parts_others_1 at hF
 refine VR [] [1, 2] [2, 100000] [] [] [(2, .ptr 2 0)] [(2, (c_Part p))] [] [] .nil ?_
 refine NR [] [3] [100000] [] [(3, .bool (decide (p.ID = box)))] .nil ?_
 cases hF
 exact Wk_ret (hfin _ ⟨[], [100000], [], [], [], [], by kernel_rfl⟩)

end G
end Go.Proofs.Ytdjlninhfndjfaa
