/- The program's functions as plain functions, and that they are these. Written by a program (dec2.py). -/
import Derived.Test.YtdjlninhfndjfaaGf0
namespace Go.Proofs.Ytdjlninhfndjfaa
open Go Go.Dm
set_option linter.unusedVariables false
set_option linter.unusedSimpArgs false
set_option maxRecDepth 100000
namespace G
/- slices.IndexFunc[[]api.Part,api.Part] -/
noncomputable def slices_IndexFunc_api_Part_api_Part_J1 (v : Unit) : Option Int :=
 some (-1)
noncomputable def slices_IndexFunc_api_Part_api_Part_B1 (s0 : List Part) (box : Int) (v1 : Int) : Option (Int ⊕ Int) :=
 if (decide (v1 < (s0.length : Int))) = true then
  asrt (0 ≤ v1 ∧ v1 < (s0.length : Int)) <|
  lt (parts_others_1 (⟨(lget s0 v1).From, (lget s0 v1).To, (lget s0 v1).ID⟩ : Part) box) fun x =>
  if x = true then
   some (Sum.inr v1)
  else
   some (Sum.inl (w64 (v1 + 1)))
 else
  inrO (slices_IndexFunc_api_Part_api_Part_J1 ())
noncomputable def slices_IndexFunc_api_Part_api_Part_L1 (s0 : List Part) (box : Int) (v0 : Int) : Option Int :=
 loopO (fun y => slices_IndexFunc_api_Part_api_Part_B1 s0 box y) v0
noncomputable def slices_IndexFunc_api_Part_api_Part (s0 : List Part) (box : Int) : Option Int :=
 slices_IndexFunc_api_Part_api_Part_L1 s0 box 0
theorem slices_IndexFunc_api_Part_api_Part_ok (s0 : List Part) (box : Int) (r : Int) (hF : slices_IndexFunc_api_Part_api_Part s0 box = some r) : Pe Try.prog 127 ⟨[], [(100000, [.i box])], [], [], []⟩ [.sl 3 (s0.map e_Part), .fn 105 [.ptr 100000 0]] (.i r) ⟨[], [(100000, [.i box])], [], [], []⟩ := by
 refine PeN 19 [.tmp 4] [3] Ty.ok Fn.b127 Try.func127 ?_
 intro Q g hfin
 unfold slices_IndexFunc_api_Part_api_Part at hF
 refine NR [] [0, 1] [100000] [] [] .nil ?_
 refine NR [.nat (s0.length : Int)] [0, 1, 7, 8] [100000] [] [(7, .i (s0.length : Int)), (8, .i 0)] (hc (len_ok e_Part s0) .nil) ?_
 refine NmeetP (fun v : Unit => (⟨[], [(100000, [.i box])], [], [], []⟩ : S)) (fun v => slices_IndexFunc_api_Part_api_Part_J1 v = some r) ?_ ?_
 ·refine Nblk ?_
  unfold slices_IndexFunc_api_Part_api_Part_L1 at hF
  refine Niter (fun v1 : Int => (⟨[(0, .sl 3 (s0.map e_Part)), (1, .fn 105 [.ptr 100000 0]), (7, .i (s0.length : Int)), (8, .i v1)], [(100000, [.i box])], [], [], []⟩ : S)) [] hF (by kernel_rfl) ?_
  intro n1 v1 y1 hF ih1 dn1
  unfold slices_IndexFunc_api_Part_api_Part_B1 at hF
  refine NR [] [0, 1, 7, 8, 9] [100000] [] [(9, .bool (decide (v1 < (s0.length : Int))))] .nil ?_
  refine Nif hF (fun hb hF => ?_) (fun hb hF => ?_)
  ·refine Nblk ?_
   refine NR [] [0, 1, 5, 7, 8] [100000] [] [(5, .i v1)] .nil ?_
   obtain ⟨h0, hF⟩ := asrt_elim hF
   obtain ⟨x, h1, hF⟩ := lt_split hF
   refine NR [.av (e_Part (lget s0 v1)), .callR [100000] [] [] [] (.bool x)] [0, 1, 5, 7, 8, 16] [100000] [] [(16, .bool x)] (hc (idx_ok e_Part h0) (hc (Pe.ren (parts_others_1_ok (⟨(lget s0 v1).From, (lget s0 v1).To, (lget s0 v1).ID⟩ : Part) box x h1) ⟨[], [], [], []⟩) .nil)) ?_
   refine Nif hF (fun hb hF => ?_) (fun hb hF => ?_)
   ·refine NR [] [4] [100000] [] [(4, .i v1)] .nil ?_
    have hF := ret_done hF dn1
    cases hF
    exact Wk_ret (hfin _ ⟨[], [100000], [], [], [], [], by kernel_rfl⟩)
   ·refine NR [] [0, 1, 7, 8] [100000] [] [(8, .i (w64 (v1 + 1)))] .nil ?_
    exact Nrnd [] hF ih1 (by kernel_rfl)
  ·refine Nexit rfl ?_
   have hF := inrO_done hF dn1
   exact metP () [] hF (by kernel_rfl)
 ·intro v hF
  have hF : slices_IndexFunc_api_Part_api_Part_J1 v = some r := hF
  unfold slices_IndexFunc_api_Part_api_Part_J1 at hF
  refine NR [] [4] [100000] [] [(4, .i (-1))] .nil ?_
  cases hF
  exact Wk_ret (hfin _ ⟨[], [100000], [], [], [], [], by kernel_rfl⟩)

/- slices.ContainsFunc[[]api.Part,api.Part] -/
noncomputable def slices_ContainsFunc_api_Part_api_Part (s0 : List Part) (box : Int) : Option Bool :=
 ob (slices_IndexFunc_api_Part_api_Part s0 box) fun x =>
 some (decide (0 ≤ x))
theorem slices_ContainsFunc_api_Part_api_Part_ok (s0 : List Part) (box : Int) (r : Bool) (hF : slices_ContainsFunc_api_Part_api_Part s0 box = some r) : Pe Try.prog 104 ⟨[], [(100000, [.i box])], [], [], []⟩ [.sl 3 (s0.map e_Part), .fn 105 [.ptr 100000 0]] (.bool r) ⟨[], [(100000, [.i box])], [], [], []⟩ := by
 refine PeN 9 [.tmp 4] [4] Ty.ok Fn.b104 Try.func104 ?_
 intro Q g hfin
 unfold slices_ContainsFunc_api_Part_api_Part at hF
 refine NR [] [0, 1] [100000] [] [] .nil ?_
 obtain ⟨x, h0, hF⟩ := ob_elim hF
 refine NR [.callR [100000] [] [] [] (.i x)] [4] [100000] [] [(4, .bool (decide (0 ≤ x)))] (hc (Pe.ren (slices_IndexFunc_api_Part_api_Part_ok s0 box x h0) ⟨[], [], [], []⟩) .nil) ?_
 cases hF
 exact Wk_ret (hfin _ ⟨[], [100000], [], [], [], [], by kernel_rfl⟩)

/- parts.others$2 -/
noncomputable def parts_others_2 (p : Part) (box : Int) : Bool :=
 decide (p.ID = box)
theorem parts_others_2_ok (p : Part) (box : Int) (r : Bool) (hF : parts_others_2 p box = r) : Pe Try.prog 106 ⟨[], [(100000, [.i box])], [], [], []⟩ [.agg (c_Part p), .ptr 100000 0] (.bool r) ⟨[], [(100000, [.i box])], [], [], []⟩ := by
 refine PeN 8 [.tmp 3] [4] Ty.ok Fn.b106 Try.func106 ?_
 intro Q g hfin
 unfold parts_others_2 at hF
 refine VR [] [1, 2] [2, 100000] [] [] [(2, .ptr 2 0)] [(2, (c_Part p))] [] [] .nil ?_
 refine NR [] [3] [100000] [] [(3, .bool (decide (p.ID = box)))] .nil ?_
 cases hF
 exact Wk_ret (hfin _ ⟨[], [100000], [], [], [], [], by kernel_rfl⟩)

/- slices.IndexFunc[[]api.Part,api.Part] -/
noncomputable def slices_IndexFunc_api_Part_api_Part_v1_J1 (v : Unit) : Option Int :=
 some (-1)
noncomputable def slices_IndexFunc_api_Part_api_Part_v1_B1 (s0 : List Part) (box : Int) (v1 : Int) : Option (Int ⊕ Int) :=
 if (decide (v1 < (s0.length : Int))) = true then
  asrt (0 ≤ v1 ∧ v1 < (s0.length : Int)) <|
  lt (parts_others_2 (⟨(lget s0 v1).From, (lget s0 v1).To, (lget s0 v1).ID⟩ : Part) box) fun x =>
  if x = true then
   some (Sum.inr v1)
  else
   some (Sum.inl (w64 (v1 + 1)))
 else
  inrO (slices_IndexFunc_api_Part_api_Part_v1_J1 ())
noncomputable def slices_IndexFunc_api_Part_api_Part_v1_L1 (s0 : List Part) (box : Int) (v0 : Int) : Option Int :=
 loopO (fun y => slices_IndexFunc_api_Part_api_Part_v1_B1 s0 box y) v0
noncomputable def slices_IndexFunc_api_Part_api_Part_v1 (s0 : List Part) (box : Int) : Option Int :=
 slices_IndexFunc_api_Part_api_Part_v1_L1 s0 box 0
theorem slices_IndexFunc_api_Part_api_Part_v1_ok (s0 : List Part) (box : Int) (r : Int) (hF : slices_IndexFunc_api_Part_api_Part_v1 s0 box = some r) : Pe Try.prog 127 ⟨[], [(100000, [.i box])], [], [], []⟩ [.sl 3 (s0.map e_Part), .fn 106 [.ptr 100000 0]] (.i r) ⟨[], [(100000, [.i box])], [], [], []⟩ := by
 refine PeN 19 [.tmp 4] [3] Ty.ok Fn.b127 Try.func127 ?_
 intro Q g hfin
 unfold slices_IndexFunc_api_Part_api_Part_v1 at hF
 refine NR [] [0, 1] [100000] [] [] .nil ?_
 refine NR [.nat (s0.length : Int)] [0, 1, 7, 8] [100000] [] [(7, .i (s0.length : Int)), (8, .i 0)] (hc (len_ok e_Part s0) .nil) ?_
 refine NmeetP (fun v : Unit => (⟨[], [(100000, [.i box])], [], [], []⟩ : S)) (fun v => slices_IndexFunc_api_Part_api_Part_v1_J1 v = some r) ?_ ?_
 ·refine Nblk ?_
  unfold slices_IndexFunc_api_Part_api_Part_v1_L1 at hF
  refine Niter (fun v1 : Int => (⟨[(0, .sl 3 (s0.map e_Part)), (1, .fn 106 [.ptr 100000 0]), (7, .i (s0.length : Int)), (8, .i v1)], [(100000, [.i box])], [], [], []⟩ : S)) [] hF (by kernel_rfl) ?_
  intro n1 v1 y1 hF ih1 dn1
  unfold slices_IndexFunc_api_Part_api_Part_v1_B1 at hF
  refine NR [] [0, 1, 7, 8, 9] [100000] [] [(9, .bool (decide (v1 < (s0.length : Int))))] .nil ?_
  refine Nif hF (fun hb hF => ?_) (fun hb hF => ?_)
  ·refine Nblk ?_
   refine NR [] [0, 1, 5, 7, 8] [100000] [] [(5, .i v1)] .nil ?_
   obtain ⟨h0, hF⟩ := asrt_elim hF
   obtain ⟨x, h1, hF⟩ := lt_split hF
   refine NR [.av (e_Part (lget s0 v1)), .callR [100000] [] [] [] (.bool x)] [0, 1, 5, 7, 8, 16] [100000] [] [(16, .bool x)] (hc (idx_ok e_Part h0) (hc (Pe.ren (parts_others_2_ok (⟨(lget s0 v1).From, (lget s0 v1).To, (lget s0 v1).ID⟩ : Part) box x h1) ⟨[], [], [], []⟩) .nil)) ?_
   refine Nif hF (fun hb hF => ?_) (fun hb hF => ?_)
   ·refine NR [] [4] [100000] [] [(4, .i v1)] .nil ?_
    have hF := ret_done hF dn1
    cases hF
    exact Wk_ret (hfin _ ⟨[], [100000], [], [], [], [], by kernel_rfl⟩)
   ·refine NR [] [0, 1, 7, 8] [100000] [] [(8, .i (w64 (v1 + 1)))] .nil ?_
    exact Nrnd [] hF ih1 (by kernel_rfl)
  ·refine Nexit rfl ?_
   have hF := inrO_done hF dn1
   exact metP () [] hF (by kernel_rfl)
 ·intro v hF
  have hF : slices_IndexFunc_api_Part_api_Part_v1_J1 v = some r := hF
  unfold slices_IndexFunc_api_Part_api_Part_v1_J1 at hF
  refine NR [] [4] [100000] [] [(4, .i (-1))] .nil ?_
  cases hF
  exact Wk_ret (hfin _ ⟨[], [100000], [], [], [], [], by kernel_rfl⟩)

/- slices.ContainsFunc[[]api.Part,api.Part] -/
noncomputable def slices_ContainsFunc_api_Part_api_Part_v1 (s0 : List Part) (box : Int) : Option Bool :=
 ob (slices_IndexFunc_api_Part_api_Part_v1 s0 box) fun x =>
 some (decide (0 ≤ x))
theorem slices_ContainsFunc_api_Part_api_Part_v1_ok (s0 : List Part) (box : Int) (r : Bool) (hF : slices_ContainsFunc_api_Part_api_Part_v1 s0 box = some r) : Pe Try.prog 104 ⟨[], [(100000, [.i box])], [], [], []⟩ [.sl 3 (s0.map e_Part), .fn 106 [.ptr 100000 0]] (.bool r) ⟨[], [(100000, [.i box])], [], [], []⟩ := by
 refine PeN 9 [.tmp 4] [4] Ty.ok Fn.b104 Try.func104 ?_
 intro Q g hfin
 unfold slices_ContainsFunc_api_Part_api_Part_v1 at hF
 refine NR [] [0, 1] [100000] [] [] .nil ?_
 obtain ⟨x, h0, hF⟩ := ob_elim hF
 refine NR [.callR [100000] [] [] [] (.i x)] [4] [100000] [] [(4, .bool (decide (0 ≤ x)))] (hc (Pe.ren (slices_IndexFunc_api_Part_api_Part_v1_ok s0 box x h0) ⟨[], [], [], []⟩) .nil) ?_
 cases hF
 exact Wk_ret (hfin _ ⟨[], [100000], [], [], [], [], by kernel_rfl⟩)

/- parts.others -/
noncomputable def parts_others (l : List Part) (a0 : Int) (b : Int) (id : Int) : Option Bool :=
 asrt (0 ≤ a0 ∧ a0 ≤ (l.length : Int)) <|
 ob (slices_ContainsFunc_api_Part_api_Part (ltake l a0) id) fun x =>
 asrt ((!x) = true → 0 ≤ b ∧ b ≤ (l.length : Int)) <|
 ob (if (!x) = true then (slices_ContainsFunc_api_Part_api_Part_v1 (ldrop l b) id) else some default) fun x1 =>
 some (x || x1)
theorem parts_others_ok (l : List Part) (a0 : Int) (b : Int) (id : Int) (r : Bool) (hF : parts_others l a0 b id = some r) : Pe Try.prog 71 S.none [.sl 3 (l.map e_Part), .i a0, .i b, .i id] (.bool r) S.none := by
 refine PeN 21 [.tmp 8] [4] Ty.ok Fn.b71 Try.func71 ?_
 intro Q g hfin
 unfold parts_others at hF
 refine VR [] [0, 1, 2, 7] [7] [] [] [(7, .ptr 7 0)] [(7, [.i id])] [] [] .nil ?_
 obtain ⟨h0, hF⟩ := asrt_elim hF
 obtain ⟨x, h1, hF⟩ := ob_elim hF
 obtain ⟨h2, hF⟩ := asrt_elim hF
 obtain ⟨x1, h3, hF⟩ := ob_elim hF
 refine NR [.xs ((ltake l a0).map e_Part), .callR [7] [] [] [] (.bool x), .xs ((ldrop l b).map e_Part), .callR [7] [] [] [] (.bool x1)] [8] [] [] [(8, .bool (x || x1))] (hc (sl01_ok e_Part h0) (hc (Pe.ren (slices_ContainsFunc_api_Part_api_Part_ok (ltake l a0) id x h1) ⟨[(100000, 7)], [], [], []⟩) (hc (fun (ga0 : (!x) = true) => (sl10_ok e_Part (h2 ga0))) (hc (fun (ga0 : (!x) = true) => (Pe.ren (slices_ContainsFunc_api_Part_api_Part_v1_ok (ldrop l b) id x1 (ite_t h3 ga0)) ⟨[(100000, 7)], [], [], []⟩)) .nil)))) ?_
 cases hF
 exact Wk_ret (hfin _ ⟨[], [], [], [], [], [], by kernel_rfl⟩)

/- slices.Grow[[]api.Part,api.Part] -/
noncomputable def slices_Grow_api_Part_api_Part_v1 (num : Int) : Option (List Part) :=
 ob (
  if (decide (num < 0)) = true then
   none
  else
   some ()) fun (v : Unit) =>
 ob (
  if (decide (0 < (w64 (num - (w64 (0 - 0)))))) = true then
   asrt (0 ≤ (w64 (num - (w64 (0 - 0)))) ∧ (w64 (num - (w64 (0 - 0)))).toNat * 40 ≤ 140737488351232) <|
   asrt (0 ≤ (0 : Int) ∧ (0 : Int) ≤ ((List.replicate (w64 (num - (w64 (0 - 0)))).toNat ((⟨([] : List UInt8), ([] : List UInt8), 0⟩ : Part) : Part)).length : Int)) <|
   lt ((List.replicate (w64 (num - (w64 (0 - 0)))).toNat ((⟨([] : List UInt8), ([] : List UInt8), 0⟩ : Part) : Part))) fun (v2 : List Part) =>
   asrt (((0 : Int).toNat) ≤ v2.length) <|
   some (v2.take ((0 : Int).toNat))
  else
   some ([] : List Part)) fun (v1 : List Part) =>
 some v1
theorem slices_Grow_api_Part_api_Part_v1_ok (num : Int) (r : List Part) (hF : slices_Grow_api_Part_api_Part_v1 num = some r) : Pe Try.prog 107 S.none [.nils, .i num] (.row 22 0) ⟨[], [], [(22, .o 34 3 0 (r.map e_Part))], [], []⟩ := by
 refine PeN 27 [.tmp 4] [22] Ty.ok Fn.b107 Try.func107 ?_
 intro Q g hfin
 unfold slices_Grow_api_Part_api_Part_v1 at hF
 refine NR [] [0, 1] [] [] [] .nil ?_
 refine NR [] [0, 1, 6] [] [] [(6, .bool (decide (num < 0)))] .nil ?_
 obtain ⟨v, hv, hF⟩ := ob_elim hF
 refine Nmeet (⟨[(0, .nils), (1, .i num)], [], [], [], []⟩ : S) ?_ ?_
 ·have hF := hv
  refine Nif hF (fun hb hF => ?_) (fun hb hF => ?_)
  ·cases hF
  ·cases hF
   exact met [] (by kernel_rfl)
 ·refine NR [] [0, 1] [] [] [(1, .i (w64 (num - (w64 (0 - 0)))))] .nil ?_
  refine NR [] [0, 1, 16] [] [] [(16, .bool (decide (0 < (w64 (num - (w64 (0 - 0)))))))] .nil ?_
  obtain ⟨v1, hv, hF⟩ := ob_elim hF
  refine Nmeet (⟨[(0, .row 22 0)], [], [(22, .o 34 3 0 (v1.map e_Part))], [], []⟩ : S) ?_ ?_
  ·have hF := hv
   refine Nif hF (fun hb hF => ?_) (fun hb hF => ?_)
   ·obtain ⟨h0, hF⟩ := asrt_elim hF
    obtain ⟨h1, hF⟩ := asrt_elim hF
    refine NRL ((List.replicate (w64 (num - (w64 (0 - 0)))).toNat ((⟨([] : List UInt8), ([] : List UInt8), 0⟩ : Part) : Part))) (fun v2 : List Part => ([(0, .rowv 22 0 0 ((0 : Int).toNat))], [], [(22, .z 34 3 0 (v2.map e_Part))], [])) [.xs ((List.replicate (w64 (num - (w64 (0 - 0)))).toNat ((⟨([] : List UInt8), ([] : List UInt8), 0⟩ : Part) : Part)).map e_Part), .vw ((0 : Int).toNat)] [0] [] [22] [] (hc (rfl : (0 : Int) = 0) (hc h0 (hc (rep_ok e_Part (w64 (num - (w64 (0 - 0)))) ((⟨([] : List UInt8), ([] : List UInt8), 0⟩ : Part) : Part)) (hc (vw01_ok (cm := 0) e_Part h1) .nil)))) (fun v2 hv => ?_)
    have hF := lt_elim hF hv
    obtain ⟨h2, hF⟩ := asrt_elim hF
    refine Wk_truncL 0 22 0 ((0 : Int).toNat) ((v2.take ((0 : Int).toNat)).map e_Part) rfl rfl rfl rfl (tk_ok e_Part h2).1 (Nat.zero_le _) (List.map_take).symm ?_
    cases hF
    exact met [(22, ⟨0, false, true, false⟩)] (by kernel_rfl)
   ·refine Wk_nilrow 0 60000 34 3 rfl rfl rfl ?_
    refine Wk_trim (fs := [0]) (bs := []) (rs := [60000]) (ms := []) (aa := []) (nv := []) rfl ?_
    refine Wk_ren' ⟨[], [(60000, 22)], [], []⟩ rfl ?_
    cases hF
    exact met [(22, ⟨0, true, false, false⟩)] (by kernel_rfl)
  ·refine NR [] [4] [] [22] [(4, .row 22 0)] .nil ?_
   cases hF
   exact Wk_ret (hfin _ ⟨[22], [], [22], [], [], [], by kernel_rfl⟩)

/- slices.Concat[[]api.Part,api.Part] -/
noncomputable def slices_Concat_api_Part_api_Part_J2 (v1 : List Part) : Option (List Part) :=
 some v1
noncomputable def slices_Concat_api_Part_api_Part_B1 (slices : List (List Part)) (v2 : List Part × Int) : Option ((List Part × Int) ⊕ (List Part)) :=
 if (decide (v2.2 < (slices.length : Int))) = true then
  asrt (0 ≤ v2.2 ∧ v2.2 < (slices.length : Int)) <|
  asrt (((v2.1 ++ (lget slices v2.2)).length : Int) * 40 ≤ 140737488351232) <|
  some (Sum.inl ((v2.1 ++ (lget slices v2.2)), w64 (v2.2 + 1)))
 else
  inrO (slices_Concat_api_Part_api_Part_J2 v2.1)
noncomputable def slices_Concat_api_Part_api_Part_L1 (slices : List (List Part)) (v0 : List Part × Int) : Option (List Part) :=
 loopO (fun y => slices_Concat_api_Part_api_Part_B1 slices y) v0
noncomputable def slices_Concat_api_Part_api_Part_J1 (slices : List (List Part)) (v : Int) : Option (List Part) :=
 ob (slices_Grow_api_Part_api_Part_v1 v) fun x =>
 slices_Concat_api_Part_api_Part_L1 slices (x, 0)
noncomputable def slices_Concat_api_Part_api_Part_B2 (slices : List (List Part)) (v3 : Int × Int) : Option ((Int × Int) ⊕ (List Part)) :=
 if (decide (v3.2 < (slices.length : Int))) = true then
  asrt (0 ≤ v3.2 ∧ v3.2 < (slices.length : Int)) <|
  ob (
   if (decide ((w64 (v3.1 + ((lget slices v3.2).length : Int))) < 0)) = true then
    none
   else
    some ()) fun (v4 : Unit) =>
  some (Sum.inl (w64 (v3.1 + ((lget slices v3.2).length : Int)), w64 (v3.2 + 1)))
 else
  inrO (slices_Concat_api_Part_api_Part_J1 slices v3.1)
noncomputable def slices_Concat_api_Part_api_Part_L2 (slices : List (List Part)) (v0 : Int × Int) : Option (List Part) :=
 loopO (fun y => slices_Concat_api_Part_api_Part_B2 slices y) v0
noncomputable def slices_Concat_api_Part_api_Part (slices : List (List Part)) : Option (List Part) :=
 slices_Concat_api_Part_api_Part_L2 slices (0, 0)
theorem slices_Concat_api_Part_api_Part_ok (slices : List (List Part)) (r : List Part) (hF : slices_Concat_api_Part_api_Part slices = some r) : Pe Try.prog 72 S.none [.sl 1 (slices.map e_L_Part)] (.row 24 0) ⟨[], [], [(24, .o 34 3 0 (r.map e_Part))], [], []⟩ := by
 refine PeN 36 [.tmp 2] [22] Ty.ok Fn.b72 Try.func72 ?_
 intro Q g hfin
 unfold slices_Concat_api_Part_api_Part at hF
 refine NR [] [0] [] [] [] .nil ?_
 refine NR [] [0, 3] [] [] [(3, .i 0)] .nil ?_
 refine NR [.nat (slices.length : Int)] [0, 3, 9, 10, 11] [] [] [(9, .sl 1 (slices.map e_L_Part)), (10, .i (slices.length : Int)), (11, .i 0)] (hc (len_ok e_L_Part slices) .nil) ?_
 refine NmeetP (fun v : Int => (⟨[(0, .sl 1 (slices.map e_L_Part)), (3, .i v)], [], [], [], []⟩ : S)) (fun v => slices_Concat_api_Part_api_Part_J1 slices v = some r) ?_ ?_
 ·refine Nblk ?_
  unfold slices_Concat_api_Part_api_Part_L2 at hF
  refine Niter (fun v3 : Int × Int => (⟨[(0, .sl 1 (slices.map e_L_Part)), (3, .i v3.1), (9, .sl 1 (slices.map e_L_Part)), (10, .i (slices.length : Int)), (11, .i v3.2)], [], [], [], []⟩ : S)) [] hF (by kernel_rfl) ?_
  intro n1 v3 y1 hF ih1 dn1
  unfold slices_Concat_api_Part_api_Part_B2 at hF
  refine NR [] [0, 3, 9, 10, 11, 12] [] [] [(12, .bool (decide (v3.2 < (slices.length : Int))))] .nil ?_
  refine Nif hF (fun hb hF => ?_) (fun hb hF => ?_)
  ·refine Nblk ?_
   obtain ⟨h3, hF⟩ := asrt_elim hF
   refine NR [.av (e_L_Part (lget slices v3.2))] [0, 3, 5, 9, 10, 11] [] [] [(5, .sl 3 ((lget slices v3.2).map e_Part))] (hc (idx_ok e_L_Part h3) .nil) ?_
   refine NR [.nat ((lget slices v3.2).length : Int)] [0, 3, 9, 10, 11] [] [] [(3, .i (w64 (v3.1 + ((lget slices v3.2).length : Int))))] (hc (len_ok e_Part (lget slices v3.2)) .nil) ?_
   refine NR [] [0, 3, 9, 10, 11, 20] [] [] [(20, .bool (decide ((w64 (v3.1 + ((lget slices v3.2).length : Int))) < 0)))] .nil ?_
   obtain ⟨v4, hv, hF⟩ := ob_elim hF
   refine Nmeet (⟨[(0, .sl 1 (slices.map e_L_Part)), (3, .i (w64 (v3.1 + ((lget slices v3.2).length : Int)))), (9, .sl 1 (slices.map e_L_Part)), (10, .i (slices.length : Int)), (11, .i v3.2)], [], [], [], []⟩ : S) ?_ ?_
   ·have hF := hv
    refine Nif hF (fun hb hF => ?_) (fun hb hF => ?_)
    ·cases hF
    ·cases hF
     exact met [] (by kernel_rfl)
   ·refine NR [] [0, 3, 9, 10, 11] [] [] [(11, .i (w64 (v3.2 + 1)))] .nil ?_
    exact Nrnd [] hF ih1 (by kernel_rfl)
  ·refine Nexit rfl ?_
   have hF := inrO_done hF dn1
   exact metP v3.1 [] hF (by kernel_rfl)
 ·intro v hF
  have hF : slices_Concat_api_Part_api_Part_J1 slices v = some r := hF
  unfold slices_Concat_api_Part_api_Part_J1 at hF
  obtain ⟨x, h0, hF⟩ := ob_elim hF
  refine VR [.raw [0], .callE [] [] [] [] (.row 24 0) ⟨[], [], [(24, .o 34 3 0 (x.map e_Part))], [], []⟩] [0, 6] [] [24] [] [(6, .row 24 0)] [] [(24, .o 34 3 0 (x.map e_Part))] [] (hc (Pe.ren (slices_Grow_api_Part_api_Part_v1_ok v x h0) ⟨[], [(22, 24)], [], []⟩) .nil) ?_
  refine NR [.nat (slices.length : Int)] [6, 25, 26, 27] [] [24] [(25, .sl 1 (slices.map e_L_Part)), (26, .i (slices.length : Int)), (27, .i 0)] (hc (len_ok e_L_Part slices) .nil) ?_
  refine NmeetP (fun v1 : List Part => (⟨[(6, .row 24 0)], [], [(24, .o 34 3 0 (v1.map e_Part))], [], []⟩ : S)) (fun v1 => slices_Concat_api_Part_api_Part_J2 v1 = some r) ?_ ?_
  ·refine Nblk ?_
   unfold slices_Concat_api_Part_api_Part_L1 at hF
   refine Niter (fun v2 : List Part × Int => (⟨[(6, .row 24 0), (25, .sl 1 (slices.map e_L_Part)), (26, .i (slices.length : Int)), (27, .i v2.2)], [], [(24, .o 34 3 0 (v2.1.map e_Part))], [], []⟩ : S)) [] hF (by kernel_rfl) ?_
   intro n1 v2 y1 hF ih1 dn1
   unfold slices_Concat_api_Part_api_Part_B1 at hF
   refine NR [] [6, 25, 26, 27, 28] [] [24] [(28, .bool (decide (v2.2 < (slices.length : Int))))] .nil ?_
   refine Nif hF (fun hb hF => ?_) (fun hb hF => ?_)
   ·refine Nblk ?_
    obtain ⟨h1, hF⟩ := asrt_elim hF
    refine NR [.av (e_L_Part (lget slices v2.2))] [6, 8, 25, 26, 27] [] [24] [(8, .sl 3 ((lget slices v2.2).map e_Part))] (hc (idx_ok e_L_Part h1) .nil) ?_
    obtain ⟨h2, hF⟩ := asrt_elim hF
    refine VR [.xs ((v2.1 ++ (lget slices v2.2)).map e_Part)] [6, 25, 26, 27] [] [24] [] [(6, .row 24 1)] [] [(24, .o 34 3 1 ((v2.1 ++ (lget slices v2.2)).map e_Part))] [] (hc (app_ok e_Part v2.1 (lget slices v2.2)) (hc (appl_ok e_Part h2) .nil)) ?_
    refine NR [] [6, 25, 26, 27] [] [24] [(27, .i (w64 (v2.2 + 1)))] .nil ?_
    exact Nrnd [(24, ⟨0, true, true, false⟩)] hF ih1 (by kernel_rfl)
   ·refine Nexit rfl ?_
    have hF := inrO_done hF dn1
    exact metP v2.1 [] hF (by kernel_rfl)
  ·intro v1 hF
   have hF : slices_Concat_api_Part_api_Part_J2 v1 = some r := hF
   unfold slices_Concat_api_Part_api_Part_J2 at hF
   refine NR [] [2] [] [24] [(2, .row 24 0)] .nil ?_
   cases hF
   exact Wk_ret (hfin _ ⟨[24], [], [24], [], [], [], by kernel_rfl⟩)

/- parts.Split -/
noncomputable def parts_Split (l : List Part) (at0 : Int) (row : List UInt8) (left : Int) (right : Int) : Option (List Part × Fault) :=
 ob (parts_Check l) fun x =>
 if (!decide (x.Code = 0)) = true then
  some (([] : List Part), x)
 else
  if ((decide (at0 < 0)) || (decide ((l.length : Int) ≤ at0))) = true then
   lt (parts_fault 3 (-1)) fun x1 =>
   some (([] : List Part), x1)
  else
   if (decide (40 < (row.length : Int))) = true then
    lt (parts_fault 8 (-2)) fun x2 =>
    some (([] : List Part), x2)
   else
    asrt (0 ≤ at0 ∧ at0 < (l.length : Int)) <|
    ob (if (!(!Op.bytesLess ((lget l at0).From) row)) = true then (parts_find l row) else some default) fun x3 =>
    if ((!Op.bytesLess ((lget l at0).From) row) || (!decide (x3 = at0))) = true then
     lt (parts_fault 5 (-2)) fun x4 =>
     some (([] : List Part), x4)
    else
     lt (parts_number left) fun x5 =>
     lt (parts_number right) fun x6 =>
     if ((!x5) || (!x6)) = true then
      lt (parts_fault 3 (-3)) fun x7 =>
      some (([] : List Part), x7)
     else
      ob (if (!(decide (left = right))) = true then (parts_others l at0 (w64 (at0 + 1)) left) else some default) fun x8 =>
      ob (if (!((decide (left = right)) || x8)) = true then (parts_others l at0 (w64 (at0 + 1)) right) else some default) fun x9 =>
      if (((decide (left = right)) || x8) || x9) = true then
       lt (parts_fault 10 (-3)) fun x10 =>
       some (([] : List Part), x10)
      else
       if (decide ((l.length : Int) = 200)) = true then
        lt (parts_fault 2 (-1)) fun x11 =>
        some (([] : List Part), x11)
       else
        asrt (0 ≤ at0 ∧ at0 < (l.length : Int)) <|
        lt ([(⟨(lget l at0).From, row, left⟩ : Part), (⟨row, (lget l at0).To, right⟩ : Part)]) fun (v : List Part) =>
        asrt (0 ≤ at0 ∧ at0 ≤ (l.length : Int)) <|
        asrt (0 ≤ w64 (at0 + 1) ∧ w64 (at0 + 1) ≤ (l.length : Int)) <|
        ob (slices_Concat_api_Part_api_Part ([(ltake l at0), v, (ldrop l (w64 (at0 + 1)))] : List (List Part))) fun x12 =>
        some (x12, (⟨0, 0⟩ : Fault))
theorem parts_Split_ok (l : List Part) (at0 : Int) (row : List UInt8) (left : Int) (right : Int) (r : List Part × Fault) (hF : parts_Split l at0 row left right = some r) : Pe Try.prog 18 S.none [.sl 3 (l.map e_Part), .i at0, .str row, .i left, .i right] (.tup [.row 112 0, .agg (c_Fault r.2)]) ⟨[], [], [(112, .o 34 3 0 (r.1.map e_Part))], [], []⟩ := by
 refine PeN 114 [.tmp 10, .cell 11 26] [22, 26] Ty.ok Fn.b18 Try.func18 ?_
 intro Q g hfin
 unfold parts_Split at hF
 refine VR [] [0, 1, 2, 3, 4, 11] [11] [] [] [(11, .ptr 11 0)] [(11, [.i 0, .i 0])] [] [] .nil ?_
 obtain ⟨x, h0, hF⟩ := ob_elim hF
 refine VR [.callB (.agg (c_Fault x))] [0, 1, 2, 3, 4, 11, 12] [11, 12] [] [] [(12, .ptr 12 0)] [(12, (c_Fault x))] [] [] (hc (parts_Check_ok l x h0) .nil) ?_
 refine NR [] [0, 1, 2, 3, 4, 11, 12, 19] [11, 12] [] [(19, .bool (!decide (x.Code = 0)))] .nil ?_
 refine Nif hF (fun hb hF => ?_) (fun hb hF => ?_)
 ·refine VD [] [10, 11] [11] [] [] [(10, .nils)] [(11, (c_Fault x))] [] [] .nil ?_
  cases hF
  refine Wk_nilrow 10 60000 34 3 rfl rfl rfl ?_
  refine Wk_ren' ⟨[], [(60000, 112)], [], []⟩ rfl ?_
  exact Wk_ret (hfin _ ⟨[112], [], [112], [], [], [(112, ⟨0, true, false, false⟩)], by kernel_rfl⟩)
 ·refine Nblk ?_
  refine NR [.nat (l.length : Int)] [0, 1, 2, 3, 4, 11, 21] [11] [] [(21, .bool ((decide (at0 < 0)) || (decide ((l.length : Int) ≤ at0))))] (hc (fun (_ : (!(decide (at0 < 0))) = true) => (len_ok e_Part l)) .nil) ?_
  refine Nif hF (fun hb hF => ?_) (fun hb hF => ?_)
  ·obtain ⟨x1, h1, hF⟩ := lt_split hF
   refine VR [.callB (.agg (c_Fault x1))] [10, 11] [11] [] [] [(10, .nils)] [(11, (c_Fault x1))] [] [] (hc (parts_fault_ok 3 (-1) x1 h1) .nil) ?_
   cases hF
   refine Wk_nilrow 10 60001 34 3 rfl rfl rfl ?_
   refine Wk_ren' ⟨[], [(60001, 112)], [], []⟩ rfl ?_
   exact Wk_ret (hfin _ ⟨[112], [], [112], [], [], [(112, ⟨0, true, false, false⟩)], by kernel_rfl⟩)
  ·refine NR [] [0, 1, 2, 3, 4, 11, 31] [11] [] [(31, .bool (decide (40 < (row.length : Int))))] .nil ?_
   refine Nif hF (fun hb hF => ?_) (fun hb hF => ?_)
   ·obtain ⟨x2, h2, hF⟩ := lt_split hF
    refine VR [.callB (.agg (c_Fault x2))] [10, 11] [11] [] [] [(10, .nils)] [(11, (c_Fault x2))] [] [] (hc (parts_fault_ok 8 (-2) x2 h2) .nil) ?_
    cases hF
    refine Wk_nilrow 10 60002 34 3 rfl rfl rfl ?_
    refine Wk_ren' ⟨[], [(60002, 112)], [], []⟩ rfl ?_
    exact Wk_ret (hfin _ ⟨[112], [], [112], [], [], [(112, ⟨0, true, false, false⟩)], by kernel_rfl⟩)
   ·obtain ⟨h3, hF⟩ := asrt_elim hF
    obtain ⟨x3, h4, hF⟩ := ob_elim hF
    refine NR [.av (e_Part (lget l at0)), .callB (.i x3)] [0, 1, 2, 3, 4, 11, 36] [11] [] [(36, .bool ((!Op.bytesLess ((lget l at0).From) row) || (!decide (x3 = at0))))] (hc (idx_ok e_Part h3) (hc (fun (ga0 : (!(!Op.bytesLess ((lget l at0).From) row)) = true) => (parts_find_ok l row x3 (ite_t h4 ga0))) .nil)) ?_
    refine Nif hF (fun hb hF => ?_) (fun hb hF => ?_)
    ·obtain ⟨x4, h5, hF⟩ := lt_split hF
     refine VR [.callB (.agg (c_Fault x4))] [10, 11] [11] [] [] [(10, .nils)] [(11, (c_Fault x4))] [] [] (hc (parts_fault_ok 5 (-2) x4 h5) .nil) ?_
     cases hF
     refine Wk_nilrow 10 60003 34 3 rfl rfl rfl ?_
     refine Wk_ren' ⟨[], [(60003, 112)], [], []⟩ rfl ?_
     exact Wk_ret (hfin _ ⟨[112], [], [112], [], [], [(112, ⟨0, true, false, false⟩)], by kernel_rfl⟩)
    ·obtain ⟨x5, h6, hF⟩ := lt_split hF
     obtain ⟨x6, h7, hF⟩ := lt_split hF
     refine NR [.callB (.bool x5), .callB (.bool x6)] [0, 1, 2, 3, 4, 11, 52] [11] [] [(52, .bool ((!x5) || (!x6)))] (hc (parts_number_ok left x5 h6) (hc (fun (ga0 : (!(!x5)) = true) => (parts_number_ok right x6 h7)) .nil)) ?_
     refine Nif hF (fun hb hF => ?_) (fun hb hF => ?_)
     ·obtain ⟨x7, h8, hF⟩ := lt_split hF
      refine VR [.callB (.agg (c_Fault x7))] [10, 11] [11] [] [] [(10, .nils)] [(11, (c_Fault x7))] [] [] (hc (parts_fault_ok 3 (-3) x7 h8) .nil) ?_
      cases hF
      refine Wk_nilrow 10 60004 34 3 rfl rfl rfl ?_
      refine Wk_ren' ⟨[], [(60004, 112)], [], []⟩ rfl ?_
      exact Wk_ret (hfin _ ⟨[112], [], [112], [], [], [(112, ⟨0, true, false, false⟩)], by kernel_rfl⟩)
     ·obtain ⟨x8, h9, hF⟩ := ob_elim hF
      obtain ⟨x9, h10, hF⟩ := ob_elim hF
      refine NR [.callB (.bool x8), .callB (.bool x9)] [0, 1, 2, 3, 4, 11, 62] [11] [] [(62, .bool (((decide (left = right)) || x8) || x9))] (hc (fun (ga0 : (!(decide (left = right))) = true) => (parts_others_ok l at0 (w64 (at0 + 1)) left x8 (ite_t h9 ga0))) (hc (fun (ga0 : (!((decide (left = right)) || x8)) = true) => (parts_others_ok l at0 (w64 (at0 + 1)) right x9 (ite_t h10 ga0))) .nil)) ?_
      refine Nif hF (fun hb hF => ?_) (fun hb hF => ?_)
      ·obtain ⟨x10, h11, hF⟩ := lt_split hF
       refine VR [.callB (.agg (c_Fault x10))] [10, 11] [11] [] [] [(10, .nils)] [(11, (c_Fault x10))] [] [] (hc (parts_fault_ok 10 (-3) x10 h11) .nil) ?_
       cases hF
       refine Wk_nilrow 10 60005 34 3 rfl rfl rfl ?_
       refine Wk_ren' ⟨[], [(60005, 112)], [], []⟩ rfl ?_
       exact Wk_ret (hfin _ ⟨[112], [], [112], [], [], [(112, ⟨0, true, false, false⟩)], by kernel_rfl⟩)
      ·refine NR [.nat (l.length : Int)] [0, 1, 2, 3, 4, 11, 83] [11] [] [(83, .bool (decide ((l.length : Int) = 200)))] (hc (len_ok e_Part l) .nil) ?_
       refine Nif hF (fun hb hF => ?_) (fun hb hF => ?_)
       ·obtain ⟨x11, h12, hF⟩ := lt_split hF
        refine VR [.callB (.agg (c_Fault x11))] [10, 11] [11] [] [] [(10, .nils)] [(11, (c_Fault x11))] [] [] (hc (parts_fault_ok 2 (-1) x11 h12) .nil) ?_
        cases hF
        refine Wk_nilrow 10 60006 34 3 rfl rfl rfl ?_
        refine Wk_ren' ⟨[], [(60006, 112)], [], []⟩ rfl ?_
        exact Wk_ret (hfin _ ⟨[112], [], [112], [], [], [(112, ⟨0, true, false, false⟩)], by kernel_rfl⟩)
       ·obtain ⟨h13, hF⟩ := asrt_elim hF
        refine VR [.av (e_Part (lget l at0))] [0, 1, 2, 3, 4, 11, 13] [11, 13] [] [] [(13, .ptr 13 0)] [(13, (c_Part (lget l at0)))] [] [] (hc (idx_ok e_Part h13) .nil) ?_
        refine NRL ([(⟨(lget l at0).From, row, left⟩ : Part), (⟨row, (lget l at0).To, right⟩ : Part)]) (fun v : List Part => ([(14, .sl 3 (v.map e_Part))], [], [], [])) [.sealed] [0, 1, 11, 14] [11] [] [] .nil (fun v hv => ?_)
        have hF := lt_elim hF hv
        obtain ⟨h14, h15, hF⟩ := asrt2 hF
        obtain ⟨x12, h16, hF⟩ := ob_elim hF
        refine VD [.xs ((ltake l at0).map e_Part), .xs ((ldrop l (w64 (at0 + 1))).map e_Part), .sealed, .callE [] [] [] [] (.row 112 0) ⟨[], [], [(112, .o 34 3 0 (x12.map e_Part))], [], []⟩] [10, 11] [11] [112] [] [(10, .row 112 0)] [] [(112, .o 34 3 0 (x12.map e_Part))] [] (hc (sl01_ok e_Part h14) (hc (sl10_ok e_Part h15) (hc (Pe.ren (slices_Concat_api_Part_api_Part_ok ([(ltake l at0), v, (ldrop l (w64 (at0 + 1)))] : List (List Part)) x12 h16) ⟨[], [(24, 112)], [], []⟩) .nil))) ?_
        cases hF
        exact Wk_ret (hfin _ ⟨[112], [], [112], [], [], [], by kernel_rfl⟩)

/- assign.much -/
noncomputable def assign_much_J1 (at0 : Int) (o : Order) (row : List Host) (row1 : List Slot) (v : List Part) : Option (Fault × List Host × List Slot) :=
 ob (parts_Split v at0 o.Row (v.length : Int) (w64 ((v.length : Int) + 1))) fun x1 =>
 if (!decide (x1.2.Code = 0)) = true then
  some (x1.2, row, row1)
 else
  lt (assign_fault 9 0) fun x2 =>
  some (x2, row, row1)
noncomputable def assign_much_B1 (at0 : Int) (o : Order) (row : List Host) (row1 : List Slot) (x : List Part) (v1 : List Part × Int) : Option ((List Part × Int) ⊕ (Fault × List Host × List Slot)) :=
 if (decide (v1.2 < (x.length : Int))) = true then
  asrt (0 ≤ v1.2 ∧ v1.2 < (v1.1.length : Int)) <|
  asrt (0 ≤ v1.2 ∧ v1.2 < (v1.1.length : Int)) <|
  lt ((lset v1.1 v1.2 (⟨(lget v1.1 v1.2).From, (lget v1.1 v1.2).To, v1.2⟩ : Part))) fun (v2 : List Part) =>
  some (Sum.inl (v2, w64 (v1.2 + 1)))
 else
  inrO (assign_much_J1 at0 o row row1 v1.1)
noncomputable def assign_much_L1 (at0 : Int) (o : Order) (row : List Host) (row1 : List Slot) (x : List Part) (v0 : List Part × Int) : Option (Fault × List Host × List Slot) :=
 loopO (fun y => assign_much_B1 at0 o row row1 x y) v0
noncomputable def assign_much (at0 : Int) (o : Order) (box : Int) (box1 : Int) (row : List Host) (row1 : List Slot) : Option (Fault × List Host × List Slot) :=
 ob (assign_Parts (⟨row, row1, box, box1⟩ : Board)) fun x =>
 assign_much_L1 at0 o row row1 x (x, 0)
theorem assign_much_ok (at0 : Int) (o : Order) (box : Int) (box1 : Int) (row : List Host) (row1 : List Slot) (rk : Nat) (rc : Nat) (rn : Bool) (rk1 : Nat) (rc1 : Nat) (rn1 : Bool) (r : Fault × List Host × List Slot) (hF : assign_much at0 o box box1 row row1 = some r) : Pe Try.prog 125 ⟨[], [(100000, [.row 100000 0, .row 100001 0, .i box, .i box1])], [(100000, ⟨108, 3, 0, rk, rc, rn, 0, [], (row.map e_Host)⟩), (100001, ⟨64, 6, 0, rk1, rc1, rn1, 0, [], (row1.map e_Slot)⟩)], [], []⟩ [.ptr 100000 0, .i at0, .agg (c_Order o)] (.agg (c_Fault r.1)) ⟨[], [(100000, [.row 100000 0, .row 100001 0, .i box, .i box1])], [(100000, ⟨108, 3, 0, (r.2.1.map e_Host).length, rc, rn, 0, [], (r.2.1.map e_Host)⟩), (100001, ⟨64, 6, 0, (r.2.2.map e_Slot).length, rc1, rn1, 0, [], (r.2.2.map e_Slot)⟩)], [], []⟩ := by
 refine PeN 44 [.cell 6 26] [26] Ty.ok Fn.b125 Try.func125 ?_
 intro Q g hfin
 unfold assign_much at hF
 refine VR [] [0, 1, 5, 6] [5, 6, 100000] [100000, 100001] [] [(5, .ptr 5 0), (6, .ptr 6 0)] [(5, (c_Order o)), (6, [.i 0, .i 0])] [] [] .nil ?_
 obtain ⟨x, h0, hF⟩ := ob_elim hF
 refine VR [.callE [] [] [] [] (.row 14 0) ⟨[], [], [(14, .o 34 3 0 (x.map e_Part))], [], []⟩] [1, 5, 6, 7] [5, 6, 100000] [14, 100000, 100001] [] [(7, .row 14 0)] [] [(14, .o 34 3 0 (x.map e_Part)), (100000, ⟨108, 3, 0, (row.map e_Host).length, rc, rn, 0, [], (row.map e_Host)⟩), (100001, ⟨64, 6, 0, (row1.map e_Slot).length, rc1, rn1, 0, [], (row1.map e_Slot)⟩)] [] (hc (Pe.ren (assign_Parts_ok (⟨row, row1, box, box1⟩ : Board) x h0) ⟨[], [(9, 14)], [], []⟩) .nil) ?_
 refine NR [.nat (x.length : Int)] [1, 5, 6, 7, 16, 17] [5, 6, 100000] [14, 100000, 100001] [(16, .i (x.length : Int)), (17, .i 0)] (hc (len_ok e_Part x) .nil) ?_
 refine NmeetP (fun v : List Part => (⟨[(1, .i at0), (5, .ptr 5 0), (6, .ptr 6 0), (7, .row 14 0)], [(5, (c_Order o)), (6, [.i 0, .i 0]), (100000, [.row 100000 0, .row 100001 0, .i box, .i box1])], [(14, .o 34 3 0 (v.map e_Part)), (100000, ⟨108, 3, 0, (row.map e_Host).length, rc, rn, 0, [], (row.map e_Host)⟩), (100001, ⟨64, 6, 0, (row1.map e_Slot).length, rc1, rn1, 0, [], (row1.map e_Slot)⟩)], [], []⟩ : S)) (fun v => assign_much_J1 at0 o row row1 v = some r) ?_ ?_
 ·refine Nblk ?_
  unfold assign_much_L1 at hF
  refine Niter (fun v1 : List Part × Int => (⟨[(1, .i at0), (5, .ptr 5 0), (6, .ptr 6 0), (7, .row 14 0), (16, .i (x.length : Int)), (17, .i v1.2)], [(5, (c_Order o)), (6, [.i 0, .i 0]), (100000, [.row 100000 0, .row 100001 0, .i box, .i box1])], [(14, .o 34 3 0 (v1.1.map e_Part)), (100000, ⟨108, 3, 0, (row.map e_Host).length, rc, rn, 0, [], (row.map e_Host)⟩), (100001, ⟨64, 6, 0, (row1.map e_Slot).length, rc1, rn1, 0, [], (row1.map e_Slot)⟩)], [], []⟩ : S)) [] hF (by kernel_rfl) ?_
  intro n1 v1 y1 hF ih1 dn1
  unfold assign_much_B1 at hF
  refine NR [] [1, 5, 6, 7, 16, 17, 18] [5, 6, 100000] [14, 100000, 100001] [(18, .bool (decide (v1.2 < (x.length : Int))))] .nil ?_
  refine Nif hF (fun hb hF => ?_) (fun hb hF => ?_)
  ·refine Nblk ?_
   refine NR [] [1, 5, 6, 7, 8, 16, 17] [5, 6, 100000] [14, 100000, 100001] [(8, .i v1.2)] .nil ?_
   obtain ⟨h3, h4, hF⟩ := asrt2 hF
   refine NRL ((lset v1.1 v1.2 (⟨(lget v1.1 v1.2).From, (lget v1.1 v1.2).To, v1.2⟩ : Part))) (fun v2 : List Part => ([], [], [(14, .o 34 3 0 (v2.map e_Part))], [])) [.av (e_Part (lget v1.1 v1.2)), .xs ((lset v1.1 v1.2 (⟨(lget v1.1 v1.2).From, (lget v1.1 v1.2).To, v1.2⟩ : Part)).map e_Part)] [1, 5, 6, 7, 16, 17] [5, 6, 100000] [14, 100000, 100001] [] (hc (ixr_ok e_Part h3) (hc (ldr_ok e_Part h4) (hc (set_ok e_Part v1.1 v1.2 (⟨(lget v1.1 v1.2).From, (lget v1.1 v1.2).To, v1.2⟩ : Part)) (hc (Nat.zero_le v1.2.toNat) .nil)))) (fun v2 hv => ?_)
   have hF := lt_elim hF hv
   refine NR [] [1, 5, 6, 7, 16, 17] [5, 6, 100000] [14, 100000, 100001] [(17, .i (w64 (v1.2 + 1)))] .nil ?_
   exact Nrnd [] hF ih1 (by kernel_rfl)
  ·refine Nexit rfl ?_
   have hF := inrO_done hF dn1
   exact metP v1.1 [] hF (by kernel_rfl)
 ·intro v hF
  have hF : assign_much_J1 at0 o row row1 v = some r := hF
  unfold assign_much_J1 at hF
  obtain ⟨x1, h1, hF⟩ := ob_elim hF
  refine VR [.nat (v.length : Int), .nat (v.length : Int), .callE [] [] [] [] (.tup [.row 36 0, .agg (c_Fault x1.2)]) ⟨[], [], [(36, .o 34 3 0 (x1.1.map e_Part))], [], []⟩] [6, 10] [6, 10, 100000] [100000, 100001] [] [(10, .ptr 10 0)] [(10, (c_Fault x1.2))] [] [] (hc (len_ok e_Part v) (hc (len_ok e_Part v) (hc (Pe.ren (parts_Split_ok v at0 o.Row (v.length : Int) (w64 ((v.length : Int) + 1)) x1 h1) ⟨[], [(112, 36)], [], []⟩) .nil))) ?_
  refine NR [] [6, 10, 41] [6, 10, 100000] [100000, 100001] [(41, .bool (!decide (x1.2.Code = 0)))] .nil ?_
  refine Nif hF (fun hb hF => ?_) (fun hb hF => ?_)
  ·refine VR [] [6] [6, 100000] [100000, 100001] [] [] [(6, (c_Fault x1.2))] [] [] .nil ?_
   cases hF
   exact Wk_ret (hfin _ ⟨[100000, 100001], [100000], [100000, 100001], [], [], [], by kernel_rfl⟩)
  ·obtain ⟨x2, h2, hF⟩ := lt_split hF
   refine VR [.callB (.agg (c_Fault x2))] [6] [6, 100000] [100000, 100001] [] [] [(6, (c_Fault x2))] [] [] (hc (assign_fault_ok 9 0 x2 h2) .nil) ?_
   cases hF
   exact Wk_ret (hfin _ ⟨[100000, 100001], [100000], [100000, 100001], [], [], [], by kernel_rfl⟩)

/- slices.Replace[[]api.Slot,api.Slot] -/
set_option maxHeartbeats 4000000 in
theorem slices_Replace_api_Slot_api_Slot_w : RplW Try.prog 126 131 60 6 where
 cut := by
  intro b n c i va m vc w W1 W2 hi hm him hnc hc63 hap hcl
  have mixed : Try.prog.follows .mixedOrders = true := Ty.mixed
  have hz1 : ¬ ((i : Int) = (n : Int)) := by omega
  have hin : i ≤ n := by omega
  have hb4 : ¬ (c = i) := by omega
  have hb5 : ¬ (c = i + m) := by omega
  have hb6 : (i : Int) + (m : Int) < (n : Int) := by omega
  have hb7 : ((i : Int) + (m : Int)).toNat = i + m := by omega
  have hb8 : (0 : Int) ≤ (i : Int) + (m : Int) := by omega
  have hb9 : (i : Int) + (m : Int) ≤ (n : Int) := by omega
  go_enter Try.func126, Try.ntmps126
  go_wp2_with (first
    | (at_builtin; refine Go.Lib.wpList_append_run _ rfl _ _ _ _ rfl _ _ rfl rfl _ _ (hap _) ?_)
    | (refine wpList_clear_run _ rfl _ 60 rfl _ rfl (hcl _) ?_))
  go_ret
  exact ⟨rfl, rfl⟩
 fin := by
  intro b n c i va m vc w W1 b1 l1 hi hm him hnc hap
  have mixed : Try.prog.follows .mixedOrders = true := Ty.mixed
  have hz1 : ¬ ((i : Int) = (n : Int)) := by omega
  have hin : i ≤ n := by omega
  have hb4 : ¬ (c = i) := by omega
  have hb6 : ¬ ((i : Int) + (m : Int) < (n : Int)) := by omega
  go_enter Try.func126, Try.ntmps126
  go_wp2_with (at_builtin; refine Go.Lib.wpList_append_run _ rfl _ _ _ _ rfl _ _ rfl rfl _ _ (hap _) ?_)
  go_ret
  exact ⟨rfl, rfl⟩
 grow := by
  intro b n c i j g G va m vc w W1 W2 W3 hi hj hm hroom hnc hc63 hG hG63 hrz hcp1 hcp2
  have mixed : Try.prog.follows .mixedOrders = true := Ty.mixed
  have hz1 : ¬ ((i : Int) = (j : Int)) := by omega
  have hz2 : ¬ ((j : Int) = (n : Int)) := by omega
  have hin : i ≤ n := by omega
  have hij : i ≤ j := by omega
  have hij2 : (i : Int) ≤ (j : Int) := by omega
  have hjn : j ≤ n := by omega
  have hb4 : ¬ (c = i) := by omega
  have hb5 : ¬ (c = j) := by omega
  have hw1 : IntKind.i64.wrap ((i : Int) + (m : Int)) = (i : Int) + (m : Int) := by rw [IntKind.wrap_i64]; omega
  have hw2 : IntKind.i64.wrap ((i : Int) + (m : Int) + ((n : Int) - (j : Int))) = (i : Int) + (m : Int) + ((n : Int) - (j : Int)) := by rw [IntKind.wrap_i64]; omega
  have hw3 : IntKind.i64.wrap ((i : Int) + (m : Int) + ((n : Int) - (j : Int)) - (i : Int)) = (i : Int) + (m : Int) + ((n : Int) - (j : Int)) - (i : Int) := by rw [IntKind.wrap_i64]; omega
  have hz3 : (c : Int) < (i : Int) + (m : Int) + ((n : Int) - (j : Int)) := by omega
  have htn : ((i : Int) + (m : Int)).toNat = i + m := by omega
  have hb1 : (0 : Int) ≤ (i : Int) + (m : Int) := by omega
  have hGi : ¬ (G = i) := by omega
  have hGim : ¬ (G = i + m) := by omega
  have hb6 : (i : Int) ≤ (i : Int) + (m : Int) + ((n : Int) - (j : Int)) := by omega
  have hb7 : (i : Int) + (m : Int) ≤ (i : Int) + (m : Int) + ((n : Int) - (j : Int)) := by omega
  have hsub : ((n - j : Nat) : Int) = (n : Int) - (j : Int) := by omega
  go_enter Try.func126, Try.ntmps126
  go_wp2
  go_region_o
  go_wp2_with (first
    | (at_builtin; refine Go.Lib.wpList_append_run _ rfl _ _ _ _ rfl _ _ rfl rfl _ _ (hrz _) ?_)
    | (at_builtin; refine wpList_copy_runI _ rfl _ _ 60 60 rfl _ _ rfl rfl (hcp1 _ _) ?_))
  go_region_law_o (refine step_copy_runI rfl _ _ 60 60 rfl (.slice (some ⟨g, (i + m) * 6, none⟩) (i + m + (n - j) - (i + m)) (G - (i + m))) (.slice (some ⟨b, j * 6, none⟩) (n - j) (c - j)) (by simp [Act.eval, Act.put]) (by simp [Act.eval, Act.put]) (hcp2 _ _ _) ?_)
  go_wp2
  go_ret
  exact ⟨rfl, rfl⟩
 fits := by
  intro b n c i j va m vc w W1 W2 W3 hi hj hm him hnc hc63 hcp1 hcp2 hcl
  have mixed : Try.prog.follows .mixedOrders = true := Ty.mixed
  have hz1 : ¬ ((i : Int) = (j : Int)) := by omega
  have hz2 : ¬ ((j : Int) = (n : Int)) := by omega
  have hin : i ≤ n := by omega
  have hij : i ≤ j := by omega
  have hij2 : (i : Int) ≤ (j : Int) := by omega
  have hjn : j ≤ n := by omega
  have hb4 : ¬ (c = i) := by omega
  have hb5 : ¬ (c = j) := by omega
  have hw1 : IntKind.i64.wrap ((i : Int) + (m : Int)) = (i : Int) + (m : Int) := by rw [IntKind.wrap_i64]; omega
  have hw2 : IntKind.i64.wrap ((i : Int) + (m : Int) + ((n : Int) - (j : Int))) = (i : Int) + (m : Int) + ((n : Int) - (j : Int)) := by rw [IntKind.wrap_i64]; omega
  have htn : ((i : Int) + (m : Int)).toNat = i + m := by omega
  have hb1 : (0 : Int) ≤ (i : Int) + (m : Int) := by omega
  have hb6 : (i : Int) ≤ (i : Int) + (m : Int) + ((n : Int) - (j : Int)) := by omega
  have hb7 : (i : Int) + (m : Int) ≤ (i : Int) + (m : Int) + ((n : Int) - (j : Int)) := by omega
  have hsub : ((n - j : Nat) : Int) = (n : Int) - (j : Int) := by omega
  have hz3 : ¬ ((c : Int) < (i : Int) + (m : Int) + ((n : Int) - (j : Int))) := by omega
  have hz4 : (i : Int) + (m : Int) ≤ (j : Int) := by omega
  have hci : ¬ (c = i + m) := by omega
  have hct : ¬ (c = i + m + (n - j)) := by omega
  have ht0 : (0 : Int) ≤ (i : Int) + (m : Int) + ((n : Int) - (j : Int)) := by omega
  have htt : ((i : Int) + (m : Int) + ((n : Int) - (j : Int))).toNat = i + m + (n - j) := by omega
  have htc : (i : Int) + (m : Int) + ((n : Int) - (j : Int)) ≤ (c : Int) := by omega
  have htn2 : (i : Int) + (m : Int) + ((n : Int) - (j : Int)) ≤ (n : Int) := by omega
  go_enter Try.func126, Try.ntmps126
  go_wp2
  go_region_o
  go_wp2_with (at_builtin; refine wpList_copy_runI _ rfl _ _ 60 60 rfl _ _ rfl rfl (hcp1 _ _) ?_)
  go_region_law_o (refine step_copy_runI rfl _ _ 60 60 rfl (.slice (some ⟨b, (i + m) * 6, none⟩) (i + m + (n - j) - (i + m)) (c - (i + m))) (.slice (some ⟨b, j * 6, none⟩) (n - j) (c - j)) (by simp [Act.eval, Act.put]) (by simp [Act.eval, Act.put]) (hcp2 _ _ _) ?_)
  go_wp2_with (refine wpList_clear_run _ rfl _ 60 rfl _ rfl (hcl _) ?_)
  go_ret
  exact ⟨rfl, rfl⟩
 expand := by
  intro b n c i j va m vc w W1 W2 hi hj hm him hroom hc63 hov hcp1 hcp2
  have mixed : Try.prog.follows .mixedOrders = true := Ty.mixed
  have hz1 : ¬ ((i : Int) = (j : Int)) := by omega
  have hz2 : ¬ ((j : Int) = (n : Int)) := by omega
  have hin : i ≤ n := by omega
  have hij : i ≤ j := by omega
  have hij2 : (i : Int) ≤ (j : Int) := by omega
  have hjn : j ≤ n := by omega
  have hb4 : ¬ (c = i) := by omega
  have hb5 : ¬ (c = j) := by omega
  have hw1 : IntKind.i64.wrap ((i : Int) + (m : Int)) = (i : Int) + (m : Int) := by rw [IntKind.wrap_i64]; omega
  have hw2 : IntKind.i64.wrap ((i : Int) + (m : Int) + ((n : Int) - (j : Int))) = (i : Int) + (m : Int) + ((n : Int) - (j : Int)) := by rw [IntKind.wrap_i64]; omega
  have htn : ((i : Int) + (m : Int)).toNat = i + m := by omega
  have hb1 : (0 : Int) ≤ (i : Int) + (m : Int) := by omega
  have hb6 : (i : Int) ≤ (i : Int) + (m : Int) + ((n : Int) - (j : Int)) := by omega
  have hb7 : (i : Int) + (m : Int) ≤ (i : Int) + (m : Int) + ((n : Int) - (j : Int)) := by omega
  have hsub : ((n - j : Nat) : Int) = (n : Int) - (j : Int) := by omega
  have hz3 : ¬ ((c : Int) < (i : Int) + (m : Int) + ((n : Int) - (j : Int))) := by omega
  have hz4 : ¬ ((i : Int) + (m : Int) ≤ (j : Int)) := by omega
  have hci : ¬ (c = i + m) := by omega
  have ht0 : (0 : Int) ≤ (i : Int) + (m : Int) + ((n : Int) - (j : Int)) := by omega
  have htt : ((i : Int) + (m : Int) + ((n : Int) - (j : Int))).toNat = i + m + (n - j) := by omega
  have htc : (i : Int) + (m : Int) + ((n : Int) - (j : Int)) ≤ (c : Int) := by omega
  go_enter Try.func126, Try.ntmps126
  go_wp2
  go_region_o
  go_wp2_with (simp only [hov])
  go_region_law_o (refine step_copy_runI rfl _ _ 60 60 rfl (.slice (some ⟨b, (i + m) * 6, none⟩) (i + m + (n - j) - (i + m)) (c - (i + m))) (.slice (some ⟨b, j * 6, none⟩) (n - j) (c - j)) (by simp [Act.eval, Act.put]) (by simp [Act.eval, Act.put]) (hcp1 _ _ _) ?_)
  go_wp2_with (at_builtin; refine wpList_copy_runI _ rfl _ _ 60 60 rfl _ _ rfl rfl (hcp2 _ _) ?_)
  go_ret
  exact ⟨rfl, rfl⟩
noncomputable def slices_Replace_api_Slot_api_Slot (i : Int) (j : Int) (v : List Slot) (row : List Slot) : Option (List Slot) :=
 asrt (0 ≤ i ∧ i < j ∧ j ≤ (row.length : Int)) <|
 asrt (v.length ≠ 0 ∧ (v.length : Int) ≠ j - i) <|
 asrt ((row.length + v.length) * 64 ≤ 140737488351232) <|
 some (row.take i.toNat ++ v ++ row.drop j.toNat)
theorem slices_Replace_api_Slot_api_Slot_ok (i : Int) (j : Int) (v : List Slot) (row : List Slot) (rk : Nat) (rc : Nat) (rn : Bool) (r : List Slot) (hF : slices_Replace_api_Slot_api_Slot i j v row = some r) : Pe Try.prog 126 ⟨[], [], [(100000, ⟨64, 6, 0, 0, rc, rn, 0, [], (row.map e_Slot)⟩)], [], []⟩ [.row 100000 0, .i i, .i j, .sl 6 (v.map e_Slot)] (.row 100000 1) ⟨[], [], [(100000, .o 64 6 1 (r.map e_Slot))], [], []⟩ := by
 unfold slices_Replace_api_Slot_api_Slot at hF
 obtain ⟨h0, h1, hF⟩ := asrt2 hF
 obtain ⟨h2, hF⟩ := asrt_elim hF
 have hF := some_elim hF
 rw [← hF, List.map_append, List.map_append, List.map_take, List.map_drop]
 exact Pe_rplT Ty.ok ⟨_, Try.func126, rfl, rfl⟩ slices_Replace_api_Slot_api_Slot_w rfl rfl rfl rfl rfl rfl rfl
  (fun args w => run_callFunc_extern Try.func131 (by kernel_rfl) (by kernel_rfl) (by kernel_rfl) (e := Extern.SlicesOverlaps.overlaps #[60, 60] #[4]) (by kernel_rfl) args w)
  (by rw [List.length_map]; exact h0) (by rw [List.length_map]; exact h1) (by rw [List.length_map, List.length_map]; exact h2) (by rw [List.length_map, List.length_map]; omega)

/- assign.HostAt -/
noncomputable def assign_HostAt_v1 (b : Int) (b1 : Int) (id : Int) (row : List Host) (row1 : List Slot) : Option (Int × List Host) :=
 ob (slices_IndexFunc_api_Host_api_Host row id) fun x =>
 some (x, row)
theorem assign_HostAt_v1_ok (b : Int) (b1 : Int) (id : Int) (row : List Host) (row1 : List Slot) (rk : Nat) (rc : Nat) (rn : Bool) (rk1 : Nat) (rc1 : Nat) (rn1 : Bool) (r : Int × List Host) (hF : assign_HostAt_v1 b b1 id row row1 = some r) : Pe Try.prog 91 ⟨[], [], [(100000, ⟨108, 3, 0, rk, rc, rn, 0, [], (row.map e_Host)⟩), (100001, ⟨64, 6, 0, rk1, rc1, rn1, 0, [], (row1.map e_Slot)⟩)], [], []⟩ [.agg [.row 100000 0, .row 100001 0, .i b, .i b1], .i id] (.i r.1) ⟨[], [], [(100000, ⟨108, 3, 0, (r.2.map e_Host).length, rc, rn, 0, [], (r.2.map e_Host)⟩), (100001, ⟨64, 6, 0, rk1, rc1, rn1, 0, [], (row1.map e_Slot)⟩)], [], []⟩ := by
 refine PeN 9 [.tmp 4] [3] Ty.ok Fn.b91 Try.func91 ?_
 intro Q g hfin
 unfold assign_HostAt_v1 at hF
 refine VR [] [2, 3] [2, 3] [100000, 100001] [] [(2, .ptr 2 0), (3, .ptr 3 0)] [(2, [.row 100000 0, .row 100001 0, .i b, .i b1]), (3, [.i id])] [] [] .nil ?_
 obtain ⟨x, h0, hF⟩ := ob_elim hF
 refine VR [.callR [3] [] [] [] (.i x)] [4] [] [100000, 100001] [] [(4, .i x)] [] [(100000, ⟨108, 3, 0, (row.map e_Host).length, rc, rn, 0, [], (row.map e_Host)⟩)] [] (hc (Pe.ren (slices_IndexFunc_api_Host_api_Host_ok row id x h0) ⟨[(100000, 3)], [], [], []⟩) .nil) ?_
 cases hF
 exact Wk_ret (hfin _ ⟨[100000, 100001], [], [100000, 100001], [], [], [], by kernel_rfl⟩)

/- assign.Parts -/
noncomputable def assign_Parts_v2_J1 (v1 : List Part) : Option (List Part) :=
 some v1
noncomputable def assign_Parts_v2_B1 (row1 : List Slot) (v2 : List Part × Int) : Option ((List Part × Int) ⊕ (List Part)) :=
 if (decide (v2.2 < (row1.length : Int))) = true then
  asrt (0 ≤ v2.2 ∧ v2.2 < (row1.length : Int)) <|
  asrt (0 ≤ v2.2 ∧ v2.2 < (row1.length : Int)) <|
  asrt (0 ≤ v2.2 ∧ v2.2 < (v2.1.length : Int)) <|
  asrt (0 ≤ v2.2 ∧ v2.2 < (v2.1.length : Int)) <|
  lt ((lset v2.1 v2.2 (⟨((lget row1 v2.2).Part).From, ((lget row1 v2.2).Part).To, ((lget row1 v2.2).Part).ID⟩ : Part))) fun (v3 : List Part) =>
  some (Sum.inl (v3, w64 (v2.2 + 1)))
 else
  inrO (assign_Parts_v2_J1 v2.1)
noncomputable def assign_Parts_v2_L1 (row1 : List Slot) (v0 : List Part × Int) : Option (List Part) :=
 loopO (fun y => assign_Parts_v2_B1 row1 y) v0
noncomputable def assign_Parts_v2 (b : Int) (b1 : Int) (row : List Host) (row1 : List Slot) : Option (List Part) :=
 asrt (0 ≤ ((row1.length : Int) : Int) ∧ (row1.length : Int) ≤ (row1.length : Int) ∧ (row1.length : Int) * 40 ≤ 140737488351232) <|
 lt ((List.replicate (row1.length : Int).toNat ((⟨([] : List UInt8), ([] : List UInt8), 0⟩ : Part) : Part))) fun (v : List Part) =>
 assign_Parts_v2_L1 row1 (v, 0)
theorem assign_Parts_v2_ok (b : Int) (b1 : Int) (row : List Host) (row1 : List Slot) (rk : Nat) (rc : Nat) (rn : Bool) (rk1 : Nat) (rc1 : Nat) (rn1 : Bool) (r : List Part) (hF : assign_Parts_v2 b b1 row row1 = some r) : Pe Try.prog 90 ⟨[], [], [(100000, ⟨108, 3, 0, rk, rc, rn, 0, [], (row.map e_Host)⟩), (100001, ⟨64, 6, 0, rk1, rc1, rn1, 0, [], (row1.map e_Slot)⟩)], [], []⟩ [.agg [.row 100000 0, .row 100001 0, .i b, .i b1]] (.row 9 0) ⟨[], [], [(100000, ⟨108, 3, 0, rk, rc, rn, 0, [], (row.map e_Host)⟩), (100001, ⟨64, 6, 0, rk1, rc1, rn1, 0, [], (row1.map e_Slot)⟩), (9, .o 34 3 0 (r.map e_Part))], [], []⟩ := by
 refine PeN 25 [.tmp 2] [22] Ty.ok Fn.b90 Try.func90 ?_
 intro Q g hfin
 unfold assign_Parts_v2 at hF
 refine VR [] [1] [1] [100000, 100001] [] [(1, .ptr 1 0)] [(1, [.row 100000 0, .row 100001 0, .i b, .i b1])] [] [] .nil ?_
 obtain ⟨h0, hF⟩ := asrt_elim hF
 refine NRL ((List.replicate (row1.length : Int).toNat ((⟨([] : List UInt8), ([] : List UInt8), 0⟩ : Part) : Part))) (fun v : List Part => ([(3, .row 9 0)], [], [(9, .o 34 3 0 (v.map e_Part))], [])) [.nat (row1.length : Int), .xs ((List.replicate (row1.length : Int).toNat ((⟨([] : List UInt8), ([] : List UInt8), 0⟩ : Part) : Part)).map e_Part)] [1, 3] [1] [9, 100000, 100001] [] (hc (len_ok e_Slot row1) (hc (mk_ok h0) (hc (rep_ok e_Part (row1.length : Int) ((⟨([] : List UInt8), ([] : List UInt8), 0⟩ : Part) : Part)) .nil))) (fun v hv => ?_)
 have hF := lt_elim hF hv
 refine NR [.nat (row1.length : Int)] [3, 11, 12, 13] [] [9, 100000, 100001] [(11, .row 100001 0), (12, .i (row1.length : Int)), (13, .i 0)] (hc (len_ok e_Slot row1) .nil) ?_
 refine NmeetP (fun v1 : List Part => (⟨[(3, .row 9 0)], [], [(9, .o 34 3 0 (v1.map e_Part)), (100000, ⟨108, 3, 0, rk, rc, rn, 0, [], (row.map e_Host)⟩), (100001, ⟨64, 6, 0, rk1, rc1, rn1, 0, [], (row1.map e_Slot)⟩)], [], []⟩ : S)) (fun v1 => assign_Parts_v2_J1 v1 = some r) ?_ ?_
 ·refine Nblk ?_
  unfold assign_Parts_v2_L1 at hF
  refine Niter (fun v2 : List Part × Int => (⟨[(3, .row 9 0), (11, .row 100001 0), (12, .i (row1.length : Int)), (13, .i v2.2)], [], [(9, .o 34 3 0 (v2.1.map e_Part)), (100000, ⟨108, 3, 0, rk, rc, rn, 0, [], (row.map e_Host)⟩), (100001, ⟨64, 6, 0, rk1, rc1, rn1, 0, [], (row1.map e_Slot)⟩)], [], []⟩ : S)) [] hF (by kernel_rfl) ?_
  intro n1 v2 y1 hF ih1 dn1
  unfold assign_Parts_v2_B1 at hF
  refine NR [] [3, 11, 12, 13, 14] [] [9, 100000, 100001] [(14, .bool (decide (v2.2 < (row1.length : Int))))] .nil ?_
  refine Nif hF (fun hb hF => ?_) (fun hb hF => ?_)
  ·refine Nblk ?_
   obtain ⟨h1, h2, hF⟩ := asrt2 hF
   refine VR [.av (e_Slot (lget row1 v2.2))] [3, 4, 5, 11, 12, 13] [5] [9, 100000, 100001] [] [(4, .i v2.2), (5, .ptr 5 0)] [(5, [.str (((lget row1 v2.2).Part).From), .str (((lget row1 v2.2).Part).To), .i (((lget row1 v2.2).Part).ID), .i ((lget row1 v2.2).State), .i ((lget row1 v2.2).Host), .i ((lget row1 v2.2).Turn)])] [] [] (hc (ixr_ok e_Slot h1) (hc (ldr_ok e_Slot h2) .nil)) ?_
   obtain ⟨h3, h4, hF⟩ := asrt2 hF
   refine NRL ((lset v2.1 v2.2 (⟨((lget row1 v2.2).Part).From, ((lget row1 v2.2).Part).To, ((lget row1 v2.2).Part).ID⟩ : Part))) (fun v3 : List Part => ([], [], [(9, .o 34 3 0 (v3.map e_Part))], [])) [.av (e_Part (lget v2.1 v2.2)), .xs ((lset v2.1 v2.2 (⟨((lget row1 v2.2).Part).From, ((lget row1 v2.2).Part).To, ((lget row1 v2.2).Part).ID⟩ : Part)).map e_Part)] [3, 11, 12, 13] [] [9, 100000, 100001] [] (hc (ixr_ok e_Part h3) (hc (ldr_ok e_Part h4) (hc (set_ok e_Part v2.1 v2.2 (⟨((lget row1 v2.2).Part).From, ((lget row1 v2.2).Part).To, ((lget row1 v2.2).Part).ID⟩ : Part)) (hc (Nat.zero_le v2.2.toNat) .nil)))) (fun v3 hv => ?_)
   have hF := lt_elim hF hv
   refine NR [] [3, 11, 12, 13] [] [9, 100000, 100001] [(13, .i (w64 (v2.2 + 1)))] .nil ?_
   exact Nrnd [] hF ih1 (by kernel_rfl)
  ·refine Nexit rfl ?_
   have hF := inrO_done hF dn1
   exact metP v2.1 [] hF (by kernel_rfl)
 ·intro v1 hF
  have hF : assign_Parts_v2_J1 v1 = some r := hF
  unfold assign_Parts_v2_J1 at hF
  refine NR [] [2] [] [9, 100000, 100001] [(2, .row 9 0)] .nil ?_
  cases hF
  exact Wk_ret (hfin _ ⟨[100000, 100001, 9], [], [100000, 100001, 9], [], [], [], by kernel_rfl⟩)

/- parts.Split -/
noncomputable def parts_Split_v2 (at0 : Int) (row : List UInt8) (left : Int) (right : Int) (row1 : List Part) : Option (List Part × Fault × List Part) :=
 ob (parts_Check row1) fun x =>
 if (!decide (x.Code = 0)) = true then
  some (([] : List Part), x, row1)
 else
  if ((decide (at0 < 0)) || (decide ((row1.length : Int) ≤ at0))) = true then
   lt (parts_fault 3 (-1)) fun x1 =>
   some (([] : List Part), x1, row1)
  else
   if (decide (40 < (row.length : Int))) = true then
    lt (parts_fault 8 (-2)) fun x2 =>
    some (([] : List Part), x2, row1)
   else
    asrt (0 ≤ at0 ∧ at0 < (row1.length : Int)) <|
    asrt (0 ≤ at0 ∧ at0 < (row1.length : Int)) <|
    ob (if (!(!Op.bytesLess ((lget row1 at0).From) row)) = true then (parts_find row1 row) else some default) fun x3 =>
    if ((!Op.bytesLess ((lget row1 at0).From) row) || (!decide (x3 = at0))) = true then
     lt (parts_fault 5 (-2)) fun x4 =>
     some (([] : List Part), x4, row1)
    else
     lt (parts_number left) fun x5 =>
     lt (parts_number right) fun x6 =>
     if ((!x5) || (!x6)) = true then
      lt (parts_fault 3 (-3)) fun x7 =>
      some (([] : List Part), x7, row1)
     else
      ob (if (!(decide (left = right))) = true then (parts_others row1 at0 (w64 (at0 + 1)) left) else some default) fun x8 =>
      ob (if (!((decide (left = right)) || x8)) = true then (parts_others row1 at0 (w64 (at0 + 1)) right) else some default) fun x9 =>
      if (((decide (left = right)) || x8) || x9) = true then
       lt (parts_fault 10 (-3)) fun x10 =>
       some (([] : List Part), x10, row1)
      else
       if (decide ((row1.length : Int) = 200)) = true then
        lt (parts_fault 2 (-1)) fun x11 =>
        some (([] : List Part), x11, row1)
       else
        asrt (0 ≤ at0 ∧ at0 < (row1.length : Int)) <|
        asrt (0 ≤ at0 ∧ at0 < (row1.length : Int)) <|
        lt ([(⟨(lget row1 at0).From, row, left⟩ : Part), (⟨row, (lget row1 at0).To, right⟩ : Part)]) fun (v : List Part) =>
        asrt (0 ≤ at0 ∧ at0 ≤ (row1.length : Int)) <|
        asrt (0 ≤ w64 (at0 + 1) ∧ w64 (at0 + 1) ≤ (row1.length : Int)) <|
        ob (slices_Concat_api_Part_api_Part ([(ltake row1 at0), v, (ldrop row1 (w64 (at0 + 1)))] : List (List Part))) fun x12 =>
        some (x12, (⟨0, 0⟩ : Fault), row1)
theorem parts_Split_v2_ok (at0 : Int) (row : List UInt8) (left : Int) (right : Int) (row1 : List Part) (rk : Nat) (rc : Nat) (rn : Bool) (r : List Part × Fault × List Part) (hF : parts_Split_v2 at0 row left right row1 = some r) : Pe Try.prog 18 ⟨[], [], [(100000, ⟨34, 3, 0, rk, rc, rn, 0, [], (row1.map e_Part)⟩)], [], []⟩ [.row 100000 0, .i at0, .str row, .i left, .i right] (.tup [.row 112 0, .agg (c_Fault r.2.1)]) ⟨[], [], [(100000, ⟨34, 3, 0, (r.2.2.map e_Part).length, rc, rn, 0, [], (r.2.2.map e_Part)⟩), (112, .o 34 3 0 (r.1.map e_Part))], [], []⟩ := by
 refine PeN 114 [.tmp 10, .cell 11 26] [22, 26] Ty.ok Fn.b18 Try.func18 ?_
 intro Q g hfin
 unfold parts_Split_v2 at hF
 refine VR [] [0, 1, 2, 3, 4, 11] [11] [100000] [] [(11, .ptr 11 0)] [(11, [.i 0, .i 0])] [] [] .nil ?_
 obtain ⟨x, h0, hF⟩ := ob_elim hF
 refine VR [.callB (.agg (c_Fault x))] [0, 1, 2, 3, 4, 11, 12] [11, 12] [100000] [] [(12, .ptr 12 0)] [(12, (c_Fault x))] [] [] (hc (parts_Check_ok row1 x h0) .nil) ?_
 refine NR [] [0, 1, 2, 3, 4, 11, 12, 19] [11, 12] [100000] [(19, .bool (!decide (x.Code = 0)))] .nil ?_
 refine Nif hF (fun hb hF => ?_) (fun hb hF => ?_)
 ·refine VD [] [10, 11] [11] [100000] [] [(10, .nils)] [(11, (c_Fault x))] [] [] .nil ?_
  cases hF
  refine Wk_nilrow 10 60000 34 3 rfl rfl rfl ?_
  refine Wk_ren' ⟨[], [(60000, 112)], [], []⟩ rfl ?_
  exact Wk_ret (hfin _ ⟨[100000, 112], [], [100000, 112], [], [], [(100000, ⟨0, true, true, true⟩), (112, ⟨0, true, false, false⟩)], by kernel_rfl⟩)
 ·refine Nblk ?_
  refine NR [.nat (row1.length : Int)] [0, 1, 2, 3, 4, 11, 21] [11] [100000] [(21, .bool ((decide (at0 < 0)) || (decide ((row1.length : Int) ≤ at0))))] (hc (fun (_ : (!(decide (at0 < 0))) = true) => (len_ok e_Part row1)) .nil) ?_
  refine Nif hF (fun hb hF => ?_) (fun hb hF => ?_)
  ·obtain ⟨x1, h1, hF⟩ := lt_split hF
   refine VR [.callB (.agg (c_Fault x1))] [10, 11] [11] [100000] [] [(10, .nils)] [(11, (c_Fault x1))] [] [] (hc (parts_fault_ok 3 (-1) x1 h1) .nil) ?_
   cases hF
   refine Wk_nilrow 10 60001 34 3 rfl rfl rfl ?_
   refine Wk_ren' ⟨[], [(60001, 112)], [], []⟩ rfl ?_
   exact Wk_ret (hfin _ ⟨[100000, 112], [], [100000, 112], [], [], [(100000, ⟨0, true, true, true⟩), (112, ⟨0, true, false, false⟩)], by kernel_rfl⟩)
  ·refine NR [] [0, 1, 2, 3, 4, 11, 31] [11] [100000] [(31, .bool (decide (40 < (row.length : Int))))] .nil ?_
   refine Nif hF (fun hb hF => ?_) (fun hb hF => ?_)
   ·obtain ⟨x2, h2, hF⟩ := lt_split hF
    refine VR [.callB (.agg (c_Fault x2))] [10, 11] [11] [100000] [] [(10, .nils)] [(11, (c_Fault x2))] [] [] (hc (parts_fault_ok 8 (-2) x2 h2) .nil) ?_
    cases hF
    refine Wk_nilrow 10 60002 34 3 rfl rfl rfl ?_
    refine Wk_ren' ⟨[], [(60002, 112)], [], []⟩ rfl ?_
    exact Wk_ret (hfin _ ⟨[100000, 112], [], [100000, 112], [], [], [(100000, ⟨0, true, true, true⟩), (112, ⟨0, true, false, false⟩)], by kernel_rfl⟩)
   ·obtain ⟨h3, hF⟩ := asrt_elim hF
    obtain ⟨h4, hF⟩ := asrt_elim hF
    obtain ⟨x3, h5, hF⟩ := ob_elim hF
    refine NR [.av (e_Part (lget row1 at0)), .callB (.i x3)] [0, 1, 2, 3, 4, 11, 36] [11] [100000] [(36, .bool ((!Op.bytesLess ((lget row1 at0).From) row) || (!decide (x3 = at0))))] (hc (ixr_ok e_Part h3) (hc (ldr_ok e_Part h4) (hc (fun (ga0 : (!(!Op.bytesLess ((lget row1 at0).From) row)) = true) => (parts_find_ok row1 row x3 (ite_t h5 ga0))) .nil))) ?_
    refine Nif hF (fun hb hF => ?_) (fun hb hF => ?_)
    ·obtain ⟨x4, h6, hF⟩ := lt_split hF
     refine VR [.callB (.agg (c_Fault x4))] [10, 11] [11] [100000] [] [(10, .nils)] [(11, (c_Fault x4))] [] [] (hc (parts_fault_ok 5 (-2) x4 h6) .nil) ?_
     cases hF
     refine Wk_nilrow 10 60003 34 3 rfl rfl rfl ?_
     refine Wk_ren' ⟨[], [(60003, 112)], [], []⟩ rfl ?_
     exact Wk_ret (hfin _ ⟨[100000, 112], [], [100000, 112], [], [], [(100000, ⟨0, true, true, true⟩), (112, ⟨0, true, false, false⟩)], by kernel_rfl⟩)
    ·obtain ⟨x5, h7, hF⟩ := lt_split hF
     obtain ⟨x6, h8, hF⟩ := lt_split hF
     refine NR [.callB (.bool x5), .callB (.bool x6)] [0, 1, 2, 3, 4, 11, 52] [11] [100000] [(52, .bool ((!x5) || (!x6)))] (hc (parts_number_ok left x5 h7) (hc (fun (ga0 : (!(!x5)) = true) => (parts_number_ok right x6 h8)) .nil)) ?_
     refine Nif hF (fun hb hF => ?_) (fun hb hF => ?_)
     ·obtain ⟨x7, h9, hF⟩ := lt_split hF
      refine VR [.callB (.agg (c_Fault x7))] [10, 11] [11] [100000] [] [(10, .nils)] [(11, (c_Fault x7))] [] [] (hc (parts_fault_ok 3 (-3) x7 h9) .nil) ?_
      cases hF
      refine Wk_nilrow 10 60004 34 3 rfl rfl rfl ?_
      refine Wk_ren' ⟨[], [(60004, 112)], [], []⟩ rfl ?_
      exact Wk_ret (hfin _ ⟨[100000, 112], [], [100000, 112], [], [], [(100000, ⟨0, true, true, true⟩), (112, ⟨0, true, false, false⟩)], by kernel_rfl⟩)
     ·obtain ⟨x8, h10, hF⟩ := ob_elim hF
      obtain ⟨x9, h11, hF⟩ := ob_elim hF
      refine NR [.callB (.bool x8), .callB (.bool x9)] [0, 1, 2, 3, 4, 11, 62] [11] [100000] [(62, .bool (((decide (left = right)) || x8) || x9))] (hc (fun (ga0 : (!(decide (left = right))) = true) => (parts_others_ok row1 at0 (w64 (at0 + 1)) left x8 (ite_t h10 ga0))) (hc (fun (ga0 : (!((decide (left = right)) || x8)) = true) => (parts_others_ok row1 at0 (w64 (at0 + 1)) right x9 (ite_t h11 ga0))) .nil)) ?_
      refine Nif hF (fun hb hF => ?_) (fun hb hF => ?_)
      ·obtain ⟨x10, h12, hF⟩ := lt_split hF
       refine VR [.callB (.agg (c_Fault x10))] [10, 11] [11] [100000] [] [(10, .nils)] [(11, (c_Fault x10))] [] [] (hc (parts_fault_ok 10 (-3) x10 h12) .nil) ?_
       cases hF
       refine Wk_nilrow 10 60005 34 3 rfl rfl rfl ?_
       refine Wk_ren' ⟨[], [(60005, 112)], [], []⟩ rfl ?_
       exact Wk_ret (hfin _ ⟨[100000, 112], [], [100000, 112], [], [], [(100000, ⟨0, true, true, true⟩), (112, ⟨0, true, false, false⟩)], by kernel_rfl⟩)
      ·refine NR [.nat (row1.length : Int)] [0, 1, 2, 3, 4, 11, 83] [11] [100000] [(83, .bool (decide ((row1.length : Int) = 200)))] (hc (len_ok e_Part row1) .nil) ?_
       refine Nif hF (fun hb hF => ?_) (fun hb hF => ?_)
       ·obtain ⟨x11, h13, hF⟩ := lt_split hF
        refine VR [.callB (.agg (c_Fault x11))] [10, 11] [11] [100000] [] [(10, .nils)] [(11, (c_Fault x11))] [] [] (hc (parts_fault_ok 2 (-1) x11 h13) .nil) ?_
        cases hF
        refine Wk_nilrow 10 60006 34 3 rfl rfl rfl ?_
        refine Wk_ren' ⟨[], [(60006, 112)], [], []⟩ rfl ?_
        exact Wk_ret (hfin _ ⟨[100000, 112], [], [100000, 112], [], [], [(100000, ⟨0, true, true, true⟩), (112, ⟨0, true, false, false⟩)], by kernel_rfl⟩)
       ·obtain ⟨h14, hF⟩ := asrt_elim hF
        obtain ⟨h15, hF⟩ := asrt_elim hF
        refine VR [.av (e_Part (lget row1 at0))] [0, 1, 2, 3, 4, 11, 13] [11, 13] [100000] [] [(13, .ptr 13 0)] [(13, (c_Part (lget row1 at0)))] [] [] (hc (ixr_ok e_Part h14) (hc (ldr_ok e_Part h15) .nil)) ?_
        refine NRL ([(⟨(lget row1 at0).From, row, left⟩ : Part), (⟨row, (lget row1 at0).To, right⟩ : Part)]) (fun v : List Part => ([(14, .sl 3 (v.map e_Part))], [], [], [])) [.sealed] [0, 1, 11, 14] [11] [100000] [] .nil (fun v hv => ?_)
        have hF := lt_elim hF hv
        refine Wk_sealX [] 0 rfl rfl ?_
        obtain ⟨h16, h17, hF⟩ := asrt2 hF
        obtain ⟨x12, h18, hF⟩ := ob_elim hF
        refine VD [.xs ((ltake row1 at0).map e_Part), .xs ((ldrop row1 (w64 (at0 + 1))).map e_Part), .sealed, .callE [] [] [] [] (.row 112 0) ⟨[], [], [(112, .o 34 3 0 (x12.map e_Part))], [], []⟩] [10, 11] [11] [112, 100000] [] [(10, .row 112 0)] [] [(112, .o 34 3 0 (x12.map e_Part))] [] (hc (sl01_ok e_Part h16) (hc (sl10_ok e_Part h17) (hc (Pe.ren (slices_Concat_api_Part_api_Part_ok ([(ltake row1 at0), v, (ldrop row1 (w64 (at0 + 1)))] : List (List Part)) x12 h18) ⟨[], [(24, 112)], [], []⟩) .nil))) ?_
        cases hF
        exact Wk_ret (hfin _ ⟨[100000, 112], [], [100000, 112], [], [], [], by kernel_rfl⟩)

end G
end Go.Proofs.Ytdjlninhfndjfaa
