/- The program's functions as plain functions, and that they are these. Written by a program (dec2.py). -/
import Derived.Test.YtdjlninhfndjfaaGf0
namespace Go.Proofs.Ytdjlninhfndjfaa
open Go Go.Dm
set_option linter.unusedVariables false
set_option linter.unusedSimpArgs false
set_option maxRecDepth 100000
namespace G
/- slices.Replace[[]api.Slot,api.Slot] -/
set_option maxHeartbeats 4000000 in
theorem slices_Replace_api_Slot_api_Slot_w : RplW Try.prog 126 131 60 6 where
 cut := by
  intro b n c i va m vc w W1 W2 hi hm him hnc hc63 hap hcl
  have mixed : Try.prog.follows .mixedOrders = true := Ty.mixed
  have hz1 : ¬ ((i : Int) = (n : Int)) := by omega
  have hin : i ≤ n := by omega
  have hb4 : ¬ (c = i) := by omega
  have hb5 : ¬ (c = i + m) := by omega
  have hb6 : (i : Int) + (m : Int) < (n : Int) := by omega
  have hb7 : ((i : Int) + (m : Int)).toNat = i + m := by omega
  have hb8 : (0 : Int) ≤ (i : Int) + (m : Int) := by omega
  have hb9 : (i : Int) + (m : Int) ≤ (n : Int) := by omega
  go_enter Try.func126, Try.ntmps126
  go_wp2_with (first
    | (at_builtin; refine Go.Lib.wpList_append_run _ rfl _ _ _ _ rfl _ _ rfl rfl _ _ (hap _) ?_)
    | (refine wpList_clear_run _ rfl _ 60 rfl _ rfl (hcl _) ?_))
  go_ret
  exact ⟨rfl, rfl⟩
 fin := by
  intro b n c i va m vc w W1 b1 l1 hi hm him hnc hap
  have mixed : Try.prog.follows .mixedOrders = true := Ty.mixed
  have hz1 : ¬ ((i : Int) = (n : Int)) := by omega
  have hin : i ≤ n := by omega
  have hb4 : ¬ (c = i) := by omega
  have hb6 : ¬ ((i : Int) + (m : Int) < (n : Int)) := by omega
  go_enter Try.func126, Try.ntmps126
  go_wp2_with (at_builtin; refine Go.Lib.wpList_append_run _ rfl _ _ _ _ rfl _ _ rfl rfl _ _ (hap _) ?_)
  go_ret
  exact ⟨rfl, rfl⟩
 grow := by
  intro b n c i j g G va m vc w W1 W2 W3 hi hj hm hroom hnc hc63 hG hG63 hrz hcp1 hcp2
  have mixed : Try.prog.follows .mixedOrders = true := Ty.mixed
  have hz1 : ¬ ((i : Int) = (j : Int)) := by omega
  have hz2 : ¬ ((j : Int) = (n : Int)) := by omega
  have hin : i ≤ n := by omega
  have hij : i ≤ j := by omega
  have hij2 : (i : Int) ≤ (j : Int) := by omega
  have hjn : j ≤ n := by omega
  have hb4 : ¬ (c = i) := by omega
  have hb5 : ¬ (c = j) := by omega
  have hw1 : IntKind.i64.wrap ((i : Int) + (m : Int)) = (i : Int) + (m : Int) := by rw [IntKind.wrap_i64]; omega
  have hw2 : IntKind.i64.wrap ((i : Int) + (m : Int) + ((n : Int) - (j : Int))) = (i : Int) + (m : Int) + ((n : Int) - (j : Int)) := by rw [IntKind.wrap_i64]; omega
  have hw3 : IntKind.i64.wrap ((i : Int) + (m : Int) + ((n : Int) - (j : Int)) - (i : Int)) = (i : Int) + (m : Int) + ((n : Int) - (j : Int)) - (i : Int) := by rw [IntKind.wrap_i64]; omega
  have hz3 : (c : Int) < (i : Int) + (m : Int) + ((n : Int) - (j : Int)) := by omega
  have htn : ((i : Int) + (m : Int)).toNat = i + m := by omega
  have hb1 : (0 : Int) ≤ (i : Int) + (m : Int) := by omega
  have hGi : ¬ (G = i) := by omega
  have hGim : ¬ (G = i + m) := by omega
  have hb6 : (i : Int) ≤ (i : Int) + (m : Int) + ((n : Int) - (j : Int)) := by omega
  have hb7 : (i : Int) + (m : Int) ≤ (i : Int) + (m : Int) + ((n : Int) - (j : Int)) := by omega
  have hsub : ((n - j : Nat) : Int) = (n : Int) - (j : Int) := by omega
  go_enter Try.func126, Try.ntmps126
  go_wp2
  go_region_o
  go_wp2_with (first
    | (at_builtin; refine Go.Lib.wpList_append_run _ rfl _ _ _ _ rfl _ _ rfl rfl _ _ (hrz _) ?_)
    | (at_builtin; refine wpList_copy_runI _ rfl _ _ 60 60 rfl _ _ rfl rfl (hcp1 _ _) ?_))
  go_region_law_o (refine step_copy_runI rfl _ _ 60 60 rfl (.slice (some ⟨g, (i + m) * 6, none⟩) (i + m + (n - j) - (i + m)) (G - (i + m))) (.slice (some ⟨b, j * 6, none⟩) (n - j) (c - j)) (by simp [Act.eval, Act.put]) (by simp [Act.eval, Act.put]) (hcp2 _ _ _) ?_)
  go_wp2
  go_ret
  exact ⟨rfl, rfl⟩
 fits := by
  intro b n c i j va m vc w W1 W2 W3 hi hj hm him hnc hc63 hcp1 hcp2 hcl
  have mixed : Try.prog.follows .mixedOrders = true := Ty.mixed
  have hz1 : ¬ ((i : Int) = (j : Int)) := by omega
  have hz2 : ¬ ((j : Int) = (n : Int)) := by omega
  have hin : i ≤ n := by omega
  have hij : i ≤ j := by omega
  have hij2 : (i : Int) ≤ (j : Int) := by omega
  have hjn : j ≤ n := by omega
  have hb4 : ¬ (c = i) := by omega
  have hb5 : ¬ (c = j) := by omega
  have hw1 : IntKind.i64.wrap ((i : Int) + (m : Int)) = (i : Int) + (m : Int) := by rw [IntKind.wrap_i64]; omega
  have hw2 : IntKind.i64.wrap ((i : Int) + (m : Int) + ((n : Int) - (j : Int))) = (i : Int) + (m : Int) + ((n : Int) - (j : Int)) := by rw [IntKind.wrap_i64]; omega
  have htn : ((i : Int) + (m : Int)).toNat = i + m := by omega
  have hb1 : (0 : Int) ≤ (i : Int) + (m : Int) := by omega
  have hb6 : (i : Int) ≤ (i : Int) + (m : Int) + ((n : Int) - (j : Int)) := by omega
  have hb7 : (i : Int) + (m : Int) ≤ (i : Int) + (m : Int) + ((n : Int) - (j : Int)) := by omega
  have hsub : ((n - j : Nat) : Int) = (n : Int) - (j : Int) := by omega
  have hz3 : ¬ ((c : Int) < (i : Int) + (m : Int) + ((n : Int) - (j : Int))) := by omega
  have hz4 : (i : Int) + (m : Int) ≤ (j : Int) := by omega
  have hci : ¬ (c = i + m) := by omega
  have hct : ¬ (c = i + m + (n - j)) := by omega
  have ht0 : (0 : Int) ≤ (i : Int) + (m : Int) + ((n : Int) - (j : Int)) := by omega
  have htt : ((i : Int) + (m : Int) + ((n : Int) - (j : Int))).toNat = i + m + (n - j) := by omega
  have htc : (i : Int) + (m : Int) + ((n : Int) - (j : Int)) ≤ (c : Int) := by omega
  have htn2 : (i : Int) + (m : Int) + ((n : Int) - (j : Int)) ≤ (n : Int) := by omega
  go_enter Try.func126, Try.ntmps126
  go_wp2
  go_region_o
  go_wp2_with (at_builtin; refine wpList_copy_runI _ rfl _ _ 60 60 rfl _ _ rfl rfl (hcp1 _ _) ?_)
  go_region_law_o (refine step_copy_runI rfl _ _ 60 60 rfl (.slice (some ⟨b, (i + m) * 6, none⟩) (i + m + (n - j) - (i + m)) (c - (i + m))) (.slice (some ⟨b, j * 6, none⟩) (n - j) (c - j)) (by simp [Act.eval, Act.put]) (by simp [Act.eval, Act.put]) (hcp2 _ _ _) ?_)
  go_wp2_with (refine wpList_clear_run _ rfl _ 60 rfl _ rfl (hcl _) ?_)
  go_ret
  exact ⟨rfl, rfl⟩
 expand := by
  intro b n c i j va m vc w W1 W2 hi hj hm him hroom hc63 hov hcp1 hcp2
  have mixed : Try.prog.follows .mixedOrders = true := Ty.mixed
  have hz1 : ¬ ((i : Int) = (j : Int)) := by omega
  have hz2 : ¬ ((j : Int) = (n : Int)) := by omega
  have hin : i ≤ n := by omega
  have hij : i ≤ j := by omega
  have hij2 : (i : Int) ≤ (j : Int) := by omega
  have hjn : j ≤ n := by omega
  have hb4 : ¬ (c = i) := by omega
  have hb5 : ¬ (c = j) := by omega
  have hw1 : IntKind.i64.wrap ((i : Int) + (m : Int)) = (i : Int) + (m : Int) := by rw [IntKind.wrap_i64]; omega
  have hw2 : IntKind.i64.wrap ((i : Int) + (m : Int) + ((n : Int) - (j : Int))) = (i : Int) + (m : Int) + ((n : Int) - (j : Int)) := by rw [IntKind.wrap_i64]; omega
  have htn : ((i : Int) + (m : Int)).toNat = i + m := by omega
  have hb1 : (0 : Int) ≤ (i : Int) + (m : Int) := by omega
  have hb6 : (i : Int) ≤ (i : Int) + (m : Int) + ((n : Int) - (j : Int)) := by omega
  have hb7 : (i : Int) + (m : Int) ≤ (i : Int) + (m : Int) + ((n : Int) - (j : Int)) := by omega
  have hsub : ((n - j : Nat) : Int) = (n : Int) - (j : Int) := by omega
  have hz3 : ¬ ((c : Int) < (i : Int) + (m : Int) + ((n : Int) - (j : Int))) := by omega
  have hz4 : ¬ ((i : Int) + (m : Int) ≤ (j : Int)) := by omega
  have hci : ¬ (c = i + m) := by omega
  have ht0 : (0 : Int) ≤ (i : Int) + (m : Int) + ((n : Int) - (j : Int)) := by omega
  have htt : ((i : Int) + (m : Int) + ((n : Int) - (j : Int))).toNat = i + m + (n - j) := by omega
  have htc : (i : Int) + (m : Int) + ((n : Int) - (j : Int)) ≤ (c : Int) := by omega
  go_enter Try.func126, Try.ntmps126
  go_wp2
  go_region_o
  go_wp2_with (simp only [hov])
  go_region_law_o (refine step_copy_runI rfl _ _ 60 60 rfl (.slice (some ⟨b, (i + m) * 6, none⟩) (i + m + (n - j) - (i + m)) (c - (i + m))) (.slice (some ⟨b, j * 6, none⟩) (n - j) (c - j)) (by simp [Act.eval, Act.put]) (by simp [Act.eval, Act.put]) (hcp1 _ _ _) ?_)
  go_wp2_with (at_builtin; refine wpList_copy_runI _ rfl _ _ 60 60 rfl _ _ rfl rfl (hcp2 _ _) ?_)
  go_ret
  exact ⟨rfl, rfl⟩
noncomputable def slices_Replace_api_Slot_api_Slot (i : Int) (j : Int) (v : List Slot) (row : List Slot) : Option (List Slot) :=
 asrt (0 ≤ i ∧ i < j ∧ j ≤ (row.length : Int)) <|
 asrt (v.length ≠ 0 ∧ (v.length : Int) ≠ j - i) <|
 asrt ((row.length + v.length) * 64 ≤ 140737488351232) <|
 some (row.take i.toNat ++ v ++ row.drop j.toNat)
theorem slices_Replace_api_Slot_api_Slot_ok (i : Int) (j : Int) (v : List Slot) (row : List Slot) (rk : Nat) (rc : Nat) (rn : Bool) (r : List Slot) (hF : slices_Replace_api_Slot_api_Slot i j v row = some r) : Pe Try.prog 126 ⟨[], [], [(100000, ⟨64, 6, 0, 0, rc, rn, 0, [], (row.map e_Slot)⟩)], [], []⟩ [.row 100000 0, .i i, .i j, .sl 6 (v.map e_Slot)] (.row 100000 1) ⟨[], [], [(100000, .o 64 6 1 (r.map e_Slot))], [], []⟩ := by
 unfold slices_Replace_api_Slot_api_Slot at hF
 obtain ⟨h0, h1, hF⟩ := asrt2 hF
 obtain ⟨h2, hF⟩ := asrt_elim hF
 have hF := some_elim hF
 rw [← hF, List.map_append, List.map_append, List.map_take, List.map_drop]
 exact Pe_rplT Ty.ok ⟨_, Try.func126, rfl, rfl⟩ slices_Replace_api_Slot_api_Slot_w rfl rfl rfl rfl rfl rfl rfl
  (fun args w => run_callFunc_extern Try.func131 (by kernel_rfl) (by kernel_rfl) (by kernel_rfl) (e := Extern.SlicesOverlaps.overlaps #[60, 60] #[4]) (by kernel_rfl) args w)
  (by rw [List.length_map]; exact h0) (by rw [List.length_map]; exact h1) (by rw [List.length_map, List.length_map]; exact h2) (by rw [List.length_map, List.length_map]; omega)

/- assign.HostAt -/
noncomputable def assign_HostAt_v1 (b : Int) (b1 : Int) (id : Int) (row : List Host) (row1 : List Slot) : Option (Int × List Host) :=
 ob (slices_IndexFunc_api_Host_api_Host row id) fun x =>
 some (x, row)
theorem assign_HostAt_v1_ok (b : Int) (b1 : Int) (id : Int) (row : List Host) (row1 : List Slot) (rk : Nat) (rc : Nat) (rn : Bool) (rk1 : Nat) (rc1 : Nat) (rn1 : Bool) (r : Int × List Host) (hF : assign_HostAt_v1 b b1 id row row1 = some r) : Pe Try.prog 91 ⟨[], [], [(100000, ⟨108, 3, 0, rk, rc, rn, 0, [], (row.map e_Host)⟩), (100001, ⟨64, 6, 0, rk1, rc1, rn1, 0, [], (row1.map e_Slot)⟩)], [], []⟩ [.agg [.row 100000 0, .row 100001 0, .i b, .i b1], .i id] (.i r.1) ⟨[], [], [(100000, ⟨108, 3, 0, (r.2.map e_Host).length, rc, rn, 0, [], (r.2.map e_Host)⟩), (100001, ⟨64, 6, 0, rk1, rc1, rn1, 0, [], (row1.map e_Slot)⟩)], [], []⟩ := by
 refine PeN (N := 9) (res := [.tmp 4]) (ts := [3]) Ty.ok Fn.b91 Try.func91 ?_
 intro Q g hfin
 unfold assign_HostAt_v1 at hF
 refine VR [] [2, 3] [2, 3] [100000, 100001] [] [(2, .ptr 2 0), (3, .ptr 3 0)] [(2, [.row 100000 0, .row 100001 0, .i b, .i b1]), (3, [.i id])] [] [] .nil ?_
 obtain ⟨x, h0, hF⟩ := ob_elim hF
 refine VR [.callR [3] [] [] [] (.i x)] [4] [] [100000, 100001] [] [(4, .i x)] [] [(100000, ⟨108, 3, 0, (row.map e_Host).length, rc, rn, 0, [], (row.map e_Host)⟩)] [] (hc (Pe.ren (slices_IndexFunc_api_Host_api_Host_ok row id x h0) ⟨[(100000, 3)], [], [], []⟩) .nil) ?_
 cases hF
 exact Wk_ret (hfin _ ⟨[100000, 100001], [], [100000, 100001], [], [], [], by kernel_rfl⟩)

/- assign.Parts -/
noncomputable def assign_Parts_v2_J1 (v1 : List Part) : Option (List Part) :=
 some v1
noncomputable def assign_Parts_v2_B1 (row1 : List Slot) (v2 : List Part × Int) : Option ((List Part × Int) ⊕ (List Part)) :=
 if (decide (v2.2 < (row1.length : Int))) = true then
  asrt (0 ≤ v2.2 ∧ v2.2 < (row1.length : Int)) <|
  asrt (0 ≤ v2.2 ∧ v2.2 < (row1.length : Int)) <|
  asrt (0 ≤ v2.2 ∧ v2.2 < (v2.1.length : Int)) <|
  asrt (0 ≤ v2.2 ∧ v2.2 < (v2.1.length : Int)) <|
  lt ((lset v2.1 v2.2 (⟨((lget row1 v2.2).Part).From, ((lget row1 v2.2).Part).To, ((lget row1 v2.2).Part).ID⟩ : Part))) fun (v3 : List Part) =>
  some (Sum.inl (v3, w64 (v2.2 + 1)))
 else
  inrO (assign_Parts_v2_J1 v2.1)
noncomputable def assign_Parts_v2_L1 (row1 : List Slot) (v0 : List Part × Int) : Option (List Part) :=
 loopO (fun y => assign_Parts_v2_B1 row1 y) v0
noncomputable def assign_Parts_v2 (b : Int) (b1 : Int) (row : List Host) (row1 : List Slot) : Option (List Part) :=
 asrt (0 ≤ ((row1.length : Int) : Int) ∧ (row1.length : Int) ≤ (row1.length : Int) ∧ (row1.length : Int) * 40 ≤ 140737488351232) <|
 lt ((List.replicate (row1.length : Int).toNat ((⟨([] : List UInt8), ([] : List UInt8), 0⟩ : Part) : Part))) fun (v : List Part) =>
 assign_Parts_v2_L1 row1 (v, 0)
theorem assign_Parts_v2_ok (b : Int) (b1 : Int) (row : List Host) (row1 : List Slot) (rk : Nat) (rc : Nat) (rn : Bool) (rk1 : Nat) (rc1 : Nat) (rn1 : Bool) (r : List Part) (hF : assign_Parts_v2 b b1 row row1 = some r) : Pe Try.prog 90 ⟨[], [], [(100000, ⟨108, 3, 0, rk, rc, rn, 0, [], (row.map e_Host)⟩), (100001, ⟨64, 6, 0, rk1, rc1, rn1, 0, [], (row1.map e_Slot)⟩)], [], []⟩ [.agg [.row 100000 0, .row 100001 0, .i b, .i b1]] (.row 9 0) ⟨[], [], [(100000, ⟨108, 3, 0, rk, rc, rn, 0, [], (row.map e_Host)⟩), (100001, ⟨64, 6, 0, rk1, rc1, rn1, 0, [], (row1.map e_Slot)⟩), (9, .o 34 3 0 (r.map e_Part))], [], []⟩ := by
 refine PeN (N := 25) (res := [.tmp 2]) (ts := [22]) Ty.ok Fn.b90 Try.func90 ?_
 intro Q g hfin
 unfold assign_Parts_v2 at hF
 refine VR [] [1] [1] [100000, 100001] [] [(1, .ptr 1 0)] [(1, [.row 100000 0, .row 100001 0, .i b, .i b1])] [] [] .nil ?_
 obtain ⟨h0, hF⟩ := asrt_elim hF
 refine NRL ((List.replicate (row1.length : Int).toNat ((⟨([] : List UInt8), ([] : List UInt8), 0⟩ : Part) : Part))) (fun v : List Part => ([(3, .row 9 0)], [], [(9, .o 34 3 0 (v.map e_Part))], [])) [.nat (row1.length : Int), .xs ((List.replicate (row1.length : Int).toNat ((⟨([] : List UInt8), ([] : List UInt8), 0⟩ : Part) : Part)).map e_Part)] [1, 3] [1] [9, 100000, 100001] [] (hc (len_ok e_Slot row1) (hc (mk_ok h0) (hc (rep_ok e_Part (row1.length : Int) ((⟨([] : List UInt8), ([] : List UInt8), 0⟩ : Part) : Part)) .nil))) (fun v hv => ?_)
 have hF := lt_elim hF hv
 refine NR [.nat (row1.length : Int)] [3, 11, 12, 13] [] [9, 100000, 100001] [(11, .row 100001 0), (12, .i (row1.length : Int)), (13, .i 0)] (hc (len_ok e_Slot row1) .nil) ?_
 refine NmeetP (fun v1 : List Part => (⟨[(3, .row 9 0)], [], [(9, .o 34 3 0 (v1.map e_Part)), (100000, ⟨108, 3, 0, rk, rc, rn, 0, [], (row.map e_Host)⟩), (100001, ⟨64, 6, 0, rk1, rc1, rn1, 0, [], (row1.map e_Slot)⟩)], [], []⟩ : S)) (fun v1 => assign_Parts_v2_J1 v1 = some r) ?_ ?_
 ·refine Nblk ?_
  unfold assign_Parts_v2_L1 at hF
  refine Niter (fun v2 : List Part × Int => (⟨[(3, .row 9 0), (11, .row 100001 0), (12, .i (row1.length : Int)), (13, .i v2.2)], [], [(9, .o 34 3 0 (v2.1.map e_Part)), (100000, ⟨108, 3, 0, rk, rc, rn, 0, [], (row.map e_Host)⟩), (100001, ⟨64, 6, 0, rk1, rc1, rn1, 0, [], (row1.map e_Slot)⟩)], [], []⟩ : S)) [] hF (by kernel_rfl) ?_
  intro n1 v2 y1 hF ih1 dn1
  unfold assign_Parts_v2_B1 at hF
  refine NR [] [3, 11, 12, 13, 14] [] [9, 100000, 100001] [(14, .bool (decide (v2.2 < (row1.length : Int))))] .nil ?_
  refine Nif hF (fun hb hF => ?_) (fun hb hF => ?_)
  ·refine Nblk ?_
   obtain ⟨h1, h2, hF⟩ := asrt2 hF
   refine VR [.av (e_Slot (lget row1 v2.2))] [3, 4, 5, 11, 12, 13] [5] [9, 100000, 100001] [] [(4, .i v2.2), (5, .ptr 5 0)] [(5, [.str (((lget row1 v2.2).Part).From), .str (((lget row1 v2.2).Part).To), .i (((lget row1 v2.2).Part).ID), .i ((lget row1 v2.2).State), .i ((lget row1 v2.2).Host), .i ((lget row1 v2.2).Turn)])] [] [] (hc (ixr_ok e_Slot h1) (hc (ldr_ok e_Slot h2) .nil)) ?_
   obtain ⟨h3, h4, hF⟩ := asrt2 hF
   refine NRL ((lset v2.1 v2.2 (⟨((lget row1 v2.2).Part).From, ((lget row1 v2.2).Part).To, ((lget row1 v2.2).Part).ID⟩ : Part))) (fun v3 : List Part => ([], [], [(9, .o 34 3 0 (v3.map e_Part))], [])) [.av (e_Part (lget v2.1 v2.2)), .xs ((lset v2.1 v2.2 (⟨((lget row1 v2.2).Part).From, ((lget row1 v2.2).Part).To, ((lget row1 v2.2).Part).ID⟩ : Part)).map e_Part)] [3, 11, 12, 13] [] [9, 100000, 100001] [] (hc (ixr_ok e_Part h3) (hc (ldr_ok e_Part h4) (hc (set_ok e_Part v2.1 v2.2 (⟨((lget row1 v2.2).Part).From, ((lget row1 v2.2).Part).To, ((lget row1 v2.2).Part).ID⟩ : Part)) (hc (Nat.zero_le v2.2.toNat) .nil)))) (fun v3 hv => ?_)
   have hF := lt_elim hF hv
   refine NR [] [3, 11, 12, 13] [] [9, 100000, 100001] [(13, .i (w64 (v2.2 + 1)))] .nil ?_
   exact Nrnd [] hF ih1 (by kernel_rfl)
  ·refine Nexit rfl ?_
   have hF := inrO_done hF dn1
   exact metP v2.1 [] hF (by kernel_rfl)
 ·intro v1 hF
  have hF : assign_Parts_v2_J1 v1 = some r := hF
  unfold assign_Parts_v2_J1 at hF
  refine NR [] [2] [] [9, 100000, 100001] [(2, .row 9 0)] .nil ?_
  cases hF
  exact Wk_ret (hfin _ ⟨[100000, 100001, 9], [], [100000, 100001, 9], [], [], [], by kernel_rfl⟩)

/- parts.Split -/
noncomputable def parts_Split_v2 (at0 : Int) (row : List UInt8) (left : Int) (right : Int) (row1 : List Part) : Option (List Part × Fault × List Part) :=
 ob (parts_Check row1) fun x =>
 if (!decide (x.Code = 0)) = true then
  some (([] : List Part), x, row1)
 else
  if ((decide (at0 < 0)) || (decide ((row1.length : Int) ≤ at0))) = true then
   lt (parts_fault 3 (-1)) fun x1 =>
   some (([] : List Part), x1, row1)
  else
   if (decide (40 < (row.length : Int))) = true then
    lt (parts_fault 8 (-2)) fun x2 =>
    some (([] : List Part), x2, row1)
   else
    asrt (0 ≤ at0 ∧ at0 < (row1.length : Int)) <|
    asrt (0 ≤ at0 ∧ at0 < (row1.length : Int)) <|
    ob (if (!(!Op.bytesLess ((lget row1 at0).From) row)) = true then (parts_find row1 row) else some default) fun x3 =>
    if ((!Op.bytesLess ((lget row1 at0).From) row) || (!decide (x3 = at0))) = true then
     lt (parts_fault 5 (-2)) fun x4 =>
     some (([] : List Part), x4, row1)
    else
     lt (parts_number left) fun x5 =>
     lt (parts_number right) fun x6 =>
     if ((!x5) || (!x6)) = true then
      lt (parts_fault 3 (-3)) fun x7 =>
      some (([] : List Part), x7, row1)
     else
      ob (if (!(decide (left = right))) = true then (parts_others row1 at0 (w64 (at0 + 1)) left) else some default) fun x8 =>
      ob (if (!((decide (left = right)) || x8)) = true then (parts_others row1 at0 (w64 (at0 + 1)) right) else some default) fun x9 =>
      if (((decide (left = right)) || x8) || x9) = true then
       lt (parts_fault 10 (-3)) fun x10 =>
       some (([] : List Part), x10, row1)
      else
       if (decide ((row1.length : Int) = 200)) = true then
        lt (parts_fault 2 (-1)) fun x11 =>
        some (([] : List Part), x11, row1)
       else
        asrt (0 ≤ at0 ∧ at0 < (row1.length : Int)) <|
        asrt (0 ≤ at0 ∧ at0 < (row1.length : Int)) <|
        lt ([(⟨(lget row1 at0).From, row, left⟩ : Part), (⟨row, (lget row1 at0).To, right⟩ : Part)]) fun (v : List Part) =>
        asrt (0 ≤ at0 ∧ at0 ≤ (row1.length : Int)) <|
        asrt (0 ≤ w64 (at0 + 1) ∧ w64 (at0 + 1) ≤ (row1.length : Int)) <|
        ob (slices_Concat_api_Part_api_Part ([(ltake row1 at0), v, (ldrop row1 (w64 (at0 + 1)))] : List (List Part))) fun x12 =>
        some (x12, (⟨0, 0⟩ : Fault), row1)
theorem parts_Split_v2_ok (at0 : Int) (row : List UInt8) (left : Int) (right : Int) (row1 : List Part) (rk : Nat) (rc : Nat) (rn : Bool) (r : List Part × Fault × List Part) (hF : parts_Split_v2 at0 row left right row1 = some r) : Pe Try.prog 18 ⟨[], [], [(100000, ⟨34, 3, 0, rk, rc, rn, 0, [], (row1.map e_Part)⟩)], [], []⟩ [.row 100000 0, .i at0, .str row, .i left, .i right] (.tup [.row 112 0, .agg (c_Fault r.2.1)]) ⟨[], [], [(100000, ⟨34, 3, 0, (r.2.2.map e_Part).length, rc, rn, 0, [], (r.2.2.map e_Part)⟩), (112, .o 34 3 0 (r.1.map e_Part))], [], []⟩ := by
 refine PeN (N := 114) (res := [.tmp 10, .cell 11 26]) (ts := [22, 26]) Ty.ok Fn.b18 Try.func18 ?_
 intro Q g hfin
 unfold parts_Split_v2 at hF
 refine VR [] [0, 1, 2, 3, 4, 11] [11] [100000] [] [(11, .ptr 11 0)] [(11, [.i 0, .i 0])] [] [] .nil ?_
 obtain ⟨x, h0, hF⟩ := ob_elim hF
 refine VR [.callB (.agg (c_Fault x))] [0, 1, 2, 3, 4, 11, 12] [11, 12] [100000] [] [(12, .ptr 12 0)] [(12, (c_Fault x))] [] [] (hc (parts_Check_ok row1 x h0) .nil) ?_
 refine NR [] [0, 1, 2, 3, 4, 11, 12, 19] [11, 12] [100000] [(19, .bool (!decide (x.Code = 0)))] .nil ?_
 refine Nif hF (fun hb hF => ?_) (fun hb hF => ?_)
 ·refine VD [] [10, 11] [11] [100000] [] [(10, .nils)] [(11, (c_Fault x))] [] [] .nil ?_
  cases hF
  refine Wk_nilrow 10 60000 34 3 rfl rfl rfl ?_
  refine Wk_ren' ⟨[], [(60000, 112)], [], []⟩ rfl ?_
  exact Wk_ret (hfin _ ⟨[100000, 112], [], [100000, 112], [], [], [(100000, ⟨0, true, true, true⟩), (112, ⟨0, true, false, false⟩)], by kernel_rfl⟩)
 ·refine Nblk ?_
  refine NR [.nat (row1.length : Int)] [0, 1, 2, 3, 4, 11, 21] [11] [100000] [(21, .bool ((decide (at0 < 0)) || (decide ((row1.length : Int) ≤ at0))))] (hc (fun (_ : (!(decide (at0 < 0))) = true) => (len_ok e_Part row1)) .nil) ?_
  refine Nif hF (fun hb hF => ?_) (fun hb hF => ?_)
  ·obtain ⟨x1, h1, hF⟩ := lt_split hF
   refine VR [.callB (.agg (c_Fault x1))] [10, 11] [11] [100000] [] [(10, .nils)] [(11, (c_Fault x1))] [] [] (hc (parts_fault_ok 3 (-1) x1 h1) .nil) ?_
   cases hF
   refine Wk_nilrow 10 60001 34 3 rfl rfl rfl ?_
   refine Wk_ren' ⟨[], [(60001, 112)], [], []⟩ rfl ?_
   exact Wk_ret (hfin _ ⟨[100000, 112], [], [100000, 112], [], [], [(100000, ⟨0, true, true, true⟩), (112, ⟨0, true, false, false⟩)], by kernel_rfl⟩)
  ·refine NR [] [0, 1, 2, 3, 4, 11, 31] [11] [100000] [(31, .bool (decide (40 < (row.length : Int))))] .nil ?_
   refine Nif hF (fun hb hF => ?_) (fun hb hF => ?_)
   ·obtain ⟨x2, h2, hF⟩ := lt_split hF
    refine VR [.callB (.agg (c_Fault x2))] [10, 11] [11] [100000] [] [(10, .nils)] [(11, (c_Fault x2))] [] [] (hc (parts_fault_ok 8 (-2) x2 h2) .nil) ?_
    cases hF
    refine Wk_nilrow 10 60002 34 3 rfl rfl rfl ?_
    refine Wk_ren' ⟨[], [(60002, 112)], [], []⟩ rfl ?_
    exact Wk_ret (hfin _ ⟨[100000, 112], [], [100000, 112], [], [], [(100000, ⟨0, true, true, true⟩), (112, ⟨0, true, false, false⟩)], by kernel_rfl⟩)
   ·obtain ⟨h3, hF⟩ := asrt_elim hF
    obtain ⟨h4, hF⟩ := asrt_elim hF
    obtain ⟨x3, h5, hF⟩ := ob_elim hF
    refine NR [.av (e_Part (lget row1 at0)), .callB (.i x3)] [0, 1, 2, 3, 4, 11, 36] [11] [100000] [(36, .bool ((!Op.bytesLess ((lget row1 at0).From) row) || (!decide (x3 = at0))))] (hc (ixr_ok e_Part h3) (hc (ldr_ok e_Part h4) (hc (fun (ga0 : (!(!Op.bytesLess ((lget row1 at0).From) row)) = true) => (parts_find_ok row1 row x3 (ite_t h5 ga0))) .nil))) ?_
    refine Nif hF (fun hb hF => ?_) (fun hb hF => ?_)
    ·obtain ⟨x4, h6, hF⟩ := lt_split hF
     refine VR [.callB (.agg (c_Fault x4))] [10, 11] [11] [100000] [] [(10, .nils)] [(11, (c_Fault x4))] [] [] (hc (parts_fault_ok 5 (-2) x4 h6) .nil) ?_
     cases hF
     refine Wk_nilrow 10 60003 34 3 rfl rfl rfl ?_
     refine Wk_ren' ⟨[], [(60003, 112)], [], []⟩ rfl ?_
     exact Wk_ret (hfin _ ⟨[100000, 112], [], [100000, 112], [], [], [(100000, ⟨0, true, true, true⟩), (112, ⟨0, true, false, false⟩)], by kernel_rfl⟩)
    ·obtain ⟨x5, h7, hF⟩ := lt_split hF
     obtain ⟨x6, h8, hF⟩ := lt_split hF
     refine NR [.callB (.bool x5), .callB (.bool x6)] [0, 1, 2, 3, 4, 11, 52] [11] [100000] [(52, .bool ((!x5) || (!x6)))] (hc (parts_number_ok left x5 h7) (hc (fun (ga0 : (!(!x5)) = true) => (parts_number_ok right x6 h8)) .nil)) ?_
     refine Nif hF (fun hb hF => ?_) (fun hb hF => ?_)
     ·obtain ⟨x7, h9, hF⟩ := lt_split hF
      refine VR [.callB (.agg (c_Fault x7))] [10, 11] [11] [100000] [] [(10, .nils)] [(11, (c_Fault x7))] [] [] (hc (parts_fault_ok 3 (-3) x7 h9) .nil) ?_
      cases hF
      refine Wk_nilrow 10 60004 34 3 rfl rfl rfl ?_
      refine Wk_ren' ⟨[], [(60004, 112)], [], []⟩ rfl ?_
      exact Wk_ret (hfin _ ⟨[100000, 112], [], [100000, 112], [], [], [(100000, ⟨0, true, true, true⟩), (112, ⟨0, true, false, false⟩)], by kernel_rfl⟩)
     ·obtain ⟨x8, h10, hF⟩ := ob_elim hF
      obtain ⟨x9, h11, hF⟩ := ob_elim hF
      refine NR [.callB (.bool x8), .callB (.bool x9)] [0, 1, 2, 3, 4, 11, 62] [11] [100000] [(62, .bool (((decide (left = right)) || x8) || x9))] (hc (fun (ga0 : (!(decide (left = right))) = true) => (parts_others_ok row1 at0 (w64 (at0 + 1)) left x8 (ite_t h10 ga0))) (hc (fun (ga0 : (!((decide (left = right)) || x8)) = true) => (parts_others_ok row1 at0 (w64 (at0 + 1)) right x9 (ite_t h11 ga0))) .nil)) ?_
      refine Nif hF (fun hb hF => ?_) (fun hb hF => ?_)
      ·obtain ⟨x10, h12, hF⟩ := lt_split hF
       refine VR [.callB (.agg (c_Fault x10))] [10, 11] [11] [100000] [] [(10, .nils)] [(11, (c_Fault x10))] [] [] (hc (parts_fault_ok 10 (-3) x10 h12) .nil) ?_
       cases hF
       refine Wk_nilrow 10 60005 34 3 rfl rfl rfl ?_
       refine Wk_ren' ⟨[], [(60005, 112)], [], []⟩ rfl ?_
       exact Wk_ret (hfin _ ⟨[100000, 112], [], [100000, 112], [], [], [(100000, ⟨0, true, true, true⟩), (112, ⟨0, true, false, false⟩)], by kernel_rfl⟩)
      ·refine NR [.nat (row1.length : Int)] [0, 1, 2, 3, 4, 11, 83] [11] [100000] [(83, .bool (decide ((row1.length : Int) = 200)))] (hc (len_ok e_Part row1) .nil) ?_
       refine Nif hF (fun hb hF => ?_) (fun hb hF => ?_)
       ·obtain ⟨x11, h13, hF⟩ := lt_split hF
        refine VR [.callB (.agg (c_Fault x11))] [10, 11] [11] [100000] [] [(10, .nils)] [(11, (c_Fault x11))] [] [] (hc (parts_fault_ok 2 (-1) x11 h13) .nil) ?_
        cases hF
        refine Wk_nilrow 10 60006 34 3 rfl rfl rfl ?_
        refine Wk_ren' ⟨[], [(60006, 112)], [], []⟩ rfl ?_
        exact Wk_ret (hfin _ ⟨[100000, 112], [], [100000, 112], [], [], [(100000, ⟨0, true, true, true⟩), (112, ⟨0, true, false, false⟩)], by kernel_rfl⟩)
       ·obtain ⟨h14, hF⟩ := asrt_elim hF
        obtain ⟨h15, hF⟩ := asrt_elim hF
        refine VR [.av (e_Part (lget row1 at0))] [0, 1, 2, 3, 4, 11, 13] [11, 13] [100000] [] [(13, .ptr 13 0)] [(13, (c_Part (lget row1 at0)))] [] [] (hc (ixr_ok e_Part h14) (hc (ldr_ok e_Part h15) .nil)) ?_
        refine NRL ([(⟨(lget row1 at0).From, row, left⟩ : Part), (⟨row, (lget row1 at0).To, right⟩ : Part)]) (fun v : List Part => ([(14, .sl 3 (v.map e_Part))], [], [], [])) [.sealed] [0, 1, 11, 14] [11] [100000] [] .nil (fun v hv => ?_)
        have hF := lt_elim hF hv
        refine Wk_sealX [] 0 rfl rfl ?_
        obtain ⟨h16, h17, hF⟩ := asrt2 hF
        obtain ⟨x12, h18, hF⟩ := ob_elim hF
        refine VD [.xs ((ltake row1 at0).map e_Part), .xs ((ldrop row1 (w64 (at0 + 1))).map e_Part), .sealed, .callE [] [] [] [] (.row 112 0) ⟨[], [], [(112, .o 34 3 0 (x12.map e_Part))], [], []⟩] [10, 11] [11] [112, 100000] [] [(10, .row 112 0)] [] [(112, .o 34 3 0 (x12.map e_Part))] [] (hc (sl01_ok e_Part h16) (hc (sl10_ok e_Part h17) (hc (Pe.ren (slices_Concat_api_Part_api_Part_ok ([(ltake row1 at0), v, (ldrop row1 (w64 (at0 + 1)))] : List (List Part)) x12 h18) ⟨[], [(24, 112)], [], []⟩) .nil))) ?_
        cases hF
        exact Wk_ret (hfin _ ⟨[100000, 112], [], [100000, 112], [], [], [], by kernel_rfl⟩)

/- assign.does -/
noncomputable def assign_does_J1 (v : List Host × List Slot × Int × Int) : Option (Fault × List Host × List Slot × Int × Int) :=
 if ((decide (1000000000 < v.2.2.1)) || (decide (1000000000 < v.2.2.2))) = true then
  lt (assign_fault 9 0) fun x1 =>
  some (x1, v.1, v.2.1, v.2.2.1, v.2.2.2)
 else
  some ((⟨0, 0⟩ : Fault), v.1, v.2.1, v.2.2.1, v.2.2.2)
noncomputable def assign_does (at0 : Int) (o : Order) (box : Int) (box1 : Int) (row : List Host) (row1 : List Slot) : Option (Fault × List Host × List Slot × Int × Int) :=
 asrt (0 ≤ at0 ∧ at0 < (row1.length : Int)) <|
 lt (assign_fault 11 (-1)) fun x =>
 if (decide (o.Kind = 3)) = true then
  ob (assign_HostAt_v1 box box1 o.Host row row1) fun x2 =>
  if (decide (x2.1 < 0)) = true then
   lt (assign_fault 6 (-2)) fun x3 =>
   some (x3, x2.2, row1, box, box1)
  else
   asrt (0 ≤ at0 ∧ at0 < (row1.length : Int)) <|
   if (!decide (((lget row1 at0).State) = 0)) = true then
    some (x, x2.2, row1, box, box1)
   else
    asrt (0 ≤ at0 ∧ at0 < (row1.length : Int)) <|
    asrt (0 ≤ at0 ∧ at0 < ((lset row1 at0 (⟨(⟨((lget row1 at0).Part).From, ((lget row1 at0).Part).To, ((lget row1 at0).Part).ID⟩ : Part), 1, (lget row1 at0).Host, (lget row1 at0).Turn⟩ : Slot)).length : Int)) <|
    asrt (0 ≤ at0 ∧ at0 < ((lset (lset row1 at0 (⟨(⟨((lget row1 at0).Part).From, ((lget row1 at0).Part).To, ((lget row1 at0).Part).ID⟩ : Part), 1, (lget row1 at0).Host, (lget row1 at0).Turn⟩ : Slot)) at0 (⟨(⟨((lget (lset row1 at0 (⟨(⟨((lget row1 at0).Part).From, ((lget row1 at0).Part).To, ((lget row1 at0).Part).ID⟩ : Part), 1, (lget row1 at0).Host, (lget row1 at0).Turn⟩ : Slot)) at0).Part).From, ((lget (lset row1 at0 (⟨(⟨((lget row1 at0).Part).From, ((lget row1 at0).Part).To, ((lget row1 at0).Part).ID⟩ : Part), 1, (lget row1 at0).Host, (lget row1 at0).Turn⟩ : Slot)) at0).Part).To, ((lget (lset row1 at0 (⟨(⟨((lget row1 at0).Part).From, ((lget row1 at0).Part).To, ((lget row1 at0).Part).ID⟩ : Part), 1, (lget row1 at0).Host, (lget row1 at0).Turn⟩ : Slot)) at0).Part).ID⟩ : Part), (lget (lset row1 at0 (⟨(⟨((lget row1 at0).Part).From, ((lget row1 at0).Part).To, ((lget row1 at0).Part).ID⟩ : Part), 1, (lget row1 at0).Host, (lget row1 at0).Turn⟩ : Slot)) at0).State, o.Host, (lget (lset row1 at0 (⟨(⟨((lget row1 at0).Part).From, ((lget row1 at0).Part).To, ((lget row1 at0).Part).ID⟩ : Part), 1, (lget row1 at0).Host, (lget row1 at0).Turn⟩ : Slot)) at0).Turn⟩ : Slot)).length : Int)) <|
    lt ((lset (lset (lset row1 at0 (⟨(⟨((lget row1 at0).Part).From, ((lget row1 at0).Part).To, ((lget row1 at0).Part).ID⟩ : Part), 1, (lget row1 at0).Host, (lget row1 at0).Turn⟩ : Slot)) at0 (⟨(⟨((lget (lset row1 at0 (⟨(⟨((lget row1 at0).Part).From, ((lget row1 at0).Part).To, ((lget row1 at0).Part).ID⟩ : Part), 1, (lget row1 at0).Host, (lget row1 at0).Turn⟩ : Slot)) at0).Part).From, ((lget (lset row1 at0 (⟨(⟨((lget row1 at0).Part).From, ((lget row1 at0).Part).To, ((lget row1 at0).Part).ID⟩ : Part), 1, (lget row1 at0).Host, (lget row1 at0).Turn⟩ : Slot)) at0).Part).To, ((lget (lset row1 at0 (⟨(⟨((lget row1 at0).Part).From, ((lget row1 at0).Part).To, ((lget row1 at0).Part).ID⟩ : Part), 1, (lget row1 at0).Host, (lget row1 at0).Turn⟩ : Slot)) at0).Part).ID⟩ : Part), (lget (lset row1 at0 (⟨(⟨((lget row1 at0).Part).From, ((lget row1 at0).Part).To, ((lget row1 at0).Part).ID⟩ : Part), 1, (lget row1 at0).Host, (lget row1 at0).Turn⟩ : Slot)) at0).State, o.Host, (lget (lset row1 at0 (⟨(⟨((lget row1 at0).Part).From, ((lget row1 at0).Part).To, ((lget row1 at0).Part).ID⟩ : Part), 1, (lget row1 at0).Host, (lget row1 at0).Turn⟩ : Slot)) at0).Turn⟩ : Slot)) at0 (⟨(⟨((lget (lset (lset row1 at0 (⟨(⟨((lget row1 at0).Part).From, ((lget row1 at0).Part).To, ((lget row1 at0).Part).ID⟩ : Part), 1, (lget row1 at0).Host, (lget row1 at0).Turn⟩ : Slot)) at0 (⟨(⟨((lget (lset row1 at0 (⟨(⟨((lget row1 at0).Part).From, ((lget row1 at0).Part).To, ((lget row1 at0).Part).ID⟩ : Part), 1, (lget row1 at0).Host, (lget row1 at0).Turn⟩ : Slot)) at0).Part).From, ((lget (lset row1 at0 (⟨(⟨((lget row1 at0).Part).From, ((lget row1 at0).Part).To, ((lget row1 at0).Part).ID⟩ : Part), 1, (lget row1 at0).Host, (lget row1 at0).Turn⟩ : Slot)) at0).Part).To, ((lget (lset row1 at0 (⟨(⟨((lget row1 at0).Part).From, ((lget row1 at0).Part).To, ((lget row1 at0).Part).ID⟩ : Part), 1, (lget row1 at0).Host, (lget row1 at0).Turn⟩ : Slot)) at0).Part).ID⟩ : Part), (lget (lset row1 at0 (⟨(⟨((lget row1 at0).Part).From, ((lget row1 at0).Part).To, ((lget row1 at0).Part).ID⟩ : Part), 1, (lget row1 at0).Host, (lget row1 at0).Turn⟩ : Slot)) at0).State, o.Host, (lget (lset row1 at0 (⟨(⟨((lget row1 at0).Part).From, ((lget row1 at0).Part).To, ((lget row1 at0).Part).ID⟩ : Part), 1, (lget row1 at0).Host, (lget row1 at0).Turn⟩ : Slot)) at0).Turn⟩ : Slot)) at0).Part).From, ((lget (lset (lset row1 at0 (⟨(⟨((lget row1 at0).Part).From, ((lget row1 at0).Part).To, ((lget row1 at0).Part).ID⟩ : Part), 1, (lget row1 at0).Host, (lget row1 at0).Turn⟩ : Slot)) at0 (⟨(⟨((lget (lset row1 at0 (⟨(⟨((lget row1 at0).Part).From, ((lget row1 at0).Part).To, ((lget row1 at0).Part).ID⟩ : Part), 1, (lget row1 at0).Host, (lget row1 at0).Turn⟩ : Slot)) at0).Part).From, ((lget (lset row1 at0 (⟨(⟨((lget row1 at0).Part).From, ((lget row1 at0).Part).To, ((lget row1 at0).Part).ID⟩ : Part), 1, (lget row1 at0).Host, (lget row1 at0).Turn⟩ : Slot)) at0).Part).To, ((lget (lset row1 at0 (⟨(⟨((lget row1 at0).Part).From, ((lget row1 at0).Part).To, ((lget row1 at0).Part).ID⟩ : Part), 1, (lget row1 at0).Host, (lget row1 at0).Turn⟩ : Slot)) at0).Part).ID⟩ : Part), (lget (lset row1 at0 (⟨(⟨((lget row1 at0).Part).From, ((lget row1 at0).Part).To, ((lget row1 at0).Part).ID⟩ : Part), 1, (lget row1 at0).Host, (lget row1 at0).Turn⟩ : Slot)) at0).State, o.Host, (lget (lset row1 at0 (⟨(⟨((lget row1 at0).Part).From, ((lget row1 at0).Part).To, ((lget row1 at0).Part).ID⟩ : Part), 1, (lget row1 at0).Host, (lget row1 at0).Turn⟩ : Slot)) at0).Turn⟩ : Slot)) at0).Part).To, ((lget (lset (lset row1 at0 (⟨(⟨((lget row1 at0).Part).From, ((lget row1 at0).Part).To, ((lget row1 at0).Part).ID⟩ : Part), 1, (lget row1 at0).Host, (lget row1 at0).Turn⟩ : Slot)) at0 (⟨(⟨((lget (lset row1 at0 (⟨(⟨((lget row1 at0).Part).From, ((lget row1 at0).Part).To, ((lget row1 at0).Part).ID⟩ : Part), 1, (lget row1 at0).Host, (lget row1 at0).Turn⟩ : Slot)) at0).Part).From, ((lget (lset row1 at0 (⟨(⟨((lget row1 at0).Part).From, ((lget row1 at0).Part).To, ((lget row1 at0).Part).ID⟩ : Part), 1, (lget row1 at0).Host, (lget row1 at0).Turn⟩ : Slot)) at0).Part).To, ((lget (lset row1 at0 (⟨(⟨((lget row1 at0).Part).From, ((lget row1 at0).Part).To, ((lget row1 at0).Part).ID⟩ : Part), 1, (lget row1 at0).Host, (lget row1 at0).Turn⟩ : Slot)) at0).Part).ID⟩ : Part), (lget (lset row1 at0 (⟨(⟨((lget row1 at0).Part).From, ((lget row1 at0).Part).To, ((lget row1 at0).Part).ID⟩ : Part), 1, (lget row1 at0).Host, (lget row1 at0).Turn⟩ : Slot)) at0).State, o.Host, (lget (lset row1 at0 (⟨(⟨((lget row1 at0).Part).From, ((lget row1 at0).Part).To, ((lget row1 at0).Part).ID⟩ : Part), 1, (lget row1 at0).Host, (lget row1 at0).Turn⟩ : Slot)) at0).Turn⟩ : Slot)) at0).Part).ID⟩ : Part), (lget (lset (lset row1 at0 (⟨(⟨((lget row1 at0).Part).From, ((lget row1 at0).Part).To, ((lget row1 at0).Part).ID⟩ : Part), 1, (lget row1 at0).Host, (lget row1 at0).Turn⟩ : Slot)) at0 (⟨(⟨((lget (lset row1 at0 (⟨(⟨((lget row1 at0).Part).From, ((lget row1 at0).Part).To, ((lget row1 at0).Part).ID⟩ : Part), 1, (lget row1 at0).Host, (lget row1 at0).Turn⟩ : Slot)) at0).Part).From, ((lget (lset row1 at0 (⟨(⟨((lget row1 at0).Part).From, ((lget row1 at0).Part).To, ((lget row1 at0).Part).ID⟩ : Part), 1, (lget row1 at0).Host, (lget row1 at0).Turn⟩ : Slot)) at0).Part).To, ((lget (lset row1 at0 (⟨(⟨((lget row1 at0).Part).From, ((lget row1 at0).Part).To, ((lget row1 at0).Part).ID⟩ : Part), 1, (lget row1 at0).Host, (lget row1 at0).Turn⟩ : Slot)) at0).Part).ID⟩ : Part), (lget (lset row1 at0 (⟨(⟨((lget row1 at0).Part).From, ((lget row1 at0).Part).To, ((lget row1 at0).Part).ID⟩ : Part), 1, (lget row1 at0).Host, (lget row1 at0).Turn⟩ : Slot)) at0).State, o.Host, (lget (lset row1 at0 (⟨(⟨((lget row1 at0).Part).From, ((lget row1 at0).Part).To, ((lget row1 at0).Part).ID⟩ : Part), 1, (lget row1 at0).Host, (lget row1 at0).Turn⟩ : Slot)) at0).Turn⟩ : Slot)) at0).State, (lget (lset (lset row1 at0 (⟨(⟨((lget row1 at0).Part).From, ((lget row1 at0).Part).To, ((lget row1 at0).Part).ID⟩ : Part), 1, (lget row1 at0).Host, (lget row1 at0).Turn⟩ : Slot)) at0 (⟨(⟨((lget (lset row1 at0 (⟨(⟨((lget row1 at0).Part).From, ((lget row1 at0).Part).To, ((lget row1 at0).Part).ID⟩ : Part), 1, (lget row1 at0).Host, (lget row1 at0).Turn⟩ : Slot)) at0).Part).From, ((lget (lset row1 at0 (⟨(⟨((lget row1 at0).Part).From, ((lget row1 at0).Part).To, ((lget row1 at0).Part).ID⟩ : Part), 1, (lget row1 at0).Host, (lget row1 at0).Turn⟩ : Slot)) at0).Part).To, ((lget (lset row1 at0 (⟨(⟨((lget row1 at0).Part).From, ((lget row1 at0).Part).To, ((lget row1 at0).Part).ID⟩ : Part), 1, (lget row1 at0).Host, (lget row1 at0).Turn⟩ : Slot)) at0).Part).ID⟩ : Part), (lget (lset row1 at0 (⟨(⟨((lget row1 at0).Part).From, ((lget row1 at0).Part).To, ((lget row1 at0).Part).ID⟩ : Part), 1, (lget row1 at0).Host, (lget row1 at0).Turn⟩ : Slot)) at0).State, o.Host, (lget (lset row1 at0 (⟨(⟨((lget row1 at0).Part).From, ((lget row1 at0).Part).To, ((lget row1 at0).Part).ID⟩ : Part), 1, (lget row1 at0).Host, (lget row1 at0).Turn⟩ : Slot)) at0).Turn⟩ : Slot)) at0).Host, w64 (box + 1)⟩ : Slot))) fun (v1 : List Slot) =>
    assign_does_J1 (x2.2, v1, w64 (box + 1), box1)
 else
  if (decide (o.Kind = 4)) = true then
   ob (assign_given at0 o 1 row1) fun x4 =>
   asrt (0 ≤ at0 ∧ at0 < (row1.length : Int)) <|
   lt ((lset row1 at0 (⟨(⟨((lget row1 at0).Part).From, ((lget row1 at0).Part).To, ((lget row1 at0).Part).ID⟩ : Part), 2, (lget row1 at0).Host, (lget row1 at0).Turn⟩ : Slot))) fun (v2 : List Slot) =>
   some (x4, row, v2, box, box1)
  else
   if (decide (o.Kind = 5)) = true then
    asrt (0 ≤ at0 ∧ at0 < (row1.length : Int)) <|
    if (!decide (((lget row1 at0).State) = 2)) = true then
     some (x, row, row1, box, box1)
    else
     asrt (0 ≤ at0 ∧ at0 < (row1.length : Int)) <|
     lt ((lset row1 at0 (⟨(⟨((lget row1 at0).Part).From, ((lget row1 at0).Part).To, ((lget row1 at0).Part).ID⟩ : Part), 3, (lget row1 at0).Host, (lget row1 at0).Turn⟩ : Slot))) fun (v3 : List Slot) =>
     assign_does_J1 (row, v3, box, box1)
   else
    if (decide (o.Kind = 6)) = true then
     ob (assign_given at0 o 3 row1) fun x5 =>
     ob (assign_off at0 row1) fun x6 =>
     some (x5, row, x6, box, box1)
    else
     if (decide (o.Kind = 7)) = true then
      asrt (0 ≤ at0 ∧ at0 < (row1.length : Int)) <|
      if (!decide (((lget row1 at0).State) = 0)) = true then
       some (x, row, row1, box, box1)
      else
       if (decide (999999998 < box1)) = true then
        ob (assign_much at0 o box box1 row row1) fun x7 =>
        some (x7.1, x7.2.1, x7.2.2, box, box1)
       else
        ob (assign_Parts_v2 box box1 row row1) fun x8 =>
        ob (parts_Split_v2 at0 o.Row box1 (w64 (box1 + 1)) x8) fun x9 =>
        if (!decide (x9.2.1.Code = 0)) = true then
         some (x9.2.1, row, row1, box, box1)
        else
         asrt (0 ≤ at0 ∧ at0 < (x9.1.length : Int)) <|
         asrt (0 ≤ at0 ∧ at0 < (x9.1.length : Int)) <|
         asrt (0 ≤ w64 (at0 + 1) ∧ w64 (at0 + 1) < (x9.1.length : Int)) <|
         asrt (0 ≤ w64 (at0 + 1) ∧ w64 (at0 + 1) < (x9.1.length : Int)) <|
         ob (slices_Replace_api_Slot_api_Slot at0 (w64 (at0 + 1)) [(⟨(⟨(lget x9.1 at0).From, (lget x9.1 at0).To, (lget x9.1 at0).ID⟩ : Part), 0, 0, 0⟩ : Slot), (⟨(⟨(lget x9.1 (w64 (at0 + 1))).From, (lget x9.1 (w64 (at0 + 1))).To, (lget x9.1 (w64 (at0 + 1))).ID⟩ : Part), 0, 0, 0⟩ : Slot)] row1) fun x10 =>
         assign_does_J1 (row, x10, box, w64 (box1 + 2))
     else
      if (decide (o.Kind = 8)) = true then
       if (decide ((w64 (at0 + 1)) = (row1.length : Int))) = true then
        lt (assign_fault 6 (-1)) fun x11 =>
        some (x11, row, row1, box, box1)
       else
        asrt (0 ≤ at0 ∧ at0 < (row1.length : Int)) <|
        asrt ((!(!decide (((lget row1 at0).State) = 0))) = true → 0 ≤ w64 (at0 + 1) ∧ w64 (at0 + 1) < (row1.length : Int)) <|
        asrt ((!(!decide (((lget row1 at0).State) = 0))) = true → 0 ≤ w64 (at0 + 1) ∧ w64 (at0 + 1) < (row1.length : Int)) <|
        if ((!decide (((lget row1 at0).State) = 0)) || (!decide (((lget row1 (w64 (at0 + 1))).State) = 0))) = true then
         some (x, row, row1, box, box1)
        else
         asrt (0 ≤ at0 ∧ at0 < (row1.length : Int)) <|
         asrt (0 ≤ w64 (at0 + 1) ∧ w64 (at0 + 1) < (row1.length : Int)) <|
         asrt (0 ≤ w64 (at0 + 1) ∧ w64 (at0 + 1) < (row1.length : Int)) <|
         ob (slices_Replace_api_Slot_api_Slot at0 (w64 (at0 + 2)) [(⟨(⟨((lget row1 at0).Part).From, ((lget row1 (w64 (at0 + 1))).Part).To, box1⟩ : Part), 0, 0, 0⟩ : Slot)] row1) fun x12 =>
         assign_does_J1 (row, x12, box, w64 (box1 + 1))
      else
       assign_does_J1 (row, row1, box, box1)
theorem assign_does_ok (at0 : Int) (o : Order) (box : Int) (box1 : Int) (row : List Host) (row1 : List Slot) (rk : Nat) (rc : Nat) (rn : Bool) (rk1 : Nat) (rc1 : Nat) (rn1 : Bool) (r : Fault × List Host × List Slot × Int × Int) (hF : assign_does at0 o box box1 row row1 = some r) : Pe Try.prog 96 ⟨[], [(100000, [.row 100000 0, .row 100001 0, .i box, .i box1])], [(100000, ⟨108, 3, 0, rk, rc, rn, 0, [], (row.map e_Host)⟩), (100001, ⟨64, 6, 0, 0, rc1, rn1, 0, [], (row1.map e_Slot)⟩)], [], []⟩ [.ptr 100000 0, .i at0, .agg (c_Order o)] (.agg (c_Fault r.1)) ⟨[], [(100000, [.row 100000 0, .row 100001 1, .i r.2.2.2.1, .i r.2.2.2.2])], [(100000, ⟨108, 3, 0, (r.2.1.map e_Host).length, rc, rn, 0, [], (r.2.1.map e_Host)⟩), (100001, ⟨64, 6, 1, (r.2.2.1.map e_Slot).length, 0, false, 0, [], (r.2.2.1.map e_Slot)⟩)], [], []⟩ := by
 refine PeN (N := 246) (res := [.cell 6 26]) (ts := [26]) Ty.ok Fn.b96 Try.func96 ?_
 intro Q g hfin
 unfold assign_does at hF
 refine VR [] [0, 1, 5, 6] [5, 6, 100000] [100000, 100001] [] [(5, .ptr 5 0), (6, .ptr 6 0)] [(5, (c_Order o)), (6, [.i 0, .i 0])] [] [] .nil ?_
 obtain ⟨h0, hF⟩ := asrt_elim hF
 refine NR [] [0, 1, 5, 6, 7] [5, 6, 100000] [100000, 100001] [(7, .ep 100001 0 at0.toNat 0)] (hc (ixr_ok e_Slot h0) .nil) ?_
 obtain ⟨x, h1, hF⟩ := lt_split hF
 refine VR [.callB (.agg (c_Fault x))] [0, 1, 5, 6, 7, 8] [5, 6, 8, 100000] [100000, 100001] [] [(8, .ptr 8 0)] [(8, (c_Fault x))] [] [] (hc (assign_fault_ok 11 (-1) x h1) .nil) ?_
 refine NR [] [0, 1, 5, 6, 7, 8, 22] [5, 6, 8, 100000] [100000, 100001] [(22, .i o.Kind)] .nil ?_
 refine Nblk ?_
 refine NR [] [0, 1, 5, 6, 7, 8, 22, 23] [5, 6, 8, 100000] [100000, 100001] [(23, .bool (decide (o.Kind = 3)))] .nil ?_
 refine NmeetP (fun v : List Host × List Slot × Int × Int => (⟨[(0, .ptr 100000 0), (6, .ptr 6 0)], [(6, [.i 0, .i 0]), (100000, [.row 100000 0, .row 100001 1, .i v.2.2.1, .i v.2.2.2])], [(100000, ⟨108, 3, 0, (v.1.map e_Host).length, rc, rn, 0, [], (v.1.map e_Host)⟩), (100001, .o 64 6 1 (v.2.1.map e_Slot))], [], []⟩ : S)) (fun v => assign_does_J1 v = some r) ?_ ?_
 ·refine Nif hF (fun hb hF => ?_) (fun hb hF => ?_)
  ·refine Nblk ?_
   obtain ⟨x2, h3, hF⟩ := ob_elim hF
   refine VD [.callE [] [100000, 100001] [] [] (.i x2.1) ⟨[], [], [(100000, ⟨108, 3, 0, (x2.2.map e_Host).length, rc, rn, 0, [], (x2.2.map e_Host)⟩), (100001, ⟨64, 6, 0, 0, rc1, rn1, 0, [], (row1.map e_Slot)⟩)], [], []⟩] [0, 5, 6, 7, 8, 25] [5, 6, 8, 100000] [100000, 100001] [] [(25, .bool (decide (x2.1 < 0)))] [] [(100000, ⟨108, 3, 0, (x2.2.map e_Host).length, rc, rn, 0, [], (x2.2.map e_Host)⟩)] [] (hc (Pe.ren (assign_HostAt_v1_ok box box1 o.Host row row1 rk rc rn 0 rc1 rn1 x2 h3) ⟨[], [], [], []⟩) .nil) ?_
   refine Nif hF (fun hb hF => ?_) (fun hb hF => ?_)
   ·obtain ⟨x3, h4, hF⟩ := lt_split hF
    refine VR [.callB (.agg (c_Fault x3))] [6] [6, 100000] [100000, 100001] [] [] [(6, (c_Fault x3))] [] [] (hc (assign_fault_ok 6 (-2) x3 h4) .nil) ?_
    cases hF
    exact Wk_ret (hfin _ ⟨[100000, 100001], [100000], [100000, 100001], [], [], [(100001, ⟨1, false, false, true⟩)], by kernel_rfl⟩)
   ·obtain ⟨h5, hF⟩ := asrt_elim hF
    refine NR [.av (e_Slot (lget row1 at0))] [0, 5, 6, 7, 8, 34] [5, 6, 8, 100000] [100000, 100001] [(34, .bool (!decide (((lget row1 at0).State) = 0)))] (hc (ldr_ok e_Slot h5) .nil) ?_
    refine Nif hF (fun hb hF => ?_) (fun hb hF => ?_)
    ·refine VR [] [6] [6, 100000] [100000, 100001] [] [] [(6, (c_Fault x))] [] [] .nil ?_
     cases hF
     exact Wk_ret (hfin _ ⟨[100000, 100001], [100000], [100000, 100001], [], [], [(100001, ⟨1, false, false, true⟩)], by kernel_rfl⟩)
    ·refine VR [] [0, 5, 6, 7] [5, 6, 100000] [100000, 100001] [] [] [(100000, [.row 100000 0, .row 100001 0, .i (w64 (box + 1)), .i box1])] [] [] .nil ?_
     obtain ⟨h6, h7, hF⟩ := asrt2 hF
     obtain ⟨h8, hF⟩ := asrt_elim hF
     refine NDL ((lset (lset (lset row1 at0 (⟨(⟨((lget row1 at0).Part).From, ((lget row1 at0).Part).To, ((lget row1 at0).Part).ID⟩ : Part), 1, (lget row1 at0).Host, (lget row1 at0).Turn⟩ : Slot)) at0 (⟨(⟨((lget (lset row1 at0 (⟨(⟨((lget row1 at0).Part).From, ((lget row1 at0).Part).To, ((lget row1 at0).Part).ID⟩ : Part), 1, (lget row1 at0).Host, (lget row1 at0).Turn⟩ : Slot)) at0).Part).From, ((lget (lset row1 at0 (⟨(⟨((lget row1 at0).Part).From, ((lget row1 at0).Part).To, ((lget row1 at0).Part).ID⟩ : Part), 1, (lget row1 at0).Host, (lget row1 at0).Turn⟩ : Slot)) at0).Part).To, ((lget (lset row1 at0 (⟨(⟨((lget row1 at0).Part).From, ((lget row1 at0).Part).To, ((lget row1 at0).Part).ID⟩ : Part), 1, (lget row1 at0).Host, (lget row1 at0).Turn⟩ : Slot)) at0).Part).ID⟩ : Part), (lget (lset row1 at0 (⟨(⟨((lget row1 at0).Part).From, ((lget row1 at0).Part).To, ((lget row1 at0).Part).ID⟩ : Part), 1, (lget row1 at0).Host, (lget row1 at0).Turn⟩ : Slot)) at0).State, o.Host, (lget (lset row1 at0 (⟨(⟨((lget row1 at0).Part).From, ((lget row1 at0).Part).To, ((lget row1 at0).Part).ID⟩ : Part), 1, (lget row1 at0).Host, (lget row1 at0).Turn⟩ : Slot)) at0).Turn⟩ : Slot)) at0 (⟨(⟨((lget (lset (lset row1 at0 (⟨(⟨((lget row1 at0).Part).From, ((lget row1 at0).Part).To, ((lget row1 at0).Part).ID⟩ : Part), 1, (lget row1 at0).Host, (lget row1 at0).Turn⟩ : Slot)) at0 (⟨(⟨((lget (lset row1 at0 (⟨(⟨((lget row1 at0).Part).From, ((lget row1 at0).Part).To, ((lget row1 at0).Part).ID⟩ : Part), 1, (lget row1 at0).Host, (lget row1 at0).Turn⟩ : Slot)) at0).Part).From, ((lget (lset row1 at0 (⟨(⟨((lget row1 at0).Part).From, ((lget row1 at0).Part).To, ((lget row1 at0).Part).ID⟩ : Part), 1, (lget row1 at0).Host, (lget row1 at0).Turn⟩ : Slot)) at0).Part).To, ((lget (lset row1 at0 (⟨(⟨((lget row1 at0).Part).From, ((lget row1 at0).Part).To, ((lget row1 at0).Part).ID⟩ : Part), 1, (lget row1 at0).Host, (lget row1 at0).Turn⟩ : Slot)) at0).Part).ID⟩ : Part), (lget (lset row1 at0 (⟨(⟨((lget row1 at0).Part).From, ((lget row1 at0).Part).To, ((lget row1 at0).Part).ID⟩ : Part), 1, (lget row1 at0).Host, (lget row1 at0).Turn⟩ : Slot)) at0).State, o.Host, (lget (lset row1 at0 (⟨(⟨((lget row1 at0).Part).From, ((lget row1 at0).Part).To, ((lget row1 at0).Part).ID⟩ : Part), 1, (lget row1 at0).Host, (lget row1 at0).Turn⟩ : Slot)) at0).Turn⟩ : Slot)) at0).Part).From, ((lget (lset (lset row1 at0 (⟨(⟨((lget row1 at0).Part).From, ((lget row1 at0).Part).To, ((lget row1 at0).Part).ID⟩ : Part), 1, (lget row1 at0).Host, (lget row1 at0).Turn⟩ : Slot)) at0 (⟨(⟨((lget (lset row1 at0 (⟨(⟨((lget row1 at0).Part).From, ((lget row1 at0).Part).To, ((lget row1 at0).Part).ID⟩ : Part), 1, (lget row1 at0).Host, (lget row1 at0).Turn⟩ : Slot)) at0).Part).From, ((lget (lset row1 at0 (⟨(⟨((lget row1 at0).Part).From, ((lget row1 at0).Part).To, ((lget row1 at0).Part).ID⟩ : Part), 1, (lget row1 at0).Host, (lget row1 at0).Turn⟩ : Slot)) at0).Part).To, ((lget (lset row1 at0 (⟨(⟨((lget row1 at0).Part).From, ((lget row1 at0).Part).To, ((lget row1 at0).Part).ID⟩ : Part), 1, (lget row1 at0).Host, (lget row1 at0).Turn⟩ : Slot)) at0).Part).ID⟩ : Part), (lget (lset row1 at0 (⟨(⟨((lget row1 at0).Part).From, ((lget row1 at0).Part).To, ((lget row1 at0).Part).ID⟩ : Part), 1, (lget row1 at0).Host, (lget row1 at0).Turn⟩ : Slot)) at0).State, o.Host, (lget (lset row1 at0 (⟨(⟨((lget row1 at0).Part).From, ((lget row1 at0).Part).To, ((lget row1 at0).Part).ID⟩ : Part), 1, (lget row1 at0).Host, (lget row1 at0).Turn⟩ : Slot)) at0).Turn⟩ : Slot)) at0).Part).To, ((lget (lset (lset row1 at0 (⟨(⟨((lget row1 at0).Part).From, ((lget row1 at0).Part).To, ((lget row1 at0).Part).ID⟩ : Part), 1, (lget row1 at0).Host, (lget row1 at0).Turn⟩ : Slot)) at0 (⟨(⟨((lget (lset row1 at0 (⟨(⟨((lget row1 at0).Part).From, ((lget row1 at0).Part).To, ((lget row1 at0).Part).ID⟩ : Part), 1, (lget row1 at0).Host, (lget row1 at0).Turn⟩ : Slot)) at0).Part).From, ((lget (lset row1 at0 (⟨(⟨((lget row1 at0).Part).From, ((lget row1 at0).Part).To, ((lget row1 at0).Part).ID⟩ : Part), 1, (lget row1 at0).Host, (lget row1 at0).Turn⟩ : Slot)) at0).Part).To, ((lget (lset row1 at0 (⟨(⟨((lget row1 at0).Part).From, ((lget row1 at0).Part).To, ((lget row1 at0).Part).ID⟩ : Part), 1, (lget row1 at0).Host, (lget row1 at0).Turn⟩ : Slot)) at0).Part).ID⟩ : Part), (lget (lset row1 at0 (⟨(⟨((lget row1 at0).Part).From, ((lget row1 at0).Part).To, ((lget row1 at0).Part).ID⟩ : Part), 1, (lget row1 at0).Host, (lget row1 at0).Turn⟩ : Slot)) at0).State, o.Host, (lget (lset row1 at0 (⟨(⟨((lget row1 at0).Part).From, ((lget row1 at0).Part).To, ((lget row1 at0).Part).ID⟩ : Part), 1, (lget row1 at0).Host, (lget row1 at0).Turn⟩ : Slot)) at0).Turn⟩ : Slot)) at0).Part).ID⟩ : Part), (lget (lset (lset row1 at0 (⟨(⟨((lget row1 at0).Part).From, ((lget row1 at0).Part).To, ((lget row1 at0).Part).ID⟩ : Part), 1, (lget row1 at0).Host, (lget row1 at0).Turn⟩ : Slot)) at0 (⟨(⟨((lget (lset row1 at0 (⟨(⟨((lget row1 at0).Part).From, ((lget row1 at0).Part).To, ((lget row1 at0).Part).ID⟩ : Part), 1, (lget row1 at0).Host, (lget row1 at0).Turn⟩ : Slot)) at0).Part).From, ((lget (lset row1 at0 (⟨(⟨((lget row1 at0).Part).From, ((lget row1 at0).Part).To, ((lget row1 at0).Part).ID⟩ : Part), 1, (lget row1 at0).Host, (lget row1 at0).Turn⟩ : Slot)) at0).Part).To, ((lget (lset row1 at0 (⟨(⟨((lget row1 at0).Part).From, ((lget row1 at0).Part).To, ((lget row1 at0).Part).ID⟩ : Part), 1, (lget row1 at0).Host, (lget row1 at0).Turn⟩ : Slot)) at0).Part).ID⟩ : Part), (lget (lset row1 at0 (⟨(⟨((lget row1 at0).Part).From, ((lget row1 at0).Part).To, ((lget row1 at0).Part).ID⟩ : Part), 1, (lget row1 at0).Host, (lget row1 at0).Turn⟩ : Slot)) at0).State, o.Host, (lget (lset row1 at0 (⟨(⟨((lget row1 at0).Part).From, ((lget row1 at0).Part).To, ((lget row1 at0).Part).ID⟩ : Part), 1, (lget row1 at0).Host, (lget row1 at0).Turn⟩ : Slot)) at0).Turn⟩ : Slot)) at0).State, (lget (lset (lset row1 at0 (⟨(⟨((lget row1 at0).Part).From, ((lget row1 at0).Part).To, ((lget row1 at0).Part).ID⟩ : Part), 1, (lget row1 at0).Host, (lget row1 at0).Turn⟩ : Slot)) at0 (⟨(⟨((lget (lset row1 at0 (⟨(⟨((lget row1 at0).Part).From, ((lget row1 at0).Part).To, ((lget row1 at0).Part).ID⟩ : Part), 1, (lget row1 at0).Host, (lget row1 at0).Turn⟩ : Slot)) at0).Part).From, ((lget (lset row1 at0 (⟨(⟨((lget row1 at0).Part).From, ((lget row1 at0).Part).To, ((lget row1 at0).Part).ID⟩ : Part), 1, (lget row1 at0).Host, (lget row1 at0).Turn⟩ : Slot)) at0).Part).To, ((lget (lset row1 at0 (⟨(⟨((lget row1 at0).Part).From, ((lget row1 at0).Part).To, ((lget row1 at0).Part).ID⟩ : Part), 1, (lget row1 at0).Host, (lget row1 at0).Turn⟩ : Slot)) at0).Part).ID⟩ : Part), (lget (lset row1 at0 (⟨(⟨((lget row1 at0).Part).From, ((lget row1 at0).Part).To, ((lget row1 at0).Part).ID⟩ : Part), 1, (lget row1 at0).Host, (lget row1 at0).Turn⟩ : Slot)) at0).State, o.Host, (lget (lset row1 at0 (⟨(⟨((lget row1 at0).Part).From, ((lget row1 at0).Part).To, ((lget row1 at0).Part).ID⟩ : Part), 1, (lget row1 at0).Host, (lget row1 at0).Turn⟩ : Slot)) at0).Turn⟩ : Slot)) at0).Host, w64 (box + 1)⟩ : Slot))) (fun v1 : List Slot => ([], [], [(100001, ⟨64, 6, 0, 0, rc1, rn1, 0, [], (v1.map e_Slot)⟩)], [])) [.av (e_Slot (lget row1 at0)), .xs ((lset row1 at0 (⟨(⟨((lget row1 at0).Part).From, ((lget row1 at0).Part).To, ((lget row1 at0).Part).ID⟩ : Part), 1, (lget row1 at0).Host, (lget row1 at0).Turn⟩ : Slot)).map e_Slot), .av (e_Slot (lget (lset row1 at0 (⟨(⟨((lget row1 at0).Part).From, ((lget row1 at0).Part).To, ((lget row1 at0).Part).ID⟩ : Part), 1, (lget row1 at0).Host, (lget row1 at0).Turn⟩ : Slot)) at0)), .xs ((lset (lset row1 at0 (⟨(⟨((lget row1 at0).Part).From, ((lget row1 at0).Part).To, ((lget row1 at0).Part).ID⟩ : Part), 1, (lget row1 at0).Host, (lget row1 at0).Turn⟩ : Slot)) at0 (⟨(⟨((lget (lset row1 at0 (⟨(⟨((lget row1 at0).Part).From, ((lget row1 at0).Part).To, ((lget row1 at0).Part).ID⟩ : Part), 1, (lget row1 at0).Host, (lget row1 at0).Turn⟩ : Slot)) at0).Part).From, ((lget (lset row1 at0 (⟨(⟨((lget row1 at0).Part).From, ((lget row1 at0).Part).To, ((lget row1 at0).Part).ID⟩ : Part), 1, (lget row1 at0).Host, (lget row1 at0).Turn⟩ : Slot)) at0).Part).To, ((lget (lset row1 at0 (⟨(⟨((lget row1 at0).Part).From, ((lget row1 at0).Part).To, ((lget row1 at0).Part).ID⟩ : Part), 1, (lget row1 at0).Host, (lget row1 at0).Turn⟩ : Slot)) at0).Part).ID⟩ : Part), (lget (lset row1 at0 (⟨(⟨((lget row1 at0).Part).From, ((lget row1 at0).Part).To, ((lget row1 at0).Part).ID⟩ : Part), 1, (lget row1 at0).Host, (lget row1 at0).Turn⟩ : Slot)) at0).State, o.Host, (lget (lset row1 at0 (⟨(⟨((lget row1 at0).Part).From, ((lget row1 at0).Part).To, ((lget row1 at0).Part).ID⟩ : Part), 1, (lget row1 at0).Host, (lget row1 at0).Turn⟩ : Slot)) at0).Turn⟩ : Slot)).map e_Slot), .av (e_Slot (lget (lset (lset row1 at0 (⟨(⟨((lget row1 at0).Part).From, ((lget row1 at0).Part).To, ((lget row1 at0).Part).ID⟩ : Part), 1, (lget row1 at0).Host, (lget row1 at0).Turn⟩ : Slot)) at0 (⟨(⟨((lget (lset row1 at0 (⟨(⟨((lget row1 at0).Part).From, ((lget row1 at0).Part).To, ((lget row1 at0).Part).ID⟩ : Part), 1, (lget row1 at0).Host, (lget row1 at0).Turn⟩ : Slot)) at0).Part).From, ((lget (lset row1 at0 (⟨(⟨((lget row1 at0).Part).From, ((lget row1 at0).Part).To, ((lget row1 at0).Part).ID⟩ : Part), 1, (lget row1 at0).Host, (lget row1 at0).Turn⟩ : Slot)) at0).Part).To, ((lget (lset row1 at0 (⟨(⟨((lget row1 at0).Part).From, ((lget row1 at0).Part).To, ((lget row1 at0).Part).ID⟩ : Part), 1, (lget row1 at0).Host, (lget row1 at0).Turn⟩ : Slot)) at0).Part).ID⟩ : Part), (lget (lset row1 at0 (⟨(⟨((lget row1 at0).Part).From, ((lget row1 at0).Part).To, ((lget row1 at0).Part).ID⟩ : Part), 1, (lget row1 at0).Host, (lget row1 at0).Turn⟩ : Slot)) at0).State, o.Host, (lget (lset row1 at0 (⟨(⟨((lget row1 at0).Part).From, ((lget row1 at0).Part).To, ((lget row1 at0).Part).ID⟩ : Part), 1, (lget row1 at0).Host, (lget row1 at0).Turn⟩ : Slot)) at0).Turn⟩ : Slot)) at0)), .xs ((lset (lset (lset row1 at0 (⟨(⟨((lget row1 at0).Part).From, ((lget row1 at0).Part).To, ((lget row1 at0).Part).ID⟩ : Part), 1, (lget row1 at0).Host, (lget row1 at0).Turn⟩ : Slot)) at0 (⟨(⟨((lget (lset row1 at0 (⟨(⟨((lget row1 at0).Part).From, ((lget row1 at0).Part).To, ((lget row1 at0).Part).ID⟩ : Part), 1, (lget row1 at0).Host, (lget row1 at0).Turn⟩ : Slot)) at0).Part).From, ((lget (lset row1 at0 (⟨(⟨((lget row1 at0).Part).From, ((lget row1 at0).Part).To, ((lget row1 at0).Part).ID⟩ : Part), 1, (lget row1 at0).Host, (lget row1 at0).Turn⟩ : Slot)) at0).Part).To, ((lget (lset row1 at0 (⟨(⟨((lget row1 at0).Part).From, ((lget row1 at0).Part).To, ((lget row1 at0).Part).ID⟩ : Part), 1, (lget row1 at0).Host, (lget row1 at0).Turn⟩ : Slot)) at0).Part).ID⟩ : Part), (lget (lset row1 at0 (⟨(⟨((lget row1 at0).Part).From, ((lget row1 at0).Part).To, ((lget row1 at0).Part).ID⟩ : Part), 1, (lget row1 at0).Host, (lget row1 at0).Turn⟩ : Slot)) at0).State, o.Host, (lget (lset row1 at0 (⟨(⟨((lget row1 at0).Part).From, ((lget row1 at0).Part).To, ((lget row1 at0).Part).ID⟩ : Part), 1, (lget row1 at0).Host, (lget row1 at0).Turn⟩ : Slot)) at0).Turn⟩ : Slot)) at0 (⟨(⟨((lget (lset (lset row1 at0 (⟨(⟨((lget row1 at0).Part).From, ((lget row1 at0).Part).To, ((lget row1 at0).Part).ID⟩ : Part), 1, (lget row1 at0).Host, (lget row1 at0).Turn⟩ : Slot)) at0 (⟨(⟨((lget (lset row1 at0 (⟨(⟨((lget row1 at0).Part).From, ((lget row1 at0).Part).To, ((lget row1 at0).Part).ID⟩ : Part), 1, (lget row1 at0).Host, (lget row1 at0).Turn⟩ : Slot)) at0).Part).From, ((lget (lset row1 at0 (⟨(⟨((lget row1 at0).Part).From, ((lget row1 at0).Part).To, ((lget row1 at0).Part).ID⟩ : Part), 1, (lget row1 at0).Host, (lget row1 at0).Turn⟩ : Slot)) at0).Part).To, ((lget (lset row1 at0 (⟨(⟨((lget row1 at0).Part).From, ((lget row1 at0).Part).To, ((lget row1 at0).Part).ID⟩ : Part), 1, (lget row1 at0).Host, (lget row1 at0).Turn⟩ : Slot)) at0).Part).ID⟩ : Part), (lget (lset row1 at0 (⟨(⟨((lget row1 at0).Part).From, ((lget row1 at0).Part).To, ((lget row1 at0).Part).ID⟩ : Part), 1, (lget row1 at0).Host, (lget row1 at0).Turn⟩ : Slot)) at0).State, o.Host, (lget (lset row1 at0 (⟨(⟨((lget row1 at0).Part).From, ((lget row1 at0).Part).To, ((lget row1 at0).Part).ID⟩ : Part), 1, (lget row1 at0).Host, (lget row1 at0).Turn⟩ : Slot)) at0).Turn⟩ : Slot)) at0).Part).From, ((lget (lset (lset row1 at0 (⟨(⟨((lget row1 at0).Part).From, ((lget row1 at0).Part).To, ((lget row1 at0).Part).ID⟩ : Part), 1, (lget row1 at0).Host, (lget row1 at0).Turn⟩ : Slot)) at0 (⟨(⟨((lget (lset row1 at0 (⟨(⟨((lget row1 at0).Part).From, ((lget row1 at0).Part).To, ((lget row1 at0).Part).ID⟩ : Part), 1, (lget row1 at0).Host, (lget row1 at0).Turn⟩ : Slot)) at0).Part).From, ((lget (lset row1 at0 (⟨(⟨((lget row1 at0).Part).From, ((lget row1 at0).Part).To, ((lget row1 at0).Part).ID⟩ : Part), 1, (lget row1 at0).Host, (lget row1 at0).Turn⟩ : Slot)) at0).Part).To, ((lget (lset row1 at0 (⟨(⟨((lget row1 at0).Part).From, ((lget row1 at0).Part).To, ((lget row1 at0).Part).ID⟩ : Part), 1, (lget row1 at0).Host, (lget row1 at0).Turn⟩ : Slot)) at0).Part).ID⟩ : Part), (lget (lset row1 at0 (⟨(⟨((lget row1 at0).Part).From, ((lget row1 at0).Part).To, ((lget row1 at0).Part).ID⟩ : Part), 1, (lget row1 at0).Host, (lget row1 at0).Turn⟩ : Slot)) at0).State, o.Host, (lget (lset row1 at0 (⟨(⟨((lget row1 at0).Part).From, ((lget row1 at0).Part).To, ((lget row1 at0).Part).ID⟩ : Part), 1, (lget row1 at0).Host, (lget row1 at0).Turn⟩ : Slot)) at0).Turn⟩ : Slot)) at0).Part).To, ((lget (lset (lset row1 at0 (⟨(⟨((lget row1 at0).Part).From, ((lget row1 at0).Part).To, ((lget row1 at0).Part).ID⟩ : Part), 1, (lget row1 at0).Host, (lget row1 at0).Turn⟩ : Slot)) at0 (⟨(⟨((lget (lset row1 at0 (⟨(⟨((lget row1 at0).Part).From, ((lget row1 at0).Part).To, ((lget row1 at0).Part).ID⟩ : Part), 1, (lget row1 at0).Host, (lget row1 at0).Turn⟩ : Slot)) at0).Part).From, ((lget (lset row1 at0 (⟨(⟨((lget row1 at0).Part).From, ((lget row1 at0).Part).To, ((lget row1 at0).Part).ID⟩ : Part), 1, (lget row1 at0).Host, (lget row1 at0).Turn⟩ : Slot)) at0).Part).To, ((lget (lset row1 at0 (⟨(⟨((lget row1 at0).Part).From, ((lget row1 at0).Part).To, ((lget row1 at0).Part).ID⟩ : Part), 1, (lget row1 at0).Host, (lget row1 at0).Turn⟩ : Slot)) at0).Part).ID⟩ : Part), (lget (lset row1 at0 (⟨(⟨((lget row1 at0).Part).From, ((lget row1 at0).Part).To, ((lget row1 at0).Part).ID⟩ : Part), 1, (lget row1 at0).Host, (lget row1 at0).Turn⟩ : Slot)) at0).State, o.Host, (lget (lset row1 at0 (⟨(⟨((lget row1 at0).Part).From, ((lget row1 at0).Part).To, ((lget row1 at0).Part).ID⟩ : Part), 1, (lget row1 at0).Host, (lget row1 at0).Turn⟩ : Slot)) at0).Turn⟩ : Slot)) at0).Part).ID⟩ : Part), (lget (lset (lset row1 at0 (⟨(⟨((lget row1 at0).Part).From, ((lget row1 at0).Part).To, ((lget row1 at0).Part).ID⟩ : Part), 1, (lget row1 at0).Host, (lget row1 at0).Turn⟩ : Slot)) at0 (⟨(⟨((lget (lset row1 at0 (⟨(⟨((lget row1 at0).Part).From, ((lget row1 at0).Part).To, ((lget row1 at0).Part).ID⟩ : Part), 1, (lget row1 at0).Host, (lget row1 at0).Turn⟩ : Slot)) at0).Part).From, ((lget (lset row1 at0 (⟨(⟨((lget row1 at0).Part).From, ((lget row1 at0).Part).To, ((lget row1 at0).Part).ID⟩ : Part), 1, (lget row1 at0).Host, (lget row1 at0).Turn⟩ : Slot)) at0).Part).To, ((lget (lset row1 at0 (⟨(⟨((lget row1 at0).Part).From, ((lget row1 at0).Part).To, ((lget row1 at0).Part).ID⟩ : Part), 1, (lget row1 at0).Host, (lget row1 at0).Turn⟩ : Slot)) at0).Part).ID⟩ : Part), (lget (lset row1 at0 (⟨(⟨((lget row1 at0).Part).From, ((lget row1 at0).Part).To, ((lget row1 at0).Part).ID⟩ : Part), 1, (lget row1 at0).Host, (lget row1 at0).Turn⟩ : Slot)) at0).State, o.Host, (lget (lset row1 at0 (⟨(⟨((lget row1 at0).Part).From, ((lget row1 at0).Part).To, ((lget row1 at0).Part).ID⟩ : Part), 1, (lget row1 at0).Host, (lget row1 at0).Turn⟩ : Slot)) at0).Turn⟩ : Slot)) at0).State, (lget (lset (lset row1 at0 (⟨(⟨((lget row1 at0).Part).From, ((lget row1 at0).Part).To, ((lget row1 at0).Part).ID⟩ : Part), 1, (lget row1 at0).Host, (lget row1 at0).Turn⟩ : Slot)) at0 (⟨(⟨((lget (lset row1 at0 (⟨(⟨((lget row1 at0).Part).From, ((lget row1 at0).Part).To, ((lget row1 at0).Part).ID⟩ : Part), 1, (lget row1 at0).Host, (lget row1 at0).Turn⟩ : Slot)) at0).Part).From, ((lget (lset row1 at0 (⟨(⟨((lget row1 at0).Part).From, ((lget row1 at0).Part).To, ((lget row1 at0).Part).ID⟩ : Part), 1, (lget row1 at0).Host, (lget row1 at0).Turn⟩ : Slot)) at0).Part).To, ((lget (lset row1 at0 (⟨(⟨((lget row1 at0).Part).From, ((lget row1 at0).Part).To, ((lget row1 at0).Part).ID⟩ : Part), 1, (lget row1 at0).Host, (lget row1 at0).Turn⟩ : Slot)) at0).Part).ID⟩ : Part), (lget (lset row1 at0 (⟨(⟨((lget row1 at0).Part).From, ((lget row1 at0).Part).To, ((lget row1 at0).Part).ID⟩ : Part), 1, (lget row1 at0).Host, (lget row1 at0).Turn⟩ : Slot)) at0).State, o.Host, (lget (lset row1 at0 (⟨(⟨((lget row1 at0).Part).From, ((lget row1 at0).Part).To, ((lget row1 at0).Part).ID⟩ : Part), 1, (lget row1 at0).Host, (lget row1 at0).Turn⟩ : Slot)) at0).Turn⟩ : Slot)) at0).Host, w64 (box + 1)⟩ : Slot)).map e_Slot)] [0, 6] [6, 100000] [100000, 100001] [] (hc (ldr_ok e_Slot h6) (hc (set_ok e_Slot row1 at0 (⟨(⟨((lget row1 at0).Part).From, ((lget row1 at0).Part).To, ((lget row1 at0).Part).ID⟩ : Part), 1, (lget row1 at0).Host, (lget row1 at0).Turn⟩ : Slot)) (hc (Nat.zero_le at0.toNat) (hc (ldr_ok e_Slot h7) (hc (set_ok e_Slot (lset row1 at0 (⟨(⟨((lget row1 at0).Part).From, ((lget row1 at0).Part).To, ((lget row1 at0).Part).ID⟩ : Part), 1, (lget row1 at0).Host, (lget row1 at0).Turn⟩ : Slot)) at0 (⟨(⟨((lget (lset row1 at0 (⟨(⟨((lget row1 at0).Part).From, ((lget row1 at0).Part).To, ((lget row1 at0).Part).ID⟩ : Part), 1, (lget row1 at0).Host, (lget row1 at0).Turn⟩ : Slot)) at0).Part).From, ((lget (lset row1 at0 (⟨(⟨((lget row1 at0).Part).From, ((lget row1 at0).Part).To, ((lget row1 at0).Part).ID⟩ : Part), 1, (lget row1 at0).Host, (lget row1 at0).Turn⟩ : Slot)) at0).Part).To, ((lget (lset row1 at0 (⟨(⟨((lget row1 at0).Part).From, ((lget row1 at0).Part).To, ((lget row1 at0).Part).ID⟩ : Part), 1, (lget row1 at0).Host, (lget row1 at0).Turn⟩ : Slot)) at0).Part).ID⟩ : Part), (lget (lset row1 at0 (⟨(⟨((lget row1 at0).Part).From, ((lget row1 at0).Part).To, ((lget row1 at0).Part).ID⟩ : Part), 1, (lget row1 at0).Host, (lget row1 at0).Turn⟩ : Slot)) at0).State, o.Host, (lget (lset row1 at0 (⟨(⟨((lget row1 at0).Part).From, ((lget row1 at0).Part).To, ((lget row1 at0).Part).ID⟩ : Part), 1, (lget row1 at0).Host, (lget row1 at0).Turn⟩ : Slot)) at0).Turn⟩ : Slot)) (hc (Nat.zero_le at0.toNat) (hc (ldr_ok e_Slot h8) (hc (set_ok e_Slot (lset (lset row1 at0 (⟨(⟨((lget row1 at0).Part).From, ((lget row1 at0).Part).To, ((lget row1 at0).Part).ID⟩ : Part), 1, (lget row1 at0).Host, (lget row1 at0).Turn⟩ : Slot)) at0 (⟨(⟨((lget (lset row1 at0 (⟨(⟨((lget row1 at0).Part).From, ((lget row1 at0).Part).To, ((lget row1 at0).Part).ID⟩ : Part), 1, (lget row1 at0).Host, (lget row1 at0).Turn⟩ : Slot)) at0).Part).From, ((lget (lset row1 at0 (⟨(⟨((lget row1 at0).Part).From, ((lget row1 at0).Part).To, ((lget row1 at0).Part).ID⟩ : Part), 1, (lget row1 at0).Host, (lget row1 at0).Turn⟩ : Slot)) at0).Part).To, ((lget (lset row1 at0 (⟨(⟨((lget row1 at0).Part).From, ((lget row1 at0).Part).To, ((lget row1 at0).Part).ID⟩ : Part), 1, (lget row1 at0).Host, (lget row1 at0).Turn⟩ : Slot)) at0).Part).ID⟩ : Part), (lget (lset row1 at0 (⟨(⟨((lget row1 at0).Part).From, ((lget row1 at0).Part).To, ((lget row1 at0).Part).ID⟩ : Part), 1, (lget row1 at0).Host, (lget row1 at0).Turn⟩ : Slot)) at0).State, o.Host, (lget (lset row1 at0 (⟨(⟨((lget row1 at0).Part).From, ((lget row1 at0).Part).To, ((lget row1 at0).Part).ID⟩ : Part), 1, (lget row1 at0).Host, (lget row1 at0).Turn⟩ : Slot)) at0).Turn⟩ : Slot)) at0 (⟨(⟨((lget (lset (lset row1 at0 (⟨(⟨((lget row1 at0).Part).From, ((lget row1 at0).Part).To, ((lget row1 at0).Part).ID⟩ : Part), 1, (lget row1 at0).Host, (lget row1 at0).Turn⟩ : Slot)) at0 (⟨(⟨((lget (lset row1 at0 (⟨(⟨((lget row1 at0).Part).From, ((lget row1 at0).Part).To, ((lget row1 at0).Part).ID⟩ : Part), 1, (lget row1 at0).Host, (lget row1 at0).Turn⟩ : Slot)) at0).Part).From, ((lget (lset row1 at0 (⟨(⟨((lget row1 at0).Part).From, ((lget row1 at0).Part).To, ((lget row1 at0).Part).ID⟩ : Part), 1, (lget row1 at0).Host, (lget row1 at0).Turn⟩ : Slot)) at0).Part).To, ((lget (lset row1 at0 (⟨(⟨((lget row1 at0).Part).From, ((lget row1 at0).Part).To, ((lget row1 at0).Part).ID⟩ : Part), 1, (lget row1 at0).Host, (lget row1 at0).Turn⟩ : Slot)) at0).Part).ID⟩ : Part), (lget (lset row1 at0 (⟨(⟨((lget row1 at0).Part).From, ((lget row1 at0).Part).To, ((lget row1 at0).Part).ID⟩ : Part), 1, (lget row1 at0).Host, (lget row1 at0).Turn⟩ : Slot)) at0).State, o.Host, (lget (lset row1 at0 (⟨(⟨((lget row1 at0).Part).From, ((lget row1 at0).Part).To, ((lget row1 at0).Part).ID⟩ : Part), 1, (lget row1 at0).Host, (lget row1 at0).Turn⟩ : Slot)) at0).Turn⟩ : Slot)) at0).Part).From, ((lget (lset (lset row1 at0 (⟨(⟨((lget row1 at0).Part).From, ((lget row1 at0).Part).To, ((lget row1 at0).Part).ID⟩ : Part), 1, (lget row1 at0).Host, (lget row1 at0).Turn⟩ : Slot)) at0 (⟨(⟨((lget (lset row1 at0 (⟨(⟨((lget row1 at0).Part).From, ((lget row1 at0).Part).To, ((lget row1 at0).Part).ID⟩ : Part), 1, (lget row1 at0).Host, (lget row1 at0).Turn⟩ : Slot)) at0).Part).From, ((lget (lset row1 at0 (⟨(⟨((lget row1 at0).Part).From, ((lget row1 at0).Part).To, ((lget row1 at0).Part).ID⟩ : Part), 1, (lget row1 at0).Host, (lget row1 at0).Turn⟩ : Slot)) at0).Part).To, ((lget (lset row1 at0 (⟨(⟨((lget row1 at0).Part).From, ((lget row1 at0).Part).To, ((lget row1 at0).Part).ID⟩ : Part), 1, (lget row1 at0).Host, (lget row1 at0).Turn⟩ : Slot)) at0).Part).ID⟩ : Part), (lget (lset row1 at0 (⟨(⟨((lget row1 at0).Part).From, ((lget row1 at0).Part).To, ((lget row1 at0).Part).ID⟩ : Part), 1, (lget row1 at0).Host, (lget row1 at0).Turn⟩ : Slot)) at0).State, o.Host, (lget (lset row1 at0 (⟨(⟨((lget row1 at0).Part).From, ((lget row1 at0).Part).To, ((lget row1 at0).Part).ID⟩ : Part), 1, (lget row1 at0).Host, (lget row1 at0).Turn⟩ : Slot)) at0).Turn⟩ : Slot)) at0).Part).To, ((lget (lset (lset row1 at0 (⟨(⟨((lget row1 at0).Part).From, ((lget row1 at0).Part).To, ((lget row1 at0).Part).ID⟩ : Part), 1, (lget row1 at0).Host, (lget row1 at0).Turn⟩ : Slot)) at0 (⟨(⟨((lget (lset row1 at0 (⟨(⟨((lget row1 at0).Part).From, ((lget row1 at0).Part).To, ((lget row1 at0).Part).ID⟩ : Part), 1, (lget row1 at0).Host, (lget row1 at0).Turn⟩ : Slot)) at0).Part).From, ((lget (lset row1 at0 (⟨(⟨((lget row1 at0).Part).From, ((lget row1 at0).Part).To, ((lget row1 at0).Part).ID⟩ : Part), 1, (lget row1 at0).Host, (lget row1 at0).Turn⟩ : Slot)) at0).Part).To, ((lget (lset row1 at0 (⟨(⟨((lget row1 at0).Part).From, ((lget row1 at0).Part).To, ((lget row1 at0).Part).ID⟩ : Part), 1, (lget row1 at0).Host, (lget row1 at0).Turn⟩ : Slot)) at0).Part).ID⟩ : Part), (lget (lset row1 at0 (⟨(⟨((lget row1 at0).Part).From, ((lget row1 at0).Part).To, ((lget row1 at0).Part).ID⟩ : Part), 1, (lget row1 at0).Host, (lget row1 at0).Turn⟩ : Slot)) at0).State, o.Host, (lget (lset row1 at0 (⟨(⟨((lget row1 at0).Part).From, ((lget row1 at0).Part).To, ((lget row1 at0).Part).ID⟩ : Part), 1, (lget row1 at0).Host, (lget row1 at0).Turn⟩ : Slot)) at0).Turn⟩ : Slot)) at0).Part).ID⟩ : Part), (lget (lset (lset row1 at0 (⟨(⟨((lget row1 at0).Part).From, ((lget row1 at0).Part).To, ((lget row1 at0).Part).ID⟩ : Part), 1, (lget row1 at0).Host, (lget row1 at0).Turn⟩ : Slot)) at0 (⟨(⟨((lget (lset row1 at0 (⟨(⟨((lget row1 at0).Part).From, ((lget row1 at0).Part).To, ((lget row1 at0).Part).ID⟩ : Part), 1, (lget row1 at0).Host, (lget row1 at0).Turn⟩ : Slot)) at0).Part).From, ((lget (lset row1 at0 (⟨(⟨((lget row1 at0).Part).From, ((lget row1 at0).Part).To, ((lget row1 at0).Part).ID⟩ : Part), 1, (lget row1 at0).Host, (lget row1 at0).Turn⟩ : Slot)) at0).Part).To, ((lget (lset row1 at0 (⟨(⟨((lget row1 at0).Part).From, ((lget row1 at0).Part).To, ((lget row1 at0).Part).ID⟩ : Part), 1, (lget row1 at0).Host, (lget row1 at0).Turn⟩ : Slot)) at0).Part).ID⟩ : Part), (lget (lset row1 at0 (⟨(⟨((lget row1 at0).Part).From, ((lget row1 at0).Part).To, ((lget row1 at0).Part).ID⟩ : Part), 1, (lget row1 at0).Host, (lget row1 at0).Turn⟩ : Slot)) at0).State, o.Host, (lget (lset row1 at0 (⟨(⟨((lget row1 at0).Part).From, ((lget row1 at0).Part).To, ((lget row1 at0).Part).ID⟩ : Part), 1, (lget row1 at0).Host, (lget row1 at0).Turn⟩ : Slot)) at0).Turn⟩ : Slot)) at0).State, (lget (lset (lset row1 at0 (⟨(⟨((lget row1 at0).Part).From, ((lget row1 at0).Part).To, ((lget row1 at0).Part).ID⟩ : Part), 1, (lget row1 at0).Host, (lget row1 at0).Turn⟩ : Slot)) at0 (⟨(⟨((lget (lset row1 at0 (⟨(⟨((lget row1 at0).Part).From, ((lget row1 at0).Part).To, ((lget row1 at0).Part).ID⟩ : Part), 1, (lget row1 at0).Host, (lget row1 at0).Turn⟩ : Slot)) at0).Part).From, ((lget (lset row1 at0 (⟨(⟨((lget row1 at0).Part).From, ((lget row1 at0).Part).To, ((lget row1 at0).Part).ID⟩ : Part), 1, (lget row1 at0).Host, (lget row1 at0).Turn⟩ : Slot)) at0).Part).To, ((lget (lset row1 at0 (⟨(⟨((lget row1 at0).Part).From, ((lget row1 at0).Part).To, ((lget row1 at0).Part).ID⟩ : Part), 1, (lget row1 at0).Host, (lget row1 at0).Turn⟩ : Slot)) at0).Part).ID⟩ : Part), (lget (lset row1 at0 (⟨(⟨((lget row1 at0).Part).From, ((lget row1 at0).Part).To, ((lget row1 at0).Part).ID⟩ : Part), 1, (lget row1 at0).Host, (lget row1 at0).Turn⟩ : Slot)) at0).State, o.Host, (lget (lset row1 at0 (⟨(⟨((lget row1 at0).Part).From, ((lget row1 at0).Part).To, ((lget row1 at0).Part).ID⟩ : Part), 1, (lget row1 at0).Host, (lget row1 at0).Turn⟩ : Slot)) at0).Turn⟩ : Slot)) at0).Host, w64 (box + 1)⟩ : Slot)) (hc (Nat.zero_le at0.toNat) .nil))))))))) (fun v1 hv => ?_)
     have hF := lt_elim hF hv
     exact metP (x2.2, v1, w64 (box + 1), box1) [(100001, ⟨1, false, false, false⟩)] hF (by kernel_rfl)
  ·refine NR [] [0, 1, 5, 6, 7, 8, 22, 63] [5, 6, 8, 100000] [100000, 100001] [(63, .bool (decide (o.Kind = 4)))] .nil ?_
   refine Nif hF (fun hb hF => ?_) (fun hb hF => ?_)
   ·obtain ⟨x4, h9, hF⟩ := ob_elim hF
    refine VR [.callR [] [100001] [] [] (.agg (c_Fault x4))] [6, 7, 9] [6, 9, 100000] [100000, 100001] [] [(9, .ptr 9 0)] [(9, (c_Fault x4))] [] [] (hc (Pe.ren (assign_given_ok at0 o 1 row1 0 rc1 rn1 x4 h9) ⟨[], [(100000, 100001)], [], []⟩) .nil) ?_
    obtain ⟨h10, hF⟩ := asrt_elim hF
    refine NRL ((lset row1 at0 (⟨(⟨((lget row1 at0).Part).From, ((lget row1 at0).Part).To, ((lget row1 at0).Part).ID⟩ : Part), 2, (lget row1 at0).Host, (lget row1 at0).Turn⟩ : Slot))) (fun v2 : List Slot => ([], [], [(100001, ⟨64, 6, 0, 0, rc1, rn1, 0, [], (v2.map e_Slot)⟩)], [])) [.av (e_Slot (lget row1 at0)), .xs ((lset row1 at0 (⟨(⟨((lget row1 at0).Part).From, ((lget row1 at0).Part).To, ((lget row1 at0).Part).ID⟩ : Part), 2, (lget row1 at0).Host, (lget row1 at0).Turn⟩ : Slot)).map e_Slot)] [6, 9] [6, 9, 100000] [100000, 100001] [] (hc (ldr_ok e_Slot h10) (hc (set_ok e_Slot row1 at0 (⟨(⟨((lget row1 at0).Part).From, ((lget row1 at0).Part).To, ((lget row1 at0).Part).ID⟩ : Part), 2, (lget row1 at0).Host, (lget row1 at0).Turn⟩ : Slot)) (hc (Nat.zero_le at0.toNat) .nil))) (fun v2 hv => ?_)
    have hF := lt_elim hF hv
    refine VR [] [6] [6, 100000] [100000, 100001] [] [] [(6, (c_Fault x4))] [] [] .nil ?_
    cases hF
    exact Wk_ret (hfin _ ⟨[100000, 100001], [100000], [100000, 100001], [], [], [(100000, ⟨0, true, true, true⟩), (100001, ⟨1, false, false, true⟩)], by kernel_rfl⟩)
   ·refine NR [] [0, 1, 5, 6, 7, 8, 22, 72] [5, 6, 8, 100000] [100000, 100001] [(72, .bool (decide (o.Kind = 5)))] .nil ?_
    refine Nif hF (fun hb hF => ?_) (fun hb hF => ?_)
    ·obtain ⟨h11, hF⟩ := asrt_elim hF
     refine NR [.av (e_Slot (lget row1 at0))] [0, 6, 7, 8, 78] [6, 8, 100000] [100000, 100001] [(78, .bool (!decide (((lget row1 at0).State) = 2)))] (hc (ldr_ok e_Slot h11) .nil) ?_
     refine Nif hF (fun hb hF => ?_) (fun hb hF => ?_)
     ·refine VR [] [6] [6, 100000] [100000, 100001] [] [] [(6, (c_Fault x))] [] [] .nil ?_
      cases hF
      exact Wk_ret (hfin _ ⟨[100000, 100001], [100000], [100000, 100001], [], [], [(100000, ⟨0, true, true, true⟩), (100001, ⟨1, false, false, true⟩)], by kernel_rfl⟩)
     ·obtain ⟨h12, hF⟩ := asrt_elim hF
      refine NRL ((lset row1 at0 (⟨(⟨((lget row1 at0).Part).From, ((lget row1 at0).Part).To, ((lget row1 at0).Part).ID⟩ : Part), 3, (lget row1 at0).Host, (lget row1 at0).Turn⟩ : Slot))) (fun v3 : List Slot => ([], [], [(100001, ⟨64, 6, 0, 0, rc1, rn1, 0, [], (v3.map e_Slot)⟩)], [])) [.av (e_Slot (lget row1 at0)), .xs ((lset row1 at0 (⟨(⟨((lget row1 at0).Part).From, ((lget row1 at0).Part).To, ((lget row1 at0).Part).ID⟩ : Part), 3, (lget row1 at0).Host, (lget row1 at0).Turn⟩ : Slot)).map e_Slot)] [0, 6] [6, 100000] [100000, 100001] [] (hc (ldr_ok e_Slot h12) (hc (set_ok e_Slot row1 at0 (⟨(⟨((lget row1 at0).Part).From, ((lget row1 at0).Part).To, ((lget row1 at0).Part).ID⟩ : Part), 3, (lget row1 at0).Host, (lget row1 at0).Turn⟩ : Slot)) (hc (Nat.zero_le at0.toNat) .nil))) (fun v3 hv => ?_)
      have hF := lt_elim hF hv
      exact metP (row, v3, box, box1) [(100000, ⟨0, true, true, true⟩), (100001, ⟨1, false, false, false⟩)] hF (by kernel_rfl)
    ·refine NR [] [0, 1, 5, 6, 7, 8, 22, 83] [5, 6, 8, 100000] [100000, 100001] [(83, .bool (decide (o.Kind = 6)))] .nil ?_
     refine Nif hF (fun hb hF => ?_) (fun hb hF => ?_)
     ·obtain ⟨x5, h13, hF⟩ := ob_elim hF
      refine VR [.callR [] [100001] [] [] (.agg (c_Fault x5))] [6, 7, 10] [6, 10, 100000] [100000, 100001] [] [(10, .ptr 10 0)] [(10, (c_Fault x5))] [] [] (hc (Pe.ren (assign_given_ok at0 o 3 row1 0 rc1 rn1 x5 h13) ⟨[], [(100000, 100001)], [], []⟩) .nil) ?_
      obtain ⟨x6, h14, hF⟩ := ob_elim hF
      refine VR [.callE [] [100001] [] [] (.tup []) ⟨[], [], [(100001, ⟨64, 6, 0, 0, rc1, rn1, 0, [], (x6.map e_Slot)⟩)], [], []⟩] [6, 10] [6, 10, 100000] [100000, 100001] [] [] [] [(100001, ⟨64, 6, 0, 0, rc1, rn1, 0, [], (x6.map e_Slot)⟩)] [] (hc (Pe.ren (assign_off_ok at0 row1 0 rc1 rn1 x6 h14) ⟨[], [(100000, 100001)], [], []⟩) .nil) ?_
      refine VR [] [6] [6, 100000] [100000, 100001] [] [] [(6, (c_Fault x5))] [] [] .nil ?_
      cases hF
      exact Wk_ret (hfin _ ⟨[100000, 100001], [100000], [100000, 100001], [], [], [(100000, ⟨0, true, true, true⟩), (100001, ⟨1, false, false, true⟩)], by kernel_rfl⟩)
     ·refine NR [] [0, 1, 5, 6, 7, 8, 22, 91] [5, 6, 8, 100000] [100000, 100001] [(91, .bool (decide (o.Kind = 7)))] .nil ?_
      refine Nif hF (fun hb hF => ?_) (fun hb hF => ?_)
      ·obtain ⟨h15, hF⟩ := asrt_elim hF
       refine NR [.av (e_Slot (lget row1 at0))] [0, 1, 5, 6, 8, 97] [5, 6, 8, 100000] [100000, 100001] [(97, .bool (!decide (((lget row1 at0).State) = 0)))] (hc (ldr_ok e_Slot h15) .nil) ?_
       refine Nif hF (fun hb hF => ?_) (fun hb hF => ?_)
       ·refine VR [] [6] [6, 100000] [100000, 100001] [] [] [(6, (c_Fault x))] [] [] .nil ?_
        cases hF
        exact Wk_ret (hfin _ ⟨[100000, 100001], [100000], [100000, 100001], [], [], [(100000, ⟨0, true, true, true⟩), (100001, ⟨1, false, false, true⟩)], by kernel_rfl⟩)
       ·refine NR [] [0, 1, 5, 6, 103] [5, 6, 100000] [100000, 100001] [(103, .bool (decide (999999998 < box1)))] .nil ?_
        refine Nif hF (fun hb hF => ?_) (fun hb hF => ?_)
        ·obtain ⟨x7, h16, hF⟩ := ob_elim hF
         refine VR [.callE [100000] [100000, 100001] [] [] (.agg (c_Fault x7.1)) ⟨[], [(100000, [.row 100000 0, .row 100001 0, .i box, .i box1])], [(100000, ⟨108, 3, 0, (x7.2.1.map e_Host).length, rc, rn, 0, [], (x7.2.1.map e_Host)⟩), (100001, ⟨64, 6, 0, (x7.2.2.map e_Slot).length, rc1, rn1, 0, [], (x7.2.2.map e_Slot)⟩)], [], []⟩] [6] [6, 100000] [100000, 100001] [] [] [(6, (c_Fault x7.1))] [(100000, ⟨108, 3, 0, (x7.2.1.map e_Host).length, rc, rn, 0, [], (x7.2.1.map e_Host)⟩), (100001, ⟨64, 6, 0, (x7.2.2.map e_Slot).length, rc1, rn1, 0, [], (x7.2.2.map e_Slot)⟩)] [] (hc (Pe.ren (assign_much_ok at0 o box box1 row row1 rk rc rn 0 rc1 rn1 x7 h16) ⟨[], [], [], []⟩) .nil) ?_
         cases hF
         exact Wk_ret (hfin _ ⟨[100000, 100001], [100000], [100000, 100001], [], [], [(100001, ⟨1, false, false, true⟩)], by kernel_rfl⟩)
        ·obtain ⟨x8, h17, hF⟩ := ob_elim hF
         obtain ⟨x9, h18, hF⟩ := ob_elim hF
         refine VD [.callE [] [100000, 100001] [] [] (.row 112 0) ⟨[], [], [(100000, ⟨108, 3, 0, rk, rc, rn, 0, [], (row.map e_Host)⟩), (100001, ⟨64, 6, 0, 0, rc1, rn1, 0, [], (row1.map e_Slot)⟩), (112, .o 34 3 0 (x8.map e_Part))], [], []⟩, .callE [] [112] [] [] (.tup [.row 125 0, .agg (c_Fault x9.2.1)]) ⟨[], [], [(112, ⟨34, 3, 0, (x9.2.2.map e_Part).length, 0, false, 0, [], (x9.2.2.map e_Part)⟩), (125, .o 34 3 0 (x9.1.map e_Part))], [], []⟩] [0, 1, 6, 11, 12] [6, 12, 100000] [125, 100000, 100001] [] [(11, .row 125 0), (12, .ptr 12 0)] [(12, (c_Fault x9.2.1))] [(125, .o 34 3 0 (x9.1.map e_Part))] [] (hc (Pe.ren (assign_Parts_v2_ok box box1 row row1 rk rc rn 0 rc1 rn1 x8 h17) ⟨[], [(9, 112)], [], []⟩) (hc (Pe.ren (parts_Split_v2_ok at0 o.Row box1 (w64 (box1 + 1)) x8 0 0 false x9 h18) ⟨[], [(100000, 112), (100000, 125)], [], []⟩) .nil)) ?_
         refine NR [] [0, 1, 6, 11, 12, 130] [6, 12, 100000] [125, 100000, 100001] [(130, .bool (!decide (x9.2.1.Code = 0)))] .nil ?_
         refine Nif hF (fun hb hF => ?_) (fun hb hF => ?_)
         ·refine VR [] [6] [6, 100000] [100000, 100001] [] [] [(6, (c_Fault x9.2.1))] [] [] .nil ?_
          cases hF
          exact Wk_ret (hfin _ ⟨[100000, 100001], [100000], [100000, 100001], [], [], [(100000, ⟨0, true, true, true⟩), (100001, ⟨1, false, false, true⟩)], by kernel_rfl⟩)
         ·obtain ⟨h19, hF⟩ := asrt_elim hF
          obtain ⟨h20, h21, hF⟩ := asrt2 hF
          obtain ⟨h22, hF⟩ := asrt_elim hF
          obtain ⟨x10, h23, hF⟩ := ob_elim hF
          refine VD [.av (e_Part (lget x9.1 at0)), .av (e_Part (lget x9.1 (w64 (at0 + 1)))), .callE [] [100001] [] [] (.row 100001 1) ⟨[], [], [(100001, .o 64 6 1 (x10.map e_Slot))], [], []⟩] [0, 6] [6, 100000] [100000, 100001] [] [] [(100000, [.row 100000 0, .row 100001 1, .i box, .i box1])] [(100001, .o 64 6 1 (x10.map e_Slot))] [] (hc (ixr_ok e_Part h19) (hc (ldr_ok e_Part h20) (hc (ixr_ok e_Part h21) (hc (ldr_ok e_Part h22) (hc (Pe.ren (slices_Replace_api_Slot_api_Slot_ok at0 (w64 (at0 + 1)) [(⟨(⟨(lget x9.1 at0).From, (lget x9.1 at0).To, (lget x9.1 at0).ID⟩ : Part), 0, 0, 0⟩ : Slot), (⟨(⟨(lget x9.1 (w64 (at0 + 1))).From, (lget x9.1 (w64 (at0 + 1))).To, (lget x9.1 (w64 (at0 + 1))).ID⟩ : Part), 0, 0, 0⟩ : Slot)] row1 0 rc1 rn1 x10 h23) ⟨[], [(100000, 100001)], [], []⟩) .nil))))) ?_
          refine VR [] [0, 6] [6, 100000] [100000, 100001] [] [] [(100000, [.row 100000 0, .row 100001 1, .i box, .i (w64 (box1 + 2))])] [] [] .nil ?_
          exact metP (row, x10, box, w64 (box1 + 2)) [(100000, ⟨0, true, true, true⟩)] hF (by kernel_rfl)
      ·refine NR [] [0, 1, 6, 7, 8, 162] [6, 8, 100000] [100000, 100001] [(162, .bool (decide (o.Kind = 8)))] .nil ?_
       refine Nif hF (fun hb hF => ?_) (fun hb hF => ?_)
       ·refine NR [.nat (row1.length : Int)] [0, 1, 6, 7, 8, 171] [6, 8, 100000] [100000, 100001] [(171, .bool (decide ((w64 (at0 + 1)) = (row1.length : Int))))] (hc (len_ok e_Slot row1) .nil) ?_
        refine Nif hF (fun hb hF => ?_) (fun hb hF => ?_)
        ·obtain ⟨x11, h24, hF⟩ := lt_split hF
         refine VR [.callB (.agg (c_Fault x11))] [6] [6, 100000] [100000, 100001] [] [] [(6, (c_Fault x11))] [] [] (hc (assign_fault_ok 6 (-1) x11 h24) .nil) ?_
         cases hF
         exact Wk_ret (hfin _ ⟨[100000, 100001], [100000], [100000, 100001], [], [], [(100000, ⟨0, true, true, true⟩), (100001, ⟨1, false, false, true⟩)], by kernel_rfl⟩)
        ·obtain ⟨h25, hF⟩ := asrt_elim hF
         obtain ⟨h26, h27, hF⟩ := asrt2 hF
         refine NR [.av (e_Slot (lget row1 at0)), .av (e_Slot (lget row1 (w64 (at0 + 1))))] [0, 1, 6, 7, 8, 189] [6, 8, 100000] [100000, 100001] [(189, .bool ((!decide (((lget row1 at0).State) = 0)) || (!decide (((lget row1 (w64 (at0 + 1))).State) = 0))))] (hc (ldr_ok e_Slot h25) (hc (fun (ga0 : (!(!decide (((lget row1 at0).State) = 0))) = true) => (ixr_ok e_Slot (h26 ga0))) (hc (fun (ga0 : (!(!decide (((lget row1 at0).State) = 0))) = true) => (ldr_ok e_Slot (h27 ga0))) .nil))) ?_
         refine Nif hF (fun hb hF => ?_) (fun hb hF => ?_)
         ·refine VR [] [6] [6, 100000] [100000, 100001] [] [] [(6, (c_Fault x))] [] [] .nil ?_
          cases hF
          exact Wk_ret (hfin _ ⟨[100000, 100001], [100000], [100000, 100001], [], [], [(100000, ⟨0, true, true, true⟩), (100001, ⟨1, false, false, true⟩)], by kernel_rfl⟩)
         ·obtain ⟨h28, hF⟩ := asrt_elim hF
          obtain ⟨h29, h30, hF⟩ := asrt2 hF
          refine VD [.av (e_Slot (lget row1 at0)), .av (e_Slot (lget row1 (w64 (at0 + 1))))] [0, 1, 6, 13] [6, 13, 100000] [100000, 100001] [] [(13, .ptr 13 0)] [(13, [.str (((lget row1 at0).Part).From), .str (((lget row1 (w64 (at0 + 1))).Part).To), .i box1])] [] [] (hc (ldr_ok e_Slot h28) (hc (ixr_ok e_Slot h29) (hc (ldr_ok e_Slot h30) .nil))) ?_
          obtain ⟨x12, h31, hF⟩ := ob_elim hF
          refine VD [.callE [] [100001] [] [] (.row 100001 1) ⟨[], [], [(100001, .o 64 6 1 (x12.map e_Slot))], [], []⟩] [0, 6] [6, 100000] [100000, 100001] [] [] [(100000, [.row 100000 0, .row 100001 1, .i box, .i box1])] [(100001, .o 64 6 1 (x12.map e_Slot))] [] (hc (Pe.ren (slices_Replace_api_Slot_api_Slot_ok at0 (w64 (at0 + 2)) [(⟨(⟨((lget row1 at0).Part).From, ((lget row1 (w64 (at0 + 1))).Part).To, box1⟩ : Part), 0, 0, 0⟩ : Slot)] row1 0 rc1 rn1 x12 h31) ⟨[], [(100000, 100001)], [], []⟩) .nil) ?_
          refine VR [] [0, 6] [6, 100000] [100000, 100001] [] [] [(100000, [.row 100000 0, .row 100001 1, .i box, .i (w64 (box1 + 1))])] [] [] .nil ?_
          exact metP (row, x12, box, w64 (box1 + 1)) [(100000, ⟨0, true, true, true⟩)] hF (by kernel_rfl)
       ·exact metP (row, row1, box, box1) [(100000, ⟨0, true, true, true⟩), (100001, ⟨1, false, false, false⟩)] hF (by kernel_rfl)
 ·intro v hF
  have hF : assign_does_J1 v = some r := hF
  unfold assign_does_J1 at hF
  refine NR [] [6, 243] [6, 100000] [100000, 100001] [(243, .bool ((decide (1000000000 < v.2.2.1)) || (decide (1000000000 < v.2.2.2))))] .nil ?_
  refine Nif hF (fun hb hF => ?_) (fun hb hF => ?_)
  ·obtain ⟨x1, h2, hF⟩ := lt_split hF
   refine VR [.callB (.agg (c_Fault x1))] [6] [6, 100000] [100000, 100001] [] [] [(6, (c_Fault x1))] [] [] (hc (assign_fault_ok 9 0 x1 h2) .nil) ?_
   cases hF
   exact Wk_ret (hfin _ ⟨[100000, 100001], [100000], [100000, 100001], [], [], [(100001, ⟨1, true, true, true⟩)], by kernel_rfl⟩)
  ·refine NR [] [6] [6, 100000] [100000, 100001] [] .nil ?_
   cases hF
   exact Wk_ret (hfin _ ⟨[100000, 100001], [100000], [100000, 100001], [], [], [(100001, ⟨1, true, true, true⟩)], by kernel_rfl⟩)

/- assign.Do -/
noncomputable def assign_Do (b : Board) (o : Order) : Option (List Host × List Slot × Int × Int × Fault) :=
 ob (assign_Check b) fun x =>
 ob (assign_own b) fun x1 =>
 ob (
  if (!decide (x.Code = 0)) = true then
   some (x1.1, x1.2.1, x1.2.2.1, x1.2.2.2, x)
  else
   if (decide (o.Kind = 1)) = true then
    ob (assign_come o.ID x1.2.2.1 x1.2.2.2 x1.1 x1.2.1) fun x2 =>
    some (x2.2.1, x1.2.1, x2.2.2.1, x2.2.2.2, x2.1)
   else
    if (decide (o.Kind = 2)) = true then
     ob (assign_lost o.ID x1.2.2.1 x1.2.2.2 x1.1 x1.2.1) fun x3 =>
     some (x3.2.1, x3.2.2, x1.2.2.1, x1.2.2.2, x3.1)
    else
     if ((decide (o.Kind < 1)) || (decide (8 < o.Kind))) = true then
      lt (assign_fault 4 0) fun x4 =>
      some (x1.1, x1.2.1, x1.2.2.1, x1.2.2.2, x4)
     else
      ob (assign_SlotAt (⟨x1.1, x1.2.1, x1.2.2.1, x1.2.2.2⟩ : Board) o.ID) fun x5 =>
      lt (assign_fault 6 (-1)) fun x6 =>
      if (decide (0 ≤ x5)) = true then
       ob (assign_does x5 o x1.2.2.1 x1.2.2.2 x1.1 x1.2.1) fun x7 =>
       some (x7.2.1, x7.2.2.1, x7.2.2.2.1, x7.2.2.2.2, x7.1)
      else
       some (x1.1, x1.2.1, x1.2.2.1, x1.2.2.2, x6)) fun (v : List Host × List Slot × Int × Int × Fault) =>
 if (!decide (v.2.2.2.2.Code = 0)) = true then
  some (([] : List Host), ([] : List Slot), 0, 0, v.2.2.2.2)
 else
  some (v.1, v.2.1, v.2.2.1, v.2.2.2.1, v.2.2.2.2)
theorem assign_Do_ok (b : Board) (o : Order) (r : List Host × List Slot × Int × Int × Fault) (hF : assign_Do b o = some r) : Pe Try.prog 53 ⟨[], [], [], [], []⟩ [.agg (c_Board b), .agg (c_Order o)] (.tup [.agg [.row 11 0, .row 20011 0, .i r.2.2.1, .i r.2.2.2.1], .agg (c_Fault r.2.2.2.2)]) ⟨[], [], [(11, ⟨108, 3, 0, (r.1.map e_Host).length, 0, false, 0, [], (r.1.map e_Host)⟩), (20011, ⟨64, 6, 0, (r.2.1.map e_Slot).length, 0, false, 0, [], (r.2.1.map e_Slot)⟩)], [], []⟩ := by
 refine PeN (N := 57) (res := [.cell 4 62, .cell 5 26]) (ts := [62, 26]) Ty.ok Fn.b53 Try.func53 ?_
 intro Q g hfin
 unfold assign_Do at hF
 refine VR [] [2, 3, 4, 5] [2, 3, 4, 5] [] [] [(2, .ptr 2 0), (3, .ptr 3 0), (4, .ptr 4 0), (5, .ptr 5 0)] [(2, (c_Board b)), (3, (c_Order o)), (4, [.nils, .nils, .i 0, .i 0]), (5, [.i 0, .i 0])] [] [] .nil ?_
 obtain ⟨x, h0, hF⟩ := ob_elim hF
 refine VR [.callB (.agg (c_Fault x))] [2, 3, 4, 5, 6] [2, 3, 4, 5, 6] [] [] [(6, .ptr 6 0)] [(6, (c_Fault x))] [] [] (hc (assign_Check_ok b x h0) .nil) ?_
 obtain ⟨x1, h1, hF⟩ := ob_elim hF
 refine VR [.callE [] [] [] [] (.agg [.row 11 0, .row 20011 0, .i x1.2.2.1, .i x1.2.2.2]) ⟨[], [], [(11, .o 108 3 0 (x1.1.map e_Host)), (20011, .o 64 6 0 (x1.2.1.map e_Slot))], [], []⟩] [2, 3, 4, 5, 6] [2, 3, 4, 5, 6] [11, 20011] [] [] [(2, [.row 11 0, .row 20011 0, .i x1.2.2.1, .i x1.2.2.2])] [(11, .o 108 3 0 (x1.1.map e_Host)), (20011, .o 64 6 0 (x1.2.1.map e_Slot))] [] (hc (Pe.ren (assign_own_ok b x1 h1) ⟨[], [(5, 11), (8, 20011)], [], []⟩) .nil) ?_
 refine Nblk ?_
 refine NR [] [2, 3, 4, 5, 6, 22] [2, 3, 4, 5, 6] [11, 20011] [(22, .bool (!decide (x.Code = 0)))] .nil ?_
 obtain ⟨v, hv, hF⟩ := ob_elim hF
 refine Nmeet (⟨[(2, .ptr 2 0), (4, .ptr 4 0), (5, .ptr 5 0), (6, .ptr 6 0)], [(2, [.row 11 0, .row 20011 0, .i v.2.2.1, .i v.2.2.2.1]), (4, [.nils, .nils, .i 0, .i 0]), (5, [.i 0, .i 0]), (6, (c_Fault v.2.2.2.2))], [(11, ⟨108, 3, 0, (v.1.map e_Host).length, 0, false, 0, [], (v.1.map e_Host)⟩), (20011, ⟨64, 6, 0, (v.2.1.map e_Slot).length, 0, false, 0, [], (v.2.1.map e_Slot)⟩)], [], []⟩ : S) ?_ ?_
 ·have hF := hv
  refine Nif hF (fun hb hF => ?_) (fun hb hF => ?_)
  ·cases hF
   exact met [(11, ⟨0, true, true, true⟩), (20011, ⟨0, true, true, true⟩)] (by kernel_rfl)
  ·refine NR [] [2, 3, 4, 5, 6, 26] [2, 3, 4, 5, 6] [11, 20011] [(26, .bool (decide (o.Kind = 1)))] .nil ?_
   refine Nif hF (fun hb hF => ?_) (fun hb hF => ?_)
   ·obtain ⟨x2, h2, hF⟩ := ob_elim hF
    refine VR [.callE [2] [11, 20011] [] [] (.agg (c_Fault x2.1)) ⟨[], [(2, [.row 11 1, .row 20011 0, .i x2.2.2.1, .i x2.2.2.2])], [(11, .o 108 3 1 (x2.2.1.map e_Host)), (20011, .o 64 6 0 (x1.2.1.map e_Slot))], [], []⟩] [2, 4, 5, 6] [2, 4, 5, 6] [11, 20011] [] [] [(2, [.row 11 1, .row 20011 0, .i x2.2.2.1, .i x2.2.2.2]), (6, (c_Fault x2.1))] [(11, .o 108 3 1 (x2.2.1.map e_Host))] [] (hc (Pe.ren (assign_come_ok o.ID x1.2.2.1 x1.2.2.2 x1.1 x1.2.1 0 0 false 0 0 false x2 h2) ⟨[(100000, 2)], [(100000, 11), (100001, 20011)], [], []⟩) .nil) ?_
    cases hF
    exact met [(11, ⟨0, true, true, true⟩), (20011, ⟨0, true, true, true⟩)] (by kernel_rfl)
   ·refine NR [] [2, 3, 4, 5, 6, 33] [2, 3, 4, 5, 6] [11, 20011] [(33, .bool (decide (o.Kind = 2)))] .nil ?_
    refine Nif hF (fun hb hF => ?_) (fun hb hF => ?_)
    ·obtain ⟨x3, h3, hF⟩ := ob_elim hF
     refine VR [.callE [2] [11, 20011] [] [] (.agg (c_Fault x3.1)) ⟨[], [(2, [.row 11 0, .row 20011 0, .i x1.2.2.1, .i x1.2.2.2])], [(11, .o 108 3 0 (x3.2.1.map e_Host)), (20011, .o 64 6 0 (x3.2.2.map e_Slot))], [], []⟩] [2, 4, 5, 6] [2, 4, 5, 6] [11, 20011] [] [] [(6, (c_Fault x3.1))] [(11, .o 108 3 0 (x3.2.1.map e_Host)), (20011, .o 64 6 0 (x3.2.2.map e_Slot))] [] (hc (Pe.ren (assign_lost_ok o.ID x1.2.2.1 x1.2.2.2 x1.1 x1.2.1 0 0 false 0 0 false x3 h3) ⟨[(100000, 2)], [(100000, 11), (100001, 20011)], [], []⟩) .nil) ?_
     cases hF
     exact met [(11, ⟨0, true, true, true⟩), (20011, ⟨0, true, true, true⟩)] (by kernel_rfl)
    ·refine NR [] [2, 3, 4, 5, 6, 40] [2, 3, 4, 5, 6] [11, 20011] [(40, .bool ((decide (o.Kind < 1)) || (decide (8 < o.Kind))))] .nil ?_
     refine Nif hF (fun hb hF => ?_) (fun hb hF => ?_)
     ·obtain ⟨x4, h4, hF⟩ := lt_split hF
      refine VR [.callB (.agg (c_Fault x4))] [2, 4, 5, 6] [2, 4, 5, 6] [11, 20011] [] [] [(6, (c_Fault x4))] [] [] (hc (assign_fault_ok 4 0 x4 h4) .nil) ?_
      cases hF
      exact met [(11, ⟨0, true, true, true⟩), (20011, ⟨0, true, true, true⟩)] (by kernel_rfl)
     ·obtain ⟨x5, h5, hF⟩ := ob_elim hF
      refine NR [.callB (.i x5)] [2, 3, 4, 5, 6, 7] [2, 3, 4, 5, 6] [11, 20011] [(7, .i x5)] (hc (assign_SlotAt_ok (⟨x1.1, x1.2.1, x1.2.2.1, x1.2.2.2⟩ : Board) o.ID x5 h5) .nil) ?_
      obtain ⟨x6, h6, hF⟩ := lt_split hF
      refine VR [.callB (.agg (c_Fault x6))] [2, 3, 4, 5, 6, 7] [2, 3, 4, 5, 6] [11, 20011] [] [] [(6, (c_Fault x6))] [] [] (hc (assign_fault_ok 6 (-1) x6 h6) .nil) ?_
      refine NR [] [2, 3, 4, 5, 6, 7, 18] [2, 3, 4, 5, 6] [11, 20011] [(18, .bool (decide (0 ≤ x5)))] .nil ?_
      refine Nif hF (fun hb hF => ?_) (fun hb hF => ?_)
      ·obtain ⟨x7, h7, hF⟩ := ob_elim hF
       refine VR [.callE [2] [11, 20011] [] [] (.agg (c_Fault x7.1)) ⟨[], [(2, [.row 11 0, .row 20011 1, .i x7.2.2.2.1, .i x7.2.2.2.2])], [(11, ⟨108, 3, 0, (x7.2.1.map e_Host).length, 0, false, 0, [], (x7.2.1.map e_Host)⟩), (20011, ⟨64, 6, 1, (x7.2.2.1.map e_Slot).length, 0, false, 0, [], (x7.2.2.1.map e_Slot)⟩)], [], []⟩] [2, 4, 5, 6] [2, 4, 5, 6] [11, 20011] [] [] [(2, [.row 11 0, .row 20011 1, .i x7.2.2.2.1, .i x7.2.2.2.2]), (6, (c_Fault x7.1))] [(11, ⟨108, 3, 0, (x7.2.1.map e_Host).length, 0, false, 0, [], (x7.2.1.map e_Host)⟩), (20011, ⟨64, 6, 1, (x7.2.2.1.map e_Slot).length, 0, false, 0, [], (x7.2.2.1.map e_Slot)⟩)] [] (hc (Pe.ren (assign_does_ok x5 o x1.2.2.1 x1.2.2.2 x1.1 x1.2.1 0 0 false 0 0 false x7 h7) ⟨[(100000, 2)], [(100000, 11), (100001, 20011)], [], []⟩) .nil) ?_
       cases hF
       exact met [(20011, ⟨0, true, true, true⟩)] (by kernel_rfl)
      ·cases hF
       exact met [(11, ⟨0, true, true, true⟩), (20011, ⟨0, true, true, true⟩)] (by kernel_rfl)
 ·refine NR [] [2, 4, 5, 6, 52] [2, 4, 5, 6] [11, 20011] [(52, .bool (!decide (v.2.2.2.2.Code = 0)))] .nil ?_
  refine Nif hF (fun hb hF => ?_) (fun hb hF => ?_)
  ·refine VD [] [4, 5] [4, 5] [] [] [] [(5, (c_Fault v.2.2.2.2))] [] [] .nil ?_
   cases hF
   refine Wk_nilrowB 4 0 60000 108 3 rfl rfl rfl rfl rfl ?_
   refine Wk_nilrowB 4 1 60001 64 6 rfl rfl rfl rfl rfl ?_
   refine Wk_ren' ⟨[], [(60000, 11), (60001, 20011)], [], []⟩ rfl ?_
   exact Wk_ret (hfin _ ⟨[11, 20011], [], [11, 20011], [], [], [(11, ⟨0, true, false, true⟩), (20011, ⟨0, true, false, true⟩)], by kernel_rfl⟩)
  ·refine VD [] [4, 5] [4, 5] [11, 20011] [] [] [(4, [.row 11 0, .row 20011 0, .i v.2.2.1, .i v.2.2.2.1]), (5, (c_Fault v.2.2.2.2))] [] [] .nil ?_
   cases hF
   exact Wk_ret (hfin _ ⟨[11, 20011], [], [11, 20011], [], [], [], by kernel_rfl⟩)

/- assign.Do -/
noncomputable def assign_Do_v1 (b : Board) (o : Order) : Option (Board × Fault) :=
 ob (assign_Check b) fun x =>
 ob (assign_own b) fun x1 =>
 ob (
  if (!decide (x.Code = 0)) = true then
   some (x1.1, x1.2.1, x1.2.2.1, x1.2.2.2, x)
  else
   if (decide (o.Kind = 1)) = true then
    ob (assign_come o.ID x1.2.2.1 x1.2.2.2 x1.1 x1.2.1) fun x2 =>
    some (x2.2.1, x1.2.1, x2.2.2.1, x2.2.2.2, x2.1)
   else
    if (decide (o.Kind = 2)) = true then
     ob (assign_lost o.ID x1.2.2.1 x1.2.2.2 x1.1 x1.2.1) fun x3 =>
     some (x3.2.1, x3.2.2, x1.2.2.1, x1.2.2.2, x3.1)
    else
     if ((decide (o.Kind < 1)) || (decide (8 < o.Kind))) = true then
      lt (assign_fault 4 0) fun x4 =>
      some (x1.1, x1.2.1, x1.2.2.1, x1.2.2.2, x4)
     else
      ob (assign_SlotAt (⟨x1.1, x1.2.1, x1.2.2.1, x1.2.2.2⟩ : Board) o.ID) fun x5 =>
      lt (assign_fault 6 (-1)) fun x6 =>
      if (decide (0 ≤ x5)) = true then
       ob (assign_does x5 o x1.2.2.1 x1.2.2.2 x1.1 x1.2.1) fun x7 =>
       some (x7.2.1, x7.2.2.1, x7.2.2.2.1, x7.2.2.2.2, x7.1)
      else
       some (x1.1, x1.2.1, x1.2.2.1, x1.2.2.2, x6)) fun (v : List Host × List Slot × Int × Int × Fault) =>
 if (!decide (v.2.2.2.2.Code = 0)) = true then
  some ((⟨([] : List Host), ([] : List Slot), 0, 0⟩ : Board), v.2.2.2.2)
 else
  some ((⟨v.1, v.2.1, v.2.2.1, v.2.2.2.1⟩ : Board), v.2.2.2.2)
theorem assign_Do_v1_ok (b : Board) (o : Order) (r : Board × Fault) (hF : assign_Do_v1 b o = some r) : Pe Try.prog 53 S.none [.agg (c_Board b), .agg (c_Order o)] (.tup [.agg (c_Board r.1), .agg (c_Fault r.2)]) S.none := by
 refine PeN (N := 57) (res := [.cell 4 62, .cell 5 26]) (ts := [62, 26]) Ty.ok Fn.b53 Try.func53 ?_
 intro Q g hfin
 unfold assign_Do_v1 at hF
 refine VR [] [2, 3, 4, 5] [2, 3, 4, 5] [] [] [(2, .ptr 2 0), (3, .ptr 3 0), (4, .ptr 4 0), (5, .ptr 5 0)] [(2, (c_Board b)), (3, (c_Order o)), (4, [.nils, .nils, .i 0, .i 0]), (5, [.i 0, .i 0])] [] [] .nil ?_
 obtain ⟨x, h0, hF⟩ := ob_elim hF
 refine VR [.callB (.agg (c_Fault x))] [2, 3, 4, 5, 6] [2, 3, 4, 5, 6] [] [] [(6, .ptr 6 0)] [(6, (c_Fault x))] [] [] (hc (assign_Check_ok b x h0) .nil) ?_
 obtain ⟨x1, h1, hF⟩ := ob_elim hF
 refine VR [.callE [] [] [] [] (.agg [.row 11 0, .row 20011 0, .i x1.2.2.1, .i x1.2.2.2]) ⟨[], [], [(11, .o 108 3 0 (x1.1.map e_Host)), (20011, .o 64 6 0 (x1.2.1.map e_Slot))], [], []⟩] [2, 3, 4, 5, 6] [2, 3, 4, 5, 6] [11, 20011] [] [] [(2, [.row 11 0, .row 20011 0, .i x1.2.2.1, .i x1.2.2.2])] [(11, .o 108 3 0 (x1.1.map e_Host)), (20011, .o 64 6 0 (x1.2.1.map e_Slot))] [] (hc (Pe.ren (assign_own_ok b x1 h1) ⟨[], [(5, 11), (8, 20011)], [], []⟩) .nil) ?_
 refine Nblk ?_
 refine NR [] [2, 3, 4, 5, 6, 22] [2, 3, 4, 5, 6] [11, 20011] [(22, .bool (!decide (x.Code = 0)))] .nil ?_
 obtain ⟨v, hv, hF⟩ := ob_elim hF
 refine Nmeet (⟨[(2, .ptr 2 0), (4, .ptr 4 0), (5, .ptr 5 0), (6, .ptr 6 0)], [(2, [.row 11 0, .row 20011 0, .i v.2.2.1, .i v.2.2.2.1]), (4, [.nils, .nils, .i 0, .i 0]), (5, [.i 0, .i 0]), (6, (c_Fault v.2.2.2.2))], [(11, ⟨108, 3, 0, (v.1.map e_Host).length, 0, false, 0, [], (v.1.map e_Host)⟩), (20011, ⟨64, 6, 0, (v.2.1.map e_Slot).length, 0, false, 0, [], (v.2.1.map e_Slot)⟩)], [], []⟩ : S) ?_ ?_
 ·have hF := hv
  refine Nif hF (fun hb hF => ?_) (fun hb hF => ?_)
  ·cases hF
   exact met [(11, ⟨0, true, true, true⟩), (20011, ⟨0, true, true, true⟩)] (by kernel_rfl)
  ·refine NR [] [2, 3, 4, 5, 6, 26] [2, 3, 4, 5, 6] [11, 20011] [(26, .bool (decide (o.Kind = 1)))] .nil ?_
   refine Nif hF (fun hb hF => ?_) (fun hb hF => ?_)
   ·obtain ⟨x2, h2, hF⟩ := ob_elim hF
    refine VR [.callE [2] [11, 20011] [] [] (.agg (c_Fault x2.1)) ⟨[], [(2, [.row 11 1, .row 20011 0, .i x2.2.2.1, .i x2.2.2.2])], [(11, .o 108 3 1 (x2.2.1.map e_Host)), (20011, .o 64 6 0 (x1.2.1.map e_Slot))], [], []⟩] [2, 4, 5, 6] [2, 4, 5, 6] [11, 20011] [] [] [(2, [.row 11 1, .row 20011 0, .i x2.2.2.1, .i x2.2.2.2]), (6, (c_Fault x2.1))] [(11, .o 108 3 1 (x2.2.1.map e_Host))] [] (hc (Pe.ren (assign_come_ok o.ID x1.2.2.1 x1.2.2.2 x1.1 x1.2.1 0 0 false 0 0 false x2 h2) ⟨[(100000, 2)], [(100000, 11), (100001, 20011)], [], []⟩) .nil) ?_
    cases hF
    exact met [(11, ⟨0, true, true, true⟩), (20011, ⟨0, true, true, true⟩)] (by kernel_rfl)
   ·refine NR [] [2, 3, 4, 5, 6, 33] [2, 3, 4, 5, 6] [11, 20011] [(33, .bool (decide (o.Kind = 2)))] .nil ?_
    refine Nif hF (fun hb hF => ?_) (fun hb hF => ?_)
    ·obtain ⟨x3, h3, hF⟩ := ob_elim hF
     refine VR [.callE [2] [11, 20011] [] [] (.agg (c_Fault x3.1)) ⟨[], [(2, [.row 11 0, .row 20011 0, .i x1.2.2.1, .i x1.2.2.2])], [(11, .o 108 3 0 (x3.2.1.map e_Host)), (20011, .o 64 6 0 (x3.2.2.map e_Slot))], [], []⟩] [2, 4, 5, 6] [2, 4, 5, 6] [11, 20011] [] [] [(6, (c_Fault x3.1))] [(11, .o 108 3 0 (x3.2.1.map e_Host)), (20011, .o 64 6 0 (x3.2.2.map e_Slot))] [] (hc (Pe.ren (assign_lost_ok o.ID x1.2.2.1 x1.2.2.2 x1.1 x1.2.1 0 0 false 0 0 false x3 h3) ⟨[(100000, 2)], [(100000, 11), (100001, 20011)], [], []⟩) .nil) ?_
     cases hF
     exact met [(11, ⟨0, true, true, true⟩), (20011, ⟨0, true, true, true⟩)] (by kernel_rfl)
    ·refine NR [] [2, 3, 4, 5, 6, 40] [2, 3, 4, 5, 6] [11, 20011] [(40, .bool ((decide (o.Kind < 1)) || (decide (8 < o.Kind))))] .nil ?_
     refine Nif hF (fun hb hF => ?_) (fun hb hF => ?_)
     ·obtain ⟨x4, h4, hF⟩ := lt_split hF
      refine VR [.callB (.agg (c_Fault x4))] [2, 4, 5, 6] [2, 4, 5, 6] [11, 20011] [] [] [(6, (c_Fault x4))] [] [] (hc (assign_fault_ok 4 0 x4 h4) .nil) ?_
      cases hF
      exact met [(11, ⟨0, true, true, true⟩), (20011, ⟨0, true, true, true⟩)] (by kernel_rfl)
     ·obtain ⟨x5, h5, hF⟩ := ob_elim hF
      refine NR [.callB (.i x5)] [2, 3, 4, 5, 6, 7] [2, 3, 4, 5, 6] [11, 20011] [(7, .i x5)] (hc (assign_SlotAt_ok (⟨x1.1, x1.2.1, x1.2.2.1, x1.2.2.2⟩ : Board) o.ID x5 h5) .nil) ?_
      obtain ⟨x6, h6, hF⟩ := lt_split hF
      refine VR [.callB (.agg (c_Fault x6))] [2, 3, 4, 5, 6, 7] [2, 3, 4, 5, 6] [11, 20011] [] [] [(6, (c_Fault x6))] [] [] (hc (assign_fault_ok 6 (-1) x6 h6) .nil) ?_
      refine NR [] [2, 3, 4, 5, 6, 7, 18] [2, 3, 4, 5, 6] [11, 20011] [(18, .bool (decide (0 ≤ x5)))] .nil ?_
      refine Nif hF (fun hb hF => ?_) (fun hb hF => ?_)
      ·obtain ⟨x7, h7, hF⟩ := ob_elim hF
       refine VR [.callE [2] [11, 20011] [] [] (.agg (c_Fault x7.1)) ⟨[], [(2, [.row 11 0, .row 20011 1, .i x7.2.2.2.1, .i x7.2.2.2.2])], [(11, ⟨108, 3, 0, (x7.2.1.map e_Host).length, 0, false, 0, [], (x7.2.1.map e_Host)⟩), (20011, ⟨64, 6, 1, (x7.2.2.1.map e_Slot).length, 0, false, 0, [], (x7.2.2.1.map e_Slot)⟩)], [], []⟩] [2, 4, 5, 6] [2, 4, 5, 6] [11, 20011] [] [] [(2, [.row 11 0, .row 20011 1, .i x7.2.2.2.1, .i x7.2.2.2.2]), (6, (c_Fault x7.1))] [(11, ⟨108, 3, 0, (x7.2.1.map e_Host).length, 0, false, 0, [], (x7.2.1.map e_Host)⟩), (20011, ⟨64, 6, 1, (x7.2.2.1.map e_Slot).length, 0, false, 0, [], (x7.2.2.1.map e_Slot)⟩)] [] (hc (Pe.ren (assign_does_ok x5 o x1.2.2.1 x1.2.2.2 x1.1 x1.2.1 0 0 false 0 0 false x7 h7) ⟨[(100000, 2)], [(100000, 11), (100001, 20011)], [], []⟩) .nil) ?_
       cases hF
       exact met [(20011, ⟨0, true, true, true⟩)] (by kernel_rfl)
      ·cases hF
       exact met [(11, ⟨0, true, true, true⟩), (20011, ⟨0, true, true, true⟩)] (by kernel_rfl)
 ·refine NR [] [2, 4, 5, 6, 52] [2, 4, 5, 6] [11, 20011] [(52, .bool (!decide (v.2.2.2.2.Code = 0)))] .nil ?_
  refine Nif hF (fun hb hF => ?_) (fun hb hF => ?_)
  ·refine VD [] [4, 5] [4, 5] [] [] [] [(5, (c_Fault v.2.2.2.2))] [] [] .nil ?_
   cases hF
   exact Wk_ret (hfin _ ⟨[], [], [], [], [], [], by kernel_rfl⟩)
  ·refine VD [] [4, 5] [4, 5] [11, 20011] [] [] [(4, [.row 11 0, .row 20011 0, .i v.2.2.1, .i v.2.2.2.1]), (5, (c_Fault v.2.2.2.2))] [] [] .nil ?_
   cases hF
   exact Wk_ret (hfin _ ⟨[], [], [], [], [], [], by kernel_rfl⟩)

/- assign.Loads -/
noncomputable def assign_Loads_J1 (v : List Int) : Option (List Int) :=
 some v
noncomputable def assign_Loads_B1 (b : Board) (v1 : List Int × Int) : Option ((List Int × Int) ⊕ (List Int)) :=
 if (decide (v1.2 < (b.Slots.length : Int))) = true then
  asrt (0 ≤ v1.2 ∧ v1.2 < (b.Slots.length : Int)) <|
  ob (assign_HostAt b ((lget b.Slots v1.2).Host)) fun x =>
  ob (
   if (decide (0 ≤ x)) = true then
    asrt (0 ≤ x ∧ x < (v1.1.length : Int)) <|
    asrt (0 ≤ x ∧ x < (v1.1.length : Int)) <|
    asrt (0 ≤ x ∧ x < (v1.1.length : Int)) <|
    asrt (0 ≤ x ∧ x < (v1.1.length : Int)) <|
    some (lset v1.1 x (w64 ((lget v1.1 x) + 1)))
   else
    some v1.1) fun (v2 : List Int) =>
  some (Sum.inl (v2, w64 (v1.2 + 1)))
 else
  inrO (assign_Loads_J1 v1.1)
noncomputable def assign_Loads_L1 (b : Board) (v0 : List Int × Int) : Option (List Int) :=
 loopO (fun y => assign_Loads_B1 b y) v0
noncomputable def assign_Loads (b : Board) : Option (List Int) :=
 asrt (0 ≤ ((b.Hosts.length : Int) : Int) ∧ (b.Hosts.length : Int) ≤ (b.Hosts.length : Int) ∧ (b.Hosts.length : Int) * 8 ≤ 140737488351232) <|
 assign_Loads_L1 b ((List.replicate (b.Hosts.length : Int).toNat (0 : Int)), 0)
theorem assign_Loads_ok (b : Board) (r : List Int) (hF : assign_Loads b = some r) : Pe Try.prog 97 ⟨[], [], [], [], []⟩ [.agg (c_Board b)] (.row 10 0) ⟨[], [], [(10, .o 3 1 0 (r.map e_i64))], [], []⟩ := by
 refine PeN (N := 32) (res := [.tmp 2]) (ts := [109]) Ty.ok Fn.b97 Try.func97 ?_
 intro Q g hfin
 unfold assign_Loads at hF
 refine VR [] [1] [1] [] [] [(1, .ptr 1 0)] [(1, (c_Board b))] [] [] .nil ?_
 obtain ⟨h0, hF⟩ := asrt_elim hF
 refine VR [.nat (b.Hosts.length : Int), .xs ((List.replicate (b.Hosts.length : Int).toNat (0 : Int)).map e_i64)] [1, 3] [1] [10] [] [(3, .row 10 0)] [] [(10, .o 3 1 0 ((List.replicate (b.Hosts.length : Int).toNat (0 : Int)).map e_i64))] [] (hc (len_ok e_Host b.Hosts) (hc (mk_ok h0) (hc (rep_ok e_i64 (b.Hosts.length : Int) (0 : Int)) .nil))) ?_
 refine NR [.nat (b.Slots.length : Int)] [1, 3, 12, 13, 14] [1] [10] [(12, .sl 6 (b.Slots.map e_Slot)), (13, .i (b.Slots.length : Int)), (14, .i 0)] (hc (len_ok e_Slot b.Slots) .nil) ?_
 refine NmeetP (fun v : List Int => (⟨[(3, .row 10 0)], [], [(10, .o 3 1 0 (v.map e_i64))], [], []⟩ : S)) (fun v => assign_Loads_J1 v = some r) ?_ ?_
 ·refine Nblk ?_
  unfold assign_Loads_L1 at hF
  refine Niter (fun v1 : List Int × Int => (⟨[(1, .ptr 1 0), (3, .row 10 0), (12, .sl 6 (b.Slots.map e_Slot)), (13, .i (b.Slots.length : Int)), (14, .i v1.2)], [(1, (c_Board b))], [(10, .o 3 1 0 (v1.1.map e_i64))], [], []⟩ : S)) [] hF (by kernel_rfl) ?_
  intro n1 v1 y1 hF ih1 dn1
  unfold assign_Loads_B1 at hF
  refine NR [] [1, 3, 12, 13, 14, 15] [1] [10] [(15, .bool (decide (v1.2 < (b.Slots.length : Int))))] .nil ?_
  refine Nif hF (fun hb hF => ?_) (fun hb hF => ?_)
  ·refine Nblk ?_
   obtain ⟨h1, hF⟩ := asrt_elim hF
   refine VR [.av (e_Slot (lget b.Slots v1.2))] [1, 3, 5, 12, 13, 14] [1, 5] [10] [] [(5, .ptr 5 0)] [(5, [.str (((lget b.Slots v1.2).Part).From), .str (((lget b.Slots v1.2).Part).To), .i (((lget b.Slots v1.2).Part).ID), .i ((lget b.Slots v1.2).State), .i ((lget b.Slots v1.2).Host), .i ((lget b.Slots v1.2).Turn)])] [] [] (hc (idx_ok e_Slot h1) .nil) ?_
   obtain ⟨x, h2, hF⟩ := ob_elim hF
   refine NR [.callB (.i x)] [1, 3, 6, 12, 13, 14] [1] [10] [(6, .i x)] (hc (assign_HostAt_ok b ((lget b.Slots v1.2).Host) x h2) .nil) ?_
   refine NR [] [1, 3, 6, 12, 13, 14, 23] [1] [10] [(23, .bool (decide (0 ≤ x)))] .nil ?_
   obtain ⟨v2, hv, hF⟩ := ob_elim hF
   refine Nmeet (⟨[(1, .ptr 1 0), (3, .row 10 0), (12, .sl 6 (b.Slots.map e_Slot)), (13, .i (b.Slots.length : Int)), (14, .i v1.2)], [(1, (c_Board b))], [(10, .o 3 1 0 (v2.map e_i64))], [], []⟩ : S) ?_ ?_
   ·have hF := hv
    refine Nif hF (fun hb hF => ?_) (fun hb hF => ?_)
    ·obtain ⟨h3, hF⟩ := asrt_elim hF
     obtain ⟨h4, h5, hF⟩ := asrt2 hF
     obtain ⟨h6, hF⟩ := asrt_elim hF
     refine VR [.av (e_i64 (lget v1.1 x)), .av (e_i64 (lget v1.1 x)), .xs ((lset v1.1 x (w64 ((lget v1.1 x) + 1))).map e_i64)] [1, 3, 12, 13, 14] [1] [10] [] [] [] [(10, .o 3 1 0 ((lset v1.1 x (w64 ((lget v1.1 x) + 1))).map e_i64))] [] (hc (ixr_ok e_i64 h3) (hc (ldr_ok e_i64 h4) (hc (ixr_ok e_i64 h5) (hc (ldr_ok e_i64 h6) (hc (set_ok e_i64 v1.1 x (w64 ((lget v1.1 x) + 1))) (hc (Nat.zero_le x.toNat) .nil)))))) ?_
     cases hF
     exact met [] (by kernel_rfl)
    ·cases hF
     exact met [] (by kernel_rfl)
   ·refine NR [] [1, 3, 12, 13, 14] [1] [10] [(14, .i (w64 (v1.2 + 1)))] .nil ?_
    exact Nrnd [] hF ih1 (by kernel_rfl)
  ·refine Nexit rfl ?_
   have hF := inrO_done hF dn1
   exact metP v1.1 [] hF (by kernel_rfl)
 ·intro v hF
  have hF : assign_Loads_J1 v = some r := hF
  unfold assign_Loads_J1 at hF
  refine NR [] [2] [] [10] [(2, .row 10 0)] .nil ?_
  cases hF
  exact Wk_ret (hfin _ ⟨[10], [], [10], [], [], [], by kernel_rfl⟩)

end G
end Go.Proofs.Ytdjlninhfndjfaa
