/- The program's functions as plain functions, and that they are these. Written by a program (dec2.py). -/
import Derived.Test.YtcnngkigpfpalaaGf0
namespace Go.Proofs.Ytcnngkigpfpalaa
open Go Go.Dm
set_option linter.unusedVariables false
set_option linter.unusedSimpArgs false
set_option maxRecDepth 100000
namespace G
/- slices.Index[[]int,int] -/
noncomputable def slices_Index_int_int_J1 (v1 : Unit) : Option Int :=
 some (-1)
noncomputable def slices_Index_int_int_B1 (s0 : List Int) (v : Int) (v2 : Int) : Option (Int ⊕ Int) :=
 if (decide (v2 < (s0.length : Int))) = true then
  asrt (0 ≤ v2 ∧ v2 < (s0.length : Int)) <|
  if (decide (v = (lget s0 v2))) = true then
   some (Sum.inr v2)
  else
   some (Sum.inl (w64 (v2 + 1)))
 else
  inrO (slices_Index_int_int_J1 ())
noncomputable def slices_Index_int_int_L1 (s0 : List Int) (v : Int) (v0 : Int) : Option Int :=
 loopO (fun y => slices_Index_int_int_B1 s0 v y) v0
noncomputable def slices_Index_int_int (s0 : List Int) (v : Int) : Option Int :=
 slices_Index_int_int_L1 s0 v 0
theorem slices_Index_int_int_ok (s0 : List Int) (v : Int) (r : Int) (hF : slices_Index_int_int s0 v = some r) : Pe Try.prog 103 S.none [.sl 1 (s0.map e_i64), .i v] (.i r) S.none := by
 refine PeN 19 [.tmp 4] [3] Ty.ok Fn.b103 Try.func103 ?_
 intro Q g hfin
 unfold slices_Index_int_int at hF
 refine NR [] [0, 1] [] [] [] .nil ?_
 refine NR [.nat (s0.length : Int)] [0, 1, 7, 8] [] [] [(7, .i (s0.length : Int)), (8, .i 0)] (hc (len_ok e_i64 s0) .nil) ?_
 refine NmeetP (fun v1 : Unit => (S.none : S)) (fun v1 => slices_Index_int_int_J1 v1 = some r) ?_ ?_
 ·refine Nblk ?_
  unfold slices_Index_int_int_L1 at hF
  refine Niter (fun v2 : Int => (⟨[(0, .sl 1 (s0.map e_i64)), (1, .i v), (7, .i (s0.length : Int)), (8, .i v2)], [], [], [], []⟩ : S)) [] hF (by kernel_rfl) ?_
  intro n1 v2 y1 hF ih1 dn1
  unfold slices_Index_int_int_B1 at hF
  refine NR [] [0, 1, 7, 8, 9] [] [] [(9, .bool (decide (v2 < (s0.length : Int))))] .nil ?_
  refine Nif hF (fun hb hF => ?_) (fun hb hF => ?_)
  ·refine Nblk ?_
   refine NR [] [0, 1, 5, 7, 8] [] [] [(5, .i v2)] .nil ?_
   obtain ⟨h0, hF⟩ := asrt_elim hF
   refine NR [.av (e_i64 (lget s0 v2))] [0, 1, 5, 7, 8, 16] [] [] [(16, .bool (decide (v = (lget s0 v2))))] (hc (idx_ok e_i64 h0) .nil) ?_
   refine Nif hF (fun hb hF => ?_) (fun hb hF => ?_)
   ·refine NR [] [4] [] [] [(4, .i v2)] .nil ?_
    have hF := ret_done hF dn1
    cases hF
    exact Wk_ret (hfin _ ⟨[], [], [], [], [], [], by kernel_rfl⟩)
   ·refine NR [] [0, 1, 7, 8] [] [] [(8, .i (w64 (v2 + 1)))] .nil ?_
    exact Nrnd [] hF ih1 (by kernel_rfl)
  ·refine Nexit rfl ?_
   have hF := inrO_done hF dn1
   exact metP () [] hF (by kernel_rfl)
 ·intro v1 hF
  have hF : slices_Index_int_int_J1 v1 = some r := hF
  unfold slices_Index_int_int_J1 at hF
  refine NR [] [4] [] [] [(4, .i (-1))] .nil ?_
  cases hF
  exact Wk_ret (hfin _ ⟨[], [], [], [], [], [], by kernel_rfl⟩)

/- slices.Contains[[]int,int] -/
noncomputable def slices_Contains_int_int (s0 : List Int) (v : Int) : Option Bool :=
 ob (slices_Index_int_int s0 v) fun x =>
 some (decide (0 ≤ x))
theorem slices_Contains_int_int_ok (s0 : List Int) (v : Int) (r : Bool) (hF : slices_Contains_int_int s0 v = some r) : Pe Try.prog 93 S.none [.sl 1 (s0.map e_i64), .i v] (.bool r) S.none := by
 refine PeN 9 [.tmp 4] [4] Ty.ok Fn.b93 Try.func93 ?_
 intro Q g hfin
 unfold slices_Contains_int_int at hF
 refine NR [] [0, 1] [] [] [] .nil ?_
 obtain ⟨x, h0, hF⟩ := ob_elim hF
 refine NR [.callB (.i x)] [4] [] [] [(4, .bool (decide (0 ≤ x)))] (hc (slices_Index_int_int_ok s0 v x h0) .nil) ?_
 cases hF
 exact Wk_ret (hfin _ ⟨[], [], [], [], [], [], by kernel_rfl⟩)

/- raft.lead -/
noncomputable def raft_lead_v1_J1 (row : List Entry) (x : Int × Int × Int × Int × Int × Int) (v : List Int) : Option (Int × Int × Int × Int × Int × Int × List Int × List Int) :=
 asrt (0 ≤ x.2.1 ∧ x.2.1 < ((List.replicate x.1.toNat (0 : Int)).length : Int)) <|
 asrt (0 ≤ x.2.1 ∧ x.2.1 < ((List.replicate x.1.toNat (0 : Int)).length : Int)) <|
 ob (raft_count x.1 x.2.1 x.2.2.1 x.2.2.2.1 2 x.2.2.2.2.2 row v (lset (List.replicate x.1.toNat (0 : Int)) x.2.1 (row.length : Int))) fun x1 =>
 some (x1.1, x1.2.1, x1.2.2.1, x1.2.2.2.1, x1.2.2.2.2.1, x1.2.2.2.2.2, v, (lset (List.replicate x.1.toNat (0 : Int)) x.2.1 (row.length : Int)))
noncomputable def raft_lead_v1_B1 (row : List Entry) (x : Int × Int × Int × Int × Int × Int) (v1 : List Int × Int) : Option ((List Int × Int) ⊕ (Int × Int × Int × Int × Int × Int × List Int × List Int)) :=
 if (decide (v1.2 < ((List.replicate x.1.toNat (0 : Int)).length : Int))) = true then
  asrt (0 ≤ v1.2 ∧ v1.2 < (v1.1.length : Int)) <|
  asrt (0 ≤ v1.2 ∧ v1.2 < (v1.1.length : Int)) <|
  some (Sum.inl ((lset v1.1 v1.2 (w64 ((row.length : Int) + 1))), w64 (v1.2 + 1)))
 else
  inrO (raft_lead_v1_J1 row x v1.1)
noncomputable def raft_lead_v1_L1 (row : List Entry) (x : Int × Int × Int × Int × Int × Int) (v0 : List Int × Int) : Option (Int × Int × Int × Int × Int × Int × List Int × List Int) :=
 loopO (fun y => raft_lead_v1_B1 row x y) v0
noncomputable def raft_lead_v1 (box : Int) (box1 : Int) (box2 : Int) (box3 : Int) (box4 : Int) (box5 : Int) (row : List Entry) (row1 : List Int) (row2 : List Int) (row3 : List Int) : Option (Int × Int × Int × Int × Int × Int × List Int × List Int) :=
 lt (raft_follow box box1 box2 box3 box4 box5 row row1 row2 row3) fun x =>
 asrt (0 ≤ (x.1 : Int) ∧ x.1 ≤ x.1 ∧ x.1 * 8 ≤ 140737488351232) <|
 asrt (0 ≤ (x.1 : Int) ∧ x.1 ≤ x.1 ∧ x.1 * 8 ≤ 140737488351232) <|
 raft_lead_v1_L1 row x ((List.replicate x.1.toNat (0 : Int)), 0)
theorem raft_lead_v1_ok (box : Int) (box1 : Int) (box2 : Int) (box3 : Int) (box4 : Int) (box5 : Int) (row : List Entry) (row1 : List Int) (row2 : List Int) (row3 : List Int) (rk : Nat) (rc : Nat) (rn : Bool) (rk1 : Nat) (rc1 : Nat) (rn1 : Bool) (rk2 : Nat) (rc2 : Nat) (rn2 : Bool) (rk3 : Nat) (rc3 : Nat) (rn3 : Bool) (r : Int × Int × Int × Int × Int × Int × List Int × List Int) (hF : raft_lead_v1 box box1 box2 box3 box4 box5 row row1 row2 row3 = some r) : Pe Try.prog 68 ⟨[], [(100000, [.i box, .i box1, .i box2, .i box3, .row 100000 0, .i box4, .i box5, .row 100001 0, .row 100002 0, .row 100003 0])], [(100000, ⟨31, 2, 0, rk, rc, rn, 0, [], (row.map e_Entry)⟩), (100001, ⟨3, 1, 0, rk1, rc1, rn1, 0, [], (row1.map e_i64)⟩), (100002, ⟨3, 1, 0, rk2, rc2, rn2, 0, [], (row2.map e_i64)⟩), (100003, ⟨3, 1, 0, rk3, rc3, rn3, 0, [], (row3.map e_i64)⟩)], [], []⟩ [.ptr 100000 0] (.tup []) ⟨[], [(100000, [.i r.1, .i r.2.1, .i r.2.2.1, .i r.2.2.2.1, .row 100000 0, .i r.2.2.2.2.1, .i r.2.2.2.2.2.1, .nils, .row 18 0, .row 23 0])], [(100000, ⟨31, 2, 0, rk, rc, rn, 0, [], (row.map e_Entry)⟩), (100001, ⟨3, 1, 0, rk1, rc1, rn1, 0, [], (row1.map e_i64)⟩), (100002, ⟨3, 1, 0, rk2, rc2, rn2, 0, [], (row2.map e_i64)⟩), (100003, ⟨3, 1, 0, rk3, rc3, rn3, 0, [], (row3.map e_i64)⟩), (18, .o 3 1 0 (r.2.2.2.2.2.2.1.map e_i64)), (23, .o 3 1 0 (r.2.2.2.2.2.2.2.map e_i64))], [], []⟩ := by
 refine PeN 59 [] [] Ty.ok Fn.b68 Try.func68 ?_
 intro Q g hfin
 unfold raft_lead_v1 at hF
 refine NR [.nat (row.length : Int)] [0, 2] [100000] [100000, 100001, 100002, 100003] [(2, .i (row.length : Int))] (hc (len_ok e_Entry row) .nil) ?_
 obtain ⟨x, h0, hF⟩ := lt_split hF
 refine VR [.callE [100000] [100000, 100001, 100002, 100003] [] [] (.tup []) ⟨[], [(100000, [.i x.1, .i x.2.1, .i x.2.2.1, .i x.2.2.2.1, .row 100000 0, .i x.2.2.2.2.1, .i x.2.2.2.2.2, .nils, .nils, .nils])], [(100000, ⟨31, 2, 0, rk, rc, rn, 0, [], (row.map e_Entry)⟩), (100001, ⟨3, 1, 0, rk1, rc1, rn1, 0, [], (row1.map e_i64)⟩), (100002, ⟨3, 1, 0, rk2, rc2, rn2, 0, [], (row2.map e_i64)⟩), (100003, ⟨3, 1, 0, rk3, rc3, rn3, 0, [], (row3.map e_i64)⟩)], [], []⟩] [0, 2] [100000] [100000, 100001, 100002, 100003] [] [] [(100000, [.i x.1, .i x.2.1, .i x.2.2.1, .i x.2.2.2.1, .row 100000 0, .i x.2.2.2.2.1, .i x.2.2.2.2.2, .nils, .nils, .nils])] [] [] (hc (Pe.ren (raft_follow_ok box box1 box2 box3 box4 box5 row row1 row2 row3 rk rc rn rk1 rc1 rn1 rk2 rc2 rn2 rk3 rc3 rn3 x h0) ⟨[], [], [], []⟩) .nil) ?_
 obtain ⟨h1, h2, hF⟩ := asrt2 hF
 refine VD [.xs ((List.replicate x.1.toNat (0 : Int)).map e_i64), .xs ((List.replicate x.1.toNat (0 : Int)).map e_i64)] [0, 2] [100000] [18, 23, 100000, 100001, 100002, 100003] [] [] [(100000, [.i x.1, .i x.2.1, .i x.2.2.1, .i x.2.2.2.1, .row 100000 0, .i 2, .i x.2.2.2.2.2, .nils, .row 18 0, .row 23 0])] [(18, .o 3 1 0 ((List.replicate x.1.toNat (0 : Int)).map e_i64)), (23, .o 3 1 0 ((List.replicate x.1.toNat (0 : Int)).map e_i64))] [] (hc (mk_ok h1) (hc (rep_ok e_i64 (x.1) (0 : Int)) (hc (mk_ok h2) (hc (rep_ok e_i64 (x.1) (0 : Int)) .nil)))) ?_
 refine NR [.nat ((List.replicate x.1.toNat (0 : Int)).length : Int)] [0, 2, 34, 35] [100000] [18, 23, 100000, 100001, 100002, 100003] [(34, .i ((List.replicate x.1.toNat (0 : Int)).length : Int)), (35, .i 0)] (hc (len_ok e_i64 (List.replicate x.1.toNat (0 : Int))) .nil) ?_
 refine NmeetP (fun v : List Int => (⟨[(0, .ptr 100000 0), (2, .i (row.length : Int))], [(100000, [.i x.1, .i x.2.1, .i x.2.2.1, .i x.2.2.2.1, .row 100000 0, .i 2, .i x.2.2.2.2.2, .nils, .row 18 0, .row 23 0])], [(18, .o 3 1 0 (v.map e_i64)), (23, .o 3 1 0 ((List.replicate x.1.toNat (0 : Int)).map e_i64)), (100000, ⟨31, 2, 0, rk, rc, rn, 0, [], (row.map e_Entry)⟩), (100001, ⟨3, 1, 0, rk1, rc1, rn1, 0, [], (row1.map e_i64)⟩), (100002, ⟨3, 1, 0, rk2, rc2, rn2, 0, [], (row2.map e_i64)⟩), (100003, ⟨3, 1, 0, rk3, rc3, rn3, 0, [], (row3.map e_i64)⟩)], [], []⟩ : S)) (fun v => raft_lead_v1_J1 row x v = some r) ?_ ?_
 ·refine Nblk ?_
  unfold raft_lead_v1_L1 at hF
  refine Niter (fun v1 : List Int × Int => (⟨[(0, .ptr 100000 0), (2, .i (row.length : Int)), (34, .i ((List.replicate x.1.toNat (0 : Int)).length : Int)), (35, .i v1.2)], [(100000, [.i x.1, .i x.2.1, .i x.2.2.1, .i x.2.2.2.1, .row 100000 0, .i 2, .i x.2.2.2.2.2, .nils, .row 18 0, .row 23 0])], [(18, .o 3 1 0 (v1.1.map e_i64)), (23, .o 3 1 0 ((List.replicate x.1.toNat (0 : Int)).map e_i64)), (100000, ⟨31, 2, 0, rk, rc, rn, 0, [], (row.map e_Entry)⟩), (100001, ⟨3, 1, 0, rk1, rc1, rn1, 0, [], (row1.map e_i64)⟩), (100002, ⟨3, 1, 0, rk2, rc2, rn2, 0, [], (row2.map e_i64)⟩), (100003, ⟨3, 1, 0, rk3, rc3, rn3, 0, [], (row3.map e_i64)⟩)], [], []⟩ : S)) [] hF (by kernel_rfl) ?_
  intro n1 v1 y1 hF ih1 dn1
  unfold raft_lead_v1_B1 at hF
  refine NR [] [0, 2, 34, 35, 36] [100000] [18, 23, 100000, 100001, 100002, 100003] [(36, .bool (decide (v1.2 < ((List.replicate x.1.toNat (0 : Int)).length : Int))))] .nil ?_
  refine Nif hF (fun hb hF => ?_) (fun hb hF => ?_)
  ·refine Nblk ?_
   refine NR [] [0, 2, 3, 34, 35] [100000] [18, 23, 100000, 100001, 100002, 100003] [(3, .i v1.2)] .nil ?_
   obtain ⟨h6, h7, hF⟩ := asrt2 hF
   refine VR [.av (e_i64 (lget v1.1 v1.2)), .xs ((lset v1.1 v1.2 (w64 ((row.length : Int) + 1))).map e_i64)] [0, 2, 34, 35] [100000] [18, 23, 100000, 100001, 100002, 100003] [] [] [] [(18, .o 3 1 0 ((lset v1.1 v1.2 (w64 ((row.length : Int) + 1))).map e_i64))] [] (hc (ixr_ok e_i64 h6) (hc (ldr_ok e_i64 h7) (hc (set_ok e_i64 v1.1 v1.2 (w64 ((row.length : Int) + 1))) (hc (Nat.zero_le v1.2.toNat) .nil)))) ?_
   refine NR [] [0, 2, 34, 35] [100000] [18, 23, 100000, 100001, 100002, 100003] [(35, .i (w64 (v1.2 + 1)))] .nil ?_
   exact Nrnd [] hF ih1 (by kernel_rfl)
  ·refine Nexit rfl ?_
   have hF := inrO_done hF dn1
   exact metP v1.1 [] hF (by kernel_rfl)
 ·intro v hF
  have hF : raft_lead_v1_J1 row x v = some r := hF
  unfold raft_lead_v1_J1 at hF
  obtain ⟨h3, h4, hF⟩ := asrt2 hF
  refine VD [.av (e_i64 (lget (List.replicate x.1.toNat (0 : Int)) x.2.1)), .xs ((lset (List.replicate x.1.toNat (0 : Int)) x.2.1 (row.length : Int)).map e_i64)] [0] [100000] [18, 23, 100000, 100001, 100002, 100003] [] [] [] [(23, .o 3 1 0 ((lset (List.replicate x.1.toNat (0 : Int)) x.2.1 (row.length : Int)).map e_i64))] [] (hc (ixr_ok e_i64 h3) (hc (ldr_ok e_i64 h4) (hc (set_ok e_i64 (List.replicate x.1.toNat (0 : Int)) x.2.1 (row.length : Int)) (hc (Nat.zero_le x.2.1.toNat) .nil)))) ?_
  obtain ⟨x1, h5, hF⟩ := ob_elim hF
  refine VR [.callE [100000] [100000, 18, 23] [] [] (.tup []) ⟨[], [(100000, [.i x1.1, .i x1.2.1, .i x1.2.2.1, .i x1.2.2.2.1, .row 100000 0, .i x1.2.2.2.2.1, .i x1.2.2.2.2.2, .nils, .row 18 0, .row 23 0])], [(100000, ⟨31, 2, 0, rk, rc, rn, 0, [], (row.map e_Entry)⟩), (18, .o 3 1 0 (v.map e_i64)), (23, .o 3 1 0 ((lset (List.replicate x.1.toNat (0 : Int)) x.2.1 (row.length : Int)).map e_i64))], [], []⟩] [] [100000] [18, 23, 100000, 100001, 100002, 100003] [] [] [(100000, [.i x1.1, .i x1.2.1, .i x1.2.2.1, .i x1.2.2.2.1, .row 100000 0, .i x1.2.2.2.2.1, .i x1.2.2.2.2.2, .nils, .row 18 0, .row 23 0])] [] [] (hc (Pe.ren (raft_count_ok x.1 x.2.1 x.2.2.1 x.2.2.2.1 2 x.2.2.2.2.2 row v (lset (List.replicate x.1.toNat (0 : Int)) x.2.1 (row.length : Int)) rk rc rn 0 0 false 0 0 false x1 h5) ⟨[], [(100001, 18), (100002, 23)], [], []⟩) .nil) ?_
  cases hF
  exact Wk_end (hfin _ ⟨[100000, 100001, 100002, 100003, 18, 23], [100000], [100000, 100001, 100002, 100003, 18, 23], [], [], [], by kernel_rfl⟩)

/- raft.beats$1 -/
noncomputable def raft_beats_1_v2 (to0 : Int) (box : Int) (box1 : Int) (box2 : Int) (box3 : Int) (box4 : List Entry) (box5 : Int) (box6 : Int) (row : List Int) (row1 : List Int) : Option (Int × Int × Int × Int × Int × Int × Int × List Entry × Bool) :=
 asrt (0 ≤ to0 ∧ to0 < (row.length : Int)) <|
 asrt (0 ≤ to0 ∧ to0 < (row.length : Int)) <|
 ob (entry_TermAt box4 (w64 ((lget row to0) - 1))) fun x =>
 asrt (0 ≤ w64 ((lget row to0) - 1) ∧ w64 ((lget row to0) - 1) ≤ (min (w64 ((w64 ((lget row to0) - 1)) + 5)) (box4.length : Int)) ∧ (min (w64 ((w64 ((lget row to0) - 1)) + 5)) (box4.length : Int)) ≤ (box4.length : Int)) <|
 ob (slices_Clone_api_Entry_api_Entry (ldrop (ltake box4 (min (w64 ((w64 ((lget row to0) - 1)) + 5)) (box4.length : Int))) (w64 ((lget row to0) - 1)))) fun x1 =>
 some (3, 0, 0, 0, w64 ((lget row to0) - 1), x, box6, x1, false)
theorem raft_beats_1_v2_ok (to0 : Int) (box : Int) (box1 : Int) (box2 : Int) (box3 : Int) (box4 : List Entry) (box5 : Int) (box6 : Int) (row : List Int) (row1 : List Int) (rk : Nat) (rc : Nat) (rn : Bool) (rk1 : Nat) (rc1 : Nat) (rn1 : Bool) (r : Int × Int × Int × Int × Int × Int × Int × List Entry × Bool) (hF : raft_beats_1_v2 to0 box box1 box2 box3 box4 box5 box6 row row1 = some r) : Pe Try.prog 91 ⟨[], [(100000, [.ptr 100001 0]), (100001, [.i box, .i box1, .i box2, .i box3, .sl 2 (box4.map e_Entry), .i box5, .i box6, .nils, .row 100000 0, .row 100001 0])], [(100000, ⟨3, 1, 0, rk, rc, rn, 0, [], (row.map e_i64)⟩), (100001, ⟨3, 1, 0, rk1, rc1, rn1, 0, [], (row1.map e_i64)⟩)], [], []⟩ [.i to0, .ptr 100000 0] (.agg [.i r.1, .i r.2.1, .i r.2.2.1, .i r.2.2.2.1, .i r.2.2.2.2.1, .i r.2.2.2.2.2.1, .i r.2.2.2.2.2.2.1, .row 38 0, .bool r.2.2.2.2.2.2.2.2]) ⟨[], [(100000, [.ptr 100001 0]), (100001, [.i box, .i box1, .i box2, .i box3, .sl 2 (box4.map e_Entry), .i box5, .i box6, .nils, .row 100000 0, .row 100001 0])], [(100000, ⟨3, 1, 0, rk, rc, rn, 0, [], (row.map e_i64)⟩), (100001, ⟨3, 1, 0, rk1, rc1, rn1, 0, [], (row1.map e_i64)⟩), (38, .o 31 2 0 (r.2.2.2.2.2.2.2.1.map e_Entry))], [], []⟩ := by
 refine PeN 40 [.cell 3 62] [62] Ty.ok Fn.b91 Try.func91 ?_
 intro Q g hfin
 unfold raft_beats_1_v2 at hF
 refine VR [] [0, 1, 3] [3, 100000, 100001] [100000, 100001] [] [(3, .ptr 3 0)] [(3, [.i 0, .i 0, .i 0, .i 0, .i 0, .i 0, .i 0, .nils, .bool false])] [] [] .nil ?_
 obtain ⟨h0, h1, hF⟩ := asrt2 hF
 refine NR [.av (e_i64 (lget row to0))] [1, 3, 4] [3, 100000, 100001] [100000, 100001] [(4, .i (w64 ((lget row to0) - 1)))] (hc (ixr_ok e_i64 h0) (hc (ldr_ok e_i64 h1) .nil)) ?_
 obtain ⟨x, h2, hF⟩ := ob_elim hF
 obtain ⟨h3, hF⟩ := asrt_elim hF
 obtain ⟨x1, h4, hF⟩ := ob_elim hF
 refine VD [.callB (.i x), .nat (box4.length : Int), .xs ((ldrop (ltake box4 (min (w64 ((w64 ((lget row to0) - 1)) + 5)) (box4.length : Int))) (w64 ((lget row to0) - 1))).map e_Entry), .callE [] [] [] [] (.row 38 0) ⟨[], [], [(38, .o 31 2 0 (x1.map e_Entry))], [], []⟩] [3] [3, 100000, 100001] [38, 100000, 100001] [] [] [(3, [.i 3, .i 0, .i 0, .i 0, .i (w64 ((lget row to0) - 1)), .i x, .i box6, .row 38 0, .bool false])] [(38, .o 31 2 0 (x1.map e_Entry))] [] (hc (entry_TermAt_ok box4 (w64 ((lget row to0) - 1)) x h2) (hc (len_ok e_Entry box4) (hc (sl11_ok e_Entry h3) (hc (Pe.ren (slices_Clone_api_Entry_api_Entry_ok (ldrop (ltake box4 (min (w64 ((w64 ((lget row to0) - 1)) + 5)) (box4.length : Int))) (w64 ((lget row to0) - 1))) x1 h4) ⟨[], [(5, 38)], [], []⟩) .nil)))) ?_
 cases hF
 exact Wk_ret (hfin _ ⟨[100000, 100001, 38], [100000, 100001], [100000, 100001, 38], [], [], [], by kernel_rfl⟩)

/- raft.others -/
noncomputable def raft_others_v2_J1 (v : List Mail × Int × Int × Int × Int × List Entry × Int × Int × List Entry) : Option (List Mail × Int × Int × Int × Int × List Entry × Int × Int × List Entry) :=
 some (v.1, v.2.1, v.2.2.1, v.2.2.2.1, v.2.2.2.2.1, v.2.2.2.2.2.1, v.2.2.2.2.2.2.1, v.2.2.2.2.2.2.2.1, v.2.2.2.2.2.2.2.2)
noncomputable def raft_others_v2_B1 (box : Int) (row1 : List Int) (row2 : List Int) (v1 : Int × Int × Int × Int × List Entry × Int × Int × List Mail × Int × List Entry) : Option ((Int × Int × Int × Int × List Entry × Int × Int × List Mail × Int × List Entry) ⊕ (List Mail × Int × Int × Int × Int × List Entry × Int × Int × List Entry)) :=
 if (decide (v1.2.2.2.2.2.2.2.2.1 < box)) = true then
  ob (
   if (!decide (v1.2.2.2.2.2.2.2.2.1 = v1.2.1)) = true then
    ob (raft_beats_1_v2 v1.2.2.2.2.2.2.2.2.1 v1.1 v1.2.1 v1.2.2.1 v1.2.2.2.1 v1.2.2.2.2.1 v1.2.2.2.2.2.1 v1.2.2.2.2.2.2.1 row1 row2) fun x =>
    asrt (((v1.2.2.2.2.2.2.2.1 ++ [(⟨x.1, v1.2.1, v1.2.2.2.2.2.2.2.2.1, v1.2.2.1, x.2.2.2.2.1, x.2.2.2.2.2.1, x.2.2.2.2.2.2.1, x.2.2.2.2.2.2.2.1, x.2.2.2.2.2.2.2.2⟩ : Mail)]).length : Int) * 88 ≤ 140737488351232) <|
    lt ((v1.2.2.2.2.2.2.2.1 ++ [(⟨x.1, v1.2.1, v1.2.2.2.2.2.2.2.2.1, v1.2.2.1, x.2.2.2.2.1, x.2.2.2.2.2.1, x.2.2.2.2.2.2.1, x.2.2.2.2.2.2.2.1, x.2.2.2.2.2.2.2.2⟩ : Mail)])) fun (v3 : List Mail) =>
    some v3
   else
    some v1.2.2.2.2.2.2.2.1) fun (v2 : List Mail) =>
  some (Sum.inl (v1.1, v1.2.1, v1.2.2.1, v1.2.2.2.1, v1.2.2.2.2.1, v1.2.2.2.2.2.1, v1.2.2.2.2.2.2.1, v2, w64 (v1.2.2.2.2.2.2.2.2.1 + 1), v1.2.2.2.2.2.2.2.2.2))
 else
  inrO (raft_others_v2_J1 (v1.2.2.2.2.2.2.2.1, v1.1, v1.2.1, v1.2.2.1, v1.2.2.2.1, v1.2.2.2.2.1, v1.2.2.2.2.2.1, v1.2.2.2.2.2.2.1, v1.2.2.2.2.2.2.2.2.2))
noncomputable def raft_others_v2_L1 (box : Int) (row1 : List Int) (row2 : List Int) (v0 : Int × Int × Int × Int × List Entry × Int × Int × List Mail × Int × List Entry) : Option (List Mail × Int × Int × Int × Int × List Entry × Int × Int × List Entry) :=
 loopO (fun y => raft_others_v2_B1 box row1 row2 y) v0
noncomputable def raft_others_v2 (box : Int) (box1 : Int) (box2 : Int) (box3 : Int) (box4 : Int) (box5 : Int) (row : List Entry) (row1 : List Int) (row2 : List Int) : Option (List Mail × Int × Int × Int × Int × List Entry × Int × Int × List Entry) :=
 raft_others_v2_L1 box row1 row2 (box, box1, box2, box3, row, box4, box5, ([] : List Mail), 0, row)
theorem raft_others_v2_ok (box : Int) (box1 : Int) (box2 : Int) (box3 : Int) (box4 : Int) (box5 : Int) (row : List Entry) (row1 : List Int) (row2 : List Int) (rk : Nat) (rc : Nat) (rn : Bool) (rk1 : Nat) (rc1 : Nat) (rn1 : Bool) (rk2 : Nat) (rc2 : Nat) (rn2 : Bool) (r : List Mail × Int × Int × Int × Int × List Entry × Int × Int × List Entry) (hF : raft_others_v2 box box1 box2 box3 box4 box5 row row1 row2 = some r) : Pe Try.prog 66 ⟨[], [(100000, [.i box, .i box1, .i box2, .i box3, .row 100000 0, .i box4, .i box5, .nils, .row 100001 0, .row 100002 0]), (100001, [.ptr 100000 0])], [(100000, ⟨31, 2, 0, rk, rc, rn, 0, [], (row.map e_Entry)⟩), (100001, ⟨3, 1, 0, rk1, rc1, rn1, 0, [], (row1.map e_i64)⟩), (100002, ⟨3, 1, 0, rk2, rc2, rn2, 0, [], (row2.map e_i64)⟩)], [], []⟩ [.ptr 100000 0, .fn 91 [.ptr 100001 0]] (.row 39 0) ⟨[], [(100000, [.i r.2.1, .i r.2.2.1, .i r.2.2.2.1, .i r.2.2.2.2.1, .sl 2 (r.2.2.2.2.2.1.map e_Entry), .i r.2.2.2.2.2.2.1, .i r.2.2.2.2.2.2.2.1, .nils, .row 100001 0, .row 100002 0]), (100001, [.ptr 100000 0])], [(100000, ⟨31, 2, 0, (r.2.2.2.2.2.2.2.2.map e_Entry).length, rc, rn, 0, [], (r.2.2.2.2.2.2.2.2.map e_Entry)⟩), (100001, ⟨3, 1, 0, rk1, rc1, rn1, 0, [], (row1.map e_i64)⟩), (100002, ⟨3, 1, 0, rk2, rc2, rn2, 0, [], (row2.map e_i64)⟩), (39, .z 62 9 0 (r.1.map e_Mail))], [], []⟩ := by
 refine PeN 42 [.tmp 4] [50] Ty.ok Fn.b66 Try.func66 ?_
 intro Q g hfin
 unfold raft_others_v2 at hF
 refine NR [] [0, 1] [100000, 100001] [100000, 100001, 100002] [] .nil ?_
 refine NR [] [0, 1, 5] [100000, 100001] [100000, 100001, 100002] [(5, .nils)] .nil ?_
 refine NR [] [0, 1, 5, 11, 12] [100000, 100001] [100000, 100001, 100002] [(11, .i box), (12, .i 0)] .nil ?_
 refine NmeetP (fun v : List Mail × Int × Int × Int × Int × List Entry × Int × Int × List Entry => (⟨[(5, .row 39 0)], [(100000, [.i v.2.1, .i v.2.2.1, .i v.2.2.2.1, .i v.2.2.2.2.1, .sl 2 (v.2.2.2.2.2.1.map e_Entry), .i v.2.2.2.2.2.2.1, .i v.2.2.2.2.2.2.2.1, .nils, .row 100001 0, .row 100002 0]), (100001, [.ptr 100000 0])], [(39, .z 62 9 0 (v.1.map e_Mail)), (100000, ⟨31, 2, 0, (v.2.2.2.2.2.2.2.2.map e_Entry).length, rc, rn, 0, [], (v.2.2.2.2.2.2.2.2.map e_Entry)⟩), (100001, ⟨3, 1, 0, rk1, rc1, rn1, 0, [], (row1.map e_i64)⟩), (100002, ⟨3, 1, 0, rk2, rc2, rn2, 0, [], (row2.map e_i64)⟩)], [], []⟩ : S)) (fun v => raft_others_v2_J1 v = some r) ?_ ?_
 ·refine Nblk ?_
  unfold raft_others_v2_L1 at hF
  refine Wk_nilrow 5 60000 62 9 rfl rfl rfl ?_
  refine Wk_sealBX [100001, 100002] 100000 rfl rfl ?_
  refine Wk_trim (fs := [0, 1, 5, 11, 12]) (bs := [100000, 100001]) (rs := [60000, 100000, 100001, 100002]) (ms := []) (aa := []) (nv := []) rfl ?_
  refine Wk_ren' ⟨[], [(60000, 39)], [], []⟩ rfl ?_
  refine Niter (fun v1 : Int × Int × Int × Int × List Entry × Int × Int × List Mail × Int × List Entry => (⟨[(0, .ptr 100000 0), (1, .fn 91 [.ptr 100001 0]), (5, .row 39 0), (11, .i box), (12, .i v1.2.2.2.2.2.2.2.2.1)], [(100000, [.i v1.1, .i v1.2.1, .i v1.2.2.1, .i v1.2.2.2.1, .sl 2 (v1.2.2.2.2.1.map e_Entry), .i v1.2.2.2.2.2.1, .i v1.2.2.2.2.2.2.1, .nils, .row 100001 0, .row 100002 0]), (100001, [.ptr 100000 0])], [(39, .z 62 9 0 (v1.2.2.2.2.2.2.2.1.map e_Mail)), (100000, ⟨31, 2, 0, (v1.2.2.2.2.2.2.2.2.2.map e_Entry).length, rc, rn, 0, [], (v1.2.2.2.2.2.2.2.2.2.map e_Entry)⟩), (100001, ⟨3, 1, 0, rk1, rc1, rn1, 0, [], (row1.map e_i64)⟩), (100002, ⟨3, 1, 0, rk2, rc2, rn2, 0, [], (row2.map e_i64)⟩)], [], []⟩ : S)) [] hF (by kernel_rfl) ?_
  intro n1 v1 y1 hF ih1 dn1
  unfold raft_others_v2_B1 at hF
  refine NR [] [0, 1, 5, 11, 12, 13] [100000, 100001] [39, 100000, 100001, 100002] [(13, .bool (decide (v1.2.2.2.2.2.2.2.2.1 < box)))] .nil ?_
  refine Nif hF (fun hb hF => ?_) (fun hb hF => ?_)
  ·refine Nblk ?_
   refine NR [] [0, 1, 5, 6, 11, 12] [100000, 100001] [39, 100000, 100001, 100002] [(6, .i v1.2.2.2.2.2.2.2.2.1)] .nil ?_
   refine NR [] [0, 1, 5, 6, 11, 12, 20] [100000, 100001] [39, 100000, 100001, 100002] [(20, .bool (!decide (v1.2.2.2.2.2.2.2.2.1 = v1.2.1)))] .nil ?_
   obtain ⟨v2, hv, hF⟩ := ob_elim hF
   refine Nmeet (⟨[(0, .ptr 100000 0), (1, .fn 91 [.ptr 100001 0]), (5, .row 39 0), (11, .i box), (12, .i v1.2.2.2.2.2.2.2.2.1)], [(100000, [.i v1.1, .i v1.2.1, .i v1.2.2.1, .i v1.2.2.2.1, .sl 2 (v1.2.2.2.2.1.map e_Entry), .i v1.2.2.2.2.2.1, .i v1.2.2.2.2.2.2.1, .nils, .row 100001 0, .row 100002 0]), (100001, [.ptr 100000 0])], [(39, .z 62 9 0 (v2.map e_Mail)), (100000, ⟨31, 2, 0, (v1.2.2.2.2.2.2.2.2.2.map e_Entry).length, rc, rn, 0, [], (v1.2.2.2.2.2.2.2.2.2.map e_Entry)⟩), (100001, ⟨3, 1, 0, rk1, rc1, rn1, 0, [], (row1.map e_i64)⟩), (100002, ⟨3, 1, 0, rk2, rc2, rn2, 0, [], (row2.map e_i64)⟩)], [], []⟩ : S) ?_ ?_
   ·have hF := hv
    refine Nif hF (fun hb hF => ?_) (fun hb hF => ?_)
    ·obtain ⟨x, h0, hF⟩ := ob_elim hF
     refine VR [.callE [100001, 100000] [100001, 100002] [] [] (.agg [.i x.1, .i x.2.1, .i x.2.2.1, .i x.2.2.2.1, .i x.2.2.2.2.1, .i x.2.2.2.2.2.1, .i x.2.2.2.2.2.2.1, .row 23 0, .bool x.2.2.2.2.2.2.2.2]) ⟨[], [(100001, [.ptr 100000 0]), (100000, [.i v1.1, .i v1.2.1, .i v1.2.2.1, .i v1.2.2.2.1, .sl 2 (v1.2.2.2.2.1.map e_Entry), .i v1.2.2.2.2.2.1, .i v1.2.2.2.2.2.2.1, .nils, .row 100001 0, .row 100002 0])], [(100001, ⟨3, 1, 0, rk1, rc1, rn1, 0, [], (row1.map e_i64)⟩), (100002, ⟨3, 1, 0, rk2, rc2, rn2, 0, [], (row2.map e_i64)⟩), (23, .o 31 2 0 (x.2.2.2.2.2.2.2.1.map e_Entry))], [], []⟩] [0, 1, 5, 6, 7, 11, 12] [7, 100000, 100001] [23, 39, 100000, 100001, 100002] [] [(7, .ptr 7 0)] [(7, [.i x.1, .i x.2.1, .i x.2.2.1, .i x.2.2.2.1, .i x.2.2.2.2.1, .i x.2.2.2.2.2.1, .i x.2.2.2.2.2.2.1, .row 23 0, .bool x.2.2.2.2.2.2.2.2])] [(23, .o 31 2 0 (x.2.2.2.2.2.2.2.1.map e_Entry))] [] (hc (Pe.ren (raft_beats_1_v2_ok v1.2.2.2.2.2.2.2.2.1 v1.1 v1.2.1 v1.2.2.1 v1.2.2.2.1 v1.2.2.2.2.1 v1.2.2.2.2.2.1 v1.2.2.2.2.2.2.1 row1 row2 rk1 rc1 rn1 rk2 rc2 rn2 x h0) ⟨[(100000, 100001)], [(100000, 100001), (100000, 100002), (38, 23)], [], []⟩) .nil) ?_
     refine VD [] [0, 1, 5, 7, 11, 12] [7, 100000, 100001] [23, 39, 100000, 100001, 100002] [] [] [(7, [.i x.1, .i v1.2.1, .i v1.2.2.2.2.2.2.2.2.1, .i v1.2.2.1, .i x.2.2.2.2.1, .i x.2.2.2.2.2.1, .i x.2.2.2.2.2.2.1, .row 23 0, .bool x.2.2.2.2.2.2.2.2])] [] [] .nil ?_
     obtain ⟨h1, hF⟩ := asrt_elim hF
     refine NRL ((v1.2.2.2.2.2.2.2.1 ++ [(⟨x.1, v1.2.1, v1.2.2.2.2.2.2.2.2.1, v1.2.2.1, x.2.2.2.2.1, x.2.2.2.2.2.1, x.2.2.2.2.2.2.1, x.2.2.2.2.2.2.2.1, x.2.2.2.2.2.2.2.2⟩ : Mail)])) (fun v3 : List Mail => ([(5, .row 39 1)], [], [(39, .z 62 9 1 (v3.map e_Mail))], [])) [.sealed, .xs ((v1.2.2.2.2.2.2.2.1 ++ [(⟨x.1, v1.2.1, v1.2.2.2.2.2.2.2.2.1, v1.2.2.1, x.2.2.2.2.1, x.2.2.2.2.2.1, x.2.2.2.2.2.2.1, x.2.2.2.2.2.2.2.1, x.2.2.2.2.2.2.2.2⟩ : Mail)]).map e_Mail)] [0, 1, 5, 11, 12] [100000, 100001] [39, 100000, 100001, 100002] [] (hc (app_ok e_Mail v1.2.2.2.2.2.2.2.1 [(⟨x.1, v1.2.1, v1.2.2.2.2.2.2.2.2.1, v1.2.2.1, x.2.2.2.2.1, x.2.2.2.2.2.1, x.2.2.2.2.2.2.1, x.2.2.2.2.2.2.2.1, x.2.2.2.2.2.2.2.2⟩ : Mail)]) (hc (appl_ok e_Mail h1) .nil)) (fun v3 hv => ?_)
     have hF := lt_elim hF hv
     cases hF
     exact met [(39, ⟨0, true, true, false⟩)] (by kernel_rfl)
    ·cases hF
     exact met [] (by kernel_rfl)
   ·refine NR [] [0, 1, 5, 11, 12] [100000, 100001] [39, 100000, 100001, 100002] [(12, .i (w64 (v1.2.2.2.2.2.2.2.2.1 + 1)))] .nil ?_
    exact Nrnd [] hF ih1 (by kernel_rfl)
  ·refine Nexit rfl ?_
   have hF := inrO_done hF dn1
   exact metP (v1.2.2.2.2.2.2.2.1, v1.1, v1.2.1, v1.2.2.1, v1.2.2.2.1, v1.2.2.2.2.1, v1.2.2.2.2.2.1, v1.2.2.2.2.2.2.1, v1.2.2.2.2.2.2.2.2.2) [] hF (by kernel_rfl)
 ·intro v hF
  have hF : raft_others_v2_J1 v = some r := hF
  unfold raft_others_v2_J1 at hF
  refine NR [] [4] [100000, 100001] [39, 100000, 100001, 100002] [(4, .row 39 0)] .nil ?_
  cases hF
  exact Wk_ret (hfin _ ⟨[100000, 100001, 100002, 39], [100000, 100001], [100000, 100001, 100002, 39], [], [], [], by kernel_rfl⟩)

/- raft.beats -/
noncomputable def raft_beats_v1 (box : Int) (box1 : Int) (box2 : Int) (box3 : Int) (box4 : Int) (box5 : Int) (row : List Entry) (row1 : List Int) (row2 : List Int) : Option (List Mail × Int × Int × Int × Int × List Entry × Int × Int × List Entry) :=
 ob (raft_others_v2 box box1 box2 box3 box4 box5 row row1 row2) fun x =>
 some (x.1, x.2.1, x.2.2.1, x.2.2.2.1, x.2.2.2.2.1, x.2.2.2.2.2.1, x.2.2.2.2.2.2.1, x.2.2.2.2.2.2.2.1, x.2.2.2.2.2.2.2.2)
theorem raft_beats_v1_ok (box : Int) (box1 : Int) (box2 : Int) (box3 : Int) (box4 : Int) (box5 : Int) (row : List Entry) (row1 : List Int) (row2 : List Int) (rk : Nat) (rc : Nat) (rn : Bool) (rk1 : Nat) (rc1 : Nat) (rn1 : Bool) (rk2 : Nat) (rc2 : Nat) (rn2 : Bool) (r : List Mail × Int × Int × Int × Int × List Entry × Int × Int × List Entry) (hF : raft_beats_v1 box box1 box2 box3 box4 box5 row row1 row2 = some r) : Pe Try.prog 70 ⟨[], [(100000, [.i box, .i box1, .i box2, .i box3, .row 100000 0, .i box4, .i box5, .nils, .row 100001 0, .row 100002 0])], [(100000, ⟨31, 2, 0, rk, rc, rn, 0, [], (row.map e_Entry)⟩), (100001, ⟨3, 1, 0, rk1, rc1, rn1, 0, [], (row1.map e_i64)⟩), (100002, ⟨3, 1, 0, rk2, rc2, rn2, 0, [], (row2.map e_i64)⟩)], [], []⟩ [.ptr 100000 0] (.row 5 0) ⟨[], [(100000, [.i r.2.1, .i r.2.2.1, .i r.2.2.2.1, .i r.2.2.2.2.1, .sl 2 (r.2.2.2.2.2.1.map e_Entry), .i r.2.2.2.2.2.2.1, .i r.2.2.2.2.2.2.2.1, .nils, .row 100001 0, .row 100002 0])], [(100000, ⟨31, 2, 0, (r.2.2.2.2.2.2.2.2.map e_Entry).length, rc, rn, 0, [], (r.2.2.2.2.2.2.2.2.map e_Entry)⟩), (100001, ⟨3, 1, 0, rk1, rc1, rn1, 0, [], (row1.map e_i64)⟩), (100002, ⟨3, 1, 0, rk2, rc2, rn2, 0, [], (row2.map e_i64)⟩), (5, .z 62 9 0 (r.1.map e_Mail))], [], []⟩ := by
 refine PeN 6 [.tmp 2] [50] Ty.ok Fn.b70 Try.func70 ?_
 intro Q g hfin
 unfold raft_beats_v1 at hF
 refine VR [] [1] [1, 100000] [100000, 100001, 100002] [] [(1, .ptr 1 0)] [(1, [.ptr 100000 0])] [] [] .nil ?_
 obtain ⟨x, h0, hF⟩ := ob_elim hF
 refine VR [.callE [100000, 1] [100000, 100001, 100002] [] [] (.row 5 0) ⟨[], [(100000, [.i x.2.1, .i x.2.2.1, .i x.2.2.2.1, .i x.2.2.2.2.1, .sl 2 (x.2.2.2.2.2.1.map e_Entry), .i x.2.2.2.2.2.2.1, .i x.2.2.2.2.2.2.2.1, .nils, .row 100001 0, .row 100002 0]), (1, [.ptr 100000 0])], [(100000, ⟨31, 2, 0, (x.2.2.2.2.2.2.2.2.map e_Entry).length, rc, rn, 0, [], (x.2.2.2.2.2.2.2.2.map e_Entry)⟩), (100001, ⟨3, 1, 0, rk1, rc1, rn1, 0, [], (row1.map e_i64)⟩), (100002, ⟨3, 1, 0, rk2, rc2, rn2, 0, [], (row2.map e_i64)⟩), (5, .z 62 9 0 (x.1.map e_Mail))], [], []⟩] [2] [100000] [5, 100000, 100001, 100002] [] [(2, .row 5 0)] [(100000, [.i x.2.1, .i x.2.2.1, .i x.2.2.2.1, .i x.2.2.2.2.1, .sl 2 (x.2.2.2.2.2.1.map e_Entry), .i x.2.2.2.2.2.2.1, .i x.2.2.2.2.2.2.2.1, .nils, .row 100001 0, .row 100002 0])] [(5, .z 62 9 0 (x.1.map e_Mail)), (100000, ⟨31, 2, 0, (x.2.2.2.2.2.2.2.2.map e_Entry).length, rc, rn, 0, [], (x.2.2.2.2.2.2.2.2.map e_Entry)⟩)] [] (hc (Pe.ren (raft_others_v2_ok box box1 box2 box3 box4 box5 row row1 row2 rk rc rn rk1 rc1 rn1 rk2 rc2 rn2 x h0) ⟨[(100001, 1)], [(39, 5)], [], []⟩) .nil) ?_
 cases hF
 exact Wk_ret (hfin _ ⟨[100000, 100001, 100002, 5], [100000], [100000, 100001, 100002, 5], [], [], [], by kernel_rfl⟩)

/- raft.given -/
noncomputable def raft_given (m : Mail) (box : Int) (box1 : Int) (box2 : Int) (box3 : Int) (box4 : Int) (box5 : Int) (row : List Entry) (row1 : List Int) (row2 : List Int) (row3 : List Int) : Option (List Mail × Int × Int × Int × Int × List Entry × Int × Int × List Int × List Int × List Int × List Entry × List Int) :=
 if (((!decide (box4 = 1)) || (!decide (m.Term = box2))) || (!m.Ok)) = true then
  some (([] : List Mail), box, box1, box2, box3, row, box4, box5, row1, row2, row3, row, row1)
 else
  ob (slices_Contains_int_int row1 m.From) fun x =>
  ob (
   if (!x) = true then
    asrt (((row1 ++ ([m.From] : List Int)).length : Int) * 8 ≤ 140737488351232) <|
    some (row1 ++ ([m.From] : List Int))
   else
    some row1) fun (v : List Int) =>
  lt (raft_most (v.length : Int) box) fun x1 =>
  if (!x1) = true then
   some (([] : List Mail), box, box1, box2, box3, row, box4, box5, v, row2, row3, row, v)
  else
   ob (raft_lead_v1 box box1 box2 box3 box4 box5 row v row2 row3) fun x2 =>
   ob (raft_beats_v1 x2.1 x2.2.1 x2.2.2.1 x2.2.2.2.1 x2.2.2.2.2.1 x2.2.2.2.2.2.1 row x2.2.2.2.2.2.2.1 x2.2.2.2.2.2.2.2) fun x3 =>
   some (x3.1, x3.2.1, x3.2.2.1, x3.2.2.2.1, x3.2.2.2.2.1, x3.2.2.2.2.2.1, x3.2.2.2.2.2.2.1, x3.2.2.2.2.2.2.2.1, ([] : List Int), x2.2.2.2.2.2.2.1, x2.2.2.2.2.2.2.2, x3.2.2.2.2.2.2.2.2, v)
theorem raft_given_ok (m : Mail) (box : Int) (box1 : Int) (box2 : Int) (box3 : Int) (box4 : Int) (box5 : Int) (row : List Entry) (row1 : List Int) (row2 : List Int) (row3 : List Int) (rk : Nat) (rc : Nat) (rn : Bool) (rk1 : Nat) (rc1 : Nat) (rn1 : Bool) (rk2 : Nat) (rc2 : Nat) (rn2 : Bool) (rk3 : Nat) (rc3 : Nat) (rn3 : Bool) (r : List Mail × Int × Int × Int × Int × List Entry × Int × Int × List Int × List Int × List Int × List Entry × List Int) (hF : raft_given m box box1 box2 box3 box4 box5 row row1 row2 row3 = some r) : Pe Try.prog 80 ⟨[], [(100000, [.i box, .i box1, .i box2, .i box3, .row 100000 0, .i box4, .i box5, .row 100001 0, .row 100002 0, .row 100003 0])], [(100000, ⟨31, 2, 0, rk, rc, rn, 0, [], (row.map e_Entry)⟩), (100001, ⟨3, 1, 0, rk1, rc1, rn1, 0, [], (row1.map e_i64)⟩), (100002, ⟨3, 1, 0, rk2, rc2, rn2, 0, [], (row2.map e_i64)⟩), (100003, ⟨3, 1, 0, rk3, rc3, rn3, 0, [], (row3.map e_i64)⟩)], [], []⟩ [.ptr 100000 0, .agg (c_Mail m)] (.row 57 0) ⟨[], [(100000, [.i r.2.1, .i r.2.2.1, .i r.2.2.2.1, .i r.2.2.2.2.1, .sl 2 (r.2.2.2.2.2.1.map e_Entry), .i r.2.2.2.2.2.2.1, .i r.2.2.2.2.2.2.2.1, .sl 1 (r.2.2.2.2.2.2.2.2.1.map e_i64), .sl 1 (r.2.2.2.2.2.2.2.2.2.1.map e_i64), .sl 1 (r.2.2.2.2.2.2.2.2.2.2.1.map e_i64)])], [(100000, ⟨31, 2, 0, (r.2.2.2.2.2.2.2.2.2.2.2.1.map e_Entry).length, rc, rn, 0, [], (r.2.2.2.2.2.2.2.2.2.2.2.1.map e_Entry)⟩), (100001, ⟨3, 1, 1, (r.2.2.2.2.2.2.2.2.2.2.2.2.map e_i64).length, rc1, rn1, 0, [], (r.2.2.2.2.2.2.2.2.2.2.2.2.map e_i64)⟩), (100002, ⟨3, 1, 0, ((row2).map e_i64).length, rc2, rn2, 0, [], (row2.map e_i64)⟩), (100003, ⟨3, 1, 0, ((row3).map e_i64).length, rc3, rn3, 0, [], (row3.map e_i64)⟩), (57, .z 62 9 0 (r.1.map e_Mail))], [], []⟩ := by
 refine PeN 58 [.tmp 4] [50] Ty.ok Fn.b80 Try.func80 ?_
 intro Q g hfin
 unfold raft_given at hF
 refine VR [] [0, 3] [3, 100000] [100000, 100001, 100002, 100003] [] [(3, .ptr 3 0)] [(3, (c_Mail m))] [] [] .nil ?_
 refine ND [] [0, 3, 23] [3, 100000] [100000, 100001, 100002, 100003] [(23, .bool (((!decide (box4 = 1)) || (!decide (m.Term = box2))) || (!m.Ok)))] .nil ?_
 refine Nif hF (fun hb hF => ?_) (fun hb hF => ?_)
 ·refine NR [] [4] [100000] [100000, 100001, 100002, 100003] [(4, .nils)] .nil ?_
  cases hF
  refine Wk_nilrow 4 60000 62 9 rfl rfl rfl ?_
  refine Wk_sealBX [] 100000 rfl rfl ?_
  refine Wk_ren' ⟨[], [(60000, 57)], [], []⟩ rfl ?_
  exact Wk_ret (hfin _ ⟨[100000, 100001, 100002, 100003, 57], [100000], [100000, 100001, 100002, 100003, 57], [], [], [(100001, ⟨1, true, true, true⟩), (100002, ⟨0, true, true, true⟩), (100003, ⟨0, true, true, true⟩)], by kernel_rfl⟩)
 ·obtain ⟨x, h0, hF⟩ := ob_elim hF
  refine ND [.callB (.bool x)] [0, 3, 31] [3, 100000] [100000, 100001, 100002, 100003] [(31, .bool (!x))] (hc (slices_Contains_int_int_ok row1 m.From x h0) .nil) ?_
  obtain ⟨v, hv, hF⟩ := ob_elim hF
  refine Nmeet (⟨[(0, .ptr 100000 0)], [(100000, [.i box, .i box1, .i box2, .i box3, .row 100000 0, .i box4, .i box5, .row 100001 1, .row 100002 0, .row 100003 0])], [(100000, ⟨31, 2, 0, rk, rc, rn, 0, [], (row.map e_Entry)⟩), (100001, ⟨3, 1, 1, rk1, rc1, rn1, 0, [], (v.map e_i64)⟩), (100002, ⟨3, 1, 0, rk2, rc2, rn2, 0, [], (row2.map e_i64)⟩), (100003, ⟨3, 1, 0, rk3, rc3, rn3, 0, [], (row3.map e_i64)⟩)], [], []⟩ : S) ?_ ?_
  ·have hF := hv
   refine Nif hF (fun hb hF => ?_) (fun hb hF => ?_)
   ·obtain ⟨h1, hF⟩ := asrt_elim hF
    refine VD [.sealed, .xs ((row1 ++ ([m.From] : List Int)).map e_i64)] [0] [100000] [100000, 100001, 100002, 100003] [] [] [(100000, [.i box, .i box1, .i box2, .i box3, .row 100000 0, .i box4, .i box5, .row 100001 1, .row 100002 0, .row 100003 0])] [(100001, ⟨3, 1, 1, rk1, rc1, rn1, 0, [], ((row1 ++ ([m.From] : List Int)).map e_i64)⟩)] [] (hc (app_ok e_i64 row1 ([m.From] : List Int)) (hc (appl_ok e_i64 h1) .nil)) ?_
    cases hF
    exact met [] (by kernel_rfl)
   ·cases hF
    exact met [(100001, ⟨1, true, true, false⟩)] (by kernel_rfl)
  ·obtain ⟨x1, h2, hF⟩ := lt_split hF
   refine ND [.nat (v.length : Int), .callB (.bool x1)] [0, 53] [100000] [100000, 100001, 100002, 100003] [(53, .bool (!x1))] (hc (len_ok e_i64 v) (hc (raft_most_ok (v.length : Int) box x1 h2) .nil)) ?_
   refine Nif hF (fun hb hF => ?_) (fun hb hF => ?_)
   ·refine NR [] [4] [100000] [100000, 100001, 100002, 100003] [(4, .nils)] .nil ?_
    cases hF
    refine Wk_nilrow 4 60001 62 9 rfl rfl rfl ?_
    refine Wk_sealBX [] 100000 rfl rfl ?_
    refine Wk_ren' ⟨[], [(60001, 57)], [], []⟩ rfl ?_
    exact Wk_ret (hfin _ ⟨[100000, 100001, 100002, 100003, 57], [100000], [100000, 100001, 100002, 100003, 57], [], [], [(100002, ⟨0, true, true, true⟩), (100003, ⟨0, true, true, true⟩)], by kernel_rfl⟩)
   ·obtain ⟨x2, h3, hF⟩ := ob_elim hF
    refine VR [.callE [100000] [100000, 100001, 100002, 100003] [] [] (.tup []) ⟨[], [(100000, [.i x2.1, .i x2.2.1, .i x2.2.2.1, .i x2.2.2.2.1, .row 100000 0, .i x2.2.2.2.2.1, .i x2.2.2.2.2.2.1, .nils, .row 55 0, .row 20055 0])], [(100000, ⟨31, 2, 0, rk, rc, rn, 0, [], (row.map e_Entry)⟩), (100001, ⟨3, 1, 1, rk1, rc1, rn1, 0, [], (v.map e_i64)⟩), (100002, ⟨3, 1, 0, rk2, rc2, rn2, 0, [], (row2.map e_i64)⟩), (100003, ⟨3, 1, 0, rk3, rc3, rn3, 0, [], (row3.map e_i64)⟩), (55, .o 3 1 0 (x2.2.2.2.2.2.2.1.map e_i64)), (20055, .o 3 1 0 (x2.2.2.2.2.2.2.2.map e_i64))], [], []⟩] [0] [100000] [55, 20055, 100000, 100001, 100002, 100003] [] [] [(100000, [.i x2.1, .i x2.2.1, .i x2.2.2.1, .i x2.2.2.2.1, .row 100000 0, .i x2.2.2.2.2.1, .i x2.2.2.2.2.2.1, .nils, .row 55 0, .row 20055 0])] [(55, .o 3 1 0 (x2.2.2.2.2.2.2.1.map e_i64)), (20055, .o 3 1 0 (x2.2.2.2.2.2.2.2.map e_i64))] [] (hc (Pe.ren (raft_lead_v1_ok box box1 box2 box3 box4 box5 row v row2 row3 rk rc rn rk1 rc1 rn1 rk2 rc2 rn2 rk3 rc3 rn3 x2 h3) ⟨[], [(18, 55), (23, 20055)], [], [(100001, 1)]⟩) .nil) ?_
    obtain ⟨x3, h4, hF⟩ := ob_elim hF
    refine VR [.callE [100000] [100000, 55, 20055] [] [] (.row 57 0) ⟨[], [(100000, [.i x3.2.1, .i x3.2.2.1, .i x3.2.2.2.1, .i x3.2.2.2.2.1, .sl 2 (x3.2.2.2.2.2.1.map e_Entry), .i x3.2.2.2.2.2.2.1, .i x3.2.2.2.2.2.2.2.1, .nils, .row 55 0, .row 20055 0])], [(100000, ⟨31, 2, 0, (x3.2.2.2.2.2.2.2.2.map e_Entry).length, rc, rn, 0, [], (x3.2.2.2.2.2.2.2.2.map e_Entry)⟩), (55, .o 3 1 0 (x2.2.2.2.2.2.2.1.map e_i64)), (20055, .o 3 1 0 (x2.2.2.2.2.2.2.2.map e_i64)), (57, .z 62 9 0 (x3.1.map e_Mail))], [], []⟩] [4] [100000] [55, 57, 20055, 100000, 100001, 100002, 100003] [] [(4, .row 57 0)] [(100000, [.i x3.2.1, .i x3.2.2.1, .i x3.2.2.2.1, .i x3.2.2.2.2.1, .sl 2 (x3.2.2.2.2.2.1.map e_Entry), .i x3.2.2.2.2.2.2.1, .i x3.2.2.2.2.2.2.2.1, .nils, .row 55 0, .row 20055 0])] [(57, .z 62 9 0 (x3.1.map e_Mail)), (100000, ⟨31, 2, 0, (x3.2.2.2.2.2.2.2.2.map e_Entry).length, rc, rn, 0, [], (x3.2.2.2.2.2.2.2.2.map e_Entry)⟩)] [] (hc (Pe.ren (raft_beats_v1_ok x2.1 x2.2.1 x2.2.2.1 x2.2.2.2.1 x2.2.2.2.2.1 x2.2.2.2.2.2.1 row x2.2.2.2.2.2.2.1 x2.2.2.2.2.2.2.2 rk rc rn 0 0 false 0 0 false x3 h4) ⟨[], [(100001, 55), (100002, 20055), (5, 57)], [], []⟩) .nil) ?_
    cases hF
    refine Wk_sealBX [] 100000 rfl rfl ?_
    refine Wk_coeB 100000 [.i x3.2.1, .i x3.2.2.1, .i x3.2.2.2.1, .i x3.2.2.2.2.1, .sl 2 (x3.2.2.2.2.2.1.map e_Entry), .i x3.2.2.2.2.2.2.1, .i x3.2.2.2.2.2.2.2.1, .sl 1 (([] : List Int).map e_i64), .sl 1 (x2.2.2.2.2.2.2.1.map e_i64), .sl 1 (x2.2.2.2.2.2.2.2.map e_i64)] rfl (.cons (CoeS.refl _) (.cons (CoeS.refl _) (.cons (CoeS.refl _) (.cons (CoeS.refl _) (.cons (CoeS.refl _) (.cons (CoeS.refl _) (.cons (CoeS.refl _) (.cons (CoeS.nils 1) (.cons (CoeS.refl _) (.cons (CoeS.refl _) .nil)))))))))) ?_
    exact Wk_ret (hfin _ ⟨[100000, 100001, 100002, 100003, 57], [100000], [100000, 100001, 100002, 100003, 57], [], [], [(100001, ⟨1, true, true, true⟩), (100002, ⟨0, true, true, true⟩), (100003, ⟨0, true, true, true⟩)], by kernel_rfl⟩)

/- entry.two -/
noncomputable def entry_two (a0 : List Entry) (b : List Entry) : Option Fault :=
 ob (entry_Check a0) fun x =>
 ob (
  if (decide (x.Code = 0)) = true then
   ob (entry_Check b) fun x1 =>
   if (!decide (x1.Code = 0)) = true then
    some (⟨x1.Code, w64 (x1.At - 1000)⟩ : Fault)
   else
    some x1
  else
   some x) fun (v : Fault) =>
 some v
theorem entry_two_ok (a0 : List Entry) (b : List Entry) (r : Fault) (hF : entry_two a0 b = some r) : Pe Try.prog 53 S.none [.sl 2 (a0.map e_Entry), .sl 2 (b.map e_Entry)] (.agg (c_Fault r)) S.none := by
 refine PeN 21 [.cell 4 26] [26] Ty.ok Fn.b53 Try.func53 ?_
 intro Q g hfin
 unfold entry_two at hF
 refine VR [] [0, 1, 4] [4] [] [] [(4, .ptr 4 0)] [(4, [.i 0, .i 0])] [] [] .nil ?_
 obtain ⟨x, h0, hF⟩ := ob_elim hF
 refine VR [.callB (.agg (c_Fault x))] [1, 4, 5] [4, 5] [] [] [(5, .ptr 5 0)] [(5, (c_Fault x))] [] [] (hc (entry_Check_ok a0 x h0) .nil) ?_
 refine NR [] [1, 4, 5, 10] [4, 5] [] [(10, .bool (decide (x.Code = 0)))] .nil ?_
 obtain ⟨v, hv, hF⟩ := ob_elim hF
 refine Nmeet (⟨[(4, .ptr 4 0), (5, .ptr 5 0)], [(4, [.i 0, .i 0]), (5, (c_Fault v))], [], [], []⟩ : S) ?_ ?_
 ·have hF := hv
  refine Nif hF (fun hb hF => ?_) (fun hb hF => ?_)
  ·obtain ⟨x1, h1, hF⟩ := ob_elim hF
   refine VR [.callB (.agg (c_Fault x1))] [4, 5] [4, 5] [] [] [] [(5, (c_Fault x1))] [] [] (hc (entry_Check_ok b x1 h1) .nil) ?_
   refine NR [] [4, 5, 15] [4, 5] [] [(15, .bool (!decide (x1.Code = 0)))] .nil ?_
   refine Nif hF (fun hb hF => ?_) (fun hb hF => ?_)
   ·refine VR [] [4, 5] [4, 5] [] [] [] [(5, [.i x1.Code, .i (w64 (x1.At - 1000))])] [] [] .nil ?_
    cases hF
    exact met [] (by kernel_rfl)
   ·cases hF
    exact met [] (by kernel_rfl)
  ·cases hF
   exact met [] (by kernel_rfl)
 ·refine VR [] [4] [4] [] [] [] [(4, (c_Fault v))] [] [] .nil ?_
  cases hF
  exact Wk_ret (hfin _ ⟨[], [], [], [], [], [], by kernel_rfl⟩)

/- entry.number -/
noncomputable def entry_number (num : Int) : Bool :=
 (decide (0 ≤ num)) && (decide (num ≤ 1000000000))
theorem entry_number_ok (num : Int) (r : Bool) (hF : entry_number num = r) : Pe Try.prog 89 S.none [.i num] (.bool r) S.none := by
 refine PeN 9 [.tmp 2] [4] Ty.ok Fn.b89 Try.func89 ?_
 intro Q g hfin
 unfold entry_number at hF
 refine NR [] [0] [] [] [] .nil ?_
 refine NR [] [2] [] [] [(2, .bool ((decide (0 ≤ num)) && (decide (num ≤ 1000000000))))] .nil ?_
 cases hF
 exact Wk_ret (hfin _ ⟨[], [], [], [], [], [], by kernel_rfl⟩)

/- entry.ranged -/
noncomputable def entry_ranged (num : Int) (term : Int) : Fault :=
 lt (entry_number num) fun x =>
 if (!x) = true then
  lt (entry_fault 3 (-1)) fun x1 =>
  x1
 else
  lt (entry_number term) fun x2 =>
  if (!x2) = true then
   lt (entry_fault 3 (-2)) fun x3 =>
   x3
  else
   (⟨0, 0⟩ : Fault)
theorem entry_ranged_ok (num : Int) (term : Int) (r : Fault) (hF : entry_ranged num term = r) : Pe Try.prog 54 S.none [.i num, .i term] (.agg (c_Fault r)) S.none := by
 refine PeN 14 [.cell 4 26] [26] Ty.ok Fn.b54 Try.func54 ?_
 intro Q g hfin
 unfold entry_ranged at hF
 refine VR [] [0, 1, 4] [4] [] [] [(4, .ptr 4 0)] [(4, [.i 0, .i 0])] [] [] .nil ?_
 obtain ⟨x, h0, hF⟩ := lt_split hF
 refine NR [.callB (.bool x)] [1, 4, 7] [4] [] [(7, .bool (!x))] (hc (entry_number_ok num x h0) .nil) ?_
 refine Nif hF (fun hb hF => ?_) (fun hb hF => ?_)
 ·obtain ⟨x1, h1, hF⟩ := lt_split hF
  refine VR [.callB (.agg (c_Fault x1))] [4] [4] [] [] [] [(4, (c_Fault x1))] [] [] (hc (entry_fault_ok 3 (-1) x1 h1) .nil) ?_
  cases hF
  exact Wk_ret (hfin _ ⟨[], [], [], [], [], [], by kernel_rfl⟩)
 ·obtain ⟨x2, h2, hF⟩ := lt_split hF
  refine NR [.callB (.bool x2)] [4, 11] [4] [] [(11, .bool (!x2))] (hc (entry_number_ok term x2 h2) .nil) ?_
  refine Nif hF (fun hb hF => ?_) (fun hb hF => ?_)
  ·obtain ⟨x3, h3, hF⟩ := lt_split hF
   refine VR [.callB (.agg (c_Fault x3))] [4] [4] [] [] [] [(4, (c_Fault x3))] [] [] (hc (entry_fault_ok 3 (-2) x3 h3) .nil) ?_
   cases hF
   exact Wk_ret (hfin _ ⟨[], [], [], [], [], [], by kernel_rfl⟩)
  ·refine NR [] [4] [4] [] [] .nil ?_
   cases hF
   exact Wk_ret (hfin _ ⟨[], [], [], [], [], [], by kernel_rfl⟩)

/- entry.Fits -/
noncomputable def entry_Fits (l : List Entry) (at0 : Int) (term : Int) : Option Bool :=
 ob (if (decide (at0 ≤ (l.length : Int))) = true then (entry_TermAt l at0) else some default) fun x =>
 some ((decide (at0 ≤ (l.length : Int))) && (decide (x = term)))
theorem entry_Fits_ok (l : List Entry) (at0 : Int) (term : Int) (r : Bool) (hF : entry_Fits l at0 term = some r) : Pe Try.prog 56 S.none [.sl 2 (l.map e_Entry), .i at0, .i term] (.bool r) S.none := by
 refine PeN 18 [.tmp 6] [4] Ty.ok Fn.b56 Try.func56 ?_
 intro Q g hfin
 unfold entry_Fits at hF
 refine NR [] [0, 1, 2] [] [] [] .nil ?_
 obtain ⟨x, h0, hF⟩ := ob_elim hF
 refine NR [.nat (l.length : Int), .callB (.i x)] [6] [] [] [(6, .bool ((decide (at0 ≤ (l.length : Int))) && (decide (x = term))))] (hc (len_ok e_Entry l) (hc (fun (ga0 : (decide (at0 ≤ (l.length : Int))) = true) => (entry_TermAt_ok l at0 x (ite_t h0 ga0))) .nil)) ?_
 cases hF
 exact Wk_ret (hfin _ ⟨[], [], [], [], [], [], by kernel_rfl⟩)

/- entry.Put -/
noncomputable def entry_Put_J1 (v1 : List Entry) : Option (List Entry × Bool × Fault) :=
 ob (entry_Check v1) fun x4 =>
 if (!decide (x4.Code = 0)) = true then
  lt (entry_fault x4.Code (-1)) fun x5 =>
  some (([] : List Entry), false, x5)
 else
  some (v1, true, x4)
noncomputable def entry_Put_B1 (at0 : Int) (more : List Entry) (v2 : List Entry × Int) : Option ((List Entry × Int) ⊕ (List Entry × Bool × Fault)) :=
 if (decide (v2.2 < (more.length : Int))) = true then
  ob (
   asrt (0 ≤ v2.2 ∧ v2.2 < (more.length : Int)) <|
   asrt ((decide ((w64 (at0 + v2.2)) < (v2.1.length : Int))) = true → 0 ≤ w64 (at0 + v2.2) ∧ w64 (at0 + v2.2) < (v2.1.length : Int)) <|
   asrt ((decide ((w64 (at0 + v2.2)) < (v2.1.length : Int))) = true → 0 ≤ w64 (at0 + v2.2) ∧ w64 (at0 + v2.2) < (v2.1.length : Int)) <|
   if ((decide ((w64 (at0 + v2.2)) < (v2.1.length : Int))) && (decide (((lget v2.1 (w64 (at0 + v2.2))).Term) = ((lget more v2.2).Term)))) = true then
    some v2.1
   else
    asrt (0 ≤ (min (w64 (at0 + v2.2)) (v2.1.length : Int)) ∧ (min (w64 (at0 + v2.2)) (v2.1.length : Int)) ≤ (v2.1.length : Int)) <|
    asrt (((v2.1.take ((min (w64 (at0 + v2.2)) (v2.1.length : Int)).toNat) ++ [(⟨(lget more v2.2).Term, (lget more v2.2).Text⟩ : Entry)]).length : Int) * 24 ≤ 140737488351232) <|
    asrt (((min (w64 (at0 + v2.2)) (v2.1.length : Int)).toNat) ≤ v2.1.length) <|
    lt ((v2.1.take ((min (w64 (at0 + v2.2)) (v2.1.length : Int)).toNat) ++ [(⟨(lget more v2.2).Term, (lget more v2.2).Text⟩ : Entry)])) fun (v4 : List Entry) =>
    some v4) fun (v3 : List Entry) =>
  some (Sum.inl (v3, w64 (v2.2 + 1)))
 else
  inrO (entry_Put_J1 v2.1)
noncomputable def entry_Put_L1 (at0 : Int) (more : List Entry) (v0 : List Entry × Int) : Option (List Entry × Bool × Fault) :=
 loopO (fun y => entry_Put_B1 at0 more y) v0
noncomputable def entry_Put (l : List Entry) (at0 : Int) (term : Int) (more : List Entry) : Option (List Entry × Bool × Fault) :=
 ob (entry_two l more) fun x =>
 ob (
  if (decide (x.Code = 0)) = true then
   lt (entry_ranged at0 term) fun x1 =>
   some x1
  else
   some x) fun (v : Fault) =>
 if (!decide (v.Code = 0)) = true then
  some (([] : List Entry), false, v)
 else
  ob (slices_Clone_api_Entry_api_Entry l) fun x2 =>
  ob (entry_Fits l at0 term) fun x3 =>
  if (!x3) = true then
   some (x2, false, v)
  else
   entry_Put_L1 at0 more (x2, 0)
theorem entry_Put_ok (l : List Entry) (at0 : Int) (term : Int) (more : List Entry) (r : List Entry × Bool × Fault) (hF : entry_Put l at0 term more = some r) : Pe Try.prog 15 S.none [.sl 2 (l.map e_Entry), .i at0, .i term, .sl 2 (more.map e_Entry)] (.tup [.row 30 0, .bool r.2.1, .agg (c_Fault r.2.2)]) ⟨[], [], [(30, .o 31 2 0 (r.1.map e_Entry))], [], []⟩ := by
 refine PeN 82 [.tmp 8, .tmp 9, .cell 10 26] [22, 4, 26] Ty.ok Fn.b15 Try.func15 ?_
 intro Q g hfin
 unfold entry_Put at hF
 refine VR [] [0, 1, 2, 3, 10] [10] [] [] [(10, .ptr 10 0)] [(10, [.i 0, .i 0])] [] [] .nil ?_
 obtain ⟨x, h0, hF⟩ := ob_elim hF
 refine VR [.callB (.agg (c_Fault x))] [0, 1, 2, 3, 10, 11] [10, 11] [] [] [(11, .ptr 11 0)] [(11, (c_Fault x))] [] [] (hc (entry_two_ok l more x h0) .nil) ?_
 refine NR [] [0, 1, 2, 3, 10, 11, 21] [10, 11] [] [(21, .bool (decide (x.Code = 0)))] .nil ?_
 obtain ⟨v, hv, hF⟩ := ob_elim hF
 refine Nmeet (⟨[(0, .sl 2 (l.map e_Entry)), (1, .i at0), (2, .i term), (3, .sl 2 (more.map e_Entry)), (10, .ptr 10 0), (11, .ptr 11 0)], [(10, [.i 0, .i 0]), (11, (c_Fault v))], [], [], []⟩ : S) ?_ ?_
 ·have hF := hv
  refine Nif hF (fun hb hF => ?_) (fun hb hF => ?_)
  ·obtain ⟨x1, h1, hF⟩ := lt_split hF
   refine VR [.callB (.agg (c_Fault x1))] [0, 1, 2, 3, 10, 11] [10, 11] [] [] [] [(11, (c_Fault x1))] [] [] (hc (entry_ranged_ok at0 term x1 h1) .nil) ?_
   cases hF
   exact met [] (by kernel_rfl)
  ·cases hF
   exact met [] (by kernel_rfl)
 ·refine NR [] [0, 1, 2, 3, 10, 11, 27] [10, 11] [] [(27, .bool (!decide (v.Code = 0)))] .nil ?_
  refine Nif hF (fun hb hF => ?_) (fun hb hF => ?_)
  ·refine VD [] [8, 9, 10] [10] [] [] [(8, .nils), (9, .bool false)] [(10, (c_Fault v))] [] [] .nil ?_
   cases hF
   refine Wk_nilrow 8 60000 31 2 rfl rfl rfl ?_
   refine Wk_ren' ⟨[], [(60000, 30)], [], []⟩ rfl ?_
   exact Wk_ret (hfin _ ⟨[30], [], [30], [], [], [(30, ⟨0, true, false, false⟩)], by kernel_rfl⟩)
  ·obtain ⟨x2, h2, hF⟩ := ob_elim hF
   refine VR [.callE [] [] [] [] (.row 30 0) ⟨[], [], [(30, .o 31 2 0 (x2.map e_Entry))], [], []⟩] [0, 1, 2, 3, 10, 11, 12] [10, 11] [30] [] [(12, .row 30 0)] [] [(30, .o 31 2 0 (x2.map e_Entry))] [] (hc (Pe.ren (slices_Clone_api_Entry_api_Entry_ok l x2 h2) ⟨[], [(5, 30)], [], []⟩) .nil) ?_
   obtain ⟨x3, h3, hF⟩ := ob_elim hF
   refine NR [.callB (.bool x3)] [1, 3, 10, 11, 12, 35] [10, 11] [30] [(35, .bool (!x3))] (hc (entry_Fits_ok l at0 term x3 h3) .nil) ?_
   refine Nif hF (fun hb hF => ?_) (fun hb hF => ?_)
   ·refine VD [] [8, 9, 10] [10] [30] [] [(8, .row 30 0), (9, .bool false)] [(10, (c_Fault v))] [] [] .nil ?_
    cases hF
    exact Wk_ret (hfin _ ⟨[30], [], [30], [], [], [], by kernel_rfl⟩)
   ·refine NR [.nat (more.length : Int)] [1, 10, 11, 12, 38, 39, 40] [10, 11] [30] [(38, .sl 2 (more.map e_Entry)), (39, .i (more.length : Int)), (40, .i 0)] (hc (len_ok e_Entry more) .nil) ?_
    refine NmeetP (fun v1 : List Entry => (⟨[(10, .ptr 10 0), (11, .ptr 11 0), (12, .row 30 0)], [(10, [.i 0, .i 0]), (11, (c_Fault v))], [(30, .o 31 2 0 (v1.map e_Entry))], [], []⟩ : S)) (fun v1 => entry_Put_J1 v1 = some r) ?_ ?_
    ·refine Nblk ?_
     unfold entry_Put_L1 at hF
     refine Niter (fun v2 : List Entry × Int => (⟨[(1, .i at0), (10, .ptr 10 0), (11, .ptr 11 0), (12, .row 30 0), (38, .sl 2 (more.map e_Entry)), (39, .i (more.length : Int)), (40, .i v2.2)], [(10, [.i 0, .i 0]), (11, (c_Fault v))], [(30, .o 31 2 0 (v2.1.map e_Entry))], [], []⟩ : S)) [] hF (by kernel_rfl) ?_
     intro n1 v2 y1 hF ih1 dn1
     unfold entry_Put_B1 at hF
     refine NR [] [1, 10, 11, 12, 38, 39, 40, 41] [10, 11] [30] [(41, .bool (decide (v2.2 < (more.length : Int))))] .nil ?_
     refine Nif hF (fun hb hF => ?_) (fun hb hF => ?_)
     ·obtain ⟨v3, hv, hF⟩ := ob_elim hF
      refine Nmeet (⟨[(1, .i at0), (10, .ptr 10 0), (11, .ptr 11 0), (12, .row 30 0), (38, .sl 2 (more.map e_Entry)), (39, .i (more.length : Int)), (40, .i v2.2)], [(10, [.i 0, .i 0]), (11, (c_Fault v))], [(30, .o 31 2 0 (v3.map e_Entry))], [], []⟩ : S) ?_ ?_
      ·have hF := hv
       refine Nblk ?_
       obtain ⟨h6, hF⟩ := asrt_elim hF
       refine VR [.av (e_Entry (lget more v2.2))] [1, 10, 11, 12, 13, 14, 38, 39, 40] [10, 11, 14] [30] [] [(13, .i v2.2), (14, .ptr 14 0)] [(14, [.i ((lget more v2.2).Term), .str ((lget more v2.2).Text)])] [] [] (hc (idx_ok e_Entry h6) .nil) ?_
       refine NR [] [1, 10, 11, 12, 14, 15, 38, 39, 40] [10, 11, 14] [30] [(15, .i (w64 (at0 + v2.2)))] .nil ?_
       obtain ⟨h7, h8, hF⟩ := asrt2 hF
       refine ND [.nat (v2.1.length : Int), .av (e_Entry (lget v2.1 (w64 (at0 + v2.2))))] [1, 10, 11, 12, 14, 15, 38, 39, 40, 61] [10, 11, 14] [30] [(61, .bool ((decide ((w64 (at0 + v2.2)) < (v2.1.length : Int))) && (decide (((lget v2.1 (w64 (at0 + v2.2))).Term) = ((lget more v2.2).Term)))))] (hc (len_ok e_Entry v2.1) (hc (fun (ga0 : (decide ((w64 (at0 + v2.2)) < (v2.1.length : Int))) = true) => (ixr_ok e_Entry (h7 ga0))) (hc (fun (ga0 : (decide ((w64 (at0 + v2.2)) < (v2.1.length : Int))) = true) => (ldr_ok e_Entry (h8 ga0))) .nil))) ?_
       refine Nif hF (fun hb hF => ?_) (fun hb hF => ?_)
       ·refine Nexit rfl ?_
        cases hF
        exact met [] (by kernel_rfl)
       ·obtain ⟨h9, hF⟩ := asrt_elim hF
        obtain ⟨h10, h11, hF⟩ := asrt2 hF
        refine NDL ((v2.1.take ((min (w64 (at0 + v2.2)) (v2.1.length : Int)).toNat) ++ [(⟨(lget more v2.2).Term, (lget more v2.2).Text⟩ : Entry)])) (fun v4 : List Entry => ([(12, .row 30 1)], [], [(30, ⟨31, 2, 1, 0, (v2.1.map e_Entry).length, false, 0, [], (v4.map e_Entry)⟩)], [])) [.nat (v2.1.length : Int), .vw ((min (w64 (at0 + v2.2)) (v2.1.length : Int)).toNat), .sealed, .xs ((v2.1.take ((min (w64 (at0 + v2.2)) (v2.1.length : Int)).toNat) ++ [(⟨(lget more v2.2).Term, (lget more v2.2).Text⟩ : Entry)]).map e_Entry)] [1, 10, 11, 12, 38, 39, 40] [10, 11] [30] [] (hc (len_ok e_Entry v2.1) (hc (vw01_ok (cm := 0) e_Entry h9) (hc (tap_ok e_Entry v2.1 ((min (w64 (at0 + v2.2)) (v2.1.length : Int)).toNat) [(⟨(lget more v2.2).Term, (lget more v2.2).Text⟩ : Entry)]) (hc (appl_ok e_Entry h10) (hc (tk_ok e_Entry h11) .nil))))) (fun v4 hv => ?_)
        have hF := lt_elim hF hv
        cases hF
        exact met [(30, ⟨0, false, true, false⟩)] (by kernel_rfl)
      ·refine NR [] [1, 10, 11, 12, 38, 39, 40] [10, 11] [30] [(40, .i (w64 (v2.2 + 1)))] .nil ?_
       exact Nrnd [] hF ih1 (by kernel_rfl)
     ·refine Nexit rfl ?_
      have hF := inrO_done hF dn1
      exact metP v2.1 [] hF (by kernel_rfl)
    ·intro v1 hF
     have hF : entry_Put_J1 v1 = some r := hF
     unfold entry_Put_J1 at hF
     obtain ⟨x4, h4, hF⟩ := ob_elim hF
     refine VR [.callB (.agg (c_Fault x4))] [10, 11, 12] [10, 11] [30] [] [] [(11, (c_Fault x4))] [] [] (hc (entry_Check_ok v1 x4 h4) .nil) ?_
     refine NR [] [10, 11, 12, 76] [10, 11] [30] [(76, .bool (!decide (x4.Code = 0)))] .nil ?_
     refine Nif hF (fun hb hF => ?_) (fun hb hF => ?_)
     ·obtain ⟨x5, h5, hF⟩ := lt_split hF
      refine VR [.callB (.agg (c_Fault x5))] [8, 9, 10] [10] [] [] [(8, .nils), (9, .bool false)] [(10, (c_Fault x5))] [] [] (hc (entry_fault_ok x4.Code (-1) x5 h5) .nil) ?_
      cases hF
      refine Wk_nilrow 8 60001 31 2 rfl rfl rfl ?_
      refine Wk_ren' ⟨[], [(60001, 30)], [], []⟩ rfl ?_
      exact Wk_ret (hfin _ ⟨[30], [], [30], [], [], [(30, ⟨0, true, false, false⟩)], by kernel_rfl⟩)
     ·refine VD [] [8, 9, 10] [10] [30] [] [(8, .row 30 0), (9, .bool true)] [(10, (c_Fault x4))] [] [] .nil ?_
      cases hF
      exact Wk_ret (hfin _ ⟨[30], [], [30], [], [], [], by kernel_rfl⟩)

/- raft.answer -/
noncomputable def raft_answer_v1 (m : Mail) (kind : Int) (ok : Bool) (a0 : Int) (box : Int) (box1 : Int) (box2 : Int) (box3 : Int) (box4 : Int) (box5 : Int) (row : List Entry) : List Mail :=
 [(⟨kind, box1, m.From, box2, a0, 0, 0, ([] : List Entry), ok⟩ : Mail)]
theorem raft_answer_v1_ok (m : Mail) (kind : Int) (ok : Bool) (a0 : Int) (box : Int) (box1 : Int) (box2 : Int) (box3 : Int) (box4 : Int) (box5 : Int) (row : List Entry) (rk : Nat) (rc : Nat) (rn : Bool) (r : List Mail) (hF : raft_answer_v1 m kind ok a0 box box1 box2 box3 box4 box5 row = r) : Pe Try.prog 92 ⟨[], [(100000, [.i box, .i box1, .i box2, .i box3, .row 100000 0, .i box4, .i box5, .nils, .nils, .nils])], [(100000, ⟨31, 2, 0, rk, rc, rn, 0, [], (row.map e_Entry)⟩)], [], []⟩ [.ptr 100000 0, .agg (c_Mail m), .i kind, .bool ok, .i a0] (.sl 9 (r.map e_Mail)) ⟨[], [(100000, [.i box, .i box1, .i box2, .i box3, .row 100000 0, .i box4, .i box5, .nils, .nils, .nils])], [(100000, ⟨31, 2, 0, rk, rc, rn, 0, [], (row.map e_Entry)⟩)], [], []⟩ := by
 refine PeN 26 [.tmp 10] [50] Ty.ok Fn.b92 Try.func92 ?_
 intro Q g hfin
 unfold raft_answer_v1 at hF
 refine VR [] [0, 2, 3, 4, 6] [6, 100000] [100000] [] [(6, .ptr 6 0)] [(6, (c_Mail m))] [] [] .nil ?_
 refine ND [.sealed] [10] [100000] [100000] [(10, .sl 9 ([(⟨kind, box1, m.From, box2, a0, 0, 0, ([] : List Entry), ok⟩ : Mail)].map e_Mail))] .nil ?_
 cases hF
 exact Wk_ret (hfin _ ⟨[100000], [100000], [100000], [], [], [], by kernel_rfl⟩)

/- slices.Equal[[]api.Entry,api.Entry] -/
noncomputable def slices_Equal_api_Entry_api_Entry_J1 (v : Unit) : Option Bool :=
 some true
noncomputable def slices_Equal_api_Entry_api_Entry_B1 (s1 : List Entry) (s2 : List Entry) (v1 : Int) : Option (Int ⊕ Bool) :=
 if (decide (v1 < (s1.length : Int))) = true then
  asrt (0 ≤ v1 ∧ v1 < (s1.length : Int)) <|
  asrt (0 ≤ v1 ∧ v1 < (s2.length : Int)) <|
  if (!(decide ((lget s1 v1).Term = (lget s2 v1).Term) && (decide ((lget s1 v1).Text = (lget s2 v1).Text) && true))) = true then
   some (Sum.inr false)
  else
   some (Sum.inl (w64 (v1 + 1)))
 else
  inrO (slices_Equal_api_Entry_api_Entry_J1 ())
noncomputable def slices_Equal_api_Entry_api_Entry_L1 (s1 : List Entry) (s2 : List Entry) (v0 : Int) : Option Bool :=
 loopO (fun y => slices_Equal_api_Entry_api_Entry_B1 s1 s2 y) v0
noncomputable def slices_Equal_api_Entry_api_Entry (s1 : List Entry) (s2 : List Entry) : Option Bool :=
 if (!decide ((s1.length : Int) = (s2.length : Int))) = true then
  some false
 else
  slices_Equal_api_Entry_api_Entry_L1 s1 s2 0
theorem slices_Equal_api_Entry_api_Entry_ok (s1 : List Entry) (s2 : List Entry) (r : Bool) (hF : slices_Equal_api_Entry_api_Entry s1 s2 = some r) : Pe Try.prog 94 S.none [.sl 2 (s1.map e_Entry), .sl 2 (s2.map e_Entry)] (.bool r) S.none := by
 refine PeN 26 [.tmp 4] [4] Ty.ok Fn.b94 Try.func94 ?_
 intro Q g hfin
 unfold slices_Equal_api_Entry_api_Entry at hF
 refine NR [] [0, 1] [] [] [] .nil ?_
 refine NR [.nat (s1.length : Int), .nat (s2.length : Int)] [0, 1, 10] [] [] [(10, .bool (!decide ((s1.length : Int) = (s2.length : Int))))] (hc (len_ok e_Entry s1) (hc (len_ok e_Entry s2) .nil)) ?_
 refine Nif hF (fun hb hF => ?_) (fun hb hF => ?_)
 ·refine NR [] [4] [] [] [(4, .bool false)] .nil ?_
  cases hF
  exact Wk_ret (hfin _ ⟨[], [], [], [], [], [], by kernel_rfl⟩)
 ·refine NR [.nat (s1.length : Int)] [0, 1, 12, 13] [] [] [(12, .i (s1.length : Int)), (13, .i 0)] (hc (len_ok e_Entry s1) .nil) ?_
  refine NmeetP (fun v : Unit => (S.none : S)) (fun v => slices_Equal_api_Entry_api_Entry_J1 v = some r) ?_ ?_
  ·refine Nblk ?_
   unfold slices_Equal_api_Entry_api_Entry_L1 at hF
   refine Niter (fun v1 : Int => (⟨[(0, .sl 2 (s1.map e_Entry)), (1, .sl 2 (s2.map e_Entry)), (12, .i (s1.length : Int)), (13, .i v1)], [], [], [], []⟩ : S)) [] hF (by kernel_rfl) ?_
   intro n1 v1 y1 hF ih1 dn1
   unfold slices_Equal_api_Entry_api_Entry_B1 at hF
   refine NR [] [0, 1, 12, 13, 14] [] [] [(14, .bool (decide (v1 < (s1.length : Int))))] .nil ?_
   refine Nif hF (fun hb hF => ?_) (fun hb hF => ?_)
   ·refine Nblk ?_
    refine NR [] [0, 1, 5, 12, 13] [] [] [(5, .i v1)] .nil ?_
    obtain ⟨h0, h1, hF⟩ := asrt2 hF
    refine ND [.av (e_Entry (lget s1 v1)), .av (e_Entry (lget s2 v1))] [0, 1, 12, 13, 24] [] [] [(24, .bool (!(decide ((lget s1 v1).Term = (lget s2 v1).Term) && (decide ((lget s1 v1).Text = (lget s2 v1).Text) && true))))] (hc (idx_ok e_Entry h0) (hc (idx_ok e_Entry h1) .nil)) ?_
    refine Nif hF (fun hb hF => ?_) (fun hb hF => ?_)
    ·refine NR [] [4] [] [] [(4, .bool false)] .nil ?_
     have hF := ret_done hF dn1
     cases hF
     exact Wk_ret (hfin _ ⟨[], [], [], [], [], [], by kernel_rfl⟩)
    ·refine NR [] [0, 1, 12, 13] [] [] [(13, .i (w64 (v1 + 1)))] .nil ?_
     exact Nrnd [] hF ih1 (by kernel_rfl)
   ·refine Nexit rfl ?_
    have hF := inrO_done hF dn1
    exact metP () [] hF (by kernel_rfl)
  ·intro v hF
   have hF : slices_Equal_api_Entry_api_Entry_J1 v = some r := hF
   unfold slices_Equal_api_Entry_api_Entry_J1 at hF
   refine NR [] [4] [] [] [(4, .bool true)] .nil ?_
   cases hF
   exact Wk_ret (hfin _ ⟨[], [], [], [], [], [], by kernel_rfl⟩)

/- raft.answer -/
noncomputable def raft_answer_v2 (m : Mail) (kind : Int) (ok : Bool) (a0 : Int) (box : Int) (box1 : Int) (box2 : Int) (box3 : Int) (box4 : List Entry) (box5 : Int) (box6 : Int) : List Mail :=
 [(⟨kind, box1, m.From, box2, a0, 0, 0, ([] : List Entry), ok⟩ : Mail)]
theorem raft_answer_v2_ok (m : Mail) (kind : Int) (ok : Bool) (a0 : Int) (box : Int) (box1 : Int) (box2 : Int) (box3 : Int) (box4 : List Entry) (box5 : Int) (box6 : Int) (r : List Mail) (hF : raft_answer_v2 m kind ok a0 box box1 box2 box3 box4 box5 box6 = r) : Pe Try.prog 92 ⟨[], [(100000, [.i box, .i box1, .i box2, .i box3, .sl 2 (box4.map e_Entry), .i box5, .i box6, .nils, .nils, .nils])], [], [], []⟩ [.ptr 100000 0, .agg (c_Mail m), .i kind, .bool ok, .i a0] (.sl 9 (r.map e_Mail)) ⟨[], [(100000, [.i box, .i box1, .i box2, .i box3, .sl 2 (box4.map e_Entry), .i box5, .i box6, .nils, .nils, .nils])], [], [], []⟩ := by
 refine PeN 26 [.tmp 10] [50] Ty.ok Fn.b92 Try.func92 ?_
 intro Q g hfin
 unfold raft_answer_v2 at hF
 refine VR [] [0, 2, 3, 4, 6] [6, 100000] [] [] [(6, .ptr 6 0)] [(6, (c_Mail m))] [] [] .nil ?_
 refine ND [.sealed] [10] [100000] [] [(10, .sl 9 ([(⟨kind, box1, m.From, box2, a0, 0, 0, ([] : List Entry), ok⟩ : Mail)].map e_Mail))] .nil ?_
 cases hF
 exact Wk_ret (hfin _ ⟨[], [100000], [], [], [], [], by kernel_rfl⟩)

/- raft.bringing -/
noncomputable def raft_bringing (m : Mail) (box : Int) (box1 : Int) (box2 : Int) (box3 : Int) (box4 : Int) (box5 : Int) (row : List Entry) (row1 : List Int) (row2 : List Int) (row3 : List Int) : Option (List Mail × Int × Int × Int × Int × List Entry × Int × Int × List Int × List Int × List Int × List Entry) :=
 if (decide (m.Term < box2)) = true then
  lt (raft_answer m 4 false 0 box box1 box2 box3 box4 box5 row row1 row2 row3) fun x =>
  some (x, box, box1, box2, box3, row, box4, box5, row1, row2, row3, row)
 else
  if (decide (box4 = 2)) = true then
   some (([] : List Mail), box, box1, box2, box3, row, box4, box5, row1, row2, row3, row)
  else
   lt (raft_follow box box1 box2 box3 box4 box5 row row1 row2 row3) fun x1 =>
   ob (entry_Put row m.A m.B m.Entries) fun x2 =>
   if (!decide (x2.2.2.Code = 0)) = true then
    some (([] : List Mail), x1.1, x1.2.1, x1.2.2.1, x1.2.2.2.1, row, x1.2.2.2.2.1, x1.2.2.2.2.2, ([] : List Int), ([] : List Int), ([] : List Int), row)
   else
    if (!x2.2.1) = true then
     lt (raft_answer_v1 m 4 false (max 0 (min (w64 (m.A - 1)) (row.length : Int))) x1.1 x1.2.1 x1.2.2.1 x1.2.2.2.1 x1.2.2.2.2.1 x1.2.2.2.2.2 row) fun x3 =>
     some (x3, x1.1, x1.2.1, x1.2.2.1, x1.2.2.2.1, row, x1.2.2.2.2.1, x1.2.2.2.2.2, ([] : List Int), ([] : List Int), ([] : List Int), row)
    else
     asrt ((!(decide ((x2.1.length : Int) < x1.2.2.2.2.2))) = true → 0 ≤ x1.2.2.2.2.2 ∧ x1.2.2.2.2.2 ≤ (x2.1.length : Int)) <|
     asrt ((!(decide ((x2.1.length : Int) < x1.2.2.2.2.2))) = true → 0 ≤ x1.2.2.2.2.2 ∧ x1.2.2.2.2.2 ≤ (row.length : Int)) <|
     ob (if (!(decide ((x2.1.length : Int) < x1.2.2.2.2.2))) = true then (slices_Equal_api_Entry_api_Entry (ltake x2.1 x1.2.2.2.2.2) (ltake row x1.2.2.2.2.2)) else some default) fun x4 =>
     if ((decide ((x2.1.length : Int) < x1.2.2.2.2.2)) || (!x4)) = true then
      some (([] : List Mail), x1.1, x1.2.1, x1.2.2.1, x1.2.2.2.1, row, x1.2.2.2.2.1, x1.2.2.2.2.2, ([] : List Int), ([] : List Int), ([] : List Int), row)
     else
      lt (raft_answer_v2 m 4 true (w64 (m.A + (m.Entries.length : Int))) x1.1 x1.2.1 x1.2.2.1 x1.2.2.2.1 x2.1 x1.2.2.2.2.1 (max x1.2.2.2.2.2 (min m.C0 (w64 (m.A + (m.Entries.length : Int)))))) fun x5 =>
      some (x5, x1.1, x1.2.1, x1.2.2.1, x1.2.2.2.1, x2.1, x1.2.2.2.2.1, (max x1.2.2.2.2.2 (min m.C0 (w64 (m.A + (m.Entries.length : Int))))), ([] : List Int), ([] : List Int), ([] : List Int), row)
theorem raft_bringing_ok (m : Mail) (box : Int) (box1 : Int) (box2 : Int) (box3 : Int) (box4 : Int) (box5 : Int) (row : List Entry) (row1 : List Int) (row2 : List Int) (row3 : List Int) (rk : Nat) (rc : Nat) (rn : Bool) (rk1 : Nat) (rc1 : Nat) (rn1 : Bool) (rk2 : Nat) (rc2 : Nat) (rn2 : Bool) (rk3 : Nat) (rc3 : Nat) (rn3 : Bool) (r : List Mail × Int × Int × Int × Int × List Entry × Int × Int × List Int × List Int × List Int × List Entry) (hF : raft_bringing m box box1 box2 box3 box4 box5 row row1 row2 row3 = some r) : Pe Try.prog 81 ⟨[], [(100000, [.i box, .i box1, .i box2, .i box3, .row 100000 0, .i box4, .i box5, .row 100001 0, .row 100002 0, .row 100003 0])], [(100000, ⟨31, 2, 0, rk, rc, rn, 0, [], (row.map e_Entry)⟩), (100001, ⟨3, 1, 0, rk1, rc1, rn1, 0, [], (row1.map e_i64)⟩), (100002, ⟨3, 1, 0, rk2, rc2, rn2, 0, [], (row2.map e_i64)⟩), (100003, ⟨3, 1, 0, rk3, rc3, rn3, 0, [], (row3.map e_i64)⟩)], [], []⟩ [.ptr 100000 0, .agg (c_Mail m)] (.sl 9 (r.1.map e_Mail)) ⟨[], [(100000, [.i r.2.1, .i r.2.2.1, .i r.2.2.2.1, .i r.2.2.2.2.1, .sl 2 (r.2.2.2.2.2.1.map e_Entry), .i r.2.2.2.2.2.2.1, .i r.2.2.2.2.2.2.2.1, .sl 1 (r.2.2.2.2.2.2.2.2.1.map e_i64), .sl 1 (r.2.2.2.2.2.2.2.2.2.1.map e_i64), .sl 1 (r.2.2.2.2.2.2.2.2.2.2.1.map e_i64)])], [(100000, ⟨31, 2, 0, (r.2.2.2.2.2.2.2.2.2.2.2.map e_Entry).length, rc, rn, 0, [], (r.2.2.2.2.2.2.2.2.2.2.2.map e_Entry)⟩), (100001, ⟨3, 1, 0, ((row1).map e_i64).length, rc1, rn1, 0, [], (row1.map e_i64)⟩), (100002, ⟨3, 1, 0, ((row2).map e_i64).length, rc2, rn2, 0, [], (row2.map e_i64)⟩), (100003, ⟨3, 1, 0, ((row3).map e_i64).length, rc3, rn3, 0, [], (row3.map e_i64)⟩)], [], []⟩ := by
 refine PeN 111 [.tmp 4] [50] Ty.ok Fn.b81 Try.func81 ?_
 intro Q g hfin
 unfold raft_bringing at hF
 refine VR [] [0, 3] [3, 100000] [100000, 100001, 100002, 100003] [] [(3, .ptr 3 0)] [(3, (c_Mail m))] [] [] .nil ?_
 refine ND [] [0, 3, 15] [3, 100000] [100000, 100001, 100002, 100003] [(15, .bool (decide (m.Term < box2)))] .nil ?_
 refine Nif hF (fun hb hF => ?_) (fun hb hF => ?_)
 ·obtain ⟨x, h0, hF⟩ := lt_split hF
  refine NR [.callR [100000] [100000, 100001, 100002, 100003] [] [] (.sl 9 (x.map e_Mail))] [4] [100000] [100000, 100001, 100002, 100003] [(4, .sl 9 (x.map e_Mail))] (hc (Pe.ren (raft_answer_ok m 4 false 0 box box1 box2 box3 box4 box5 row row1 row2 row3 rk rc rn rk1 rc1 rn1 rk2 rc2 rn2 rk3 rc3 rn3 x h0) ⟨[], [], [], []⟩) .nil) ?_
  cases hF
  refine Wk_sealBX [] 100000 rfl rfl ?_
  exact Wk_ret (hfin _ ⟨[100000, 100001, 100002, 100003], [100000], [100000, 100001, 100002, 100003], [], [], [(100001, ⟨0, true, true, true⟩), (100002, ⟨0, true, true, true⟩), (100003, ⟨0, true, true, true⟩)], by kernel_rfl⟩)
 ·refine NR [] [0, 3, 23] [3, 100000] [100000, 100001, 100002, 100003] [(23, .bool (decide (box4 = 2)))] .nil ?_
  refine Nif hF (fun hb hF => ?_) (fun hb hF => ?_)
  ·refine NR [] [4] [100000] [100000, 100001, 100002, 100003] [(4, .nils)] .nil ?_
   cases hF
   refine Wk_sealBX [] 100000 rfl rfl ?_
   exact Wk_ret (hfin _ ⟨[100000, 100001, 100002, 100003], [100000], [100000, 100001, 100002, 100003], [], [], [(100001, ⟨0, true, true, true⟩), (100002, ⟨0, true, true, true⟩), (100003, ⟨0, true, true, true⟩)], by kernel_rfl⟩)
  ·obtain ⟨x1, h1, hF⟩ := lt_split hF
   refine VR [.callE [100000] [100000, 100001, 100002, 100003] [] [] (.tup []) ⟨[], [(100000, [.i x1.1, .i x1.2.1, .i x1.2.2.1, .i x1.2.2.2.1, .row 100000 0, .i x1.2.2.2.2.1, .i x1.2.2.2.2.2, .nils, .nils, .nils])], [(100000, ⟨31, 2, 0, rk, rc, rn, 0, [], (row.map e_Entry)⟩), (100001, ⟨3, 1, 0, rk1, rc1, rn1, 0, [], (row1.map e_i64)⟩), (100002, ⟨3, 1, 0, rk2, rc2, rn2, 0, [], (row2.map e_i64)⟩), (100003, ⟨3, 1, 0, rk3, rc3, rn3, 0, [], (row3.map e_i64)⟩)], [], []⟩] [0, 3] [3, 100000] [100000, 100001, 100002, 100003] [] [] [(100000, [.i x1.1, .i x1.2.1, .i x1.2.2.1, .i x1.2.2.2.1, .row 100000 0, .i x1.2.2.2.2.1, .i x1.2.2.2.2.2, .nils, .nils, .nils])] [] [] (hc (Pe.ren (raft_follow_ok box box1 box2 box3 box4 box5 row row1 row2 row3 rk rc rn rk1 rc1 rn1 rk2 rc2 rn2 rk3 rc3 rn3 x1 h1) ⟨[], [], [], []⟩) .nil) ?_
   obtain ⟨x2, h2, hF⟩ := ob_elim hF
   refine VD [.callE [] [] [] [] (.tup [.row 37 0, .bool x2.2.1, .agg (c_Fault x2.2.2)]) ⟨[], [], [(37, .o 31 2 0 (x2.1.map e_Entry))], [], []⟩] [0, 3, 5, 6, 7] [3, 7, 100000] [37, 100000, 100001, 100002, 100003] [] [(5, .row 37 0), (6, .bool x2.2.1), (7, .ptr 7 0)] [(7, (c_Fault x2.2.2))] [(37, .o 31 2 0 (x2.1.map e_Entry)), (100000, ⟨31, 2, 0, (row.map e_Entry).length, rc, rn, 0, [], (row.map e_Entry)⟩)] [] (hc (Pe.ren (entry_Put_ok row m.A m.B m.Entries x2 h2) ⟨[], [(30, 37)], [], []⟩) .nil) ?_
   refine NR [] [0, 3, 5, 6, 43] [3, 100000] [37, 100000, 100001, 100002, 100003] [(43, .bool (!decide (x2.2.2.Code = 0)))] .nil ?_
   refine Nif hF (fun hb hF => ?_) (fun hb hF => ?_)
   ·refine NR [] [4] [100000] [100000, 100001, 100002, 100003] [(4, .nils)] .nil ?_
    cases hF
    refine Wk_sealBX [] 100000 rfl rfl ?_
    refine Wk_coeB 100000 [.i x1.1, .i x1.2.1, .i x1.2.2.1, .i x1.2.2.2.1, .sl 2 (row.map e_Entry), .i x1.2.2.2.2.1, .i x1.2.2.2.2.2, .sl 1 (([] : List Int).map e_i64), .sl 1 (([] : List Int).map e_i64), .sl 1 (([] : List Int).map e_i64)] rfl (.cons (CoeS.refl _) (.cons (CoeS.refl _) (.cons (CoeS.refl _) (.cons (CoeS.refl _) (.cons (CoeS.refl _) (.cons (CoeS.refl _) (.cons (CoeS.refl _) (.cons (CoeS.nils 1) (.cons (CoeS.nils 1) (.cons (CoeS.nils 1) .nil)))))))))) ?_
    exact Wk_ret (hfin _ ⟨[100000, 100001, 100002, 100003], [100000], [100000, 100001, 100002, 100003], [], [], [(100001, ⟨0, true, true, true⟩), (100002, ⟨0, true, true, true⟩), (100003, ⟨0, true, true, true⟩)], by kernel_rfl⟩)
   ·refine NR [] [0, 3, 5, 45] [3, 100000] [37, 100000, 100001, 100002, 100003] [(45, .bool (!x2.2.1))] .nil ?_
    refine Nif hF (fun hb hF => ?_) (fun hb hF => ?_)
    ·obtain ⟨x3, h3, hF⟩ := lt_split hF
     refine ND [.nat (row.length : Int), .callR [100000] [100000] [] [] (.sl 9 (x3.map e_Mail))] [4] [100000] [100000, 100001, 100002, 100003] [(4, .sl 9 (x3.map e_Mail))] (hc (len_ok e_Entry row) (hc (Pe.ren (raft_answer_v1_ok m 4 false (max 0 (min (w64 (m.A - 1)) (row.length : Int))) x1.1 x1.2.1 x1.2.2.1 x1.2.2.2.1 x1.2.2.2.2.1 x1.2.2.2.2.2 row ((row.map e_Entry).length) rc rn x3 h3) ⟨[], [], [], []⟩) .nil)) ?_
     cases hF
     refine Wk_sealBX [] 100000 rfl rfl ?_
     refine Wk_coeB 100000 [.i x1.1, .i x1.2.1, .i x1.2.2.1, .i x1.2.2.2.1, .sl 2 (row.map e_Entry), .i x1.2.2.2.2.1, .i x1.2.2.2.2.2, .sl 1 (([] : List Int).map e_i64), .sl 1 (([] : List Int).map e_i64), .sl 1 (([] : List Int).map e_i64)] rfl (.cons (CoeS.refl _) (.cons (CoeS.refl _) (.cons (CoeS.refl _) (.cons (CoeS.refl _) (.cons (CoeS.refl _) (.cons (CoeS.refl _) (.cons (CoeS.refl _) (.cons (CoeS.nils 1) (.cons (CoeS.nils 1) (.cons (CoeS.nils 1) .nil)))))))))) ?_
     exact Wk_ret (hfin _ ⟨[100000, 100001, 100002, 100003], [100000], [100000, 100001, 100002, 100003], [], [], [(100001, ⟨0, true, true, true⟩), (100002, ⟨0, true, true, true⟩), (100003, ⟨0, true, true, true⟩)], by kernel_rfl⟩)
    ·refine Wk_sealX [] 5 rfl rfl ?_
     refine Wk_sealBX [] 100000 rfl rfl ?_
     obtain ⟨h4, h5, hF⟩ := asrt2 hF
     obtain ⟨x4, h6, hF⟩ := ob_elim hF
     refine ND [.nat (x2.1.length : Int), .xs ((ltake x2.1 x1.2.2.2.2.2).map e_Entry), .xs ((ltake row x1.2.2.2.2.2).map e_Entry), .callB (.bool x4)] [0, 3, 5, 84] [3, 100000] [100000, 100001, 100002, 100003] [(84, .bool ((decide ((x2.1.length : Int) < x1.2.2.2.2.2)) || (!x4)))] (hc (len_ok e_Entry x2.1) (hc (fun (ga0 : (!(decide ((x2.1.length : Int) < x1.2.2.2.2.2))) = true) => (sl01_ok e_Entry (h4 ga0))) (hc (fun (ga0 : (!(decide ((x2.1.length : Int) < x1.2.2.2.2.2))) = true) => (sl01_ok e_Entry (h5 ga0))) (hc (fun (ga0 : (!(decide ((x2.1.length : Int) < x1.2.2.2.2.2))) = true) => (slices_Equal_api_Entry_api_Entry_ok (ltake x2.1 x1.2.2.2.2.2) (ltake row x1.2.2.2.2.2) x4 (ite_t h6 ga0))) .nil)))) ?_
     refine Nif hF (fun hb hF => ?_) (fun hb hF => ?_)
     ·refine NR [] [4] [100000] [100000, 100001, 100002, 100003] [(4, .nils)] .nil ?_
      cases hF
      refine Wk_coeB 100000 [.i x1.1, .i x1.2.1, .i x1.2.2.1, .i x1.2.2.2.1, .sl 2 (row.map e_Entry), .i x1.2.2.2.2.1, .i x1.2.2.2.2.2, .sl 1 (([] : List Int).map e_i64), .sl 1 (([] : List Int).map e_i64), .sl 1 (([] : List Int).map e_i64)] rfl (.cons (CoeS.refl _) (.cons (CoeS.refl _) (.cons (CoeS.refl _) (.cons (CoeS.refl _) (.cons (CoeS.refl _) (.cons (CoeS.refl _) (.cons (CoeS.refl _) (.cons (CoeS.nils 1) (.cons (CoeS.nils 1) (.cons (CoeS.nils 1) .nil)))))))))) ?_
      exact Wk_ret (hfin _ ⟨[100000, 100001, 100002, 100003], [100000], [100000, 100001, 100002, 100003], [], [], [(100001, ⟨0, true, true, true⟩), (100002, ⟨0, true, true, true⟩), (100003, ⟨0, true, true, true⟩)], by kernel_rfl⟩)
     ·refine NR [.nat (m.Entries.length : Int)] [0, 3, 5, 8] [3, 100000] [100000, 100001, 100002, 100003] [(8, .i (w64 (m.A + (m.Entries.length : Int))))] (hc (len_ok e_Entry m.Entries) .nil) ?_
      refine VD [] [0, 3, 8] [3, 100000] [100000, 100001, 100002, 100003] [] [] [(100000, [.i x1.1, .i x1.2.1, .i x1.2.2.1, .i x1.2.2.2.1, .sl 2 (x2.1.map e_Entry), .i x1.2.2.2.2.1, .i (max x1.2.2.2.2.2 (min m.C0 (w64 (m.A + (m.Entries.length : Int))))), .nils, .nils, .nils])] [] [] .nil ?_
      obtain ⟨x5, h7, hF⟩ := lt_split hF
      refine NR [.callR [100000] [] [] [] (.sl 9 (x5.map e_Mail))] [4] [100000] [100000, 100001, 100002, 100003] [(4, .sl 9 (x5.map e_Mail))] (hc (Pe.ren (raft_answer_v2_ok m 4 true (w64 (m.A + (m.Entries.length : Int))) x1.1 x1.2.1 x1.2.2.1 x1.2.2.2.1 x2.1 x1.2.2.2.2.1 (max x1.2.2.2.2.2 (min m.C0 (w64 (m.A + (m.Entries.length : Int))))) x5 h7) ⟨[], [], [], []⟩) .nil) ?_
      cases hF
      refine Wk_coeB 100000 [.i x1.1, .i x1.2.1, .i x1.2.2.1, .i x1.2.2.2.1, .sl 2 (x2.1.map e_Entry), .i x1.2.2.2.2.1, .i (max x1.2.2.2.2.2 (min m.C0 (w64 (m.A + (m.Entries.length : Int))))), .sl 1 (([] : List Int).map e_i64), .sl 1 (([] : List Int).map e_i64), .sl 1 (([] : List Int).map e_i64)] rfl (.cons (CoeS.refl _) (.cons (CoeS.refl _) (.cons (CoeS.refl _) (.cons (CoeS.refl _) (.cons (CoeS.refl _) (.cons (CoeS.refl _) (.cons (CoeS.refl _) (.cons (CoeS.nils 1) (.cons (CoeS.nils 1) (.cons (CoeS.nils 1) .nil)))))))))) ?_
      exact Wk_ret (hfin _ ⟨[100000, 100001, 100002, 100003], [100000], [100000, 100001, 100002, 100003], [], [], [(100001, ⟨0, true, true, true⟩), (100002, ⟨0, true, true, true⟩), (100003, ⟨0, true, true, true⟩)], by kernel_rfl⟩)

/- raft.answered -/
noncomputable def raft_answered (m : Mail) (box : Int) (box1 : Int) (box2 : Int) (box3 : Int) (box4 : Int) (box5 : Int) (row : List Entry) (row1 : List Int) (row2 : List Int) (row3 : List Int) : Option (Int × Int × Int × Int × Int × Int × List Int × List Int) :=
 if ((!decide (box4 = 2)) || (!decide (m.Term = box2))) = true then
  some (box, box1, box2, box3, box4, box5, row2, row3)
 else
  if m.Ok = true then
   asrt (0 ≤ m.From ∧ m.From < (row3.length : Int)) <|
   asrt (0 ≤ m.From ∧ m.From < (row3.length : Int)) <|
   asrt (0 ≤ m.From ∧ m.From < (row3.length : Int)) <|
   asrt (0 ≤ m.From ∧ m.From < (row3.length : Int)) <|
   lt ((lset row3 m.From (max (lget row3 m.From) (min m.A (row.length : Int))))) fun (v : List Int) =>
   asrt (0 ≤ m.From ∧ m.From < (v.length : Int)) <|
   asrt (0 ≤ m.From ∧ m.From < (v.length : Int)) <|
   asrt (0 ≤ m.From ∧ m.From < (row2.length : Int)) <|
   asrt (0 ≤ m.From ∧ m.From < (row2.length : Int)) <|
   ob (raft_count_v1 box box1 box2 box3 box4 box5 row row1 (lset row2 m.From (w64 ((lget v m.From) + 1))) v) fun x =>
   some (x.1, x.2.1, x.2.2.1, x.2.2.2.1, x.2.2.2.2.1, x.2.2.2.2.2, (lset row2 m.From (w64 ((lget v m.From) + 1))), v)
  else
   asrt (0 ≤ m.From ∧ m.From < (row3.length : Int)) <|
   asrt (0 ≤ m.From ∧ m.From < (row3.length : Int)) <|
   asrt (0 ≤ m.From ∧ m.From < (row2.length : Int)) <|
   asrt (0 ≤ m.From ∧ m.From < (row2.length : Int)) <|
   asrt (0 ≤ m.From ∧ m.From < (row2.length : Int)) <|
   asrt (0 ≤ m.From ∧ m.From < (row2.length : Int)) <|
   lt ((lset row2 m.From (max (w64 ((lget row3 m.From) + 1)) (min (w64 ((lget row2 m.From) - 1)) (w64 (m.A + 1)))))) fun (v1 : List Int) =>
   some (box, box1, box2, box3, box4, box5, v1, row3)
theorem raft_answered_ok (m : Mail) (box : Int) (box1 : Int) (box2 : Int) (box3 : Int) (box4 : Int) (box5 : Int) (row : List Entry) (row1 : List Int) (row2 : List Int) (row3 : List Int) (rk : Nat) (rc : Nat) (rn : Bool) (rk1 : Nat) (rc1 : Nat) (rn1 : Bool) (rk2 : Nat) (rc2 : Nat) (rn2 : Bool) (rk3 : Nat) (rc3 : Nat) (rn3 : Bool) (r : Int × Int × Int × Int × Int × Int × List Int × List Int) (hF : raft_answered m box box1 box2 box3 box4 box5 row row1 row2 row3 = some r) : Pe Try.prog 82 ⟨[], [(100000, [.i box, .i box1, .i box2, .i box3, .row 100000 0, .i box4, .i box5, .row 100001 0, .row 100002 0, .row 100003 0])], [(100000, ⟨31, 2, 0, rk, rc, rn, 0, [], (row.map e_Entry)⟩), (100001, ⟨3, 1, 0, rk1, rc1, rn1, 0, [], (row1.map e_i64)⟩), (100002, ⟨3, 1, 0, 0, rc2, rn2, 0, [], (row2.map e_i64)⟩), (100003, ⟨3, 1, 0, 0, rc3, rn3, 0, [], (row3.map e_i64)⟩)], [], []⟩ [.ptr 100000 0, .agg (c_Mail m)] (.tup []) ⟨[], [(100000, [.i r.1, .i r.2.1, .i r.2.2.1, .i r.2.2.2.1, .row 100000 0, .i r.2.2.2.2.1, .i r.2.2.2.2.2.1, .row 100001 0, .row 100002 0, .row 100003 0])], [(100000, ⟨31, 2, 0, rk, rc, rn, 0, [], (row.map e_Entry)⟩), (100001, ⟨3, 1, 0, rk1, rc1, rn1, 0, [], (row1.map e_i64)⟩), (100002, ⟨3, 1, 0, 0, rc2, rn2, 0, [], (r.2.2.2.2.2.2.1.map e_i64)⟩), (100003, ⟨3, 1, 0, 0, rc3, rn3, 0, [], (r.2.2.2.2.2.2.2.map e_i64)⟩)], [], []⟩ := by
 refine PeN 92 [] [] Ty.ok Fn.b82 Try.func82 ?_
 intro Q g hfin
 unfold raft_answered at hF
 refine VR [] [0, 3] [3, 100000] [100000, 100001, 100002, 100003] [] [(3, .ptr 3 0)] [(3, (c_Mail m))] [] [] .nil ?_
 refine ND [] [0, 3, 17] [3, 100000] [100000, 100001, 100002, 100003] [(17, .bool ((!decide (box4 = 2)) || (!decide (m.Term = box2))))] .nil ?_
 refine Nif hF (fun hb hF => ?_) (fun hb hF => ?_)
 ·cases hF
  exact Wk_ret (hfin _ ⟨[100000, 100001, 100002, 100003], [100000], [100000, 100001, 100002, 100003], [], [], [], by kernel_rfl⟩)
 ·refine NR [] [0, 3, 19] [3, 100000] [100000, 100001, 100002, 100003] [(19, .bool m.Ok)] .nil ?_
  refine Nif hF (fun hb hF => ?_) (fun hb hF => ?_)
  ·obtain ⟨h0, hF⟩ := asrt_elim hF
   obtain ⟨h1, h2, hF⟩ := asrt2 hF
   obtain ⟨h3, hF⟩ := asrt_elim hF
   refine NDL ((lset row3 m.From (max (lget row3 m.From) (min m.A (row.length : Int))))) (fun v : List Int => ([], [], [(100003, ⟨3, 1, 0, 0, rc3, rn3, 0, [], (v.map e_i64)⟩)], [])) [.av (e_i64 (lget row3 m.From)), .nat (row.length : Int), .av (e_i64 (lget row3 m.From)), .xs ((lset row3 m.From (max (lget row3 m.From) (min m.A (row.length : Int)))).map e_i64)] [0, 3] [3, 100000] [100000, 100001, 100002, 100003] [] (hc (ixr_ok e_i64 h0) (hc (ldr_ok e_i64 h1) (hc (len_ok e_Entry row) (hc (ixr_ok e_i64 h2) (hc (ldr_ok e_i64 h3) (hc (set_ok e_i64 row3 m.From (max (lget row3 m.From) (min m.A (row.length : Int)))) (hc (Nat.zero_le m.From.toNat) .nil))))))) (fun v hv => ?_)
   have hF := lt_elim hF hv
   obtain ⟨h4, h5, h6, h7, hF⟩ := asrt4 hF
   refine VD [.av (e_i64 (lget v m.From)), .av (e_i64 (lget row2 m.From)), .xs ((lset row2 m.From (w64 ((lget v m.From) + 1))).map e_i64)] [0] [100000] [100000, 100001, 100002, 100003] [] [] [] [(100002, ⟨3, 1, 0, 0, rc2, rn2, 0, [], ((lset row2 m.From (w64 ((lget v m.From) + 1))).map e_i64)⟩)] [] (hc (ixr_ok e_i64 h4) (hc (ldr_ok e_i64 h5) (hc (ixr_ok e_i64 h6) (hc (ldr_ok e_i64 h7) (hc (set_ok e_i64 row2 m.From (w64 ((lget v m.From) + 1))) (hc (Nat.zero_le m.From.toNat) .nil)))))) ?_
   obtain ⟨x, h8, hF⟩ := ob_elim hF
   refine VR [.callE [100000] [100000, 100001, 100002, 100003] [] [] (.tup []) ⟨[], [(100000, [.i x.1, .i x.2.1, .i x.2.2.1, .i x.2.2.2.1, .row 100000 0, .i x.2.2.2.2.1, .i x.2.2.2.2.2, .row 100001 0, .row 100002 0, .row 100003 0])], [(100000, ⟨31, 2, 0, rk, rc, rn, 0, [], (row.map e_Entry)⟩), (100001, ⟨3, 1, 0, rk1, rc1, rn1, 0, [], (row1.map e_i64)⟩), (100002, ⟨3, 1, 0, 0, rc2, rn2, 0, [], ((lset row2 m.From (w64 ((lget v m.From) + 1))).map e_i64)⟩), (100003, ⟨3, 1, 0, 0, rc3, rn3, 0, [], (v.map e_i64)⟩)], [], []⟩] [] [100000] [100000, 100001, 100002, 100003] [] [] [(100000, [.i x.1, .i x.2.1, .i x.2.2.1, .i x.2.2.2.1, .row 100000 0, .i x.2.2.2.2.1, .i x.2.2.2.2.2, .row 100001 0, .row 100002 0, .row 100003 0])] [] [] (hc (Pe.ren (raft_count_v1_ok box box1 box2 box3 box4 box5 row row1 (lset row2 m.From (w64 ((lget v m.From) + 1))) v rk rc rn rk1 rc1 rn1 0 rc2 rn2 0 rc3 rn3 x h8) ⟨[], [], [], []⟩) .nil) ?_
   cases hF
   exact Wk_ret (hfin _ ⟨[100000, 100001, 100002, 100003], [100000], [100000, 100001, 100002, 100003], [], [], [], by kernel_rfl⟩)
  ·obtain ⟨h9, hF⟩ := asrt_elim hF
   obtain ⟨h10, h11, h12, h13, hF⟩ := asrt4 hF
   obtain ⟨h14, hF⟩ := asrt_elim hF
   refine NDL ((lset row2 m.From (max (w64 ((lget row3 m.From) + 1)) (min (w64 ((lget row2 m.From) - 1)) (w64 (m.A + 1)))))) (fun v1 : List Int => ([], [], [(100002, ⟨3, 1, 0, 0, rc2, rn2, 0, [], (v1.map e_i64)⟩)], [])) [.av (e_i64 (lget row3 m.From)), .av (e_i64 (lget row2 m.From)), .av (e_i64 (lget row2 m.From)), .xs ((lset row2 m.From (max (w64 ((lget row3 m.From) + 1)) (min (w64 ((lget row2 m.From) - 1)) (w64 (m.A + 1))))).map e_i64)] [] [100000] [100000, 100001, 100002, 100003] [] (hc (ixr_ok e_i64 h9) (hc (ldr_ok e_i64 h10) (hc (ixr_ok e_i64 h11) (hc (ldr_ok e_i64 h12) (hc (ixr_ok e_i64 h13) (hc (ldr_ok e_i64 h14) (hc (set_ok e_i64 row2 m.From (max (w64 ((lget row3 m.From) + 1)) (min (w64 ((lget row2 m.From) - 1)) (w64 (m.A + 1))))) (hc (Nat.zero_le m.From.toNat) .nil)))))))) (fun v1 hv => ?_)
   have hF := lt_elim hF hv
   cases hF
   exact Wk_end (hfin _ ⟨[100000, 100001, 100002, 100003], [100000], [100000, 100001, 100002, 100003], [], [], [], by kernel_rfl⟩)

/- raft.Take -/
noncomputable def raft_Take (x : Node) (m : Mail) : Option (Node × List Mail × Fault) :=
 ob (raft_Check x) fun x1 =>
 ob (if (decide (x1.Code = 0)) = true then (raft_fine m x) else some default) fun x2 =>
 ob (
  if ((decide (x1.Code = 0)) && (!x2)) = true then
   lt (raft_fault 5 0) fun x3 =>
   some x3
  else
   some x1) fun (v : Fault) =>
 if (!decide (v.Code = 0)) = true then
  some ((⟨0, 0, 0, 0, ([] : List Entry), 0, 0, ([] : List Int), ([] : List Int), ([] : List Int)⟩ : Node), ([] : List Mail), v)
 else
  ob (raft_own x) fun x4 =>
  ob (
   if (decide (x4.2.2.1 < m.Term)) = true then
    lt (raft_follow x4.1 x4.2.1 m.Term 0 x4.2.2.2.2.2.1 x4.2.2.2.2.2.2.1 x4.2.2.2.2.1 x4.2.2.2.2.2.2.2.1 x4.2.2.2.2.2.2.2.2.1 x4.2.2.2.2.2.2.2.2.2) fun x5 =>
    some (x5.1, x5.2.1, x5.2.2.1, x5.2.2.2.1, x5.2.2.2.2.1, x5.2.2.2.2.2, ([] : List Int), ([] : List Int), ([] : List Int))
   else
    some (x4.1, x4.2.1, x4.2.2.1, x4.2.2.2.1, x4.2.2.2.2.2.1, x4.2.2.2.2.2.2.1, x4.2.2.2.2.2.2.2.1, x4.2.2.2.2.2.2.2.2.1, x4.2.2.2.2.2.2.2.2.2)) fun (v1 : Int × Int × Int × Int × Int × Int × List Int × List Int × List Int) =>
  ob (
   if (decide (m.Kind = 1)) = true then
    ob (raft_asked m v1.1 v1.2.1 v1.2.2.1 v1.2.2.2.1 v1.2.2.2.2.1 v1.2.2.2.2.2.1 x4.2.2.2.2.1 v1.2.2.2.2.2.2.1 v1.2.2.2.2.2.2.2.1 v1.2.2.2.2.2.2.2.2) fun x6 =>
    some (x6.2.1, x6.2.2.1, x6.2.2.2.1, x6.2.2.2.2.1, x4.2.2.2.2.1, x6.2.2.2.2.2.1, x6.2.2.2.2.2.2, v1.2.2.2.2.2.2.1, v1.2.2.2.2.2.2.2.1, v1.2.2.2.2.2.2.2.2, x6.1)
   else
    if (decide (m.Kind = 2)) = true then
     ob (raft_given m v1.1 v1.2.1 v1.2.2.1 v1.2.2.2.1 v1.2.2.2.2.1 v1.2.2.2.2.2.1 x4.2.2.2.2.1 v1.2.2.2.2.2.2.1 v1.2.2.2.2.2.2.2.1 v1.2.2.2.2.2.2.2.2) fun x7 =>
     some (x7.2.1, x7.2.2.1, x7.2.2.2.1, x7.2.2.2.2.1, x7.2.2.2.2.2.1, x7.2.2.2.2.2.2.1, x7.2.2.2.2.2.2.2.1, x7.2.2.2.2.2.2.2.2.1, x7.2.2.2.2.2.2.2.2.2.1, x7.2.2.2.2.2.2.2.2.2.2.1, x7.1)
    else
     if (decide (m.Kind = 3)) = true then
      ob (raft_bringing m v1.1 v1.2.1 v1.2.2.1 v1.2.2.2.1 v1.2.2.2.2.1 v1.2.2.2.2.2.1 x4.2.2.2.2.1 v1.2.2.2.2.2.2.1 v1.2.2.2.2.2.2.2.1 v1.2.2.2.2.2.2.2.2) fun x8 =>
      some (x8.2.1, x8.2.2.1, x8.2.2.2.1, x8.2.2.2.2.1, x8.2.2.2.2.2.1, x8.2.2.2.2.2.2.1, x8.2.2.2.2.2.2.2.1, x8.2.2.2.2.2.2.2.2.1, x8.2.2.2.2.2.2.2.2.2.1, x8.2.2.2.2.2.2.2.2.2.2.1, x8.1)
     else
      if (decide (m.Kind = 4)) = true then
       ob (raft_answered m v1.1 v1.2.1 v1.2.2.1 v1.2.2.2.1 v1.2.2.2.2.1 v1.2.2.2.2.2.1 x4.2.2.2.2.1 v1.2.2.2.2.2.2.1 v1.2.2.2.2.2.2.2.1 v1.2.2.2.2.2.2.2.2) fun x9 =>
       some (x9.1, x9.2.1, x9.2.2.1, x9.2.2.2.1, x4.2.2.2.2.1, x9.2.2.2.2.1, x9.2.2.2.2.2.1, v1.2.2.2.2.2.2.1, x9.2.2.2.2.2.2.1, x9.2.2.2.2.2.2.2, ([] : List Mail))
      else
       some (v1.1, v1.2.1, v1.2.2.1, v1.2.2.2.1, x4.2.2.2.2.1, v1.2.2.2.2.1, v1.2.2.2.2.2.1, v1.2.2.2.2.2.2.1, v1.2.2.2.2.2.2.2.1, v1.2.2.2.2.2.2.2.2, ([] : List Mail))) fun (v2 : Int × Int × Int × Int × List Entry × Int × Int × List Int × List Int × List Int × List Mail) =>
  some ((⟨v2.1, v2.2.1, v2.2.2.1, v2.2.2.2.1, v2.2.2.2.2.1, v2.2.2.2.2.2.1, v2.2.2.2.2.2.2.1, v2.2.2.2.2.2.2.2.1, v2.2.2.2.2.2.2.2.2.1, v2.2.2.2.2.2.2.2.2.2.1⟩ : Node), v2.2.2.2.2.2.2.2.2.2.2, v)
theorem raft_Take_ok (x : Node) (m : Mail) (r : Node × List Mail × Fault) (hF : raft_Take x m = some r) : Pe Try.prog 42 S.none [.agg (c_Node x), .agg (c_Mail m)] (.tup [.agg (c_Node r.1), .sl 9 (r.2.1.map e_Mail), .agg (c_Fault r.2.2)]) S.none := by
 refine PeN 72 [.cell 4 46, .tmp 5, .cell 6 26] [46, 50, 26] Ty.ok Fn.b42 Try.func42 ?_
 intro Q g hfin
 unfold raft_Take at hF
 refine VR [] [2, 3, 4, 6] [2, 3, 4, 6] [] [] [(2, .ptr 2 0), (3, .ptr 3 0), (4, .ptr 4 0), (6, .ptr 6 0)] [(2, (c_Node x)), (3, (c_Mail m)), (4, [.i 0, .i 0, .i 0, .i 0, .nils, .i 0, .i 0, .nils, .nils, .nils]), (6, [.i 0, .i 0])] [] [] .nil ?_
 obtain ⟨x1, h0, hF⟩ := ob_elim hF
 refine VR [.callB (.agg (c_Fault x1))] [2, 3, 4, 6, 7] [2, 3, 4, 6, 7] [] [] [(7, .ptr 7 0)] [(7, (c_Fault x1))] [] [] (hc (raft_Check_ok x x1 h0) .nil) ?_
 obtain ⟨x2, h1, hF⟩ := ob_elim hF
 refine NR [.callR [2] [] [] [] (.bool x2)] [2, 3, 4, 6, 7, 19] [2, 3, 4, 6, 7] [] [(19, .bool ((decide (x1.Code = 0)) && (!x2)))] (hc (fun (ga0 : (decide (x1.Code = 0)) = true) => (Pe.ren (raft_fine_ok m x x2 (ite_t h1 ga0)) ⟨[(100000, 2)], [], [], []⟩)) .nil) ?_
 obtain ⟨v, hv, hF⟩ := ob_elim hF
 refine Nmeet (⟨[(2, .ptr 2 0), (3, .ptr 3 0), (4, .ptr 4 0), (6, .ptr 6 0), (7, .ptr 7 0)], [(2, (c_Node x)), (3, (c_Mail m)), (4, [.i 0, .i 0, .i 0, .i 0, .nils, .i 0, .i 0, .nils, .nils, .nils]), (6, [.i 0, .i 0]), (7, (c_Fault v))], [], [], []⟩ : S) ?_ ?_
 ·have hF := hv
  refine Nif hF (fun hb hF => ?_) (fun hb hF => ?_)
  ·obtain ⟨x3, h2, hF⟩ := lt_split hF
   refine VR [.callB (.agg (c_Fault x3))] [2, 3, 4, 6, 7] [2, 3, 4, 6, 7] [] [] [] [(7, (c_Fault x3))] [] [] (hc (raft_fault_ok 5 0 x3 h2) .nil) ?_
   cases hF
   exact met [] (by kernel_rfl)
  ·cases hF
   exact met [] (by kernel_rfl)
 ·refine NR [] [2, 3, 4, 6, 7, 23] [2, 3, 4, 6, 7] [] [(23, .bool (!decide (v.Code = 0)))] .nil ?_
  refine Nif hF (fun hb hF => ?_) (fun hb hF => ?_)
  ·refine VD [] [4, 5, 6] [4, 6] [] [] [(5, .nils)] [(6, (c_Fault v))] [] [] .nil ?_
   cases hF
   exact Wk_ret (hfin _ ⟨[], [], [], [], [], [], by kernel_rfl⟩)
  ·obtain ⟨x4, h3, hF⟩ := ob_elim hF
   refine VR [.callE [] [] [] [] (.ptr 27 0) ⟨[], [(27, [.i x4.1, .i x4.2.1, .i x4.2.2.1, .i x4.2.2.2.1, .row 27 0, .i x4.2.2.2.2.2.1, .i x4.2.2.2.2.2.2.1, .row 20027 0, .row 40027 0, .row 60027 0])], [(27, .o 31 2 0 (x4.2.2.2.2.1.map e_Entry)), (20027, .o 3 1 0 (x4.2.2.2.2.2.2.2.1.map e_i64)), (40027, .o 3 1 0 (x4.2.2.2.2.2.2.2.2.1.map e_i64)), (60027, .o 3 1 0 (x4.2.2.2.2.2.2.2.2.2.map e_i64))], [], []⟩] [3, 4, 6, 7, 8] [3, 4, 6, 7, 27] [27, 20027, 40027, 60027] [] [(8, .ptr 27 0)] [(27, [.i x4.1, .i x4.2.1, .i x4.2.2.1, .i x4.2.2.2.1, .row 27 0, .i x4.2.2.2.2.2.1, .i x4.2.2.2.2.2.2.1, .row 20027 0, .row 40027 0, .row 60027 0])] [(27, .o 31 2 0 (x4.2.2.2.2.1.map e_Entry)), (20027, .o 3 1 0 (x4.2.2.2.2.2.2.2.1.map e_i64)), (40027, .o 3 1 0 (x4.2.2.2.2.2.2.2.2.1.map e_i64)), (60027, .o 3 1 0 (x4.2.2.2.2.2.2.2.2.2.map e_i64))] [] (hc (Pe.ren (raft_own_ok x x4 h3) ⟨[(1, 27)], [(5, 27), (8, 20027), (11, 40027), (14, 60027)], [], []⟩) .nil) ?_
   refine ND [] [3, 4, 6, 7, 8, 34] [3, 4, 6, 7, 27] [27, 20027, 40027, 60027] [(34, .bool (decide (x4.2.2.1 < m.Term)))] .nil ?_
   obtain ⟨v1, hv, hF⟩ := ob_elim hF
   refine Nmeet (⟨[(3, .ptr 3 0), (4, .ptr 4 0), (6, .ptr 6 0), (7, .ptr 7 0), (8, .ptr 27 0)], [(3, (c_Mail m)), (4, [.i 0, .i 0, .i 0, .i 0, .nils, .i 0, .i 0, .nils, .nils, .nils]), (6, [.i 0, .i 0]), (7, (c_Fault v)), (27, [.i v1.1, .i v1.2.1, .i v1.2.2.1, .i v1.2.2.2.1, .row 27 0, .i v1.2.2.2.2.1, .i v1.2.2.2.2.2.1, .row 20027 0, .row 40027 0, .row 60027 0])], [(27, .o 31 2 0 (x4.2.2.2.2.1.map e_Entry)), (20027, .o 3 1 0 (v1.2.2.2.2.2.2.1.map e_i64)), (40027, .o 3 1 0 (v1.2.2.2.2.2.2.2.1.map e_i64)), (60027, .o 3 1 0 (v1.2.2.2.2.2.2.2.2.map e_i64))], [], []⟩ : S) ?_ ?_
   ·have hF := hv
    refine Nif hF (fun hb hF => ?_) (fun hb hF => ?_)
    ·refine VR [] [3, 4, 6, 7, 8] [3, 4, 6, 7, 27] [27, 20027, 40027, 60027] [] [] [(27, [.i x4.1, .i x4.2.1, .i m.Term, .i 0, .row 27 0, .i x4.2.2.2.2.2.1, .i x4.2.2.2.2.2.2.1, .row 20027 0, .row 40027 0, .row 60027 0])] [] [] .nil ?_
     obtain ⟨x5, h4, hF⟩ := lt_split hF
     refine VR [.callE [27] [27, 20027, 40027, 60027] [] [] (.tup []) ⟨[], [(27, [.i x5.1, .i x5.2.1, .i x5.2.2.1, .i x5.2.2.2.1, .row 27 0, .i x5.2.2.2.2.1, .i x5.2.2.2.2.2, .nils, .nils, .nils])], [(27, .o 31 2 0 (x4.2.2.2.2.1.map e_Entry)), (20027, .o 3 1 0 (x4.2.2.2.2.2.2.2.1.map e_i64)), (40027, .o 3 1 0 (x4.2.2.2.2.2.2.2.2.1.map e_i64)), (60027, .o 3 1 0 (x4.2.2.2.2.2.2.2.2.2.map e_i64))], [], []⟩] [3, 4, 6, 7, 8] [3, 4, 6, 7, 27] [27] [] [] [(27, [.i x5.1, .i x5.2.1, .i x5.2.2.1, .i x5.2.2.2.1, .row 27 0, .i x5.2.2.2.2.1, .i x5.2.2.2.2.2, .nils, .nils, .nils])] [] [] (hc (Pe.ren (raft_follow_ok x4.1 x4.2.1 m.Term 0 x4.2.2.2.2.2.1 x4.2.2.2.2.2.2.1 x4.2.2.2.2.1 x4.2.2.2.2.2.2.2.1 x4.2.2.2.2.2.2.2.2.1 x4.2.2.2.2.2.2.2.2.2 0 0 false 0 0 false 0 0 false 0 0 false x5 h4) ⟨[(100000, 27)], [(100000, 27), (100001, 20027), (100002, 40027), (100003, 60027)], [], []⟩) .nil) ?_
     refine Wk_nilrowB 27 7 60000 3 1 rfl rfl rfl rfl rfl ?_
     refine Wk_nilrowB 27 8 60001 3 1 rfl rfl rfl rfl rfl ?_
     refine Wk_nilrowB 27 9 60002 3 1 rfl rfl rfl rfl rfl ?_
     refine Wk_trim (fs := [3, 4, 6, 7, 8]) (bs := [3, 4, 6, 7, 27]) (rs := [27, 60000, 60001, 60002]) (ms := []) (aa := []) (nv := []) rfl ?_
     refine Wk_ren' ⟨[], [(60000, 20027), (60001, 40027), (60002, 60027)], [], []⟩ rfl ?_
     cases hF
     exact met [(20027, ⟨0, true, false, false⟩), (40027, ⟨0, true, false, false⟩), (60027, ⟨0, true, false, false⟩)] (by kernel_rfl)
    ·cases hF
     exact met [] (by kernel_rfl)
   ·refine NR [] [3, 4, 6, 7, 8, 9] [3, 4, 6, 7, 27] [27, 20027, 40027, 60027] [(9, .nils)] .nil ?_
    refine NR [] [3, 4, 6, 7, 8, 9, 46] [3, 4, 6, 7, 27] [27, 20027, 40027, 60027] [(46, .i m.Kind)] .nil ?_
    refine Nblk ?_
    refine NR [] [3, 4, 6, 7, 8, 9, 46, 47] [3, 4, 6, 7, 27] [27, 20027, 40027, 60027] [(47, .bool (decide (m.Kind = 1)))] .nil ?_
    obtain ⟨v2, hv, hF⟩ := ob_elim hF
    refine Nmeet (⟨[(4, .ptr 4 0), (6, .ptr 6 0), (7, .ptr 7 0), (8, .ptr 27 0), (9, .sl 9 (v2.2.2.2.2.2.2.2.2.2.2.map e_Mail))], [(4, [.i 0, .i 0, .i 0, .i 0, .nils, .i 0, .i 0, .nils, .nils, .nils]), (6, [.i 0, .i 0]), (7, (c_Fault v)), (27, [.i v2.1, .i v2.2.1, .i v2.2.2.1, .i v2.2.2.2.1, .sl 2 (v2.2.2.2.2.1.map e_Entry), .i v2.2.2.2.2.2.1, .i v2.2.2.2.2.2.2.1, .sl 1 (v2.2.2.2.2.2.2.2.1.map e_i64), .sl 1 (v2.2.2.2.2.2.2.2.2.1.map e_i64), .sl 1 (v2.2.2.2.2.2.2.2.2.2.1.map e_i64)])], [], [], []⟩ : S) ?_ ?_
    ·have hF := hv
     refine Nif hF (fun hb hF => ?_) (fun hb hF => ?_)
     ·obtain ⟨x6, h5, hF⟩ := ob_elim hF
      refine VR [.callE [27] [27, 20027, 40027, 60027] [] [] (.sl 9 (x6.1.map e_Mail)) ⟨[], [(27, [.i x6.2.1, .i x6.2.2.1, .i x6.2.2.2.1, .i x6.2.2.2.2.1, .row 27 0, .i x6.2.2.2.2.2.1, .i x6.2.2.2.2.2.2, .row 20027 0, .row 40027 0, .row 60027 0])], [(27, .o 31 2 0 (x4.2.2.2.2.1.map e_Entry)), (20027, .o 3 1 0 (v1.2.2.2.2.2.2.1.map e_i64)), (40027, .o 3 1 0 (v1.2.2.2.2.2.2.2.1.map e_i64)), (60027, .o 3 1 0 (v1.2.2.2.2.2.2.2.2.map e_i64))], [], []⟩] [4, 6, 7, 8, 9] [4, 6, 7, 27] [27, 20027, 40027, 60027] [] [(9, .sl 9 (x6.1.map e_Mail))] [(27, [.i x6.2.1, .i x6.2.2.1, .i x6.2.2.2.1, .i x6.2.2.2.2.1, .row 27 0, .i x6.2.2.2.2.2.1, .i x6.2.2.2.2.2.2, .row 20027 0, .row 40027 0, .row 60027 0])] [] [] (hc (Pe.ren (raft_asked_ok m v1.1 v1.2.1 v1.2.2.1 v1.2.2.2.1 v1.2.2.2.2.1 v1.2.2.2.2.2.1 x4.2.2.2.2.1 v1.2.2.2.2.2.2.1 v1.2.2.2.2.2.2.2.1 v1.2.2.2.2.2.2.2.2 0 0 false 0 0 false 0 0 false 0 0 false x6 h5) ⟨[(100000, 27)], [(100000, 27), (100001, 20027), (100002, 40027), (100003, 60027)], [], []⟩) .nil) ?_
      refine Wk_sealBX [] 27 rfl rfl ?_
      cases hF
      exact met [] (by kernel_rfl)
     ·refine NR [] [3, 4, 6, 7, 8, 9, 46, 52] [3, 4, 6, 7, 27] [27, 20027, 40027, 60027] [(52, .bool (decide (m.Kind = 2)))] .nil ?_
      refine Nif hF (fun hb hF => ?_) (fun hb hF => ?_)
      ·obtain ⟨x7, h6, hF⟩ := ob_elim hF
       refine VR [.callE [27] [27, 20027, 40027, 60027] [] [] (.row 56 0) ⟨[], [(27, [.i x7.2.1, .i x7.2.2.1, .i x7.2.2.2.1, .i x7.2.2.2.2.1, .sl 2 (x7.2.2.2.2.2.1.map e_Entry), .i x7.2.2.2.2.2.2.1, .i x7.2.2.2.2.2.2.2.1, .sl 1 (x7.2.2.2.2.2.2.2.2.1.map e_i64), .sl 1 (x7.2.2.2.2.2.2.2.2.2.1.map e_i64), .sl 1 (x7.2.2.2.2.2.2.2.2.2.2.1.map e_i64)])], [(27, ⟨31, 2, 0, (x7.2.2.2.2.2.2.2.2.2.2.2.1.map e_Entry).length, 0, false, 0, [], (x7.2.2.2.2.2.2.2.2.2.2.2.1.map e_Entry)⟩), (20027, ⟨3, 1, 1, (x7.2.2.2.2.2.2.2.2.2.2.2.2.map e_i64).length, 0, false, 0, [], (x7.2.2.2.2.2.2.2.2.2.2.2.2.map e_i64)⟩), (40027, ⟨3, 1, 0, ((v1.2.2.2.2.2.2.2.1).map e_i64).length, 0, false, 0, [], (v1.2.2.2.2.2.2.2.1.map e_i64)⟩), (60027, ⟨3, 1, 0, ((v1.2.2.2.2.2.2.2.2).map e_i64).length, 0, false, 0, [], (v1.2.2.2.2.2.2.2.2.map e_i64)⟩), (56, .z 62 9 0 (x7.1.map e_Mail))], [], []⟩] [4, 6, 7, 8, 9] [4, 6, 7, 27] [56] [] [(9, .row 56 0)] [(27, [.i x7.2.1, .i x7.2.2.1, .i x7.2.2.2.1, .i x7.2.2.2.2.1, .sl 2 (x7.2.2.2.2.2.1.map e_Entry), .i x7.2.2.2.2.2.2.1, .i x7.2.2.2.2.2.2.2.1, .sl 1 (x7.2.2.2.2.2.2.2.2.1.map e_i64), .sl 1 (x7.2.2.2.2.2.2.2.2.2.1.map e_i64), .sl 1 (x7.2.2.2.2.2.2.2.2.2.2.1.map e_i64)])] [(56, .z 62 9 0 (x7.1.map e_Mail))] [] (hc (Pe.ren (raft_given_ok m v1.1 v1.2.1 v1.2.2.1 v1.2.2.2.1 v1.2.2.2.2.1 v1.2.2.2.2.2.1 x4.2.2.2.2.1 v1.2.2.2.2.2.2.1 v1.2.2.2.2.2.2.2.1 v1.2.2.2.2.2.2.2.2 0 0 false 0 0 false 0 0 false 0 0 false x7 h6) ⟨[(100000, 27)], [(100000, 27), (100001, 20027), (100002, 40027), (100003, 60027), (57, 56)], [], []⟩) .nil) ?_
       refine Wk_sealX [] 9 rfl rfl ?_
       cases hF
       exact met [] (by kernel_rfl)
      ·refine NR [] [3, 4, 6, 7, 8, 9, 46, 57] [3, 4, 6, 7, 27] [27, 20027, 40027, 60027] [(57, .bool (decide (m.Kind = 3)))] .nil ?_
       refine Nif hF (fun hb hF => ?_) (fun hb hF => ?_)
       ·obtain ⟨x8, h7, hF⟩ := ob_elim hF
        refine VR [.callE [27] [27, 20027, 40027, 60027] [] [] (.sl 9 (x8.1.map e_Mail)) ⟨[], [(27, [.i x8.2.1, .i x8.2.2.1, .i x8.2.2.2.1, .i x8.2.2.2.2.1, .sl 2 (x8.2.2.2.2.2.1.map e_Entry), .i x8.2.2.2.2.2.2.1, .i x8.2.2.2.2.2.2.2.1, .sl 1 (x8.2.2.2.2.2.2.2.2.1.map e_i64), .sl 1 (x8.2.2.2.2.2.2.2.2.2.1.map e_i64), .sl 1 (x8.2.2.2.2.2.2.2.2.2.2.1.map e_i64)])], [(27, ⟨31, 2, 0, (x8.2.2.2.2.2.2.2.2.2.2.2.map e_Entry).length, 0, false, 0, [], (x8.2.2.2.2.2.2.2.2.2.2.2.map e_Entry)⟩), (20027, ⟨3, 1, 0, ((v1.2.2.2.2.2.2.1).map e_i64).length, 0, false, 0, [], (v1.2.2.2.2.2.2.1.map e_i64)⟩), (40027, ⟨3, 1, 0, ((v1.2.2.2.2.2.2.2.1).map e_i64).length, 0, false, 0, [], (v1.2.2.2.2.2.2.2.1.map e_i64)⟩), (60027, ⟨3, 1, 0, ((v1.2.2.2.2.2.2.2.2).map e_i64).length, 0, false, 0, [], (v1.2.2.2.2.2.2.2.2.map e_i64)⟩)], [], []⟩] [4, 6, 7, 8, 9] [4, 6, 7, 27] [] [] [(9, .sl 9 (x8.1.map e_Mail))] [(27, [.i x8.2.1, .i x8.2.2.1, .i x8.2.2.2.1, .i x8.2.2.2.2.1, .sl 2 (x8.2.2.2.2.2.1.map e_Entry), .i x8.2.2.2.2.2.2.1, .i x8.2.2.2.2.2.2.2.1, .sl 1 (x8.2.2.2.2.2.2.2.2.1.map e_i64), .sl 1 (x8.2.2.2.2.2.2.2.2.2.1.map e_i64), .sl 1 (x8.2.2.2.2.2.2.2.2.2.2.1.map e_i64)])] [] [] (hc (Pe.ren (raft_bringing_ok m v1.1 v1.2.1 v1.2.2.1 v1.2.2.2.1 v1.2.2.2.2.1 v1.2.2.2.2.2.1 x4.2.2.2.2.1 v1.2.2.2.2.2.2.1 v1.2.2.2.2.2.2.2.1 v1.2.2.2.2.2.2.2.2 0 0 false 0 0 false 0 0 false 0 0 false x8 h7) ⟨[(100000, 27)], [(100000, 27), (100001, 20027), (100002, 40027), (100003, 60027)], [], []⟩) .nil) ?_
        cases hF
        exact met [] (by kernel_rfl)
       ·refine NR [] [3, 4, 6, 7, 8, 9, 62] [3, 4, 6, 7, 27] [27, 20027, 40027, 60027] [(62, .bool (decide (m.Kind = 4)))] .nil ?_
        refine Nif hF (fun hb hF => ?_) (fun hb hF => ?_)
        ·obtain ⟨x9, h8, hF⟩ := ob_elim hF
         refine VR [.callE [27] [27, 20027, 40027, 60027] [] [] (.tup []) ⟨[], [(27, [.i x9.1, .i x9.2.1, .i x9.2.2.1, .i x9.2.2.2.1, .row 27 0, .i x9.2.2.2.2.1, .i x9.2.2.2.2.2.1, .row 20027 0, .row 40027 0, .row 60027 0])], [(27, .o 31 2 0 (x4.2.2.2.2.1.map e_Entry)), (20027, .o 3 1 0 (v1.2.2.2.2.2.2.1.map e_i64)), (40027, .o 3 1 0 (x9.2.2.2.2.2.2.1.map e_i64)), (60027, .o 3 1 0 (x9.2.2.2.2.2.2.2.map e_i64))], [], []⟩] [4, 6, 7, 8, 9] [4, 6, 7, 27] [27, 20027, 40027, 60027] [] [] [(27, [.i x9.1, .i x9.2.1, .i x9.2.2.1, .i x9.2.2.2.1, .row 27 0, .i x9.2.2.2.2.1, .i x9.2.2.2.2.2.1, .row 20027 0, .row 40027 0, .row 60027 0])] [(40027, .o 3 1 0 (x9.2.2.2.2.2.2.1.map e_i64)), (60027, .o 3 1 0 (x9.2.2.2.2.2.2.2.map e_i64))] [] (hc (Pe.ren (raft_answered_ok m v1.1 v1.2.1 v1.2.2.1 v1.2.2.2.1 v1.2.2.2.2.1 v1.2.2.2.2.2.1 x4.2.2.2.2.1 v1.2.2.2.2.2.2.1 v1.2.2.2.2.2.2.2.1 v1.2.2.2.2.2.2.2.2 0 0 false 0 0 false 0 0 false 0 0 false x9 h8) ⟨[(100000, 27)], [(100000, 27), (100001, 20027), (100002, 40027), (100003, 60027)], [], []⟩) .nil) ?_
         refine Wk_coe 9 (.sl 9 (([] : List Mail).map e_Mail)) rfl (.cell rfl (CoeS.nils 9)) ?_
         refine Wk_sealBX [] 27 rfl rfl ?_
         cases hF
         exact met [] (by kernel_rfl)
        ·refine Wk_coe 9 (.sl 9 (([] : List Mail).map e_Mail)) rfl (.cell rfl (CoeS.nils 9)) ?_
         refine Wk_sealBX [] 27 rfl rfl ?_
         cases hF
         exact met [] (by kernel_rfl)
    ·refine VD [] [4, 5, 6] [4, 6] [] [] [(5, .sl 9 (v2.2.2.2.2.2.2.2.2.2.2.map e_Mail))] [(4, [.i v2.1, .i v2.2.1, .i v2.2.2.1, .i v2.2.2.2.1, .sl 2 (v2.2.2.2.2.1.map e_Entry), .i v2.2.2.2.2.2.1, .i v2.2.2.2.2.2.2.1, .sl 1 (v2.2.2.2.2.2.2.2.1.map e_i64), .sl 1 (v2.2.2.2.2.2.2.2.2.1.map e_i64), .sl 1 (v2.2.2.2.2.2.2.2.2.2.1.map e_i64)]), (6, (c_Fault v))] [] [] .nil ?_
     cases hF
     exact Wk_ret (hfin _ ⟨[], [], [], [], [], [], by kernel_rfl⟩)

/- (*clan.game).does$3 -/
noncomputable def clan_game_does_3 (x : Node) (box : Mail) : Option (Node × List Mail × Fault) :=
 ob (raft_Take x box) fun x1 =>
 some (x1.1, x1.2.1, x1.2.2)
theorem clan_game_does_3_ok (x : Node) (box : Mail) (r : Node × List Mail × Fault) (hF : clan_game_does_3 x box = some r) : Pe Try.prog 99 ⟨[], [(100000, (c_Mail box))], [], [], []⟩ [.agg (c_Node x), .ptr 100000 0] (.tup [.agg (c_Node r.1), .sl 9 (r.2.1.map e_Mail), .agg (c_Fault r.2.2)]) ⟨[], [(100000, (c_Mail box))], [], [], []⟩ := by
 refine PeN 12 [.cell 3 46, .tmp 4, .cell 5 26] [46, 50, 26] Ty.ok Fn.b99 Try.func99 ?_
 intro Q g hfin
 unfold clan_game_does_3 at hF
 refine VR [] [1, 2, 3, 5] [2, 3, 5, 100000] [] [] [(2, .ptr 2 0), (3, .ptr 3 0), (5, .ptr 5 0)] [(2, (c_Node x)), (3, [.i 0, .i 0, .i 0, .i 0, .nils, .i 0, .i 0, .nils, .nils, .nils]), (5, [.i 0, .i 0])] [] [] .nil ?_
 obtain ⟨x1, h0, hF⟩ := ob_elim hF
 refine VR [.call (.tup [.agg (c_Node x1.1), .sl 9 (x1.2.1.map e_Mail), .agg (c_Fault x1.2.2)])] [3, 4, 5] [3, 5, 100000] [] [] [(4, .sl 9 (x1.2.1.map e_Mail))] [(3, (c_Node x1.1)), (5, (c_Fault x1.2.2))] [] [] (hc (raft_Take_ok x box x1 h0) .nil) ?_
 cases hF
 exact Wk_ret (hfin _ ⟨[], [100000], [], [], [], [], by kernel_rfl⟩)

/- (*clan.game).node -/
noncomputable def clan_game_node_v3 (who : Int) (box : List (List UInt8)) (box1 : Mail) (row : List Node) (row1 : List Mail) : Option (Bool × List Node × List Mail × List (List UInt8)) :=
 asrt (0 ≤ who ∧ who < (row.length : Int)) <|
 asrt (0 ≤ who ∧ who < (row.length : Int)) <|
 ob (clan_game_does_3 (⟨(lget row who).N, (lget row who).ID, (lget row who).Term, (lget row who).Vote, (lget row who).Log, (lget row who).Role, (lget row who).Commit, (lget row who).Votes, (lget row who).Next, (lget row who).Have⟩ : Node) box1) fun x =>
 if (!decide (x.2.2.Code = 0)) = true then
  some (false, row, row1, box)
 else
  asrt (((row1 ++ x.2.1).length : Int) * 88 ≤ 140737488351232) <|
  asrt (0 ≤ who ∧ who < (row.length : Int)) <|
  asrt (0 ≤ who ∧ who < (row.length : Int)) <|
  some (true, (lset row who x.1), (row1 ++ x.2.1), box)
theorem clan_game_node_v3_ok (who : Int) (box : List (List UInt8)) (box1 : Mail) (row : List Node) (row1 : List Mail) (rk : Nat) (rc : Nat) (rn : Bool) (rk1 : Nat) (rc1 : Nat) (rn1 : Bool) (r : Bool × List Node × List Mail × List (List UInt8)) (hF : clan_game_node_v3 who box box1 row row1 = some r) : Pe Try.prog 95 ⟨[], [(100000, [.row 100000 0, .row 100001 0, .sl 1 (box.map e_str)]), (100001, (c_Mail box1))], [(100000, ⟨46, 10, 0, 0, rc, rn, 0, [], (row.map e_Node)⟩), (100001, ⟨62, 9, 0, rk1, rc1, rn1, 0, [], (row1.map e_Mail)⟩)], [], []⟩ [.ptr 100000 0, .i who, .fn 99 [.ptr 100001 0]] (.bool r.1) ⟨[], [(100000, [.row 100000 0, .row 100001 1, .sl 1 (r.2.2.2.map e_str)]), (100001, (c_Mail box1))], [(100000, ⟨46, 10, 0, 0, rc, rn, 0, [], (r.2.1.map e_Node)⟩), (100001, ⟨62, 9, 1, rk1, rc1, rn1, 0, [], (r.2.2.1.map e_Mail)⟩)], [], []⟩ := by
 refine PeN 46 [.tmp 6] [4] Ty.ok Fn.b95 Try.func95 ?_
 intro Q g hfin
 unfold clan_game_node_v3 at hF
 refine NR [] [0, 1, 2] [100000, 100001] [100000, 100001] [] .nil ?_
 obtain ⟨h0, h1, hF⟩ := asrt2 hF
 obtain ⟨x, h2, hF⟩ := ob_elim hF
 refine VR [.av (e_Node (lget row who)), .callR [100001] [] [] [] (.tup [.agg (c_Node x.1), .sl 9 (x.2.1.map e_Mail), .agg (c_Fault x.2.2)])] [0, 1, 7, 8, 9] [7, 9, 100000, 100001] [100000, 100001] [] [(7, .ptr 7 0), (8, .sl 9 (x.2.1.map e_Mail)), (9, .ptr 9 0)] [(7, (c_Node x.1)), (9, (c_Fault x.2.2))] [] [] (hc (ixr_ok e_Node h0) (hc (ldr_ok e_Node h1) (hc (Pe.ren (clan_game_does_3_ok (⟨(lget row who).N, (lget row who).ID, (lget row who).Term, (lget row who).Vote, (lget row who).Log, (lget row who).Role, (lget row who).Commit, (lget row who).Votes, (lget row who).Next, (lget row who).Have⟩ : Node) box1 x h2) ⟨[(100000, 100001)], [], [], []⟩) .nil))) ?_
 refine NR [] [0, 1, 7, 8, 26] [7, 100000, 100001] [100000, 100001] [(26, .bool (!decide (x.2.2.Code = 0)))] .nil ?_
 refine Nif hF (fun hb hF => ?_) (fun hb hF => ?_)
 ·refine NR [] [6] [100000, 100001] [100000, 100001] [(6, .bool false)] .nil ?_
  cases hF
  exact Wk_ret (hfin _ ⟨[100000, 100001], [100000, 100001], [100000, 100001], [], [], [(100001, ⟨1, true, true, false⟩)], by kernel_rfl⟩)
 ·obtain ⟨h3, hF⟩ := asrt_elim hF
  obtain ⟨h4, h5, hF⟩ := asrt2 hF
  refine VD [.xs ((row1 ++ x.2.1).map e_Mail), .av (e_Node (lget row who)), .xs ((lset row who x.1).map e_Node)] [] [100000, 100001] [100000, 100001] [] [] [(100000, [.row 100000 0, .row 100001 1, .sl 1 (box.map e_str)])] [(100000, ⟨46, 10, 0, 0, rc, rn, 0, [], ((lset row who x.1).map e_Node)⟩), (100001, ⟨62, 9, 1, rk1, rc1, rn1, 0, [], ((row1 ++ x.2.1).map e_Mail)⟩)] [] (hc (app_ok e_Mail row1 x.2.1) (hc (appl_ok e_Mail h3) (hc (ixr_ok e_Node h4) (hc (ldr_ok e_Node h5) (hc (set_ok e_Node row who x.1) (hc (Nat.zero_le who.toNat) .nil)))))) ?_
  refine NR [] [6] [100000, 100001] [100000, 100001] [(6, .bool true)] .nil ?_
  cases hF
  exact Wk_ret (hfin _ ⟨[100000, 100001], [100000, 100001], [100000, 100001], [], [], [], by kernel_rfl⟩)

/- raft.Restart -/
noncomputable def raft_Restart (x : Node) : Option (Int × Int × Int × Int × List Entry × Int × Int × Fault) :=
 ob (raft_Check x) fun x1 =>
 if (!decide (x1.Code = 0)) = true then
  some (0, 0, 0, 0, ([] : List Entry), 0, 0, x1)
 else
  ob (raft_own x) fun x2 =>
  lt (raft_follow x2.1 x2.2.1 x2.2.2.1 x2.2.2.2.1 x2.2.2.2.2.2.1 x2.2.2.2.2.2.2.1 x2.2.2.2.2.1 x2.2.2.2.2.2.2.2.1 x2.2.2.2.2.2.2.2.2.1 x2.2.2.2.2.2.2.2.2.2) fun x3 =>
  some (x3.1, x3.2.1, x3.2.2.1, x3.2.2.2.1, x2.2.2.2.2.1, x3.2.2.2.2.1, 0, x1)
theorem raft_Restart_ok (x : Node) (r : Int × Int × Int × Int × List Entry × Int × Int × Fault) (hF : raft_Restart x = some r) : Pe Try.prog 34 S.none [.agg (c_Node x)] (.tup [.agg [.i r.1, .i r.2.1, .i r.2.2.1, .i r.2.2.2.1, .row 14 0, .i r.2.2.2.2.2.1, .i r.2.2.2.2.2.2.1, .row 71001 0, .row 71002 0, .row 71003 0], .agg (c_Fault r.2.2.2.2.2.2.2)]) ⟨[], [], [(14, .o 31 2 0 (r.2.2.2.2.1.map e_Entry)), (71001, .z 3 1 0 (([] : List Int).map e_i64)), (71002, .z 3 1 0 (([] : List Int).map e_i64)), (71003, .z 3 1 0 (([] : List Int).map e_i64))], [], []⟩ := by
 refine PeN 24 [.cell 2 46, .cell 3 26] [46, 26] Ty.ok Fn.b34 Try.func34 ?_
 intro Q g hfin
 unfold raft_Restart at hF
 refine VR [] [1, 2, 3] [1, 2, 3] [] [] [(1, .ptr 1 0), (2, .ptr 2 0), (3, .ptr 3 0)] [(1, (c_Node x)), (2, [.i 0, .i 0, .i 0, .i 0, .nils, .i 0, .i 0, .nils, .nils, .nils]), (3, [.i 0, .i 0])] [] [] .nil ?_
 obtain ⟨x1, h0, hF⟩ := ob_elim hF
 refine VR [.callB (.agg (c_Fault x1))] [1, 2, 3, 4] [1, 2, 3, 4] [] [] [(4, .ptr 4 0)] [(4, (c_Fault x1))] [] [] (hc (raft_Check_ok x x1 h0) .nil) ?_
 refine NR [] [1, 2, 3, 4, 10] [1, 2, 3, 4] [] [(10, .bool (!decide (x1.Code = 0)))] .nil ?_
 refine Nif hF (fun hb hF => ?_) (fun hb hF => ?_)
 ·refine VD [] [2, 3] [2, 3] [] [] [] [(3, (c_Fault x1))] [] [] .nil ?_
  cases hF
  refine Wk_nilrowB 2 4 60000 31 2 rfl rfl rfl rfl rfl ?_
  refine Wk_nilrowB 2 7 60001 3 1 rfl rfl rfl rfl rfl ?_
  refine Wk_nilrowB 2 8 60002 3 1 rfl rfl rfl rfl rfl ?_
  refine Wk_nilrowB 2 9 60003 3 1 rfl rfl rfl rfl rfl ?_
  refine Wk_ren' ⟨[], [(60000, 14), (60001, 71001), (60002, 71002), (60003, 71003)], [], []⟩ rfl ?_
  exact Wk_ret (hfin _ ⟨[14, 71001, 71002, 71003], [], [14, 71001, 71002, 71003], [], [], [(14, ⟨0, true, false, false⟩)], by kernel_rfl⟩)
 ·obtain ⟨x2, h1, hF⟩ := ob_elim hF
  refine VR [.callE [] [] [] [] (.ptr 14 0) ⟨[], [(14, [.i x2.1, .i x2.2.1, .i x2.2.2.1, .i x2.2.2.2.1, .row 14 0, .i x2.2.2.2.2.2.1, .i x2.2.2.2.2.2.2.1, .row 20014 0, .row 40014 0, .row 60014 0])], [(14, .o 31 2 0 (x2.2.2.2.2.1.map e_Entry)), (20014, .o 3 1 0 (x2.2.2.2.2.2.2.2.1.map e_i64)), (40014, .o 3 1 0 (x2.2.2.2.2.2.2.2.2.1.map e_i64)), (60014, .o 3 1 0 (x2.2.2.2.2.2.2.2.2.2.map e_i64))], [], []⟩] [2, 3, 4, 5] [2, 3, 4, 14] [14, 20014, 40014, 60014] [] [(5, .ptr 14 0)] [(14, [.i x2.1, .i x2.2.1, .i x2.2.2.1, .i x2.2.2.2.1, .row 14 0, .i x2.2.2.2.2.2.1, .i x2.2.2.2.2.2.2.1, .row 20014 0, .row 40014 0, .row 60014 0])] [(14, .o 31 2 0 (x2.2.2.2.2.1.map e_Entry)), (20014, .o 3 1 0 (x2.2.2.2.2.2.2.2.1.map e_i64)), (40014, .o 3 1 0 (x2.2.2.2.2.2.2.2.2.1.map e_i64)), (60014, .o 3 1 0 (x2.2.2.2.2.2.2.2.2.2.map e_i64))] [] (hc (Pe.ren (raft_own_ok x x2 h1) ⟨[(1, 14)], [(5, 14), (8, 20014), (11, 40014), (5, 60014)], [], []⟩) .nil) ?_
  obtain ⟨x3, h2, hF⟩ := lt_split hF
  refine VR [.callE [14] [14, 20014, 40014, 60014] [] [] (.tup []) ⟨[], [(14, [.i x3.1, .i x3.2.1, .i x3.2.2.1, .i x3.2.2.2.1, .row 14 0, .i x3.2.2.2.2.1, .i x3.2.2.2.2.2, .nils, .nils, .nils])], [(14, .o 31 2 0 (x2.2.2.2.2.1.map e_Entry)), (20014, .o 3 1 0 (x2.2.2.2.2.2.2.2.1.map e_i64)), (40014, .o 3 1 0 (x2.2.2.2.2.2.2.2.2.1.map e_i64)), (60014, .o 3 1 0 (x2.2.2.2.2.2.2.2.2.2.map e_i64))], [], []⟩] [2, 3, 4, 5] [2, 3, 4, 14] [14] [] [] [(14, [.i x3.1, .i x3.2.1, .i x3.2.2.1, .i x3.2.2.2.1, .row 14 0, .i x3.2.2.2.2.1, .i x3.2.2.2.2.2, .nils, .nils, .nils])] [] [] (hc (Pe.ren (raft_follow_ok x2.1 x2.2.1 x2.2.2.1 x2.2.2.2.1 x2.2.2.2.2.2.1 x2.2.2.2.2.2.2.1 x2.2.2.2.2.1 x2.2.2.2.2.2.2.2.1 x2.2.2.2.2.2.2.2.2.1 x2.2.2.2.2.2.2.2.2.2 0 0 false 0 0 false 0 0 false 0 0 false x3 h2) ⟨[(100000, 14)], [(100000, 14), (100001, 20014), (100002, 40014), (100003, 60014)], [], []⟩) .nil) ?_
  refine VR [] [2, 3, 4, 5] [2, 3, 4, 14] [14] [] [] [(14, [.i x3.1, .i x3.2.1, .i x3.2.2.1, .i x3.2.2.2.1, .row 14 0, .i x3.2.2.2.2.1, .i 0, .nils, .nils, .nils])] [] [] .nil ?_
  refine VD [] [2, 3] [2, 3] [14] [] [] [(2, [.i x3.1, .i x3.2.1, .i x3.2.2.1, .i x3.2.2.2.1, .row 14 0, .i x3.2.2.2.2.1, .i 0, .nils, .nils, .nils]), (3, (c_Fault x1))] [] [] .nil ?_
  cases hF
  refine Wk_nilrowB 2 7 60004 3 1 rfl rfl rfl rfl rfl ?_
  refine Wk_nilrowB 2 8 60005 3 1 rfl rfl rfl rfl rfl ?_
  refine Wk_nilrowB 2 9 60006 3 1 rfl rfl rfl rfl rfl ?_
  refine Wk_ren' ⟨[], [(60004, 71001), (60005, 71002), (60006, 71003)], [], []⟩ rfl ?_
  exact Wk_ret (hfin _ ⟨[14, 71001, 71002, 71003], [], [14, 71001, 71002, 71003], [], [], [], by kernel_rfl⟩)

/- (*clan.game).does$4 -/
noncomputable def clan_game_does_4 (x : Node) : Option (Int × Int × Int × Int × List Entry × Int × Int × List Int × List Int × List Int × List Mail × Fault) :=
 ob (raft_Restart x) fun x1 =>
 some (x1.1, x1.2.1, x1.2.2.1, x1.2.2.2.1, x1.2.2.2.2.1, x1.2.2.2.2.2.1, x1.2.2.2.2.2.2.1, ([] : List Int), ([] : List Int), ([] : List Int), ([] : List Mail), x1.2.2.2.2.2.2.2)
theorem clan_game_does_4_ok (x : Node) (r : Int × Int × Int × Int × List Entry × Int × Int × List Int × List Int × List Int × List Mail × Fault) (hF : clan_game_does_4 x = some r) : Pe Try.prog 100 S.none [.agg (c_Node x)] (.tup [.agg [.i r.1, .i r.2.1, .i r.2.2.1, .i r.2.2.2.1, .row 9 0, .i r.2.2.2.2.2.1, .i r.2.2.2.2.2.2.1, .row 20009 0, .row 40009 0, .row 60009 0], .sl 9 (r.2.2.2.2.2.2.2.2.2.2.1.map e_Mail), .agg (c_Fault r.2.2.2.2.2.2.2.2.2.2.2)]) ⟨[], [], [(9, .o 31 2 0 (r.2.2.2.2.1.map e_Entry)), (20009, .z 3 1 0 (r.2.2.2.2.2.2.2.1.map e_i64)), (40009, .z 3 1 0 (r.2.2.2.2.2.2.2.2.1.map e_i64)), (60009, .z 3 1 0 (r.2.2.2.2.2.2.2.2.2.1.map e_i64))], [], []⟩ := by
 refine PeN 14 [.cell 2 46, .tmp 3, .cell 4 26] [46, 50, 26] Ty.ok Fn.b100 Try.func100 ?_
 intro Q g hfin
 unfold clan_game_does_4 at hF
 refine VR [] [1, 2, 4] [1, 2, 4] [] [] [(1, .ptr 1 0), (2, .ptr 2 0), (4, .ptr 4 0)] [(1, (c_Node x)), (2, [.i 0, .i 0, .i 0, .i 0, .nils, .i 0, .i 0, .nils, .nils, .nils]), (4, [.i 0, .i 0])] [] [] .nil ?_
 obtain ⟨x1, h0, hF⟩ := ob_elim hF
 refine VR [.callE [] [] [] [] (.tup [.agg [.i x1.1, .i x1.2.1, .i x1.2.2.1, .i x1.2.2.2.1, .row 9 0, .i x1.2.2.2.2.2.1, .i x1.2.2.2.2.2.2.1, .row 20009 0, .row 40009 0, .row 60009 0], .agg (c_Fault x1.2.2.2.2.2.2.2)]) ⟨[], [], [(9, .o 31 2 0 (x1.2.2.2.2.1.map e_Entry)), (20009, .z 3 1 0 (([] : List Int).map e_i64)), (40009, .z 3 1 0 (([] : List Int).map e_i64)), (60009, .z 3 1 0 (([] : List Int).map e_i64))], [], []⟩] [2, 4, 5, 6] [2, 4, 5, 6] [9, 20009, 40009, 60009] [] [(5, .ptr 5 0), (6, .ptr 6 0)] [(5, [.i x1.1, .i x1.2.1, .i x1.2.2.1, .i x1.2.2.2.1, .row 9 0, .i x1.2.2.2.2.2.1, .i x1.2.2.2.2.2.2.1, .row 20009 0, .row 40009 0, .row 60009 0]), (6, (c_Fault x1.2.2.2.2.2.2.2))] [(9, .o 31 2 0 (x1.2.2.2.2.1.map e_Entry)), (20009, .z 3 1 0 (([] : List Int).map e_i64)), (40009, .z 3 1 0 (([] : List Int).map e_i64)), (60009, .z 3 1 0 (([] : List Int).map e_i64))] [] (hc (Pe.ren (raft_Restart_ok x x1 h0) ⟨[], [(14, 9), (71001, 20009), (71002, 40009), (71003, 60009)], [], []⟩) .nil) ?_
 refine VD [] [2, 3, 4] [2, 4] [9, 20009, 40009, 60009] [] [(3, .nils)] [(2, [.i x1.1, .i x1.2.1, .i x1.2.2.1, .i x1.2.2.2.1, .row 9 0, .i x1.2.2.2.2.2.1, .i x1.2.2.2.2.2.2.1, .row 20009 0, .row 40009 0, .row 60009 0]), (4, (c_Fault x1.2.2.2.2.2.2.2))] [] [] .nil ?_
 cases hF
 exact Wk_ret (hfin _ ⟨[9, 20009, 40009, 60009], [], [9, 20009, 40009, 60009], [], [], [], by kernel_rfl⟩)

/- (*clan.game).node -/
noncomputable def clan_game_node_v5 (who : Int) (box : List (List UInt8)) (row : List Node) (row1 : List Mail) : Option (Bool × List Node × List Mail × List (List UInt8)) :=
 asrt (0 ≤ who ∧ who < (row.length : Int)) <|
 asrt (0 ≤ who ∧ who < (row.length : Int)) <|
 ob (raft_Stand (⟨(lget row who).N, (lget row who).ID, (lget row who).Term, (lget row who).Vote, (lget row who).Log, (lget row who).Role, (lget row who).Commit, (lget row who).Votes, (lget row who).Next, (lget row who).Have⟩ : Node)) fun x =>
 if (!decide (x.2.2.2.2.2.2.2.2.2.2.2.Code = 0)) = true then
  some (false, row, row1, box)
 else
  asrt (((row1 ++ x.2.2.2.2.2.2.2.2.2.2.1).length : Int) * 88 ≤ 140737488351232) <|
  asrt (0 ≤ who ∧ who < (row.length : Int)) <|
  asrt (0 ≤ who ∧ who < (row.length : Int)) <|
  lt ((lset row who (⟨x.1, x.2.1, x.2.2.1, x.2.2.2.1, x.2.2.2.2.1, x.2.2.2.2.2.1, x.2.2.2.2.2.2.1, x.2.2.2.2.2.2.2.1, x.2.2.2.2.2.2.2.2.1, x.2.2.2.2.2.2.2.2.2.1⟩ : Node))) fun (v : List Node) =>
  some (true, v, (row1 ++ x.2.2.2.2.2.2.2.2.2.2.1), box)
theorem clan_game_node_v5_ok (who : Int) (box : List (List UInt8)) (row : List Node) (row1 : List Mail) (rk : Nat) (rc : Nat) (rn : Bool) (rk1 : Nat) (rc1 : Nat) (rn1 : Bool) (r : Bool × List Node × List Mail × List (List UInt8)) (hF : clan_game_node_v5 who box row row1 = some r) : Pe Try.prog 95 ⟨[], [(100000, [.row 100000 0, .row 100001 0, .sl 1 (box.map e_str)])], [(100000, ⟨46, 10, 0, 0, rc, rn, 0, [], (row.map e_Node)⟩), (100001, ⟨62, 9, 0, rk1, rc1, rn1, 0, [], (row1.map e_Mail)⟩)], [], []⟩ [.ptr 100000 0, .i who, .fn 31 []] (.bool r.1) ⟨[], [(100000, [.row 100000 0, .row 100001 1, .sl 1 (r.2.2.2.map e_str)])], [(100000, ⟨46, 10, 0, 0, rc, rn, 0, [], (r.2.1.map e_Node)⟩), (100001, ⟨62, 9, 1, rk1, rc1, rn1, 0, [], (r.2.2.1.map e_Mail)⟩)], [], []⟩ := by
 refine PeN 46 [.tmp 6] [4] Ty.ok Fn.b95 Try.func95 ?_
 intro Q g hfin
 unfold clan_game_node_v5 at hF
 refine NR [] [0, 1, 2] [100000] [100000, 100001] [] .nil ?_
 obtain ⟨h0, h1, hF⟩ := asrt2 hF
 obtain ⟨x, h2, hF⟩ := ob_elim hF
 refine VR [.av (e_Node (lget row who)), .callE [] [] [] [] (.tup [.agg [.i x.1, .i x.2.1, .i x.2.2.1, .i x.2.2.2.1, .row 20 0, .i x.2.2.2.2.2.1, .i x.2.2.2.2.2.2.1, .sl 1 (x.2.2.2.2.2.2.2.1.map e_i64), .row 40020 0, .row 60020 0], .row 20020 0, .agg (c_Fault x.2.2.2.2.2.2.2.2.2.2.2)]) ⟨[], [], [(20, .o 31 2 0 (x.2.2.2.2.1.map e_Entry)), (20020, .z 62 9 0 (x.2.2.2.2.2.2.2.2.2.2.1.map e_Mail)), (40020, .o 3 1 0 (x.2.2.2.2.2.2.2.2.1.map e_i64)), (60020, .o 3 1 0 (x.2.2.2.2.2.2.2.2.2.1.map e_i64))], [], []⟩] [0, 1, 7, 8, 9] [7, 9, 100000] [20, 20020, 40020, 60020, 100000, 100001] [] [(7, .ptr 7 0), (8, .row 20020 0), (9, .ptr 9 0)] [(7, [.i x.1, .i x.2.1, .i x.2.2.1, .i x.2.2.2.1, .row 20 0, .i x.2.2.2.2.2.1, .i x.2.2.2.2.2.2.1, .sl 1 (x.2.2.2.2.2.2.2.1.map e_i64), .row 40020 0, .row 60020 0]), (9, (c_Fault x.2.2.2.2.2.2.2.2.2.2.2))] [(20, .o 31 2 0 (x.2.2.2.2.1.map e_Entry)), (20020, .z 62 9 0 (x.2.2.2.2.2.2.2.2.2.2.1.map e_Mail)), (40020, .o 3 1 0 (x.2.2.2.2.2.2.2.2.1.map e_i64)), (60020, .o 3 1 0 (x.2.2.2.2.2.2.2.2.2.1.map e_i64))] [] (hc (ixr_ok e_Node h0) (hc (ldr_ok e_Node h1) (hc (Pe.ren (raft_Stand_ok (⟨(lget row who).N, (lget row who).ID, (lget row who).Term, (lget row who).Vote, (lget row who).Log, (lget row who).Role, (lget row who).Commit, (lget row who).Votes, (lget row who).Next, (lget row who).Have⟩ : Node) x h2) ⟨[], [(30, 20), (56, 20020), (63, 40020), (20063, 60020)], [], []⟩) .nil))) ?_
 refine NR [] [0, 1, 7, 8, 26] [7, 100000] [20, 20020, 40020, 60020, 100000, 100001] [(26, .bool (!decide (x.2.2.2.2.2.2.2.2.2.2.2.Code = 0)))] .nil ?_
 refine Nif hF (fun hb hF => ?_) (fun hb hF => ?_)
 ·refine NR [] [6] [100000] [100000, 100001] [(6, .bool false)] .nil ?_
  cases hF
  exact Wk_ret (hfin _ ⟨[100000, 100001], [100000], [100000, 100001], [], [], [(100001, ⟨1, true, true, false⟩)], by kernel_rfl⟩)
 ·obtain ⟨h3, hF⟩ := asrt_elim hF
  obtain ⟨h4, h5, hF⟩ := asrt2 hF
  refine NDL ((lset row who (⟨x.1, x.2.1, x.2.2.1, x.2.2.2.1, x.2.2.2.2.1, x.2.2.2.2.2.1, x.2.2.2.2.2.2.1, x.2.2.2.2.2.2.2.1, x.2.2.2.2.2.2.2.2.1, x.2.2.2.2.2.2.2.2.2.1⟩ : Node))) (fun v : List Node => ([], [(100000, [.row 100000 0, .row 100001 1, .sl 1 (box.map e_str)])], [(100000, ⟨46, 10, 0, 0, rc, rn, 0, [], (v.map e_Node)⟩), (100001, ⟨62, 9, 1, rk1, rc1, rn1, 0, [], ((row1 ++ x.2.2.2.2.2.2.2.2.2.2.1).map e_Mail)⟩)], [])) [.xs ((row1 ++ x.2.2.2.2.2.2.2.2.2.2.1).map e_Mail), .av (e_Node (lget row who)), .xs ((lset row who (⟨x.1, x.2.1, x.2.2.1, x.2.2.2.1, x.2.2.2.2.1, x.2.2.2.2.2.1, x.2.2.2.2.2.2.1, x.2.2.2.2.2.2.2.1, x.2.2.2.2.2.2.2.2.1, x.2.2.2.2.2.2.2.2.2.1⟩ : Node)).map e_Node)] [] [100000] [100000, 100001] [] (hc (app_ok e_Mail row1 x.2.2.2.2.2.2.2.2.2.2.1) (hc (appl_ok e_Mail h3) (hc (ixr_ok e_Node h4) (hc (ldr_ok e_Node h5) (hc (set_ok e_Node row who (⟨x.1, x.2.1, x.2.2.1, x.2.2.2.1, x.2.2.2.2.1, x.2.2.2.2.2.1, x.2.2.2.2.2.2.1, x.2.2.2.2.2.2.2.1, x.2.2.2.2.2.2.2.2.1, x.2.2.2.2.2.2.2.2.2.1⟩ : Node)) (hc (Nat.zero_le who.toNat) .nil)))))) (fun v hv => ?_)
  have hF := lt_elim hF hv
  refine NR [] [6] [100000] [100000, 100001] [(6, .bool true)] .nil ?_
  cases hF
  exact Wk_ret (hfin _ ⟨[100000, 100001], [100000], [100000, 100001], [], [], [], by kernel_rfl⟩)

end G
end Go.Proofs.Ytcnngkigpfpalaa
