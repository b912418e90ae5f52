/- The program's functions as plain functions, and that they are these. Written by a program (dec2.py). -/
import Derived.Test.YtcnngkigpfpalaaGf2
namespace Go.Proofs.Ytcnngkigpfpalaa
open Go Go.Dm
set_option linter.unusedVariables false
set_option linter.unusedSimpArgs false
set_option maxRecDepth 100000
namespace G
/- tabularyref.Leader -/
noncomputable def R_Leader_J1 (x1 : Int × Int × Int × Int × List Entry × Int × Int) (v : List Int × List Int) : Option Node :=
 ob (R_Counted (⟨x1.1, x1.2.1, x1.2.2.1, x1.2.2.2.1, x1.2.2.2.2.1, 2, x1.2.2.2.2.2.2, ([] : List Int), v.1, v.2⟩ : Node)) fun x2 =>
 some x2
noncomputable def R_Leader_B1 (x1 : Int × Int × Int × Int × List Entry × Int × Int) (v1 : List Int × List Int × Int) : Option ((List Int × List Int × Int) ⊕ Node) :=
 if (decide (v1.2.2 < x1.1)) = true then
  asrt (((v1.1 ++ ([w64 ((x1.2.2.2.2.1.length : Int) + 1)] : List Int)).length : Int) * 8 ≤ 140737488351232) <|
  ob (
   if (decide (v1.2.2 = x1.2.1)) = true then
    asrt (((v1.2.1 ++ ([(x1.2.2.2.2.1.length : Int)] : List Int)).length : Int) * 8 ≤ 140737488351232) <|
    some (v1.2.1 ++ ([(x1.2.2.2.2.1.length : Int)] : List Int))
   else
    asrt (((v1.2.1 ++ ([0] : List Int)).length : Int) * 8 ≤ 140737488351232) <|
    some (v1.2.1 ++ ([0] : List Int))) fun (v2 : List Int) =>
  some (Sum.inl ((v1.1 ++ ([w64 ((x1.2.2.2.2.1.length : Int) + 1)] : List Int)), v2, w64 (v1.2.2 + 1)))
 else
  inrO (R_Leader_J1 x1 (v1.1, v1.2.1))
noncomputable def R_Leader_L1 (x1 : Int × Int × Int × Int × List Entry × Int × Int) (v0 : List Int × List Int × Int) : Option Node :=
 loopO (fun y => R_Leader_B1 x1 y) v0
noncomputable def R_Leader (x : Node) : Option Node :=
 ob (R_Follower x) fun x1 =>
 R_Leader_L1 x1 (([] : List Int), ([] : List Int), 0)
theorem R_Leader_ok (x : Node) (r : Node) (hF : R_Leader x = some r) : Pe Try.prog 75 S.none [.agg (c_Node x)] (.agg (c_Node r)) S.none := by
 refine PeN 41 [.cell 2 46] [46] Ty.ok Fn.b75 Try.func75 ?_
 intro Q g hfin
 unfold R_Leader at hF
 refine VR [] [1, 2] [1, 2] [] [] [(1, .ptr 1 0), (2, .ptr 2 0)] [(1, (c_Node x)), (2, [.i 0, .i 0, .i 0, .i 0, .nils, .i 0, .i 0, .nils, .nils, .nils])] [] [] .nil ?_
 obtain ⟨x1, h0, hF⟩ := ob_elim hF
 refine VR [.callE [] [] [] [] (.agg [.i x1.1, .i x1.2.1, .i x1.2.2.1, .i x1.2.2.2.1, .row 5 1, .i x1.2.2.2.2.2.1, .i x1.2.2.2.2.2.2, .row 20005 0, .row 40005 0, .row 60005 0]) ⟨[], [], [(5, .z 31 2 1 (x1.2.2.2.2.1.map e_Entry)), (20005, .z 3 1 0 (([] : List Int).map e_i64)), (40005, .z 3 1 0 (([] : List Int).map e_i64)), (60005, .z 3 1 0 (([] : List Int).map e_i64))], [], []⟩] [1, 2] [1, 2] [5, 20005, 40005, 60005] [] [] [(1, [.i x1.1, .i x1.2.1, .i x1.2.2.1, .i x1.2.2.2.1, .row 5 1, .i x1.2.2.2.2.2.1, .i x1.2.2.2.2.2.2, .row 20005 0, .row 40005 0, .row 60005 0])] [(5, .z 31 2 1 (x1.2.2.2.2.1.map e_Entry)), (20005, .z 3 1 0 (([] : List Int).map e_i64)), (40005, .z 3 1 0 (([] : List Int).map e_i64)), (60005, .z 3 1 0 (([] : List Int).map e_i64))] [] (hc (Pe.ren (R_Follower_ok x x1 h0) ⟨[], [(13, 5), (71001, 20005), (71002, 40005), (71003, 60005)], [], []⟩) .nil) ?_
 refine VR [] [1, 2] [1, 2] [5, 20005, 40005, 60005] [] [] [(1, [.i x1.1, .i x1.2.1, .i x1.2.2.1, .i x1.2.2.2.1, .row 5 1, .i 2, .i x1.2.2.2.2.2.2, .row 20005 0, .row 40005 0, .row 60005 0])] [] [] .nil ?_
 refine NR [] [1, 2, 3] [1, 2] [5, 20005, 40005, 60005] [(3, .i 0)] .nil ?_
 refine NmeetP (fun v : List Int × List Int => (⟨[(1, .ptr 1 0), (2, .ptr 2 0)], [(1, [.i x1.1, .i x1.2.1, .i x1.2.2.1, .i x1.2.2.2.1, .row 5 1, .i 2, .i x1.2.2.2.2.2.2, .row 20005 0, .row 40005 0, .row 60005 0]), (2, [.i 0, .i 0, .i 0, .i 0, .nils, .i 0, .i 0, .nils, .nils, .nils])], [(5, .z 31 2 1 (x1.2.2.2.2.1.map e_Entry)), (20005, .z 3 1 0 (([] : List Int).map e_i64)), (40005, .z 3 1 0 (v.1.map e_i64)), (60005, .z 3 1 0 (v.2.map e_i64))], [], []⟩ : S)) (fun v => R_Leader_J1 x1 v = some r) ?_ ?_
 ·refine Nblk ?_
  unfold R_Leader_L1 at hF
  refine Niter (fun v1 : List Int × List Int × Int => (⟨[(1, .ptr 1 0), (2, .ptr 2 0), (3, .i v1.2.2)], [(1, [.i x1.1, .i x1.2.1, .i x1.2.2.1, .i x1.2.2.2.1, .row 5 1, .i 2, .i x1.2.2.2.2.2.2, .row 20005 0, .row 40005 0, .row 60005 0]), (2, [.i 0, .i 0, .i 0, .i 0, .nils, .i 0, .i 0, .nils, .nils, .nils])], [(5, .z 31 2 1 (x1.2.2.2.2.1.map e_Entry)), (20005, .z 3 1 0 (([] : List Int).map e_i64)), (40005, .z 3 1 0 (v1.1.map e_i64)), (60005, .z 3 1 0 (v1.2.1.map e_i64))], [], []⟩ : S)) [] hF (by kernel_rfl) ?_
  intro n1 v1 y1 hF ih1 dn1
  unfold R_Leader_B1 at hF
  refine NR [] [1, 2, 3, 10] [1, 2] [5, 20005, 40005, 60005] [(10, .bool (decide (v1.2.2 < x1.1)))] .nil ?_
  refine Nif hF (fun hb hF => ?_) (fun hb hF => ?_)
  ·refine Nblk ?_
   obtain ⟨h2, hF⟩ := asrt_elim hF
   refine VR [.nat (x1.2.2.2.2.1.length : Int), .sealed, .xs ((v1.1 ++ ([w64 ((x1.2.2.2.2.1.length : Int) + 1)] : List Int)).map e_i64)] [1, 2, 3] [1, 2] [5, 20005, 40005, 60005] [] [] [(1, [.i x1.1, .i x1.2.1, .i x1.2.2.1, .i x1.2.2.2.1, .row 5 1, .i 2, .i x1.2.2.2.2.2.2, .row 20005 0, .row 40005 1, .row 60005 0])] [(40005, .z 3 1 1 ((v1.1 ++ ([w64 ((x1.2.2.2.2.1.length : Int) + 1)] : List Int)).map e_i64))] [] (hc (len_ok e_Entry x1.2.2.2.2.1) (hc (app_ok e_i64 v1.1 ([w64 ((x1.2.2.2.2.1.length : Int) + 1)] : List Int)) (hc (appl_ok e_i64 h2) .nil))) ?_
   refine NR [] [1, 2, 3, 25] [1, 2] [5, 20005, 40005, 60005] [(25, .bool (decide (v1.2.2 = x1.2.1)))] .nil ?_
   obtain ⟨v2, hv, hF⟩ := ob_elim hF
   refine Nmeet (⟨[(1, .ptr 1 0), (2, .ptr 2 0), (3, .i v1.2.2)], [(1, [.i x1.1, .i x1.2.1, .i x1.2.2.1, .i x1.2.2.2.1, .row 5 1, .i 2, .i x1.2.2.2.2.2.2, .row 20005 0, .row 40005 1, .row 60005 1]), (2, [.i 0, .i 0, .i 0, .i 0, .nils, .i 0, .i 0, .nils, .nils, .nils])], [(5, .z 31 2 1 (x1.2.2.2.2.1.map e_Entry)), (20005, .z 3 1 0 (([] : List Int).map e_i64)), (40005, .z 3 1 1 ((v1.1 ++ ([w64 ((x1.2.2.2.2.1.length : Int) + 1)] : List Int)).map e_i64)), (60005, .z 3 1 1 (v2.map e_i64))], [], []⟩ : S) ?_ ?_
   ·have hF := hv
    refine Nif hF (fun hb hF => ?_) (fun hb hF => ?_)
    ·obtain ⟨h3, hF⟩ := asrt_elim hF
     refine VR [.nat (x1.2.2.2.2.1.length : Int), .sealed, .xs ((v1.2.1 ++ ([(x1.2.2.2.2.1.length : Int)] : List Int)).map e_i64)] [1, 2, 3] [1, 2] [5, 20005, 40005, 60005] [] [] [(1, [.i x1.1, .i x1.2.1, .i x1.2.2.1, .i x1.2.2.2.1, .row 5 1, .i 2, .i x1.2.2.2.2.2.2, .row 20005 0, .row 40005 1, .row 60005 1])] [(60005, .z 3 1 1 ((v1.2.1 ++ ([(x1.2.2.2.2.1.length : Int)] : List Int)).map e_i64))] [] (hc (len_ok e_Entry x1.2.2.2.2.1) (hc (app_ok e_i64 v1.2.1 ([(x1.2.2.2.2.1.length : Int)] : List Int)) (hc (appl_ok e_i64 h3) .nil))) ?_
     cases hF
     exact met [] (by kernel_rfl)
    ·obtain ⟨h4, hF⟩ := asrt_elim hF
     refine VR [.sealed, .xs ((v1.2.1 ++ ([0] : List Int)).map e_i64)] [1, 2, 3] [1, 2] [5, 20005, 40005, 60005] [] [] [(1, [.i x1.1, .i x1.2.1, .i x1.2.2.1, .i x1.2.2.2.1, .row 5 1, .i 2, .i x1.2.2.2.2.2.2, .row 20005 0, .row 40005 1, .row 60005 1])] [(60005, .z 3 1 1 ((v1.2.1 ++ ([0] : List Int)).map e_i64))] [] (hc (app_ok e_i64 v1.2.1 ([0] : List Int)) (hc (appl_ok e_i64 h4) .nil)) ?_
     cases hF
     exact met [] (by kernel_rfl)
   ·refine NR [] [1, 2, 3] [1, 2] [5, 20005, 40005, 60005] [(3, .i (w64 (v1.2.2 + 1)))] .nil ?_
    exact Nrnd [(40005, ⟨0, true, true, false⟩), (60005, ⟨0, true, true, false⟩)] hF ih1 (by kernel_rfl)
  ·refine Nexit rfl ?_
   have hF := inrO_done hF dn1
   exact metP (v1.1, v1.2.1) [] hF (by kernel_rfl)
 ·intro v hF
  have hF : R_Leader_J1 x1 v = some r := hF
  unfold R_Leader_J1 at hF
  obtain ⟨x2, h1, hF⟩ := ob_elim hF
  refine VR [.call (.agg (c_Node x2))] [2] [2] [] [] [] [(2, (c_Node x2))] [] [] (hc (R_Counted_ok (⟨x1.1, x1.2.1, x1.2.2.1, x1.2.2.2.1, x1.2.2.2.2.1, 2, x1.2.2.2.2.2.2, ([] : List Int), v.1, v.2⟩ : Node) x2 h1) .nil) ?_
  cases hF
  exact Wk_ret (hfin _ ⟨[], [], [], [], [], [], by kernel_rfl⟩)

/- tabularyref.StandNode -/
noncomputable def R_StandNode_J1 (x : Node) (v1 : Fault) (x4 : Int × Int × Int × Int × List Entry × Int × Int) (v2 : List Mail) : Option (Node × List Mail × Fault) :=
 ob (
  if (decide (x.N = 1)) = true then
   ob (R_Leader (⟨x4.1, x4.2.1, w64 (x.Term + 1), w64 (x.ID + 1), x4.2.2.2.2.1, 1, x4.2.2.2.2.2.2, ([x.ID] : List Int), ([] : List Int), ([] : List Int)⟩ : Node)) fun x5 =>
   some (x5.N, x5.ID, x5.Term, x5.Vote, x5.Log, x5.Role, x5.Commit, x5.Votes, x5.Next, x5.Have)
  else
   some (x4.1, x4.2.1, w64 (x.Term + 1), w64 (x.ID + 1), x4.2.2.2.2.1, 1, x4.2.2.2.2.2.2, ([x.ID] : List Int), ([] : List Int), ([] : List Int))) fun (v3 : Int × Int × Int × Int × List Entry × Int × Int × List Int × List Int × List Int) =>
 some ((⟨v3.1, v3.2.1, v3.2.2.1, v3.2.2.2.1, v3.2.2.2.2.1, v3.2.2.2.2.2.1, v3.2.2.2.2.2.2.1, v3.2.2.2.2.2.2.2.1, v3.2.2.2.2.2.2.2.2.1, v3.2.2.2.2.2.2.2.2.2⟩ : Node), v2, v1)
noncomputable def R_StandNode_B1 (x : Node) (v1 : Fault) (x4 : Int × Int × Int × Int × List Entry × Int × Int) (v4 : List Mail × Int) : Option ((List Mail × Int) ⊕ (Node × List Mail × Fault)) :=
 if (decide (v4.2 < x.N)) = true then
  ob (
   if (!decide (v4.2 = x.ID)) = true then
    ob (R_LastTerm x.Log) fun x6 =>
    asrt (((v4.1 ++ [(⟨1, x.ID, v4.2, w64 (x.Term + 1), (x.Log.length : Int), x6, 0, ([] : List Entry), false⟩ : Mail)]).length : Int) * 88 ≤ 140737488351232) <|
    lt ((v4.1 ++ [(⟨1, x.ID, v4.2, w64 (x.Term + 1), (x.Log.length : Int), x6, 0, ([] : List Entry), false⟩ : Mail)])) fun (v6 : List Mail) =>
    some v6
   else
    some v4.1) fun (v5 : List Mail) =>
  some (Sum.inl (v5, w64 (v4.2 + 1)))
 else
  inrO (R_StandNode_J1 x v1 x4 v4.1)
noncomputable def R_StandNode_L1 (x : Node) (v1 : Fault) (x4 : Int × Int × Int × Int × List Entry × Int × Int) (v0 : List Mail × Int) : Option (Node × List Mail × Fault) :=
 loopO (fun y => R_StandNode_B1 x v1 x4 y) v0
noncomputable def R_StandNode (x : Node) : Option (Node × List Mail × Fault) :=
 ob (R_NodeFault x) fun x1 =>
 ob (
  if ((decide (x1.Code = 0)) && (decide (x.Role = 2))) = true then
   lt (R_F 11 0) fun x2 =>
   some x2
  else
   some x1) fun (v : Fault) =>
 ob (
  if ((decide (v.Code = 0)) && (decide (1000000000 ≤ x.Term))) = true then
   lt (R_F 9 0) fun x3 =>
   some x3
  else
   some v) fun (v1 : Fault) =>
 if (!decide (v1.Code = 0)) = true then
  some ((⟨0, 0, 0, 0, ([] : List Entry), 0, 0, ([] : List Int), ([] : List Int), ([] : List Int)⟩ : Node), ([] : List Mail), v1)
 else
  ob (R_Follower x) fun x4 =>
  R_StandNode_L1 x v1 x4 (([] : List Mail), 0)
theorem R_StandNode_ok (x : Node) (r : Node × List Mail × Fault) (hF : R_StandNode x = some r) : Pe Try.prog 37 S.none [.agg (c_Node x)] (.tup [.agg (c_Node r.1), .row 73 0, .agg (c_Fault r.2.2)]) ⟨[], [], [(73, .z 62 9 0 (r.2.1.map e_Mail))], [], []⟩ := by
 refine PeN 82 [.cell 2 46, .tmp 3, .cell 4 26] [46, 50, 26] Ty.ok Fn.b37 Try.func37 ?_
 intro Q g hfin
 unfold R_StandNode at hF
 refine VR [] [1, 2, 4] [1, 2, 4] [] [] [(1, .ptr 1 0), (2, .ptr 2 0), (4, .ptr 4 0)] [(1, (c_Node x)), (2, [.i 0, .i 0, .i 0, .i 0, .nils, .i 0, .i 0, .nils, .nils, .nils]), (4, [.i 0, .i 0])] [] [] .nil ?_
 obtain ⟨x1, h0, hF⟩ := ob_elim hF
 refine VR [.callB (.agg (c_Fault x1))] [1, 2, 4, 5] [1, 2, 4, 5] [] [] [(5, .ptr 5 0)] [(5, (c_Fault x1))] [] [] (hc (R_NodeFault_ok x x1 h0) .nil) ?_
 refine NR [] [1, 2, 4, 5, 18] [1, 2, 4, 5] [] [(18, .bool ((decide (x1.Code = 0)) && (decide (x.Role = 2))))] .nil ?_
 obtain ⟨v, hv, hF⟩ := ob_elim hF
 refine Nmeet (⟨[(1, .ptr 1 0), (2, .ptr 2 0), (4, .ptr 4 0), (5, .ptr 5 0)], [(1, (c_Node x)), (2, [.i 0, .i 0, .i 0, .i 0, .nils, .i 0, .i 0, .nils, .nils, .nils]), (4, [.i 0, .i 0]), (5, (c_Fault v))], [], [], []⟩ : S) ?_ ?_
 ·have hF := hv
  refine Nif hF (fun hb hF => ?_) (fun hb hF => ?_)
  ·obtain ⟨x2, h1, hF⟩ := lt_split hF
   refine VR [.callB (.agg (c_Fault x2))] [1, 2, 4, 5] [1, 2, 4, 5] [] [] [] [(5, (c_Fault x2))] [] [] (hc (R_F_ok 11 0 x2 h1) .nil) ?_
   cases hF
   exact met [] (by kernel_rfl)
  ·cases hF
   exact met [] (by kernel_rfl)
 ·refine NR [] [1, 2, 4, 5, 27] [1, 2, 4, 5] [] [(27, .bool ((decide (v.Code = 0)) && (decide (1000000000 ≤ x.Term))))] .nil ?_
  obtain ⟨v1, hv, hF⟩ := ob_elim hF
  refine Nmeet (⟨[(1, .ptr 1 0), (2, .ptr 2 0), (4, .ptr 4 0), (5, .ptr 5 0)], [(1, (c_Node x)), (2, [.i 0, .i 0, .i 0, .i 0, .nils, .i 0, .i 0, .nils, .nils, .nils]), (4, [.i 0, .i 0]), (5, (c_Fault v1))], [], [], []⟩ : S) ?_ ?_
  ·have hF := hv
   refine Nif hF (fun hb hF => ?_) (fun hb hF => ?_)
   ·obtain ⟨x3, h2, hF⟩ := lt_split hF
    refine VR [.callB (.agg (c_Fault x3))] [1, 2, 4, 5] [1, 2, 4, 5] [] [] [] [(5, (c_Fault x3))] [] [] (hc (R_F_ok 9 0 x3 h2) .nil) ?_
    cases hF
    exact met [] (by kernel_rfl)
   ·cases hF
    exact met [] (by kernel_rfl)
  ·refine NR [] [1, 2, 4, 5, 31] [1, 2, 4, 5] [] [(31, .bool (!decide (v1.Code = 0)))] .nil ?_
   refine Nif hF (fun hb hF => ?_) (fun hb hF => ?_)
   ·refine VD [] [2, 3, 4] [2, 4] [] [] [(3, .nils)] [(4, (c_Fault v1))] [] [] .nil ?_
    cases hF
    refine Wk_nilrow 3 60000 62 9 rfl rfl rfl ?_
    refine Wk_ren' ⟨[], [(60000, 73)], [], []⟩ rfl ?_
    exact Wk_ret (hfin _ ⟨[73], [], [73], [], [], [], by kernel_rfl⟩)
   ·obtain ⟨x4, h3, hF⟩ := ob_elim hF
    refine VR [.callE [] [] [] [] (.agg [.i x4.1, .i x4.2.1, .i x4.2.2.1, .i x4.2.2.2.1, .row 35 1, .i x4.2.2.2.2.2.1, .i x4.2.2.2.2.2.2, .row 20035 0, .row 40035 0, .row 60035 0]) ⟨[], [], [(35, .z 31 2 1 (x4.2.2.2.2.1.map e_Entry)), (20035, .z 3 1 0 (([] : List Int).map e_i64)), (40035, .z 3 1 0 (([] : List Int).map e_i64)), (60035, .z 3 1 0 (([] : List Int).map e_i64))], [], []⟩] [1, 2, 4, 5, 6] [1, 2, 4, 5, 6] [35, 20035, 40035, 60035] [] [(6, .ptr 6 0)] [(6, [.i x4.1, .i x4.2.1, .i x4.2.2.1, .i x4.2.2.2.1, .row 35 1, .i x4.2.2.2.2.2.1, .i x4.2.2.2.2.2.2, .row 20035 0, .row 40035 0, .row 60035 0])] [(35, .z 31 2 1 (x4.2.2.2.2.1.map e_Entry)), (20035, .z 3 1 0 (([] : List Int).map e_i64)), (40035, .z 3 1 0 (([] : List Int).map e_i64)), (60035, .z 3 1 0 (([] : List Int).map e_i64))] [] (hc (Pe.ren (R_Follower_ok x x4 h3) ⟨[], [(13, 35), (71001, 20035), (71002, 40035), (71003, 60035)], [], []⟩) .nil) ?_
    refine VR [] [1, 2, 4, 5, 6] [1, 2, 4, 5, 6] [35, 20035, 40035, 60035] [] [] [(6, [.i x4.1, .i x4.2.1, .i (w64 (x.Term + 1)), .i x4.2.2.2.1, .row 35 1, .i x4.2.2.2.2.2.1, .i x4.2.2.2.2.2.2, .row 20035 0, .row 40035 0, .row 60035 0])] [] [] .nil ?_
    refine VR [] [1, 2, 4, 5, 6] [1, 2, 4, 5, 6] [35, 20035, 40035, 60035] [] [] [(6, [.i x4.1, .i x4.2.1, .i (w64 (x.Term + 1)), .i (w64 (x.ID + 1)), .row 35 1, .i x4.2.2.2.2.2.1, .i x4.2.2.2.2.2.2, .row 20035 0, .row 40035 0, .row 60035 0])] [] [] .nil ?_
    refine VR [] [1, 2, 4, 5, 6] [1, 2, 4, 5, 6] [35, 20035, 40035, 60035] [] [] [(6, [.i x4.1, .i x4.2.1, .i (w64 (x.Term + 1)), .i (w64 (x.ID + 1)), .row 35 1, .i 1, .i x4.2.2.2.2.2.2, .row 20035 0, .row 40035 0, .row 60035 0])] [] [] .nil ?_
    refine VR [.sealed] [1, 2, 4, 5, 6] [1, 2, 4, 5, 6] [35, 40035, 60035] [] [] [(6, [.i x4.1, .i x4.2.1, .i (w64 (x.Term + 1)), .i (w64 (x.ID + 1)), .row 35 1, .i 1, .i x4.2.2.2.2.2.2, .sl 1 (([x.ID] : List Int).map e_i64), .row 40035 0, .row 60035 0])] [] [] .nil ?_
    refine NR [] [1, 2, 4, 5, 6, 7] [1, 2, 4, 5, 6] [35, 40035, 60035] [(7, .nils)] .nil ?_
    refine NR [] [1, 2, 4, 5, 6, 7, 8] [1, 2, 4, 5, 6] [35, 40035, 60035] [(8, .i 0)] .nil ?_
    refine NmeetP (fun v2 : List Mail => (⟨[(1, .ptr 1 0), (2, .ptr 2 0), (4, .ptr 4 0), (5, .ptr 5 0), (6, .ptr 6 0), (7, .row 73 0)], [(1, (c_Node x)), (2, [.i 0, .i 0, .i 0, .i 0, .nils, .i 0, .i 0, .nils, .nils, .nils]), (4, [.i 0, .i 0]), (5, (c_Fault v1)), (6, [.i x4.1, .i x4.2.1, .i (w64 (x.Term + 1)), .i (w64 (x.ID + 1)), .row 35 1, .i 1, .i x4.2.2.2.2.2.2, .sl 1 (([x.ID] : List Int).map e_i64), .row 40035 0, .row 60035 0])], [(35, .z 31 2 1 (x4.2.2.2.2.1.map e_Entry)), (73, .z 62 9 0 (v2.map e_Mail)), (40035, .z 3 1 0 (([] : List Int).map e_i64)), (60035, .z 3 1 0 (([] : List Int).map e_i64))], [], []⟩ : S)) (fun v2 => R_StandNode_J1 x v1 x4 v2 = some r) ?_ ?_
    ·refine Nblk ?_
     unfold R_StandNode_L1 at hF
     refine Wk_nilrow 7 60001 62 9 rfl rfl rfl ?_
     refine Wk_trim (fs := [1, 2, 4, 5, 6, 7, 8]) (bs := [1, 2, 4, 5, 6]) (rs := [35, 40035, 60001, 60035]) (ms := []) (aa := []) (nv := []) rfl ?_
     refine Wk_ren' ⟨[], [(60001, 73)], [], []⟩ rfl ?_
     refine Niter (fun v4 : List Mail × Int => (⟨[(1, .ptr 1 0), (2, .ptr 2 0), (4, .ptr 4 0), (5, .ptr 5 0), (6, .ptr 6 0), (7, .row 73 0), (8, .i v4.2)], [(1, (c_Node x)), (2, [.i 0, .i 0, .i 0, .i 0, .nils, .i 0, .i 0, .nils, .nils, .nils]), (4, [.i 0, .i 0]), (5, (c_Fault v1)), (6, [.i x4.1, .i x4.2.1, .i (w64 (x.Term + 1)), .i (w64 (x.ID + 1)), .row 35 1, .i 1, .i x4.2.2.2.2.2.2, .sl 1 (([x.ID] : List Int).map e_i64), .row 40035 0, .row 60035 0])], [(35, .z 31 2 1 (x4.2.2.2.2.1.map e_Entry)), (73, .z 62 9 0 (v4.1.map e_Mail)), (40035, .z 3 1 0 (([] : List Int).map e_i64)), (60035, .z 3 1 0 (([] : List Int).map e_i64))], [], []⟩ : S)) [] hF (by kernel_rfl) ?_
     intro n1 v4 y1 hF ih1 dn1
     unfold R_StandNode_B1 at hF
     refine NR [] [1, 2, 4, 5, 6, 7, 8, 52] [1, 2, 4, 5, 6] [35, 73, 40035, 60035] [(52, .bool (decide (v4.2 < x.N)))] .nil ?_
     refine Nif hF (fun hb hF => ?_) (fun hb hF => ?_)
     ·refine Nblk ?_
      refine NR [] [1, 2, 4, 5, 6, 7, 8, 58] [1, 2, 4, 5, 6] [35, 73, 40035, 60035] [(58, .bool (!decide (v4.2 = x.ID)))] .nil ?_
      obtain ⟨v5, hv, hF⟩ := ob_elim hF
      refine Nmeet (⟨[(1, .ptr 1 0), (2, .ptr 2 0), (4, .ptr 4 0), (5, .ptr 5 0), (6, .ptr 6 0), (7, .row 73 0), (8, .i v4.2)], [(1, (c_Node x)), (2, [.i 0, .i 0, .i 0, .i 0, .nils, .i 0, .i 0, .nils, .nils, .nils]), (4, [.i 0, .i 0]), (5, (c_Fault v1)), (6, [.i x4.1, .i x4.2.1, .i (w64 (x.Term + 1)), .i (w64 (x.ID + 1)), .row 35 1, .i 1, .i x4.2.2.2.2.2.2, .sl 1 (([x.ID] : List Int).map e_i64), .row 40035 0, .row 60035 0])], [(35, .z 31 2 1 (x4.2.2.2.2.1.map e_Entry)), (73, .z 62 9 0 (v5.map e_Mail)), (40035, .z 3 1 0 (([] : List Int).map e_i64)), (60035, .z 3 1 0 (([] : List Int).map e_i64))], [], []⟩ : S) ?_ ?_
      ·have hF := hv
       refine Nif hF (fun hb hF => ?_) (fun hb hF => ?_)
       ·obtain ⟨x6, h5, hF⟩ := ob_elim hF
        obtain ⟨h6, hF⟩ := asrt_elim hF
        refine NDL ((v4.1 ++ [(⟨1, x.ID, v4.2, w64 (x.Term + 1), (x.Log.length : Int), x6, 0, ([] : List Entry), false⟩ : Mail)])) (fun v6 : List Mail => ([(7, .row 73 1)], [], [(73, .z 62 9 1 (v6.map e_Mail))], [])) [.nat (x.Log.length : Int), .callB (.i x6), .sealed, .xs ((v4.1 ++ [(⟨1, x.ID, v4.2, w64 (x.Term + 1), (x.Log.length : Int), x6, 0, ([] : List Entry), false⟩ : Mail)]).map e_Mail)] [1, 2, 4, 5, 6, 7, 8] [1, 2, 4, 5, 6] [35, 73, 40035, 60035] [] (hc (len_ok e_Entry x.Log) (hc (R_LastTerm_ok x.Log x6 h5) (hc (app_ok e_Mail v4.1 [(⟨1, x.ID, v4.2, w64 (x.Term + 1), (x.Log.length : Int), x6, 0, ([] : List Entry), false⟩ : Mail)]) (hc (appl_ok e_Mail h6) .nil)))) (fun v6 hv => ?_)
        have hF := lt_elim hF hv
        cases hF
        exact met [(73, ⟨0, true, true, false⟩)] (by kernel_rfl)
       ·cases hF
        exact met [] (by kernel_rfl)
      ·refine NR [] [1, 2, 4, 5, 6, 7, 8] [1, 2, 4, 5, 6] [35, 73, 40035, 60035] [(8, .i (w64 (v4.2 + 1)))] .nil ?_
       exact Nrnd [] hF ih1 (by kernel_rfl)
     ·refine Nexit rfl ?_
      have hF := inrO_done hF dn1
      exact metP v4.1 [] hF (by kernel_rfl)
    ·intro v2 hF
     have hF : R_StandNode_J1 x v1 x4 v2 = some r := hF
     unfold R_StandNode_J1 at hF
     refine NR [] [2, 4, 5, 6, 7, 76] [2, 4, 5, 6] [35, 73, 40035, 60035] [(76, .bool (decide (x.N = 1)))] .nil ?_
     obtain ⟨v3, hv, hF⟩ := ob_elim hF
     refine Nmeet (⟨[(2, .ptr 2 0), (4, .ptr 4 0), (5, .ptr 5 0), (6, .ptr 6 0), (7, .row 73 0)], [(2, [.i 0, .i 0, .i 0, .i 0, .nils, .i 0, .i 0, .nils, .nils, .nils]), (4, [.i 0, .i 0]), (5, (c_Fault v1)), (6, [.i v3.1, .i v3.2.1, .i v3.2.2.1, .i v3.2.2.2.1, .sl 2 (v3.2.2.2.2.1.map e_Entry), .i v3.2.2.2.2.2.1, .i v3.2.2.2.2.2.2.1, .sl 1 (v3.2.2.2.2.2.2.2.1.map e_i64), .sl 1 (v3.2.2.2.2.2.2.2.2.1.map e_i64), .sl 1 (v3.2.2.2.2.2.2.2.2.2.map e_i64)])], [(73, .z 62 9 0 (v2.map e_Mail))], [], []⟩ : S) ?_ ?_
     ·have hF := hv
      refine Nif hF (fun hb hF => ?_) (fun hb hF => ?_)
      ·obtain ⟨x5, h4, hF⟩ := ob_elim hF
       refine VR [.call (.agg (c_Node x5))] [2, 4, 5, 6, 7] [2, 4, 5, 6] [73] [] [] [(6, (c_Node x5))] [] [] (hc (R_Leader_ok (⟨x4.1, x4.2.1, w64 (x.Term + 1), w64 (x.ID + 1), x4.2.2.2.2.1, 1, x4.2.2.2.2.2.2, ([x.ID] : List Int), ([] : List Int), ([] : List Int)⟩ : Node) x5 h4) .nil) ?_
       cases hF
       exact met [] (by kernel_rfl)
      ·refine Wk_sealBX [] 6 rfl rfl ?_
       cases hF
       exact met [] (by kernel_rfl)
     ·refine VD [] [2, 3, 4] [2, 4] [73] [] [(3, .row 73 0)] [(2, [.i v3.1, .i v3.2.1, .i v3.2.2.1, .i v3.2.2.2.1, .sl 2 (v3.2.2.2.2.1.map e_Entry), .i v3.2.2.2.2.2.1, .i v3.2.2.2.2.2.2.1, .sl 1 (v3.2.2.2.2.2.2.2.1.map e_i64), .sl 1 (v3.2.2.2.2.2.2.2.2.1.map e_i64), .sl 1 (v3.2.2.2.2.2.2.2.2.2.map e_i64)]), (4, (c_Fault v1))] [] [] .nil ?_
      cases hF
      exact Wk_ret (hfin _ ⟨[73], [], [73], [], [], [], by kernel_rfl⟩)

/- tabularyref.CopyNode -/
noncomputable def R_CopyNode (x : Node) : Option (Int × Int × Int × Int × List Entry × Int × Int × List Int × List Int × List Int) :=
 ob (R_CopyLog x.Log) fun x1 =>
 asrt ((x.Votes.length : Int) * 8 ≤ 140737488351232) <|
 asrt ((x.Next.length : Int) * 8 ≤ 140737488351232) <|
 asrt ((x.Have.length : Int) * 8 ≤ 140737488351232) <|
 some (x.N, x.ID, x.Term, x.Vote, x1, x.Role, x.Commit, x.Votes, x.Next, x.Have)
theorem R_CopyNode_ok (x : Node) (r : Int × Int × Int × Int × List Entry × Int × Int × List Int × List Int × List Int) (hF : R_CopyNode x = some r) : Pe Try.prog 29 S.none [.agg (c_Node x)] (.agg [.i r.1, .i r.2.1, .i r.2.2.1, .i r.2.2.2.1, .row 5 1, .i r.2.2.2.2.2.1, .i r.2.2.2.2.2.2.1, .row 9 1, .row 13 1, .row 17 1]) ⟨[], [], [(5, .z 31 2 1 (r.2.2.2.2.1.map e_Entry)), (9, .z 3 1 1 (r.2.2.2.2.2.2.2.1.map e_i64)), (13, .z 3 1 1 (r.2.2.2.2.2.2.2.2.1.map e_i64)), (17, .z 3 1 1 (r.2.2.2.2.2.2.2.2.2.map e_i64))], [], []⟩ := by
 refine PeN 20 [.cell 2 46] [46] Ty.ok Fn.b29 Try.func29 ?_
 intro Q g hfin
 unfold R_CopyNode at hF
 refine VR [] [1, 2] [1, 2] [] [] [(1, .ptr 1 0), (2, .ptr 2 0)] [(1, (c_Node x)), (2, [.i 0, .i 0, .i 0, .i 0, .nils, .i 0, .i 0, .nils, .nils, .nils])] [] [] .nil ?_
 obtain ⟨x1, h0, hF⟩ := ob_elim hF
 refine VR [.callE [] [] [] [] (.row 5 1) ⟨[], [], [(5, .z 31 2 1 (x1.map e_Entry))], [], []⟩] [1, 2] [1, 2] [5] [] [] [(1, [.i x.N, .i x.ID, .i x.Term, .i x.Vote, .row 5 1, .i x.Role, .i x.Commit, .sl 1 (x.Votes.map e_i64), .sl 1 (x.Next.map e_i64), .sl 1 (x.Have.map e_i64)])] [(5, .z 31 2 1 (x1.map e_Entry))] [] (hc (Pe.ren (R_CopyLog_ok x.Log x1 h0) ⟨[], [(4, 5)], [], []⟩) .nil) ?_
 obtain ⟨h1, hF⟩ := asrt_elim hF
 refine VR [.xs (x.Votes.map e_i64)] [1, 2] [1, 2] [5, 9] [] [] [(1, [.i x.N, .i x.ID, .i x.Term, .i x.Vote, .row 5 1, .i x.Role, .i x.Commit, .row 9 1, .sl 1 (x.Next.map e_i64), .sl 1 (x.Have.map e_i64)])] [(9, .z 3 1 1 (x.Votes.map e_i64))] [] (hc (app0_ok e_i64 x.Votes) (hc (appl_ok e_i64 h1) .nil)) ?_
 obtain ⟨h2, hF⟩ := asrt_elim hF
 refine VR [.xs (x.Next.map e_i64)] [1, 2] [1, 2] [5, 9, 13] [] [] [(1, [.i x.N, .i x.ID, .i x.Term, .i x.Vote, .row 5 1, .i x.Role, .i x.Commit, .row 9 1, .row 13 1, .sl 1 (x.Have.map e_i64)])] [(13, .z 3 1 1 (x.Next.map e_i64))] [] (hc (app0_ok e_i64 x.Next) (hc (appl_ok e_i64 h2) .nil)) ?_
 obtain ⟨h3, hF⟩ := asrt_elim hF
 refine VR [.xs (x.Have.map e_i64)] [1, 2] [1, 2] [5, 9, 13, 17] [] [] [(1, [.i x.N, .i x.ID, .i x.Term, .i x.Vote, .row 5 1, .i x.Role, .i x.Commit, .row 9 1, .row 13 1, .row 17 1])] [(17, .z 3 1 1 (x.Have.map e_i64))] [] (hc (app0_ok e_i64 x.Have) (hc (appl_ok e_i64 h3) .nil)) ?_
 refine VR [] [2] [2] [5, 9, 13, 17] [] [] [(2, [.i x.N, .i x.ID, .i x.Term, .i x.Vote, .row 5 1, .i x.Role, .i x.Commit, .row 9 1, .row 13 1, .row 17 1])] [] [] .nil ?_
 cases hF
 exact Wk_ret (hfin _ ⟨[5, 9, 13, 17], [], [5, 9, 13, 17], [], [], [], by kernel_rfl⟩)

/- tabularyref.ProposeNode -/
noncomputable def R_ProposeNode (x : Node) (text : List UInt8) : Option (Node × Fault) :=
 ob (R_NodeFault x) fun x1 =>
 ob (
  if ((decide (x1.Code = 0)) && (!decide (x.Role = 2))) = true then
   lt (R_F 11 0) fun x2 =>
   some x2
  else
   some x1) fun (v : Fault) =>
 ob (
  if ((decide (v.Code = 0)) && (decide (200 < (text.length : Int)))) = true then
   lt (R_F 8 0) fun x3 =>
   some x3
  else
   some v) fun (v1 : Fault) =>
 ob (
  if ((decide (v1.Code = 0)) && (decide (100 ≤ (x.Log.length : Int)))) = true then
   lt (R_F 2 0) fun x4 =>
   some x4
  else
   some v1) fun (v2 : Fault) =>
 if (!decide (v2.Code = 0)) = true then
  some ((⟨0, 0, 0, 0, ([] : List Entry), 0, 0, ([] : List Int), ([] : List Int), ([] : List Int)⟩ : Node), v2)
 else
  ob (R_CopyNode x) fun x5 =>
  asrt (((x5.2.2.2.2.1 ++ [(⟨x.Term, text⟩ : Entry)]).length : Int) * 24 ≤ 140737488351232) <|
  asrt (0 ≤ x.ID ∧ x.ID < (x5.2.2.2.2.2.2.2.2.2.length : Int)) <|
  asrt (0 ≤ x.ID ∧ x.ID < (x5.2.2.2.2.2.2.2.2.2.length : Int)) <|
  lt ((lset x5.2.2.2.2.2.2.2.2.2 x.ID ((x5.2.2.2.2.1 ++ [(⟨x.Term, text⟩ : Entry)]).length : Int))) fun (v3 : List Int) =>
  asrt (0 ≤ x.ID ∧ x.ID < (x5.2.2.2.2.2.2.2.2.1.length : Int)) <|
  asrt (0 ≤ x.ID ∧ x.ID < (x5.2.2.2.2.2.2.2.2.1.length : Int)) <|
  lt ((lset x5.2.2.2.2.2.2.2.2.1 x.ID (w64 (((x5.2.2.2.2.1 ++ [(⟨x.Term, text⟩ : Entry)]).length : Int) + 1)))) fun (v4 : List Int) =>
  ob (R_Counted (⟨x5.1, x5.2.1, x5.2.2.1, x5.2.2.2.1, (x5.2.2.2.2.1 ++ [(⟨x.Term, text⟩ : Entry)]), x5.2.2.2.2.2.1, x5.2.2.2.2.2.2.1, x5.2.2.2.2.2.2.2.1, v4, v3⟩ : Node)) fun x6 =>
  some (x6, v2)
theorem R_ProposeNode_ok (x : Node) (text : List UInt8) (r : Node × Fault) (hF : R_ProposeNode x text = some r) : Pe Try.prog 38 S.none [.agg (c_Node x), .str text] (.tup [.agg (c_Node r.1), .agg (c_Fault r.2)]) S.none := by
 refine PeN 74 [.cell 4 46, .cell 5 26] [46, 26] Ty.ok Fn.b38 Try.func38 ?_
 intro Q g hfin
 unfold R_ProposeNode at hF
 refine VR [] [1, 2, 4, 5] [2, 4, 5] [] [] [(2, .ptr 2 0), (4, .ptr 4 0), (5, .ptr 5 0)] [(2, (c_Node x)), (4, [.i 0, .i 0, .i 0, .i 0, .nils, .i 0, .i 0, .nils, .nils, .nils]), (5, [.i 0, .i 0])] [] [] .nil ?_
 obtain ⟨x1, h0, hF⟩ := ob_elim hF
 refine VR [.callB (.agg (c_Fault x1))] [1, 2, 4, 5, 6] [2, 4, 5, 6] [] [] [(6, .ptr 6 0)] [(6, (c_Fault x1))] [] [] (hc (R_NodeFault_ok x x1 h0) .nil) ?_
 refine NR [] [1, 2, 4, 5, 6, 17] [2, 4, 5, 6] [] [(17, .bool ((decide (x1.Code = 0)) && (!decide (x.Role = 2))))] .nil ?_
 obtain ⟨v, hv, hF⟩ := ob_elim hF
 refine Nmeet (⟨[(1, .str text), (2, .ptr 2 0), (4, .ptr 4 0), (5, .ptr 5 0), (6, .ptr 6 0)], [(2, (c_Node x)), (4, [.i 0, .i 0, .i 0, .i 0, .nils, .i 0, .i 0, .nils, .nils, .nils]), (5, [.i 0, .i 0]), (6, (c_Fault v))], [], [], []⟩ : S) ?_ ?_
 ·have hF := hv
  refine Nif hF (fun hb hF => ?_) (fun hb hF => ?_)
  ·obtain ⟨x2, h1, hF⟩ := lt_split hF
   refine VR [.callB (.agg (c_Fault x2))] [1, 2, 4, 5, 6] [2, 4, 5, 6] [] [] [] [(6, (c_Fault x2))] [] [] (hc (R_F_ok 11 0 x2 h1) .nil) ?_
   cases hF
   exact met [] (by kernel_rfl)
  ·cases hF
   exact met [] (by kernel_rfl)
 ·refine NR [] [1, 2, 4, 5, 6, 26] [2, 4, 5, 6] [] [(26, .bool ((decide (v.Code = 0)) && (decide (200 < (text.length : Int)))))] .nil ?_
  obtain ⟨v1, hv, hF⟩ := ob_elim hF
  refine Nmeet (⟨[(1, .str text), (2, .ptr 2 0), (4, .ptr 4 0), (5, .ptr 5 0), (6, .ptr 6 0)], [(2, (c_Node x)), (4, [.i 0, .i 0, .i 0, .i 0, .nils, .i 0, .i 0, .nils, .nils, .nils]), (5, [.i 0, .i 0]), (6, (c_Fault v1))], [], [], []⟩ : S) ?_ ?_
  ·have hF := hv
   refine Nif hF (fun hb hF => ?_) (fun hb hF => ?_)
   ·obtain ⟨x3, h2, hF⟩ := lt_split hF
    refine VR [.callB (.agg (c_Fault x3))] [1, 2, 4, 5, 6] [2, 4, 5, 6] [] [] [] [(6, (c_Fault x3))] [] [] (hc (R_F_ok 8 0 x3 h2) .nil) ?_
    cases hF
    exact met [] (by kernel_rfl)
   ·cases hF
    exact met [] (by kernel_rfl)
  ·refine NR [.nat (x.Log.length : Int)] [1, 2, 4, 5, 6, 36] [2, 4, 5, 6] [] [(36, .bool ((decide (v1.Code = 0)) && (decide (100 ≤ (x.Log.length : Int)))))] (hc (fun (_ : (decide (v1.Code = 0)) = true) => (len_ok e_Entry x.Log)) .nil) ?_
   obtain ⟨v2, hv, hF⟩ := ob_elim hF
   refine Nmeet (⟨[(1, .str text), (2, .ptr 2 0), (4, .ptr 4 0), (5, .ptr 5 0), (6, .ptr 6 0)], [(2, (c_Node x)), (4, [.i 0, .i 0, .i 0, .i 0, .nils, .i 0, .i 0, .nils, .nils, .nils]), (5, [.i 0, .i 0]), (6, (c_Fault v2))], [], [], []⟩ : S) ?_ ?_
   ·have hF := hv
    refine Nif hF (fun hb hF => ?_) (fun hb hF => ?_)
    ·obtain ⟨x4, h3, hF⟩ := lt_split hF
     refine VR [.callB (.agg (c_Fault x4))] [1, 2, 4, 5, 6] [2, 4, 5, 6] [] [] [] [(6, (c_Fault x4))] [] [] (hc (R_F_ok 2 0 x4 h3) .nil) ?_
     cases hF
     exact met [] (by kernel_rfl)
    ·cases hF
     exact met [] (by kernel_rfl)
   ·refine NR [] [1, 2, 4, 5, 6, 40] [2, 4, 5, 6] [] [(40, .bool (!decide (v2.Code = 0)))] .nil ?_
    refine Nif hF (fun hb hF => ?_) (fun hb hF => ?_)
    ·refine VD [] [4, 5] [4, 5] [] [] [] [(5, (c_Fault v2))] [] [] .nil ?_
     cases hF
     exact Wk_ret (hfin _ ⟨[], [], [], [], [], [], by kernel_rfl⟩)
    ·obtain ⟨x5, h4, hF⟩ := ob_elim hF
     refine VR [.callE [] [] [] [] (.agg [.i x5.1, .i x5.2.1, .i x5.2.2.1, .i x5.2.2.2.1, .row 44 1, .i x5.2.2.2.2.2.1, .i x5.2.2.2.2.2.2.1, .row 20044 1, .row 40044 1, .row 60044 1]) ⟨[], [], [(44, .z 31 2 1 (x5.2.2.2.2.1.map e_Entry)), (20044, .z 3 1 1 (x5.2.2.2.2.2.2.2.1.map e_i64)), (40044, .z 3 1 1 (x5.2.2.2.2.2.2.2.2.1.map e_i64)), (60044, .z 3 1 1 (x5.2.2.2.2.2.2.2.2.2.map e_i64))], [], []⟩] [1, 2, 4, 5, 6, 7] [2, 4, 5, 6, 7] [44, 20044, 40044, 60044] [] [(7, .ptr 7 0)] [(7, [.i x5.1, .i x5.2.1, .i x5.2.2.1, .i x5.2.2.2.1, .row 44 1, .i x5.2.2.2.2.2.1, .i x5.2.2.2.2.2.2.1, .row 20044 1, .row 40044 1, .row 60044 1])] [(44, .z 31 2 1 (x5.2.2.2.2.1.map e_Entry)), (20044, .z 3 1 1 (x5.2.2.2.2.2.2.2.1.map e_i64)), (40044, .z 3 1 1 (x5.2.2.2.2.2.2.2.2.1.map e_i64)), (60044, .z 3 1 1 (x5.2.2.2.2.2.2.2.2.2.map e_i64))] [] (hc (Pe.ren (R_CopyNode_ok x x5 h4) ⟨[], [(5, 44), (9, 20044), (13, 40044), (17, 60044)], [], []⟩) .nil) ?_
     obtain ⟨h5, hF⟩ := asrt_elim hF
     refine VR [.sealed, .xs ((x5.2.2.2.2.1 ++ [(⟨x.Term, text⟩ : Entry)]).map e_Entry)] [2, 4, 5, 6, 7] [2, 4, 5, 6, 7] [44, 20044, 40044, 60044] [] [] [(7, [.i x5.1, .i x5.2.1, .i x5.2.2.1, .i x5.2.2.2.1, .row 44 2, .i x5.2.2.2.2.2.1, .i x5.2.2.2.2.2.2.1, .row 20044 1, .row 40044 1, .row 60044 1])] [(44, ⟨31, 2, 2, 0, 0, true, 0, [], ((x5.2.2.2.2.1 ++ [(⟨x.Term, text⟩ : Entry)]).map e_Entry)⟩)] [] (hc (app_ok e_Entry x5.2.2.2.2.1 [(⟨x.Term, text⟩ : Entry)]) (hc (appl_ok e_Entry h5) .nil)) ?_
     obtain ⟨h6, h7, hF⟩ := asrt2 hF
     refine NRL ((lset x5.2.2.2.2.2.2.2.2.2 x.ID ((x5.2.2.2.2.1 ++ [(⟨x.Term, text⟩ : Entry)]).length : Int))) (fun v3 : List Int => ([], [], [(60044, .z 3 1 1 (v3.map e_i64))], [])) [.nat ((x5.2.2.2.2.1 ++ [(⟨x.Term, text⟩ : Entry)]).length : Int), .av (e_i64 (lget x5.2.2.2.2.2.2.2.2.2 x.ID)), .xs ((lset x5.2.2.2.2.2.2.2.2.2 x.ID ((x5.2.2.2.2.1 ++ [(⟨x.Term, text⟩ : Entry)]).length : Int)).map e_i64)] [2, 4, 5, 6, 7] [2, 4, 5, 6, 7] [44, 20044, 40044, 60044] [] (hc (len_ok e_Entry (x5.2.2.2.2.1 ++ [(⟨x.Term, text⟩ : Entry)])) (hc (ixr_ok e_i64 h6) (hc (ldr_ok e_i64 h7) (hc (set_ok e_i64 x5.2.2.2.2.2.2.2.2.2 x.ID ((x5.2.2.2.2.1 ++ [(⟨x.Term, text⟩ : Entry)]).length : Int)) (hc (Nat.zero_le x.ID.toNat) .nil))))) (fun v3 hv => ?_)
     have hF := lt_elim hF hv
     obtain ⟨h8, h9, hF⟩ := asrt2 hF
     refine NRL ((lset x5.2.2.2.2.2.2.2.2.1 x.ID (w64 (((x5.2.2.2.2.1 ++ [(⟨x.Term, text⟩ : Entry)]).length : Int) + 1)))) (fun v4 : List Int => ([], [], [(40044, .z 3 1 1 (v4.map e_i64))], [])) [.nat ((x5.2.2.2.2.1 ++ [(⟨x.Term, text⟩ : Entry)]).length : Int), .av (e_i64 (lget x5.2.2.2.2.2.2.2.2.1 x.ID)), .xs ((lset x5.2.2.2.2.2.2.2.2.1 x.ID (w64 (((x5.2.2.2.2.1 ++ [(⟨x.Term, text⟩ : Entry)]).length : Int) + 1))).map e_i64)] [4, 5, 6, 7] [4, 5, 6, 7] [44, 20044, 40044, 60044] [] (hc (len_ok e_Entry (x5.2.2.2.2.1 ++ [(⟨x.Term, text⟩ : Entry)])) (hc (ixr_ok e_i64 h8) (hc (ldr_ok e_i64 h9) (hc (set_ok e_i64 x5.2.2.2.2.2.2.2.2.1 x.ID (w64 (((x5.2.2.2.2.1 ++ [(⟨x.Term, text⟩ : Entry)]).length : Int) + 1))) (hc (Nat.zero_le x.ID.toNat) .nil))))) (fun v4 hv => ?_)
     have hF := lt_elim hF hv
     obtain ⟨x6, h10, hF⟩ := ob_elim hF
     refine VD [.call (.agg (c_Node x6))] [4, 5] [4, 5] [] [] [] [(4, (c_Node x6)), (5, (c_Fault v2))] [] [] (hc (R_Counted_ok (⟨x5.1, x5.2.1, x5.2.2.1, x5.2.2.2.1, (x5.2.2.2.2.1 ++ [(⟨x.Term, text⟩ : Entry)]), x5.2.2.2.2.2.1, x5.2.2.2.2.2.2.1, x5.2.2.2.2.2.2.2.1, v4, v3⟩ : Node) x6 h10) .nil) ?_
     cases hF
     exact Wk_ret (hfin _ ⟨[], [], [], [], [], [], by kernel_rfl⟩)

/- tabularyref.Beats -/
noncomputable def R_Beats_J1 (v : List Mail) : Option (List Mail) :=
 some v
noncomputable def R_Beats_B1 (x : Node) (v1 : List Mail × Int) : Option ((List Mail × Int) ⊕ (List Mail)) :=
 if (decide (v1.2 < x.N)) = true then
  ob (
   if (decide (v1.2 = x.ID)) = true then
    some v1.1
   else
    asrt (0 ≤ v1.2 ∧ v1.2 < (x.Next.length : Int)) <|
    ob (
     if (decide ((x.Log.length : Int) < (w64 ((w64 ((lget x.Next v1.2) - 1)) + 5)))) = true then
      some (x.Log.length : Int)
     else
      some (w64 ((w64 ((lget x.Next v1.2) - 1)) + 5))) fun (v3 : Int) =>
    asrt (0 ≤ w64 ((lget x.Next v1.2) - 1) ∧ w64 ((lget x.Next v1.2) - 1) ≤ (x.Log.length : Int)) <|
    ob (R_LastTerm (ltake x.Log (w64 ((lget x.Next v1.2) - 1)))) fun x1 =>
    asrt (0 ≤ w64 ((lget x.Next v1.2) - 1) ∧ w64 ((lget x.Next v1.2) - 1) ≤ v3 ∧ v3 ≤ (x.Log.length : Int)) <|
    ob (R_CopyLog (ldrop (ltake x.Log v3) (w64 ((lget x.Next v1.2) - 1)))) fun x2 =>
    asrt (((v1.1 ++ [(⟨3, x.ID, v1.2, x.Term, w64 ((lget x.Next v1.2) - 1), x1, x.Commit, x2, false⟩ : Mail)]).length : Int) * 88 ≤ 140737488351232) <|
    lt ((v1.1 ++ [(⟨3, x.ID, v1.2, x.Term, w64 ((lget x.Next v1.2) - 1), x1, x.Commit, x2, false⟩ : Mail)])) fun (v4 : List Mail) =>
    some v4) fun (v2 : List Mail) =>
  some (Sum.inl (v2, w64 (v1.2 + 1)))
 else
  inrO (R_Beats_J1 v1.1)
noncomputable def R_Beats_L1 (x : Node) (v0 : List Mail × Int) : Option (List Mail) :=
 loopO (fun y => R_Beats_B1 x y) v0
noncomputable def R_Beats (x : Node) : Option (List Mail) :=
 R_Beats_L1 x (([] : List Mail), 0)
theorem R_Beats_ok (x : Node) (r : List Mail) (hF : R_Beats x = some r) : Pe Try.prog 77 S.none [.agg (c_Node x)] (.row 55 0) ⟨[], [], [(55, .z 62 9 0 (r.map e_Mail))], [], []⟩ := by
 refine PeN 57 [.tmp 2] [50] Ty.ok Fn.b77 Try.func77 ?_
 intro Q g hfin
 unfold R_Beats at hF
 refine VR [] [1] [1] [] [] [(1, .ptr 1 0)] [(1, (c_Node x))] [] [] .nil ?_
 refine NR [] [1, 3] [1] [] [(3, .nils)] .nil ?_
 refine NR [] [1, 3, 4] [1] [] [(4, .i 0)] .nil ?_
 refine NmeetP (fun v : List Mail => (⟨[(3, .row 55 0)], [], [(55, .z 62 9 0 (v.map e_Mail))], [], []⟩ : S)) (fun v => R_Beats_J1 v = some r) ?_ ?_
 ·refine Nblk ?_
  unfold R_Beats_L1 at hF
  refine Wk_nilrow 3 60000 62 9 rfl rfl rfl ?_
  refine Wk_trim (fs := [1, 3, 4]) (bs := [1]) (rs := [60000]) (ms := []) (aa := []) (nv := []) rfl ?_
  refine Wk_ren' ⟨[], [(60000, 55)], [], []⟩ rfl ?_
  refine Niter (fun v1 : List Mail × Int => (⟨[(1, .ptr 1 0), (3, .row 55 0), (4, .i v1.2)], [(1, (c_Node x))], [(55, .z 62 9 0 (v1.1.map e_Mail))], [], []⟩ : S)) [] hF (by kernel_rfl) ?_
  intro n1 v1 y1 hF ih1 dn1
  unfold R_Beats_B1 at hF
  refine NR [] [1, 3, 4, 10] [1] [55] [(10, .bool (decide (v1.2 < x.N)))] .nil ?_
  refine Nif hF (fun hb hF => ?_) (fun hb hF => ?_)
  ·obtain ⟨v2, hv, hF⟩ := ob_elim hF
   refine Nmeet (⟨[(1, .ptr 1 0), (3, .row 55 0), (4, .i v1.2)], [(1, (c_Node x))], [(55, .z 62 9 0 (v2.map e_Mail))], [], []⟩ : S) ?_ ?_
   ·have hF := hv
    refine Nblk ?_
    refine NR [] [1, 3, 4, 16] [1] [55] [(16, .bool (decide (v1.2 = x.ID)))] .nil ?_
    refine Nif hF (fun hb hF => ?_) (fun hb hF => ?_)
    ·refine Nexit rfl ?_
     cases hF
     exact met [] (by kernel_rfl)
    ·obtain ⟨h0, hF⟩ := asrt_elim hF
     refine NR [.av (e_i64 (lget x.Next v1.2))] [1, 3, 4, 5] [1] [55] [(5, .i (w64 ((lget x.Next v1.2) - 1)))] (hc (idx_ok e_i64 h0) .nil) ?_
     refine NR [] [1, 3, 4, 5, 6] [1] [55] [(6, .i (w64 ((w64 ((lget x.Next v1.2) - 1)) + 5)))] .nil ?_
     refine NR [.nat (x.Log.length : Int)] [1, 3, 4, 5, 6, 29] [1] [55] [(29, .bool (decide ((x.Log.length : Int) < (w64 ((w64 ((lget x.Next v1.2) - 1)) + 5)))))] (hc (len_ok e_Entry x.Log) .nil) ?_
     obtain ⟨v3, hv, hF⟩ := ob_elim hF
     refine Nmeet (⟨[(1, .ptr 1 0), (3, .row 55 0), (4, .i v1.2), (5, .i (w64 ((lget x.Next v1.2) - 1))), (6, .i v3)], [(1, (c_Node x))], [(55, .z 62 9 0 (v1.1.map e_Mail))], [], []⟩ : S) ?_ ?_
     ·have hF := hv
      refine Nif hF (fun hb hF => ?_) (fun hb hF => ?_)
      ·refine NR [.nat (x.Log.length : Int)] [1, 3, 4, 5, 6] [1] [55] [(6, .i (x.Log.length : Int))] (hc (len_ok e_Entry x.Log) .nil) ?_
       cases hF
       exact met [] (by kernel_rfl)
      ·cases hF
       exact met [] (by kernel_rfl)
     ·obtain ⟨h1, hF⟩ := asrt_elim hF
      obtain ⟨x1, h2, hF⟩ := ob_elim hF
      obtain ⟨h3, hF⟩ := asrt_elim hF
      obtain ⟨x2, h4, hF⟩ := ob_elim hF
      obtain ⟨h5, hF⟩ := asrt_elim hF
      refine NDL ((v1.1 ++ [(⟨3, x.ID, v1.2, x.Term, w64 ((lget x.Next v1.2) - 1), x1, x.Commit, x2, false⟩ : Mail)])) (fun v4 : List Mail => ([(3, .row 55 1)], [], [(55, .z 62 9 1 (v4.map e_Mail))], [])) [.xs ((ltake x.Log (w64 ((lget x.Next v1.2) - 1))).map e_Entry), .callB (.i x1), .xs ((ldrop (ltake x.Log v3) (w64 ((lget x.Next v1.2) - 1))).map e_Entry), .callE [] [] [] [] (.row 52 1) ⟨[], [], [(52, .z 31 2 1 (x2.map e_Entry))], [], []⟩, .sealed, .xs ((v1.1 ++ [(⟨3, x.ID, v1.2, x.Term, w64 ((lget x.Next v1.2) - 1), x1, x.Commit, x2, false⟩ : Mail)]).map e_Mail)] [1, 3, 4] [1] [55] [] (hc (sl01_ok e_Entry h1) (hc (R_LastTerm_ok (ltake x.Log (w64 ((lget x.Next v1.2) - 1))) x1 h2) (hc (sl11_ok e_Entry h3) (hc (Pe.ren (R_CopyLog_ok (ldrop (ltake x.Log v3) (w64 ((lget x.Next v1.2) - 1))) x2 h4) ⟨[], [(4, 52)], [], []⟩) (hc (app_ok e_Mail v1.1 [(⟨3, x.ID, v1.2, x.Term, w64 ((lget x.Next v1.2) - 1), x1, x.Commit, x2, false⟩ : Mail)]) (hc (appl_ok e_Mail h5) .nil)))))) (fun v4 hv => ?_)
      have hF := lt_elim hF hv
      cases hF
      exact met [(55, ⟨0, true, true, false⟩)] (by kernel_rfl)
   ·refine NR [] [1, 3, 4] [1] [55] [(4, .i (w64 (v1.2 + 1)))] .nil ?_
    exact Nrnd [] hF ih1 (by kernel_rfl)
  ·refine Nexit rfl ?_
   have hF := inrO_done hF dn1
   exact metP v1.1 [] hF (by kernel_rfl)
 ·intro v hF
  have hF : R_Beats_J1 v = some r := hF
  unfold R_Beats_J1 at hF
  refine NR [] [2] [] [55] [(2, .row 55 0)] .nil ?_
  cases hF
  exact Wk_ret (hfin _ ⟨[55], [], [55], [], [], [], by kernel_rfl⟩)

/- tabularyref.BeatNode -/
noncomputable def R_BeatNode (x : Node) : Option (List Mail × Fault) :=
 ob (R_NodeFault x) fun x1 =>
 ob (
  if ((decide (x1.Code = 0)) && (!decide (x.Role = 2))) = true then
   lt (R_F 11 0) fun x2 =>
   some x2
  else
   some x1) fun (v : Fault) =>
 if (!decide (v.Code = 0)) = true then
  some (([] : List Mail), v)
 else
  ob (R_Beats x) fun x3 =>
  some (x3, v)
theorem R_BeatNode_ok (x : Node) (r : List Mail × Fault) (hF : R_BeatNode x = some r) : Pe Try.prog 39 S.none [.agg (c_Node x)] (.tup [.row 21 0, .agg (c_Fault r.2)]) ⟨[], [], [(21, .z 62 9 0 (r.1.map e_Mail))], [], []⟩ := by
 refine PeN 23 [.tmp 2, .cell 3 26] [50, 26] Ty.ok Fn.b39 Try.func39 ?_
 intro Q g hfin
 unfold R_BeatNode at hF
 refine VR [] [1, 3] [1, 3] [] [] [(1, .ptr 1 0), (3, .ptr 3 0)] [(1, (c_Node x)), (3, [.i 0, .i 0])] [] [] .nil ?_
 obtain ⟨x1, h0, hF⟩ := ob_elim hF
 refine VR [.callB (.agg (c_Fault x1))] [1, 3, 4] [1, 3, 4] [] [] [(4, .ptr 4 0)] [(4, (c_Fault x1))] [] [] (hc (R_NodeFault_ok x x1 h0) .nil) ?_
 refine NR [] [1, 3, 4, 14] [1, 3, 4] [] [(14, .bool ((decide (x1.Code = 0)) && (!decide (x.Role = 2))))] .nil ?_
 obtain ⟨v, hv, hF⟩ := ob_elim hF
 refine Nmeet (⟨[(1, .ptr 1 0), (3, .ptr 3 0), (4, .ptr 4 0)], [(1, (c_Node x)), (3, [.i 0, .i 0]), (4, (c_Fault v))], [], [], []⟩ : S) ?_ ?_
 ·have hF := hv
  refine Nif hF (fun hb hF => ?_) (fun hb hF => ?_)
  ·obtain ⟨x2, h1, hF⟩ := lt_split hF
   refine VR [.callB (.agg (c_Fault x2))] [1, 3, 4] [1, 3, 4] [] [] [] [(4, (c_Fault x2))] [] [] (hc (R_F_ok 11 0 x2 h1) .nil) ?_
   cases hF
   exact met [] (by kernel_rfl)
  ·cases hF
   exact met [] (by kernel_rfl)
 ·refine NR [] [1, 3, 4, 18] [1, 3, 4] [] [(18, .bool (!decide (v.Code = 0)))] .nil ?_
  refine Nif hF (fun hb hF => ?_) (fun hb hF => ?_)
  ·refine VD [] [2, 3] [3] [] [] [(2, .nils)] [(3, (c_Fault v))] [] [] .nil ?_
   cases hF
   refine Wk_nilrow 2 60000 62 9 rfl rfl rfl ?_
   refine Wk_ren' ⟨[], [(60000, 21)], [], []⟩ rfl ?_
   exact Wk_ret (hfin _ ⟨[21], [], [21], [], [], [], by kernel_rfl⟩)
  ·obtain ⟨x3, h2, hF⟩ := ob_elim hF
   refine VD [.callE [] [] [] [] (.row 21 0) ⟨[], [], [(21, .z 62 9 0 (x3.map e_Mail))], [], []⟩] [2, 3] [3] [21] [] [(2, .row 21 0)] [(3, (c_Fault v))] [(21, .z 62 9 0 (x3.map e_Mail))] [] (hc (Pe.ren (R_Beats_ok x x3 h2) ⟨[], [(55, 21)], [], []⟩) .nil) ?_
   cases hF
   exact Wk_ret (hfin _ ⟨[21], [], [21], [], [], [], by kernel_rfl⟩)

/- tabularyref.Without -/
noncomputable def R_Without_J1 (v : List Mail) : Option (List Mail) :=
 some v
noncomputable def R_Without_B1 (l : List Mail) (num : Int) (v1 : List Mail × Int) : Option ((List Mail × Int) ⊕ (List Mail)) :=
 if (decide (v1.2 < (l.length : Int))) = true then
  ob (
   if (!decide (v1.2 = num)) = true then
    asrt (0 ≤ v1.2 ∧ v1.2 < (l.length : Int)) <|
    asrt (((v1.1 ++ [(⟨(lget l v1.2).Kind, (lget l v1.2).From, (lget l v1.2).To, (lget l v1.2).Term, (lget l v1.2).A, (lget l v1.2).B, (lget l v1.2).C0, (lget l v1.2).Entries, (lget l v1.2).Ok⟩ : Mail)]).length : Int) * 88 ≤ 140737488351232) <|
    lt ((v1.1 ++ [(⟨(lget l v1.2).Kind, (lget l v1.2).From, (lget l v1.2).To, (lget l v1.2).Term, (lget l v1.2).A, (lget l v1.2).B, (lget l v1.2).C0, (lget l v1.2).Entries, (lget l v1.2).Ok⟩ : Mail)])) fun (v3 : List Mail) =>
    some v3
   else
    some v1.1) fun (v2 : List Mail) =>
  some (Sum.inl (v2, w64 (v1.2 + 1)))
 else
  inrO (R_Without_J1 v1.1)
noncomputable def R_Without_L1 (l : List Mail) (num : Int) (v0 : List Mail × Int) : Option (List Mail) :=
 loopO (fun y => R_Without_B1 l num y) v0
noncomputable def R_Without (l : List Mail) (num : Int) : Option (List Mail) :=
 R_Without_L1 l num (([] : List Mail), 0)
theorem R_Without_ok (l : List Mail) (num : Int) (r : List Mail) (hF : R_Without l num = some r) : Pe Try.prog 102 S.none [.sl 9 (l.map e_Mail), .i num] (.row 22 0) ⟨[], [], [(22, .z 62 9 0 (r.map e_Mail))], [], []⟩ := by
 refine PeN 24 [.tmp 4] [50] Ty.ok Fn.b102 Try.func102 ?_
 intro Q g hfin
 unfold R_Without at hF
 refine NR [] [0, 1] [] [] [] .nil ?_
 refine NR [] [0, 1, 5] [] [] [(5, .nils)] .nil ?_
 refine NR [] [0, 1, 5, 6] [] [] [(6, .i 0)] .nil ?_
 refine NmeetP (fun v : List Mail => (⟨[(5, .row 22 0)], [], [(22, .z 62 9 0 (v.map e_Mail))], [], []⟩ : S)) (fun v => R_Without_J1 v = some r) ?_ ?_
 ·refine Nblk ?_
  unfold R_Without_L1 at hF
  refine Wk_nilrow 5 60000 62 9 rfl rfl rfl ?_
  refine Wk_trim (fs := [0, 1, 5, 6]) (bs := []) (rs := [60000]) (ms := []) (aa := []) (nv := []) rfl ?_
  refine Wk_ren' ⟨[], [(60000, 22)], [], []⟩ rfl ?_
  refine Niter (fun v1 : List Mail × Int => (⟨[(0, .sl 9 (l.map e_Mail)), (1, .i num), (5, .row 22 0), (6, .i v1.2)], [], [(22, .z 62 9 0 (v1.1.map e_Mail))], [], []⟩ : S)) [] hF (by kernel_rfl) ?_
  intro n1 v1 y1 hF ih1 dn1
  unfold R_Without_B1 at hF
  refine NR [.nat (l.length : Int)] [0, 1, 5, 6, 10] [] [22] [(10, .bool (decide (v1.2 < (l.length : Int))))] (hc (len_ok e_Mail l) .nil) ?_
  refine Nif hF (fun hb hF => ?_) (fun hb hF => ?_)
  ·refine Nblk ?_
   refine NR [] [0, 1, 5, 6, 15] [] [22] [(15, .bool (!decide (v1.2 = num)))] .nil ?_
   obtain ⟨v2, hv, hF⟩ := ob_elim hF
   refine Nmeet (⟨[(0, .sl 9 (l.map e_Mail)), (1, .i num), (5, .row 22 0), (6, .i v1.2)], [], [(22, .z 62 9 0 (v2.map e_Mail))], [], []⟩ : S) ?_ ?_
   ·have hF := hv
    refine Nif hF (fun hb hF => ?_) (fun hb hF => ?_)
    ·obtain ⟨h0, hF⟩ := asrt_elim hF
     obtain ⟨h1, hF⟩ := asrt_elim hF
     refine NRL ((v1.1 ++ [(⟨(lget l v1.2).Kind, (lget l v1.2).From, (lget l v1.2).To, (lget l v1.2).Term, (lget l v1.2).A, (lget l v1.2).B, (lget l v1.2).C0, (lget l v1.2).Entries, (lget l v1.2).Ok⟩ : Mail)])) (fun v3 : List Mail => ([(5, .row 22 1)], [], [(22, .z 62 9 1 (v3.map e_Mail))], [])) [.av (e_Mail (lget l v1.2)), .sealed, .xs ((v1.1 ++ [(⟨(lget l v1.2).Kind, (lget l v1.2).From, (lget l v1.2).To, (lget l v1.2).Term, (lget l v1.2).A, (lget l v1.2).B, (lget l v1.2).C0, (lget l v1.2).Entries, (lget l v1.2).Ok⟩ : Mail)]).map e_Mail)] [0, 1, 5, 6] [] [22] [] (hc (idx_ok e_Mail h0) (hc (app_ok e_Mail v1.1 [(⟨(lget l v1.2).Kind, (lget l v1.2).From, (lget l v1.2).To, (lget l v1.2).Term, (lget l v1.2).A, (lget l v1.2).B, (lget l v1.2).C0, (lget l v1.2).Entries, (lget l v1.2).Ok⟩ : Mail)]) (hc (appl_ok e_Mail h1) .nil))) (fun v3 hv => ?_)
     have hF := lt_elim hF hv
     cases hF
     exact met [(22, ⟨0, true, true, false⟩)] (by kernel_rfl)
    ·cases hF
     exact met [] (by kernel_rfl)
   ·refine NR [] [0, 1, 5, 6] [] [22] [(6, .i (w64 (v1.2 + 1)))] .nil ?_
    exact Nrnd [] hF ih1 (by kernel_rfl)
  ·refine Nexit rfl ?_
   have hF := inrO_done hF dn1
   exact metP v1.1 [] hF (by kernel_rfl)
 ·intro v hF
  have hF : R_Without_J1 v = some r := hF
  unfold R_Without_J1 at hF
  refine NR [] [4] [] [22] [(4, .row 22 0)] .nil ?_
  cases hF
  exact Wk_ret (hfin _ ⟨[22], [], [22], [], [], [], by kernel_rfl⟩)

/- tabularyref.MailFine -/
noncomputable def R_MailFine (x : Node) (m : Mail) : Option Bool :=
 lt (R_Num m.Term) fun x1 =>
 lt (R_Num m.A) fun x2 =>
 lt (R_Num m.B) fun x3 =>
 lt (R_Num m.C0) fun x4 =>
 if (((((((((((decide (m.Kind < 1)) || (decide (4 < m.Kind))) || (!decide (m.To = x.ID))) || (decide (m.From = x.ID))) || (decide (m.From < 0))) || (decide (x.N ≤ m.From))) || (decide (m.Term < 1))) || (!x1)) || (!x2)) || (!x3)) || (!x4)) = true then
  some false
 else
  ob (if ((decide ((m.Entries.length : Int) ≤ 5)) && ((decide (m.Kind = 3)) || (decide ((m.Entries.length : Int) = 0)))) = true then (R_LogFault m.Entries) else some default) fun x5 =>
  ob (if (((decide ((m.Entries.length : Int) ≤ 5)) && ((decide (m.Kind = 3)) || (decide ((m.Entries.length : Int) = 0)))) && (decide (x5.Code = 0))) = true then (R_LastTerm m.Entries) else some default) fun x6 =>
  lt ((((decide ((m.Entries.length : Int) ≤ 5)) && ((decide (m.Kind = 3)) || (decide ((m.Entries.length : Int) = 0)))) && (decide (x5.Code = 0))) && (decide (x6 ≤ m.Term))) fun (v : Bool) =>
  some v
theorem R_MailFine_ok (x : Node) (m : Mail) (r : Bool) (hF : R_MailFine x m = some r) : Pe Try.prog 83 S.none [.agg (c_Node x), .agg (c_Mail m)] (.bool r) S.none := by
 refine PeN 98 [.tmp 4] [4] Ty.ok Fn.b83 Try.func83 ?_
 intro Q g hfin
 unfold R_MailFine at hF
 refine VR [] [2, 3] [2, 3] [] [] [(2, .ptr 2 0), (3, .ptr 3 0)] [(2, (c_Node x)), (3, (c_Mail m))] [] [] .nil ?_
 obtain ⟨x1, h0, hF⟩ := lt_split hF
 obtain ⟨x2, h1, hF⟩ := lt_split hF
 obtain ⟨x3, h2, hF⟩ := lt_split hF
 obtain ⟨x4, h3, hF⟩ := lt_split hF
 refine NR [.callB (.bool x1), .callB (.bool x2), .callB (.bool x3), .callB (.bool x4)] [3, 67] [3] [] [(67, .bool (((((((((((decide (m.Kind < 1)) || (decide (4 < m.Kind))) || (!decide (m.To = x.ID))) || (decide (m.From = x.ID))) || (decide (m.From < 0))) || (decide (x.N ≤ m.From))) || (decide (m.Term < 1))) || (!x1)) || (!x2)) || (!x3)) || (!x4)))] (hc (fun (ga0 : (!(((((((decide (m.Kind < 1)) || (decide (4 < m.Kind))) || (!decide (m.To = x.ID))) || (decide (m.From = x.ID))) || (decide (m.From < 0))) || (decide (x.N ≤ m.From))) || (decide (m.Term < 1)))) = true) => (R_Num_ok m.Term x1 h0)) (hc (fun (ga0 : (!((((((((decide (m.Kind < 1)) || (decide (4 < m.Kind))) || (!decide (m.To = x.ID))) || (decide (m.From = x.ID))) || (decide (m.From < 0))) || (decide (x.N ≤ m.From))) || (decide (m.Term < 1))) || (!x1))) = true) => (R_Num_ok m.A x2 h1)) (hc (fun (ga0 : (!(((((((((decide (m.Kind < 1)) || (decide (4 < m.Kind))) || (!decide (m.To = x.ID))) || (decide (m.From = x.ID))) || (decide (m.From < 0))) || (decide (x.N ≤ m.From))) || (decide (m.Term < 1))) || (!x1)) || (!x2))) = true) => (R_Num_ok m.B x3 h2)) (hc (fun (ga0 : (!((((((((((decide (m.Kind < 1)) || (decide (4 < m.Kind))) || (!decide (m.To = x.ID))) || (decide (m.From = x.ID))) || (decide (m.From < 0))) || (decide (x.N ≤ m.From))) || (decide (m.Term < 1))) || (!x1)) || (!x2)) || (!x3))) = true) => (R_Num_ok m.C0 x4 h3)) .nil)))) ?_
 refine Nif hF (fun hb hF => ?_) (fun hb hF => ?_)
 ·refine NR [] [4] [] [] [(4, .bool false)] .nil ?_
  cases hF
  exact Wk_ret (hfin _ ⟨[], [], [], [], [], [], by kernel_rfl⟩)
 ·obtain ⟨x5, h4, hF⟩ := ob_elim hF
  obtain ⟨x6, h5, hF⟩ := ob_elim hF
  refine NDL ((((decide ((m.Entries.length : Int) ≤ 5)) && ((decide (m.Kind = 3)) || (decide ((m.Entries.length : Int) = 0)))) && (decide (x5.Code = 0))) && (decide (x6 ≤ m.Term))) (fun v : Bool => ([(4, .bool v)], [], [], [])) [.nat (m.Entries.length : Int), .nat (m.Entries.length : Int), .callB (.agg (c_Fault x5)), .callB (.i x6)] [4] [] [] [] (hc (len_ok e_Entry m.Entries) (hc (fun (_ : (!(decide (m.Kind = 3))) = true) (_ : (decide ((m.Entries.length : Int) ≤ 5)) = true) => (len_ok e_Entry m.Entries)) (hc (fun (ga0 : ((decide ((m.Entries.length : Int) ≤ 5)) && ((decide (m.Kind = 3)) || (decide ((m.Entries.length : Int) = 0)))) = true) => (R_LogFault_ok m.Entries x5 (ite_t h4 ga0))) (hc (fun (ga0 : (((decide ((m.Entries.length : Int) ≤ 5)) && ((decide (m.Kind = 3)) || (decide ((m.Entries.length : Int) = 0)))) && (decide (x5.Code = 0))) = true) => (R_LastTerm_ok m.Entries x6 (ite_t h5 ga0))) .nil)))) (fun v hv => ?_)
  have hF := lt_elim hF hv
  cases hF
  exact Wk_ret (hfin _ ⟨[], [], [], [], [], [], by kernel_rfl⟩)

/- tabularyref.OlderLog -/
noncomputable def R_OlderLog (l : List Entry) (num : Int) (term : Int) : Option Bool :=
 ob (R_LastTerm l) fun x =>
 if (!decide (x = term)) = true then
  ob (R_LastTerm l) fun x1 =>
  some (decide (x1 < term))
 else
  some (decide ((l.length : Int) < num))
theorem R_OlderLog_ok (l : List Entry) (num : Int) (term : Int) (r : Bool) (hF : R_OlderLog l num term = some r) : Pe Try.prog 24 S.none [.sl 2 (l.map e_Entry), .i num, .i term] (.bool r) S.none := by
 refine PeN 19 [.tmp 6] [4] Ty.ok Fn.b24 Try.func24 ?_
 intro Q g hfin
 unfold R_OlderLog at hF
 refine NR [] [0, 1, 2] [] [] [] .nil ?_
 obtain ⟨x, h0, hF⟩ := ob_elim hF
 refine NR [.callB (.i x)] [0, 1, 2, 10] [] [] [(10, .bool (!decide (x = term)))] (hc (R_LastTerm_ok l x h0) .nil) ?_
 refine Nif hF (fun hb hF => ?_) (fun hb hF => ?_)
 ·obtain ⟨x1, h1, hF⟩ := ob_elim hF
  refine NR [.callB (.i x1)] [6] [] [] [(6, .bool (decide (x1 < term)))] (hc (R_LastTerm_ok l x1 h1) .nil) ?_
  cases hF
  exact Wk_ret (hfin _ ⟨[], [], [], [], [], [], by kernel_rfl⟩)
 ·refine NR [.nat (l.length : Int)] [6] [] [] [(6, .bool (decide ((l.length : Int) < num)))] (hc (len_ok e_Entry l) .nil) ?_
  cases hF
  exact Wk_ret (hfin _ ⟨[], [], [], [], [], [], by kernel_rfl⟩)

/- tabularyref.LogsFault -/
noncomputable def R_LogsFault (a0 : List Entry) (b : List Entry) : Option Fault :=
 ob (R_LogFault a0) fun x =>
 ob (
  if (decide (x.Code = 0)) = true then
   ob (R_LogFault b) fun x1 =>
   if (!decide (x1.Code = 0)) = true then
    some (⟨x1.Code, w64 (x1.At - 1000)⟩ : Fault)
   else
    some x1
  else
   some x) fun (v : Fault) =>
 some v
theorem R_LogsFault_ok (a0 : List Entry) (b : List Entry) (r : Fault) (hF : R_LogsFault a0 b = some r) : Pe Try.prog 26 S.none [.sl 2 (a0.map e_Entry), .sl 2 (b.map e_Entry)] (.agg (c_Fault r)) S.none := by
 refine PeN 21 [.cell 4 26] [26] Ty.ok Fn.b26 Try.func26 ?_
 intro Q g hfin
 unfold R_LogsFault at hF
 refine VR [] [0, 1, 4] [4] [] [] [(4, .ptr 4 0)] [(4, [.i 0, .i 0])] [] [] .nil ?_
 obtain ⟨x, h0, hF⟩ := ob_elim hF
 refine VR [.callB (.agg (c_Fault x))] [1, 4, 5] [4, 5] [] [] [(5, .ptr 5 0)] [(5, (c_Fault x))] [] [] (hc (R_LogFault_ok a0 x h0) .nil) ?_
 refine NR [] [1, 4, 5, 10] [4, 5] [] [(10, .bool (decide (x.Code = 0)))] .nil ?_
 obtain ⟨v, hv, hF⟩ := ob_elim hF
 refine Nmeet (⟨[(4, .ptr 4 0), (5, .ptr 5 0)], [(4, [.i 0, .i 0]), (5, (c_Fault v))], [], [], []⟩ : S) ?_ ?_
 ·have hF := hv
  refine Nif hF (fun hb hF => ?_) (fun hb hF => ?_)
  ·obtain ⟨x1, h1, hF⟩ := ob_elim hF
   refine VR [.callB (.agg (c_Fault x1))] [4, 5] [4, 5] [] [] [] [(5, (c_Fault x1))] [] [] (hc (R_LogFault_ok b x1 h1) .nil) ?_
   refine NR [] [4, 5, 15] [4, 5] [] [(15, .bool (!decide (x1.Code = 0)))] .nil ?_
   refine Nif hF (fun hb hF => ?_) (fun hb hF => ?_)
   ·refine VR [] [4, 5] [4, 5] [] [] [] [(5, [.i x1.Code, .i (w64 (x1.At - 1000))])] [] [] .nil ?_
    cases hF
    exact met [] (by kernel_rfl)
   ·cases hF
    exact met [] (by kernel_rfl)
  ·cases hF
   exact met [] (by kernel_rfl)
 ·refine VR [] [4] [4] [] [] [] [(4, (c_Fault v))] [] [] .nil ?_
  cases hF
  exact Wk_ret (hfin _ ⟨[], [], [], [], [], [], by kernel_rfl⟩)

/- tabularyref.PlaceFault -/
noncomputable def R_PlaceFault (num : Int) (term : Int) : Fault :=
 lt (R_Num num) fun x =>
 if (!x) = true then
  lt (R_F 3 (-1)) fun x1 =>
  x1
 else
  lt (R_Num term) fun x2 =>
  if (!x2) = true then
   lt (R_F 3 (-2)) fun x3 =>
   x3
  else
   (⟨0, 0⟩ : Fault)
theorem R_PlaceFault_ok (num : Int) (term : Int) (r : Fault) (hF : R_PlaceFault num term = r) : Pe Try.prog 23 S.none [.i num, .i term] (.agg (c_Fault r)) S.none := by
 refine PeN 14 [.cell 4 26] [26] Ty.ok Fn.b23 Try.func23 ?_
 intro Q g hfin
 unfold R_PlaceFault at hF
 refine VR [] [0, 1, 4] [4] [] [] [(4, .ptr 4 0)] [(4, [.i 0, .i 0])] [] [] .nil ?_
 obtain ⟨x, h0, hF⟩ := lt_split hF
 refine NR [.callB (.bool x)] [1, 4, 7] [4] [] [(7, .bool (!x))] (hc (R_Num_ok num x h0) .nil) ?_
 refine Nif hF (fun hb hF => ?_) (fun hb hF => ?_)
 ·obtain ⟨x1, h1, hF⟩ := lt_split hF
  refine VR [.callB (.agg (c_Fault x1))] [4] [4] [] [] [] [(4, (c_Fault x1))] [] [] (hc (R_F_ok 3 (-1) x1 h1) .nil) ?_
  cases hF
  exact Wk_ret (hfin _ ⟨[], [], [], [], [], [], by kernel_rfl⟩)
 ·obtain ⟨x2, h2, hF⟩ := lt_split hF
  refine NR [.callB (.bool x2)] [4, 11] [4] [] [(11, .bool (!x2))] (hc (R_Num_ok term x2 h2) .nil) ?_
  refine Nif hF (fun hb hF => ?_) (fun hb hF => ?_)
  ·obtain ⟨x3, h3, hF⟩ := lt_split hF
   refine VR [.callB (.agg (c_Fault x3))] [4] [4] [] [] [] [(4, (c_Fault x3))] [] [] (hc (R_F_ok 3 (-2) x3 h3) .nil) ?_
   cases hF
   exact Wk_ret (hfin _ ⟨[], [], [], [], [], [], by kernel_rfl⟩)
  ·refine NR [] [4] [4] [] [] .nil ?_
   cases hF
   exact Wk_ret (hfin _ ⟨[], [], [], [], [], [], by kernel_rfl⟩)

/- tabularyref.PutLog -/
noncomputable def R_PutLog_J2 (v2 : List Entry) : Option (List Entry × Bool × Fault) :=
 ob (R_LogFault v2) fun x4 =>
 if (!decide (x4.Code = 0)) = true then
  lt (R_F x4.Code (-1)) fun x5 =>
  some (([] : List Entry), false, x5)
 else
  some (v2, true, x4)
noncomputable def R_PutLog_J3 (v3 : List Entry) : Option (List Entry × Bool × Fault) :=
 R_PutLog_J2 v3
noncomputable def R_PutLog_B1 (at0 : Int) (more : List Entry) (v4 : List Entry × Int) : Option ((List Entry × Int) ⊕ (List Entry × Bool × Fault)) :=
 if (decide (v4.2 < (more.length : Int))) = true then
  asrt (0 ≤ v4.2 ∧ v4.2 < (more.length : Int)) <|
  asrt (0 ≤ w64 (at0 + v4.2) ∧ w64 (at0 + v4.2) < (v4.1.length : Int)) <|
  asrt (0 ≤ w64 (at0 + v4.2) ∧ w64 (at0 + v4.2) < (v4.1.length : Int)) <|
  lt ((lset v4.1 (w64 (at0 + v4.2)) (⟨(lget more v4.2).Term, (lget more v4.2).Text⟩ : Entry))) fun (v5 : List Entry) =>
  some (Sum.inl (v5, w64 (v4.2 + 1)))
 else
  inrO (R_PutLog_J3 v4.1)
noncomputable def R_PutLog_L1 (at0 : Int) (more : List Entry) (v0 : List Entry × Int) : Option (List Entry × Bool × Fault) :=
 loopO (fun y => R_PutLog_B1 at0 more y) v0
noncomputable def R_PutLog_J1 (l : List Entry) (at0 : Int) (more : List Entry) (v1 : Int) : Option (List Entry × Bool × Fault) :=
 ob (R_CopyLog l) fun x3 =>
 if (decide (v1 < (more.length : Int))) = true then
  asrt (0 ≤ w64 (at0 + v1) ∧ w64 (at0 + v1) ≤ (l.length : Int)) <|
  ob (R_CopyLog (ltake l (w64 (at0 + v1)))) fun x6 =>
  asrt (0 ≤ v1 ∧ v1 ≤ (more.length : Int)) <|
  asrt (((x6 ++ (ldrop more v1)).length : Int) * 24 ≤ 140737488351232) <|
  R_PutLog_L1 at0 more ((x6 ++ (ldrop more v1)), v1)
 else
  R_PutLog_J2 x3
noncomputable def R_PutLog_B2 (l : List Entry) (at0 : Int) (more : List Entry) (v6 : Int) : Option (Int ⊕ (List Entry × Bool × Fault)) :=
 asrt (((decide (v6 < (more.length : Int))) && (decide ((w64 (at0 + v6)) < (l.length : Int)))) = true → 0 ≤ w64 (at0 + v6) ∧ w64 (at0 + v6) < (l.length : Int)) <|
 asrt (((decide (v6 < (more.length : Int))) && (decide ((w64 (at0 + v6)) < (l.length : Int)))) = true → 0 ≤ v6 ∧ v6 < (more.length : Int)) <|
 if (((decide (v6 < (more.length : Int))) && (decide ((w64 (at0 + v6)) < (l.length : Int)))) && (decide (((lget l (w64 (at0 + v6))).Term) = ((lget more v6).Term)))) = true then
  some (Sum.inl (w64 (v6 + 1)))
 else
  inrO (R_PutLog_J1 l at0 more v6)
noncomputable def R_PutLog_L2 (l : List Entry) (at0 : Int) (more : List Entry) (v0 : Int) : Option (List Entry × Bool × Fault) :=
 loopO (fun y => R_PutLog_B2 l at0 more y) v0
noncomputable def R_PutLog (l : List Entry) (at0 : Int) (term : Int) (more : List Entry) : Option (List Entry × Bool × Fault) :=
 ob (R_LogsFault l more) fun x =>
 ob (
  if (decide (x.Code = 0)) = true then
   lt (R_PlaceFault at0 term) fun x1 =>
   some x1
  else
   some x) fun (v : Fault) =>
 if (!decide (v.Code = 0)) = true then
  some (([] : List Entry), false, v)
 else
  asrt ((decide (0 < at0)) = true → (!((decide ((l.length : Int) < at0)) || ((decide (at0 = 0)) && (!decide (term = 0))))) = true → 0 ≤ w64 (at0 - 1) ∧ w64 (at0 - 1) < (l.length : Int)) <|
  if (((decide ((l.length : Int) < at0)) || ((decide (at0 = 0)) && (!decide (term = 0)))) || ((decide (0 < at0)) && (!decide (((lget l (w64 (at0 - 1))).Term) = term)))) = true then
   ob (R_CopyLog l) fun x2 =>
   some (x2, false, v)
  else
   R_PutLog_L2 l at0 more 0
theorem R_PutLog_ok (l : List Entry) (at0 : Int) (term : Int) (more : List Entry) (r : List Entry × Bool × Fault) (hF : R_PutLog l at0 term more = some r) : Pe Try.prog 25 S.none [.sl 2 (l.map e_Entry), .i at0, .i term, .sl 2 (more.map e_Entry)] (.tup [.row 55 0, .bool r.2.1, .agg (c_Fault r.2.2)]) ⟨[], [], [(55, .z 31 2 0 (r.1.map e_Entry))], [], []⟩ := by
 refine PeN 128 [.tmp 8, .tmp 9, .cell 10 26] [22, 4, 26] Ty.ok Fn.b25 Try.func25 ?_
 intro Q g hfin
 unfold R_PutLog at hF
 refine VR [] [0, 1, 2, 3, 10] [10] [] [] [(10, .ptr 10 0)] [(10, [.i 0, .i 0])] [] [] .nil ?_
 obtain ⟨x, h0, hF⟩ := ob_elim hF
 refine VR [.callB (.agg (c_Fault x))] [0, 1, 2, 3, 10, 11] [10, 11] [] [] [(11, .ptr 11 0)] [(11, (c_Fault x))] [] [] (hc (R_LogsFault_ok l more x h0) .nil) ?_
 refine NR [] [0, 1, 2, 3, 10, 11, 20] [10, 11] [] [(20, .bool (decide (x.Code = 0)))] .nil ?_
 obtain ⟨v, hv, hF⟩ := ob_elim hF
 refine Nmeet (⟨[(0, .sl 2 (l.map e_Entry)), (1, .i at0), (2, .i term), (3, .sl 2 (more.map e_Entry)), (10, .ptr 10 0), (11, .ptr 11 0)], [(10, [.i 0, .i 0]), (11, (c_Fault v))], [], [], []⟩ : S) ?_ ?_
 ·have hF := hv
  refine Nif hF (fun hb hF => ?_) (fun hb hF => ?_)
  ·obtain ⟨x1, h1, hF⟩ := lt_split hF
   refine VR [.callB (.agg (c_Fault x1))] [0, 1, 2, 3, 10, 11] [10, 11] [] [] [] [(11, (c_Fault x1))] [] [] (hc (R_PlaceFault_ok at0 term x1 h1) .nil) ?_
   cases hF
   exact met [] (by kernel_rfl)
  ·cases hF
   exact met [] (by kernel_rfl)
 ·refine NR [] [0, 1, 2, 3, 10, 11, 26] [10, 11] [] [(26, .bool (!decide (v.Code = 0)))] .nil ?_
  refine Nif hF (fun hb hF => ?_) (fun hb hF => ?_)
  ·refine VD [] [8, 9, 10] [10] [] [] [(8, .nils), (9, .bool false)] [(10, (c_Fault v))] [] [] .nil ?_
   cases hF
   refine Wk_nilrow 8 60000 31 2 rfl rfl rfl ?_
   refine Wk_ren' ⟨[], [(60000, 55)], [], []⟩ rfl ?_
   exact Wk_ret (hfin _ ⟨[55], [], [55], [], [], [], by kernel_rfl⟩)
  ·obtain ⟨h2, hF⟩ := asrt_elim hF
   refine NR [.nat (l.length : Int), .av (e_Entry (lget l (w64 (at0 - 1))))] [0, 1, 3, 10, 11, 53] [10, 11] [] [(53, .bool (((decide ((l.length : Int) < at0)) || ((decide (at0 = 0)) && (!decide (term = 0)))) || ((decide (0 < at0)) && (!decide (((lget l (w64 (at0 - 1))).Term) = term)))))] (hc (len_ok e_Entry l) (hc (fun (ga0 : (decide (0 < at0)) = true) (ga1 : (!((decide ((l.length : Int) < at0)) || ((decide (at0 = 0)) && (!decide (term = 0))))) = true) => (idx_ok e_Entry (h2 ga0 ga1))) .nil)) ?_
   refine Nif hF (fun hb hF => ?_) (fun hb hF => ?_)
   ·obtain ⟨x2, h3, hF⟩ := ob_elim hF
    refine VD [.callE [] [] [] [] (.row 55 1) ⟨[], [], [(55, .z 31 2 1 (x2.map e_Entry))], [], []⟩] [8, 9, 10] [10] [55] [] [(8, .row 55 1), (9, .bool false)] [(10, (c_Fault v))] [(55, .z 31 2 1 (x2.map e_Entry))] [] (hc (Pe.ren (R_CopyLog_ok l x2 h3) ⟨[], [(4, 55)], [], []⟩) .nil) ?_
    cases hF
    exact Wk_ret (hfin _ ⟨[55], [], [55], [], [], [(55, ⟨0, true, true, false⟩)], by kernel_rfl⟩)
   ·refine NR [] [0, 1, 3, 10, 11, 12] [10, 11] [] [(12, .i 0)] .nil ?_
    refine NmeetP (fun v1 : Int => (⟨[(0, .sl 2 (l.map e_Entry)), (1, .i at0), (3, .sl 2 (more.map e_Entry)), (10, .ptr 10 0), (11, .ptr 11 0), (12, .i v1)], [(10, [.i 0, .i 0]), (11, (c_Fault v))], [], [], []⟩ : S)) (fun v1 => R_PutLog_J1 l at0 more v1 = some r) ?_ ?_
    ·refine Nblk ?_
     unfold R_PutLog_L2 at hF
     refine Niter (fun v6 : Int => (⟨[(0, .sl 2 (l.map e_Entry)), (1, .i at0), (3, .sl 2 (more.map e_Entry)), (10, .ptr 10 0), (11, .ptr 11 0), (12, .i v6)], [(10, [.i 0, .i 0]), (11, (c_Fault v))], [], [], []⟩ : S)) [] hF (by kernel_rfl) ?_
     intro n1 v6 y1 hF ih1 dn1
     unfold R_PutLog_B2 at hF
     obtain ⟨h14, h15, hF⟩ := asrt2 hF
     refine ND [.nat (more.length : Int), .nat (l.length : Int), .av (e_Entry (lget l (w64 (at0 + v6)))), .av (e_Entry (lget more v6))] [0, 1, 3, 10, 11, 12, 83] [10, 11] [] [(83, .bool (((decide (v6 < (more.length : Int))) && (decide ((w64 (at0 + v6)) < (l.length : Int)))) && (decide (((lget l (w64 (at0 + v6))).Term) = ((lget more v6).Term)))))] (hc (len_ok e_Entry more) (hc (fun (_ : (decide (v6 < (more.length : Int))) = true) => (len_ok e_Entry l)) (hc (fun (ga0 : ((decide (v6 < (more.length : Int))) && (decide ((w64 (at0 + v6)) < (l.length : Int)))) = true) => (idx_ok e_Entry (h14 ga0))) (hc (fun (ga0 : ((decide (v6 < (more.length : Int))) && (decide ((w64 (at0 + v6)) < (l.length : Int)))) = true) => (idx_ok e_Entry (h15 ga0))) .nil)))) ?_
     refine Nif hF (fun hb hF => ?_) (fun hb hF => ?_)
     ·refine Nblk ?_
      refine NR [] [0, 1, 3, 10, 11, 12] [10, 11] [] [(12, .i (w64 (v6 + 1)))] .nil ?_
      exact Nrnd [] hF ih1 (by kernel_rfl)
     ·refine Nexit rfl ?_
      have hF := inrO_done hF dn1
      exact metP v6 [] hF (by kernel_rfl)
    ·intro v1 hF
     have hF : R_PutLog_J1 l at0 more v1 = some r := hF
     unfold R_PutLog_J1 at hF
     obtain ⟨x3, h4, hF⟩ := ob_elim hF
     refine VR [.callE [] [] [] [] (.row 87 1) ⟨[], [], [(87, .z 31 2 1 (x3.map e_Entry))], [], []⟩] [0, 1, 3, 10, 11, 12, 13] [10, 11] [87] [] [(13, .row 87 1)] [] [(87, .z 31 2 1 (x3.map e_Entry))] [] (hc (Pe.ren (R_CopyLog_ok l x3 h4) ⟨[], [(4, 87)], [], []⟩) .nil) ?_
     refine NR [.nat (more.length : Int)] [0, 1, 3, 10, 11, 12, 13, 91] [10, 11] [87] [(91, .bool (decide (v1 < (more.length : Int))))] (hc (len_ok e_Entry more) .nil) ?_
     refine NmeetP (fun v2 : List Entry => (⟨[(10, .ptr 10 0), (11, .ptr 11 0), (13, .row 97 0)], [(10, [.i 0, .i 0]), (11, (c_Fault v))], [(97, .z 31 2 0 (v2.map e_Entry))], [], []⟩ : S)) (fun v2 => R_PutLog_J2 v2 = some r) ?_ ?_
     ·refine Nif hF (fun hb hF => ?_) (fun hb hF => ?_)
      ·obtain ⟨h7, hF⟩ := asrt_elim hF
       obtain ⟨x6, h8, hF⟩ := ob_elim hF
       obtain ⟨h9, h10, hF⟩ := asrt2 hF
       refine VD [.xs ((ltake l (w64 (at0 + v1))).map e_Entry), .callE [] [] [] [] (.row 97 1) ⟨[], [], [(97, .z 31 2 1 (x6.map e_Entry))], [], []⟩, .xs ((ldrop more v1).map e_Entry), .xs ((x6 ++ (ldrop more v1)).map e_Entry)] [1, 3, 10, 11, 12, 13] [10, 11] [97] [] [(13, .row 97 2)] [] [(97, .z 31 2 2 ((x6 ++ (ldrop more v1)).map e_Entry))] [] (hc (sl01_ok e_Entry h7) (hc (Pe.ren (R_CopyLog_ok (ltake l (w64 (at0 + v1))) x6 h8) ⟨[], [(4, 97)], [], []⟩) (hc (sl10_ok e_Entry h9) (hc (app_ok e_Entry x6 (ldrop more v1)) (hc (appl_ok e_Entry h10) .nil))))) ?_
       refine NR [] [1, 3, 10, 11, 13, 14] [10, 11] [97] [(14, .i v1)] .nil ?_
       refine NmeetP (fun v3 : List Entry => (⟨[(10, .ptr 10 0), (11, .ptr 11 0), (13, .row 97 2)], [(10, [.i 0, .i 0]), (11, (c_Fault v))], [(97, .z 31 2 2 (v3.map e_Entry))], [], []⟩ : S)) (fun v3 => R_PutLog_J3 v3 = some r) ?_ ?_
       ·refine Nblk ?_
        unfold R_PutLog_L1 at hF
        refine Niter (fun v4 : List Entry × Int => (⟨[(1, .i at0), (3, .sl 2 (more.map e_Entry)), (10, .ptr 10 0), (11, .ptr 11 0), (13, .row 97 2), (14, .i v4.2)], [(10, [.i 0, .i 0]), (11, (c_Fault v))], [(97, .z 31 2 2 (v4.1.map e_Entry))], [], []⟩ : S)) [] hF (by kernel_rfl) ?_
        intro n1 v4 y1 hF ih1 dn1
        unfold R_PutLog_B1 at hF
        refine NR [.nat (more.length : Int)] [1, 3, 10, 11, 13, 14, 106] [10, 11] [97] [(106, .bool (decide (v4.2 < (more.length : Int))))] (hc (len_ok e_Entry more) .nil) ?_
        refine Nif hF (fun hb hF => ?_) (fun hb hF => ?_)
        ·refine Nblk ?_
         obtain ⟨h11, h12, hF⟩ := asrt2 hF
         obtain ⟨h13, hF⟩ := asrt_elim hF
         refine NRL ((lset v4.1 (w64 (at0 + v4.2)) (⟨(lget more v4.2).Term, (lget more v4.2).Text⟩ : Entry))) (fun v5 : List Entry => ([], [], [(97, .z 31 2 2 (v5.map e_Entry))], [])) [.av (e_Entry (lget more v4.2)), .av (e_Entry (lget v4.1 (w64 (at0 + v4.2)))), .xs ((lset v4.1 (w64 (at0 + v4.2)) (⟨(lget more v4.2).Term, (lget more v4.2).Text⟩ : Entry)).map e_Entry)] [1, 3, 10, 11, 13, 14] [10, 11] [97] [] (hc (idx_ok e_Entry h11) (hc (ixr_ok e_Entry h12) (hc (ldr_ok e_Entry h13) (hc (set_ok e_Entry v4.1 (w64 (at0 + v4.2)) (⟨(lget more v4.2).Term, (lget more v4.2).Text⟩ : Entry)) (hc (Nat.zero_le ((w64 (at0 + v4.2)).toNat)) .nil))))) (fun v5 hv => ?_)
         have hF := lt_elim hF hv
         refine NR [] [1, 3, 10, 11, 13, 14] [10, 11] [97] [(14, .i (w64 (v4.2 + 1)))] .nil ?_
         exact Nrnd [] hF ih1 (by kernel_rfl)
        ·refine Nexit rfl ?_
         have hF := inrO_done hF dn1
         exact metP v4.1 [] hF (by kernel_rfl)
       ·intro v3 hF
        have hF : R_PutLog_J3 v3 = some r := hF
        unfold R_PutLog_J3 at hF
        exact metP v3 [(97, ⟨0, true, true, false⟩)] hF (by kernel_rfl)
      ·refine Wk_trim (fs := [10, 11, 13]) (bs := [10, 11]) (rs := [87]) (ms := []) (aa := []) (nv := []) rfl ?_
       refine Wk_ren' ⟨[], [(87, 97)], [], []⟩ rfl ?_
       exact metP x3 [(97, ⟨0, true, true, false⟩)] hF (by kernel_rfl)
     ·intro v2 hF
      have hF : R_PutLog_J2 v2 = some r := hF
      unfold R_PutLog_J2 at hF
      obtain ⟨x4, h5, hF⟩ := ob_elim hF
      refine VR [.callB (.agg (c_Fault x4))] [10, 11, 13] [10, 11] [97] [] [] [(11, (c_Fault x4))] [] [] (hc (R_LogFault_ok v2 x4 h5) .nil) ?_
      refine NR [] [10, 11, 13, 122] [10, 11] [97] [(122, .bool (!decide (x4.Code = 0)))] .nil ?_
      refine Nif hF (fun hb hF => ?_) (fun hb hF => ?_)
      ·obtain ⟨x5, h6, hF⟩ := lt_split hF
       refine VR [.callB (.agg (c_Fault x5))] [8, 9, 10] [10] [] [] [(8, .nils), (9, .bool false)] [(10, (c_Fault x5))] [] [] (hc (R_F_ok x4.Code (-1) x5 h6) .nil) ?_
       cases hF
       refine Wk_nilrow 8 60001 31 2 rfl rfl rfl ?_
       refine Wk_ren' ⟨[], [(60001, 55)], [], []⟩ rfl ?_
       exact Wk_ret (hfin _ ⟨[55], [], [55], [], [], [], by kernel_rfl⟩)
      ·refine VD [] [8, 9, 10] [10] [97] [] [(8, .row 97 0), (9, .bool true)] [(10, (c_Fault x4))] [] [] .nil ?_
       cases hF
       refine Wk_ren' ⟨[], [(97, 55)], [], []⟩ rfl ?_
       exact Wk_ret (hfin _ ⟨[55], [], [55], [], [], [], by kernel_rfl⟩)

/- tabularyref.TakeNode -/
noncomputable def R_TakeNode_J1 (x : Node) (m : Mail) (v : Fault) (v1 : Int × Int × Int × Int × List Entry × Int × Int × List Int × List Int × List Int) (x12 : Int × Int × Int × Int × List Entry × Int × Int) (x13 : List Entry × Bool × Fault) (v8 : Unit) : Option (Int × Int × Int × Int × List Entry × Int × Int × List Int × List Int × List Int × List Mail × Fault) :=
 ob (
  if (decide ((w64 (m.A + (m.Entries.length : Int))) < m.C0)) = true then
   some (w64 (m.A + (m.Entries.length : Int)))
  else
   some m.C0) fun (v9 : Int) =>
 ob (
  if (decide (x12.2.2.2.2.2.2 < v9)) = true then
   some v9
  else
   some x12.2.2.2.2.2.2) fun (v10 : Int) =>
 lt ([(⟨4, x.ID, m.From, v1.2.2.1, w64 (m.A + (m.Entries.length : Int)), 0, 0, ([] : List Entry), true⟩ : Mail)]) fun (v11 : List Mail) =>
 some (x12.1, x12.2.1, x12.2.2.1, x12.2.2.2.1, x13.1, x12.2.2.2.2.2.1, v10, ([] : List Int), ([] : List Int), ([] : List Int), v11, v)
noncomputable def R_TakeNode_B1 (x : Node) (m : Mail) (v : Fault) (v1 : Int × Int × Int × Int × List Entry × Int × Int × List Int × List Int × List Int) (x12 : Int × Int × Int × Int × List Entry × Int × Int) (x13 : List Entry × Bool × Fault) (v12 : Int) : Option (Int ⊕ (Int × Int × Int × Int × List Entry × Int × Int × List Int × List Int × List Int × List Mail × Fault)) :=
 if (decide (v12 < x12.2.2.2.2.2.2)) = true then
  asrt ((!(decide ((x13.1.length : Int) ≤ v12))) = true → 0 ≤ v12 ∧ v12 < (x13.1.length : Int)) <|
  asrt ((!(decide ((x13.1.length : Int) ≤ v12))) = true → 0 ≤ v12 ∧ v12 < (x13.1.length : Int)) <|
  asrt ((!(decide ((x13.1.length : Int) ≤ v12))) = true → 0 ≤ v12 ∧ v12 < (x12.2.2.2.2.1.length : Int)) <|
  asrt ((!(decide ((x13.1.length : Int) ≤ v12))) = true → 0 ≤ v12 ∧ v12 < (x12.2.2.2.2.1.length : Int)) <|
  if ((decide ((x13.1.length : Int) ≤ v12)) || (!(decide ((lget x13.1 v12).Term = (lget x12.2.2.2.2.1 v12).Term) && (decide ((lget x13.1 v12).Text = (lget x12.2.2.2.2.1 v12).Text) && true)))) = true then
   some (Sum.inr (x12.1, x12.2.1, x12.2.2.1, x12.2.2.2.1, x12.2.2.2.2.1, x12.2.2.2.2.2.1, x12.2.2.2.2.2.2, ([] : List Int), ([] : List Int), ([] : List Int), ([] : List Mail), v))
  else
   some (Sum.inl (w64 (v12 + 1)))
 else
  inrO (R_TakeNode_J1 x m v v1 x12 x13 ())
noncomputable def R_TakeNode_L1 (x : Node) (m : Mail) (v : Fault) (v1 : Int × Int × Int × Int × List Entry × Int × Int × List Int × List Int × List Int) (x12 : Int × Int × Int × Int × List Entry × Int × Int) (x13 : List Entry × Bool × Fault) (v0 : Int) : Option (Int × Int × Int × Int × List Entry × Int × Int × List Int × List Int × List Int × List Mail × Fault) :=
 loopO (fun y => R_TakeNode_B1 x m v v1 x12 x13 y) v0
noncomputable def R_TakeNode (x : Node) (m : Mail) : Option (Int × Int × Int × Int × List Entry × Int × Int × List Int × List Int × List Int × List Mail × Fault) :=
 ob (R_NodeFault x) fun x1 =>
 ob (if (decide (x1.Code = 0)) = true then (R_MailFine x m) else some default) fun x2 =>
 ob (
  if ((decide (x1.Code = 0)) && (!x2)) = true then
   lt (R_F 5 0) fun x3 =>
   some x3
  else
   some x1) fun (v : Fault) =>
 if (!decide (v.Code = 0)) = true then
  some (0, 0, 0, 0, ([] : List Entry), 0, 0, ([] : List Int), ([] : List Int), ([] : List Int), ([] : List Mail), v)
 else
  ob (R_CopyNode x) fun x4 =>
  ob (
   if (decide (x.Term < m.Term)) = true then
    ob (R_Follower x) fun x5 =>
    some (x5.1, x5.2.1, m.Term, 0, x5.2.2.2.2.1, x5.2.2.2.2.2.1, x5.2.2.2.2.2.2, ([] : List Int), ([] : List Int), ([] : List Int))
   else
    some (x4.1, x4.2.1, x4.2.2.1, x4.2.2.2.1, x4.2.2.2.2.1, x4.2.2.2.2.2.1, x4.2.2.2.2.2.2.1, x4.2.2.2.2.2.2.2.1, x4.2.2.2.2.2.2.2.2.1, x4.2.2.2.2.2.2.2.2.2)) fun (v1 : Int × Int × Int × Int × List Entry × Int × Int × List Int × List Int × List Int) =>
  if (decide (m.Kind = 1)) = true then
   ob (R_OlderLog v1.2.2.2.2.1 m.A m.B) fun x6 =>
   ob (if (!(!decide (m.A = (v1.2.2.2.2.1.length : Int)))) = true then (if (!x6) = true then (R_LastTerm v1.2.2.2.2.1) else some default) else some default) fun x7 =>
   lt ((!x6) && ((!decide (m.A = (v1.2.2.2.2.1.length : Int))) || (!decide (m.B = x7)))) fun (v2 : Bool) =>
   ob (
    if (((decide (m.Term = v1.2.2.1)) && ((decide (v1.2.2.2.1 = 0)) || (decide ((w64 (v1.2.2.2.1 - 1)) = m.From)))) && (!v2)) = true then
     some (w64 (m.From + 1), (⟨2, x.ID, m.From, v1.2.2.1, 0, 0, 0, ([] : List Entry), true⟩ : Mail))
    else
     some (v1.2.2.2.1, (⟨2, x.ID, m.From, v1.2.2.1, 0, 0, 0, ([] : List Entry), false⟩ : Mail))) fun (v3 : Int × Mail) =>
   some (v1.1, v1.2.1, v1.2.2.1, v3.1, v1.2.2.2.2.1, v1.2.2.2.2.2.1, v1.2.2.2.2.2.2.1, v1.2.2.2.2.2.2.2.1, v1.2.2.2.2.2.2.2.2.1, v1.2.2.2.2.2.2.2.2.2, [v3.2], v)
  else
   if (decide (m.Kind = 2)) = true then
    if (((!decide (v1.2.2.2.2.2.1 = 1)) || (!decide (m.Term = v1.2.2.1))) || (!m.Ok)) = true then
     some (v1.1, v1.2.1, v1.2.2.1, v1.2.2.2.1, v1.2.2.2.2.1, v1.2.2.2.2.2.1, v1.2.2.2.2.2.2.1, v1.2.2.2.2.2.2.2.1, v1.2.2.2.2.2.2.2.2.1, v1.2.2.2.2.2.2.2.2.2, ([] : List Mail), v)
    else
     ob (R_Has v1.2.2.2.2.2.2.2.1 m.From) fun x8 =>
     ob (
      if (!x8) = true then
       asrt (((v1.2.2.2.2.2.2.2.1 ++ ([m.From] : List Int)).length : Int) * 8 ≤ 140737488351232) <|
       some (v1.2.2.2.2.2.2.2.1 ++ ([m.From] : List Int))
      else
       some v1.2.2.2.2.2.2.2.1) fun (v4 : List Int) =>
     lt (R_Majority (v4.length : Int) v1.1) fun x9 =>
     if x9 = true then
      ob (R_Leader (⟨v1.1, v1.2.1, v1.2.2.1, v1.2.2.2.1, v1.2.2.2.2.1, v1.2.2.2.2.2.1, v1.2.2.2.2.2.2.1, v4, v1.2.2.2.2.2.2.2.2.1, v1.2.2.2.2.2.2.2.2.2⟩ : Node)) fun x10 =>
      ob (R_Beats x10) fun x11 =>
      some (x10.N, x10.ID, x10.Term, x10.Vote, x10.Log, x10.Role, x10.Commit, x10.Votes, x10.Next, x10.Have, x11, v)
     else
      some (v1.1, v1.2.1, v1.2.2.1, v1.2.2.2.1, v1.2.2.2.2.1, v1.2.2.2.2.2.1, v1.2.2.2.2.2.2.1, v4, v1.2.2.2.2.2.2.2.2.1, v1.2.2.2.2.2.2.2.2.2, ([] : List Mail), v)
   else
    if (decide (m.Kind = 3)) = true then
     if (decide (m.Term < v1.2.2.1)) = true then
      lt ([(⟨4, x.ID, m.From, v1.2.2.1, 0, 0, 0, ([] : List Entry), false⟩ : Mail)]) fun (v5 : List Mail) =>
      some (v1.1, v1.2.1, v1.2.2.1, v1.2.2.2.1, v1.2.2.2.2.1, v1.2.2.2.2.2.1, v1.2.2.2.2.2.2.1, v1.2.2.2.2.2.2.2.1, v1.2.2.2.2.2.2.2.2.1, v1.2.2.2.2.2.2.2.2.2, v5, v)
     else
      if (decide (v1.2.2.2.2.2.1 = 2)) = true then
       some (v1.1, v1.2.1, v1.2.2.1, v1.2.2.2.1, v1.2.2.2.2.1, v1.2.2.2.2.2.1, v1.2.2.2.2.2.2.1, v1.2.2.2.2.2.2.2.1, v1.2.2.2.2.2.2.2.2.1, v1.2.2.2.2.2.2.2.2.2, ([] : List Mail), v)
      else
       ob (R_Follower (⟨v1.1, v1.2.1, v1.2.2.1, v1.2.2.2.1, v1.2.2.2.2.1, v1.2.2.2.2.2.1, v1.2.2.2.2.2.2.1, v1.2.2.2.2.2.2.2.1, v1.2.2.2.2.2.2.2.2.1, v1.2.2.2.2.2.2.2.2.2⟩ : Node)) fun x12 =>
       ob (R_PutLog x12.2.2.2.2.1 m.A m.B m.Entries) fun x13 =>
       if (!decide (x13.2.2.Code = 0)) = true then
        some (x12.1, x12.2.1, x12.2.2.1, x12.2.2.2.1, x12.2.2.2.2.1, x12.2.2.2.2.2.1, x12.2.2.2.2.2.2, ([] : List Int), ([] : List Int), ([] : List Int), ([] : List Mail), v)
       else
        if (!x13.2.1) = true then
         ob (
          if (decide ((w64 (m.A - 1)) < (x12.2.2.2.2.1.length : Int))) = true then
           some (⟨4, x.ID, m.From, v1.2.2.1, w64 (m.A - 1), 0, 0, ([] : List Entry), false⟩ : Mail)
          else
           some (⟨4, x.ID, m.From, v1.2.2.1, (x12.2.2.2.2.1.length : Int), 0, 0, ([] : List Entry), false⟩ : Mail)) fun (v6 : Mail) =>
         ob (
          if (decide (v6.A < 0)) = true then
           some (⟨v6.Kind, v6.From, v6.To, v6.Term, 0, v6.B, v6.C0, v6.Entries, v6.Ok⟩ : Mail)
          else
           some v6) fun (v7 : Mail) =>
         some (x12.1, x12.2.1, x12.2.2.1, x12.2.2.2.1, x12.2.2.2.2.1, x12.2.2.2.2.2.1, x12.2.2.2.2.2.2, ([] : List Int), ([] : List Int), ([] : List Int), [v7], v)
        else
         R_TakeNode_L1 x m v v1 x12 x13 0
    else
     if ((!decide (v1.2.2.2.2.2.1 = 2)) || (!decide (m.Term = v1.2.2.1))) = true then
      some (v1.1, v1.2.1, v1.2.2.1, v1.2.2.2.1, v1.2.2.2.2.1, v1.2.2.2.2.2.1, v1.2.2.2.2.2.2.1, v1.2.2.2.2.2.2.2.1, v1.2.2.2.2.2.2.2.2.1, v1.2.2.2.2.2.2.2.2.2, ([] : List Mail), v)
     else
      if m.Ok = true then
       ob (
        if (decide ((v1.2.2.2.2.1.length : Int) < m.A)) = true then
         some (v1.2.2.2.2.1.length : Int)
        else
         some m.A) fun (v13 : Int) =>
       asrt (0 ≤ m.From ∧ m.From < (v1.2.2.2.2.2.2.2.2.2.length : Int)) <|
       asrt (0 ≤ m.From ∧ m.From < (v1.2.2.2.2.2.2.2.2.2.length : Int)) <|
       ob (
        if (decide ((lget v1.2.2.2.2.2.2.2.2.2 m.From) < v13)) = true then
         asrt (0 ≤ m.From ∧ m.From < (v1.2.2.2.2.2.2.2.2.2.length : Int)) <|
         asrt (0 ≤ m.From ∧ m.From < (v1.2.2.2.2.2.2.2.2.2.length : Int)) <|
         some (lset v1.2.2.2.2.2.2.2.2.2 m.From v13)
        else
         some v1.2.2.2.2.2.2.2.2.2) fun (v14 : List Int) =>
       asrt (0 ≤ m.From ∧ m.From < (v14.length : Int)) <|
       asrt (0 ≤ m.From ∧ m.From < (v14.length : Int)) <|
       asrt (0 ≤ m.From ∧ m.From < (v1.2.2.2.2.2.2.2.2.1.length : Int)) <|
       asrt (0 ≤ m.From ∧ m.From < (v1.2.2.2.2.2.2.2.2.1.length : Int)) <|
       ob (R_Counted (⟨v1.1, v1.2.1, v1.2.2.1, v1.2.2.2.1, v1.2.2.2.2.1, v1.2.2.2.2.2.1, v1.2.2.2.2.2.2.1, v1.2.2.2.2.2.2.2.1, (lset v1.2.2.2.2.2.2.2.2.1 m.From (w64 ((lget v14 m.From) + 1))), v14⟩ : Node)) fun x14 =>
       some (x14.N, x14.ID, x14.Term, x14.Vote, x14.Log, x14.Role, x14.Commit, x14.Votes, x14.Next, x14.Have, ([] : List Mail), v)
      else
       asrt (0 ≤ m.From ∧ m.From < (v1.2.2.2.2.2.2.2.2.1.length : Int)) <|
       asrt (0 ≤ m.From ∧ m.From < (v1.2.2.2.2.2.2.2.2.1.length : Int)) <|
       ob (
        if (decide ((w64 (m.A + 1)) < (w64 ((lget v1.2.2.2.2.2.2.2.2.1 m.From) - 1)))) = true then
         some (w64 (m.A + 1))
        else
         some (w64 ((lget v1.2.2.2.2.2.2.2.2.1 m.From) - 1))) fun (v15 : Int) =>
       asrt (0 ≤ m.From ∧ m.From < (v1.2.2.2.2.2.2.2.2.2.length : Int)) <|
       asrt (0 ≤ m.From ∧ m.From < (v1.2.2.2.2.2.2.2.2.2.length : Int)) <|
       ob (
        if (decide (v15 < (w64 ((lget v1.2.2.2.2.2.2.2.2.2 m.From) + 1)))) = true then
         asrt (0 ≤ m.From ∧ m.From < (v1.2.2.2.2.2.2.2.2.2.length : Int)) <|
         asrt (0 ≤ m.From ∧ m.From < (v1.2.2.2.2.2.2.2.2.2.length : Int)) <|
         some (w64 ((lget v1.2.2.2.2.2.2.2.2.2 m.From) + 1))
        else
         some v15) fun (v16 : Int) =>
       asrt (0 ≤ m.From ∧ m.From < (v1.2.2.2.2.2.2.2.2.1.length : Int)) <|
       asrt (0 ≤ m.From ∧ m.From < (v1.2.2.2.2.2.2.2.2.1.length : Int)) <|
       some (v1.1, v1.2.1, v1.2.2.1, v1.2.2.2.1, v1.2.2.2.2.1, v1.2.2.2.2.2.1, v1.2.2.2.2.2.2.1, v1.2.2.2.2.2.2.2.1, (lset v1.2.2.2.2.2.2.2.2.1 m.From v16), v1.2.2.2.2.2.2.2.2.2, ([] : List Mail), v)
theorem R_TakeNode_ok (x : Node) (m : Mail) (r : Int × Int × Int × Int × List Entry × Int × Int × List Int × List Int × List Int × List Mail × Fault) (hF : R_TakeNode x m = some r) : Pe Try.prog 43 S.none [.agg (c_Node x), .agg (c_Mail m)] (.tup [.agg [.i r.1, .i r.2.1, .i r.2.2.1, .i r.2.2.2.1, .sl 2 (r.2.2.2.2.1.map e_Entry), .i r.2.2.2.2.2.1, .i r.2.2.2.2.2.2.1, .sl 1 (r.2.2.2.2.2.2.2.1.map e_i64), .sl 1 (r.2.2.2.2.2.2.2.2.1.map e_i64), .sl 1 (r.2.2.2.2.2.2.2.2.2.1.map e_i64)], .sl 9 (r.2.2.2.2.2.2.2.2.2.2.1.map e_Mail), .agg (c_Fault r.2.2.2.2.2.2.2.2.2.2.2)]) S.none := by
 refine PeN 361 [.cell 4 46, .tmp 5, .cell 6 26] [46, 50, 26] Ty.ok Fn.b43 Try.func43 ?_
 intro Q g hfin
 unfold R_TakeNode at hF
 refine VR [] [2, 3, 4, 6] [2, 3, 4, 6] [] [] [(2, .ptr 2 0), (3, .ptr 3 0), (4, .ptr 4 0), (6, .ptr 6 0)] [(2, (c_Node x)), (3, (c_Mail m)), (4, [.i 0, .i 0, .i 0, .i 0, .nils, .i 0, .i 0, .nils, .nils, .nils]), (6, [.i 0, .i 0])] [] [] .nil ?_
 obtain ⟨x1, h0, hF⟩ := ob_elim hF
 refine VR [.callB (.agg (c_Fault x1))] [2, 3, 4, 6, 7] [2, 3, 4, 6, 7] [] [] [(7, .ptr 7 0)] [(7, (c_Fault x1))] [] [] (hc (R_NodeFault_ok x x1 h0) .nil) ?_
 obtain ⟨x2, h1, hF⟩ := ob_elim hF
 refine NR [.callB (.bool x2)] [2, 3, 4, 6, 7, 29] [2, 3, 4, 6, 7] [] [(29, .bool ((decide (x1.Code = 0)) && (!x2)))] (hc (fun (ga0 : (decide (x1.Code = 0)) = true) => (R_MailFine_ok x m x2 (ite_t h1 ga0))) .nil) ?_
 obtain ⟨v, hv, hF⟩ := ob_elim hF
 refine Nmeet (⟨[(2, .ptr 2 0), (3, .ptr 3 0), (4, .ptr 4 0), (6, .ptr 6 0), (7, .ptr 7 0)], [(2, (c_Node x)), (3, (c_Mail m)), (4, [.i 0, .i 0, .i 0, .i 0, .nils, .i 0, .i 0, .nils, .nils, .nils]), (6, [.i 0, .i 0]), (7, (c_Fault v))], [], [], []⟩ : S) ?_ ?_
 ·have hF := hv
  refine Nif hF (fun hb hF => ?_) (fun hb hF => ?_)
  ·obtain ⟨x3, h2, hF⟩ := lt_split hF
   refine VR [.callB (.agg (c_Fault x3))] [2, 3, 4, 6, 7] [2, 3, 4, 6, 7] [] [] [] [(7, (c_Fault x3))] [] [] (hc (R_F_ok 5 0 x3 h2) .nil) ?_
   cases hF
   exact met [] (by kernel_rfl)
  ·cases hF
   exact met [] (by kernel_rfl)
 ·refine NR [] [2, 3, 4, 6, 7, 33] [2, 3, 4, 6, 7] [] [(33, .bool (!decide (v.Code = 0)))] .nil ?_
  refine Nif hF (fun hb hF => ?_) (fun hb hF => ?_)
  ·refine VD [] [4, 5, 6] [4, 6] [] [] [(5, .nils)] [(6, (c_Fault v))] [] [] .nil ?_
   cases hF
   exact Wk_ret (hfin _ ⟨[], [], [], [], [], [], by kernel_rfl⟩)
  ·obtain ⟨x4, h3, hF⟩ := ob_elim hF
   refine VR [.callE [] [] [] [] (.agg [.i x4.1, .i x4.2.1, .i x4.2.2.1, .i x4.2.2.2.1, .row 37 1, .i x4.2.2.2.2.2.1, .i x4.2.2.2.2.2.2.1, .row 20037 1, .row 40037 1, .row 60037 1]) ⟨[], [], [(37, .z 31 2 1 (x4.2.2.2.2.1.map e_Entry)), (20037, .z 3 1 1 (x4.2.2.2.2.2.2.2.1.map e_i64)), (40037, .z 3 1 1 (x4.2.2.2.2.2.2.2.2.1.map e_i64)), (60037, .z 3 1 1 (x4.2.2.2.2.2.2.2.2.2.map e_i64))], [], []⟩] [2, 3, 4, 6, 7, 8] [2, 3, 4, 6, 7, 8] [37, 20037, 40037, 60037] [] [(8, .ptr 8 0)] [(8, [.i x4.1, .i x4.2.1, .i x4.2.2.1, .i x4.2.2.2.1, .row 37 1, .i x4.2.2.2.2.2.1, .i x4.2.2.2.2.2.2.1, .row 20037 1, .row 40037 1, .row 60037 1])] [(37, .z 31 2 1 (x4.2.2.2.2.1.map e_Entry)), (20037, .z 3 1 1 (x4.2.2.2.2.2.2.2.1.map e_i64)), (40037, .z 3 1 1 (x4.2.2.2.2.2.2.2.2.1.map e_i64)), (60037, .z 3 1 1 (x4.2.2.2.2.2.2.2.2.2.map e_i64))] [] (hc (Pe.ren (R_CopyNode_ok x x4 h3) ⟨[], [(5, 37), (9, 20037), (13, 40037), (17, 60037)], [], []⟩) .nil) ?_
   refine NR [] [2, 3, 4, 6, 7, 8, 42] [2, 3, 4, 6, 7, 8] [37, 20037, 40037, 60037] [(42, .bool (decide (x.Term < m.Term)))] .nil ?_
   obtain ⟨v1, hv, hF⟩ := ob_elim hF
   refine Nmeet (⟨[(2, .ptr 2 0), (3, .ptr 3 0), (4, .ptr 4 0), (6, .ptr 6 0), (7, .ptr 7 0), (8, .ptr 8 0)], [(2, (c_Node x)), (3, (c_Mail m)), (4, [.i 0, .i 0, .i 0, .i 0, .nils, .i 0, .i 0, .nils, .nils, .nils]), (6, [.i 0, .i 0]), (7, (c_Fault v)), (8, [.i v1.1, .i v1.2.1, .i v1.2.2.1, .i v1.2.2.2.1, .row 44 1, .i v1.2.2.2.2.2.1, .i v1.2.2.2.2.2.2.1, .row 20044 0, .row 40044 0, .row 60044 0])], [(44, .z 31 2 1 (v1.2.2.2.2.1.map e_Entry)), (20044, .z 3 1 0 (v1.2.2.2.2.2.2.2.1.map e_i64)), (40044, .z 3 1 0 (v1.2.2.2.2.2.2.2.2.1.map e_i64)), (60044, .z 3 1 0 (v1.2.2.2.2.2.2.2.2.2.map e_i64))], [], []⟩ : S) ?_ ?_
   ·have hF := hv
    refine Nif hF (fun hb hF => ?_) (fun hb hF => ?_)
    ·obtain ⟨x5, h4, hF⟩ := ob_elim hF
     refine VR [.callE [] [] [] [] (.agg [.i x5.1, .i x5.2.1, .i x5.2.2.1, .i x5.2.2.2.1, .row 44 1, .i x5.2.2.2.2.2.1, .i x5.2.2.2.2.2.2, .row 20044 0, .row 40044 0, .row 60044 0]) ⟨[], [], [(44, .z 31 2 1 (x5.2.2.2.2.1.map e_Entry)), (20044, .z 3 1 0 (([] : List Int).map e_i64)), (40044, .z 3 1 0 (([] : List Int).map e_i64)), (60044, .z 3 1 0 (([] : List Int).map e_i64))], [], []⟩] [2, 3, 4, 6, 7, 8] [2, 3, 4, 6, 7, 8] [44, 20044, 40044, 60044] [] [] [(8, [.i x5.1, .i x5.2.1, .i x5.2.2.1, .i x5.2.2.2.1, .row 44 1, .i x5.2.2.2.2.2.1, .i x5.2.2.2.2.2.2, .row 20044 0, .row 40044 0, .row 60044 0])] [(44, .z 31 2 1 (x5.2.2.2.2.1.map e_Entry)), (20044, .z 3 1 0 (([] : List Int).map e_i64)), (40044, .z 3 1 0 (([] : List Int).map e_i64)), (60044, .z 3 1 0 (([] : List Int).map e_i64))] [] (hc (Pe.ren (R_Follower_ok x x5 h4) ⟨[], [(13, 44), (71001, 20044), (71002, 40044), (71003, 60044)], [], []⟩) .nil) ?_
     refine VR [] [2, 3, 4, 6, 7, 8] [2, 3, 4, 6, 7, 8] [44, 20044, 40044, 60044] [] [] [(8, [.i x5.1, .i x5.2.1, .i m.Term, .i x5.2.2.2.1, .row 44 1, .i x5.2.2.2.2.2.1, .i x5.2.2.2.2.2.2, .row 20044 0, .row 40044 0, .row 60044 0])] [] [] .nil ?_
     refine VR [] [2, 3, 4, 6, 7, 8] [2, 3, 4, 6, 7, 8] [44, 20044, 40044, 60044] [] [] [(8, [.i x5.1, .i x5.2.1, .i m.Term, .i 0, .row 44 1, .i x5.2.2.2.2.2.1, .i x5.2.2.2.2.2.2, .row 20044 0, .row 40044 0, .row 60044 0])] [] [] .nil ?_
     cases hF
     exact met [] (by kernel_rfl)
    ·refine Wk_trim (fs := [2, 3, 4, 6, 7, 8]) (bs := [2, 3, 4, 6, 7, 8]) (rs := [37, 20037, 40037, 60037]) (ms := []) (aa := []) (nv := []) rfl ?_
     refine Wk_ren' ⟨[], [(37, 44), (20037, 20044), (40037, 40044), (60037, 60044)], [], []⟩ rfl ?_
     cases hF
     exact met [(20044, ⟨0, true, true, false⟩), (40044, ⟨0, true, true, false⟩), (60044, ⟨0, true, true, false⟩)] (by kernel_rfl)
   ·refine VR [] [3, 4, 6, 7, 8, 9] [3, 4, 6, 7, 8, 9] [44, 20044, 40044, 60044] [] [(9, .ptr 9 0)] [(9, [.i 0, .i x.ID, .i m.From, .i v1.2.2.1, .i 0, .i 0, .i 0, .nils, .bool false])] [] [] .nil ?_
    refine NR [] [3, 4, 6, 7, 8, 9, 57] [3, 4, 6, 7, 8, 9] [44, 20044, 40044, 60044] [(57, .i m.Kind)] .nil ?_
    refine Nblk ?_
    refine NR [] [3, 4, 6, 7, 8, 9, 57, 58] [3, 4, 6, 7, 8, 9] [44, 20044, 40044, 60044] [(58, .bool (decide (m.Kind = 1)))] .nil ?_
    refine Nif hF (fun hb hF => ?_) (fun hb hF => ?_)
    ·refine VR [] [3, 4, 6, 7, 8, 9] [3, 4, 6, 7, 8, 9] [44, 20044, 40044, 60044] [] [] [(9, [.i 2, .i x.ID, .i m.From, .i v1.2.2.1, .i 0, .i 0, .i 0, .nils, .bool false])] [] [] .nil ?_
     obtain ⟨x6, h5, hF⟩ := ob_elim hF
     obtain ⟨x7, h6, hF⟩ := ob_elim hF
     refine NDL ((!x6) && ((!decide (m.A = (v1.2.2.2.2.1.length : Int))) || (!decide (m.B = x7)))) (fun v2 : Bool => ([(10, .bool v2)], [], [], [])) [.callB (.bool x6), .nat (v1.2.2.2.2.1.length : Int), .callB (.i x7)] [3, 4, 6, 7, 8, 9, 10] [3, 4, 6, 7, 8, 9] [44, 20044, 40044, 60044] [] (hc (R_OlderLog_ok v1.2.2.2.2.1 m.A m.B x6 h5) (hc (fun (_ : (!x6) = true) => (len_ok e_Entry v1.2.2.2.2.1)) (hc (fun (ga0 : (!(!decide (m.A = (v1.2.2.2.2.1.length : Int)))) = true) (ga1 : (!x6) = true) => (R_LastTerm_ok v1.2.2.2.2.1 x7 (ite_t (ite_t h6 ga0) ga1))) .nil))) (fun v2 hv => ?_)
     have hF := lt_elim hF hv
     refine NR [] [3, 4, 6, 7, 8, 9, 106] [3, 4, 6, 7, 8, 9] [44, 20044, 40044, 60044] [(106, .bool (((decide (m.Term = v1.2.2.1)) && ((decide (v1.2.2.2.1 = 0)) || (decide ((w64 (v1.2.2.2.1 - 1)) = m.From)))) && (!v2)))] .nil ?_
     obtain ⟨v3, hv, hF⟩ := ob_elim hF
     refine Nmeet (⟨[(4, .ptr 4 0), (6, .ptr 6 0), (7, .ptr 7 0), (8, .ptr 8 0), (9, .ptr 9 0)], [(4, [.i 0, .i 0, .i 0, .i 0, .nils, .i 0, .i 0, .nils, .nils, .nils]), (6, [.i 0, .i 0]), (7, (c_Fault v)), (8, [.i v1.1, .i v1.2.1, .i v1.2.2.1, .i v3.1, .row 44 1, .i v1.2.2.2.2.2.1, .i v1.2.2.2.2.2.2.1, .row 20044 0, .row 40044 0, .row 60044 0]), (9, (c_Mail v3.2))], [(44, .z 31 2 1 (v1.2.2.2.2.1.map e_Entry)), (20044, .z 3 1 0 (v1.2.2.2.2.2.2.2.1.map e_i64)), (40044, .z 3 1 0 (v1.2.2.2.2.2.2.2.2.1.map e_i64)), (60044, .z 3 1 0 (v1.2.2.2.2.2.2.2.2.2.map e_i64))], [], []⟩ : S) ?_ ?_
     ·have hF := hv
      refine Nif hF (fun hb hF => ?_) (fun hb hF => ?_)
      ·refine VR [] [4, 6, 7, 8, 9] [4, 6, 7, 8, 9] [44, 20044, 40044, 60044] [] [] [(8, [.i v1.1, .i v1.2.1, .i v1.2.2.1, .i (w64 (m.From + 1)), .row 44 1, .i v1.2.2.2.2.2.1, .i v1.2.2.2.2.2.2.1, .row 20044 0, .row 40044 0, .row 60044 0])] [] [] .nil ?_
       refine VR [] [4, 6, 7, 8, 9] [4, 6, 7, 8, 9] [44, 20044, 40044, 60044] [] [] [(9, [.i 2, .i x.ID, .i m.From, .i v1.2.2.1, .i 0, .i 0, .i 0, .nils, .bool true])] [] [] .nil ?_
       refine Wk_coeB 9 [.i 2, .i x.ID, .i m.From, .i v1.2.2.1, .i 0, .i 0, .i 0, .sl 2 (([] : List Entry).map e_Entry), .bool true] rfl (.cons (CoeS.refl _) (.cons (CoeS.refl _) (.cons (CoeS.refl _) (.cons (CoeS.refl _) (.cons (CoeS.refl _) (.cons (CoeS.refl _) (.cons (CoeS.refl _) (.cons (CoeS.nils 2) (.cons (CoeS.refl _) .nil))))))))) ?_
       cases hF
       exact met [] (by kernel_rfl)
      ·refine Wk_coeB 9 [.i 2, .i x.ID, .i m.From, .i v1.2.2.1, .i 0, .i 0, .i 0, .sl 2 (([] : List Entry).map e_Entry), .bool false] rfl (.cons (CoeS.refl _) (.cons (CoeS.refl _) (.cons (CoeS.refl _) (.cons (CoeS.refl _) (.cons (CoeS.refl _) (.cons (CoeS.refl _) (.cons (CoeS.refl _) (.cons (CoeS.nils 2) (.cons (CoeS.refl _) .nil))))))))) ?_
       cases hF
       exact met [] (by kernel_rfl)
     ·refine VD [.sealed] [4, 5, 6] [4, 6] [44, 20044, 40044, 60044] [] [(5, .sl 9 ([v3.2].map e_Mail))] [(4, [.i v1.1, .i v1.2.1, .i v1.2.2.1, .i v3.1, .row 44 1, .i v1.2.2.2.2.2.1, .i v1.2.2.2.2.2.2.1, .row 20044 0, .row 40044 0, .row 60044 0]), (6, (c_Fault v))] [] [] .nil ?_
      cases hF
      exact Wk_ret (hfin _ ⟨[], [], [], [], [], [], by kernel_rfl⟩)
    ·refine NR [] [3, 4, 6, 7, 8, 9, 57, 116] [3, 4, 6, 7, 8, 9] [44, 20044, 40044, 60044] [(116, .bool (decide (m.Kind = 2)))] .nil ?_
     refine Nif hF (fun hb hF => ?_) (fun hb hF => ?_)
     ·refine NR [] [3, 4, 6, 7, 8, 132] [3, 4, 6, 7, 8] [44, 20044, 40044, 60044] [(132, .bool (((!decide (v1.2.2.2.2.2.1 = 1)) || (!decide (m.Term = v1.2.2.1))) || (!m.Ok)))] .nil ?_
      refine Nif hF (fun hb hF => ?_) (fun hb hF => ?_)
      ·refine VD [] [4, 5, 6] [4, 6] [44, 20044, 40044, 60044] [] [(5, .nils)] [(4, [.i v1.1, .i v1.2.1, .i v1.2.2.1, .i v1.2.2.2.1, .row 44 1, .i v1.2.2.2.2.2.1, .i v1.2.2.2.2.2.2.1, .row 20044 0, .row 40044 0, .row 60044 0]), (6, (c_Fault v))] [] [] .nil ?_
       cases hF
       exact Wk_ret (hfin _ ⟨[], [], [], [], [], [], by kernel_rfl⟩)
      ·obtain ⟨x8, h7, hF⟩ := ob_elim hF
       refine NR [.callB (.bool x8)] [3, 4, 6, 7, 8, 140] [3, 4, 6, 7, 8] [44, 20044, 40044, 60044] [(140, .bool (!x8))] (hc (R_Has_ok v1.2.2.2.2.2.2.2.1 m.From x8 h7) .nil) ?_
       obtain ⟨v4, hv, hF⟩ := ob_elim hF
       refine Nmeet (⟨[(4, .ptr 4 0), (6, .ptr 6 0), (7, .ptr 7 0), (8, .ptr 8 0)], [(4, [.i 0, .i 0, .i 0, .i 0, .nils, .i 0, .i 0, .nils, .nils, .nils]), (6, [.i 0, .i 0]), (7, (c_Fault v)), (8, [.i v1.1, .i v1.2.1, .i v1.2.2.1, .i v1.2.2.2.1, .row 44 1, .i v1.2.2.2.2.2.1, .i v1.2.2.2.2.2.2.1, .row 20044 0, .row 40044 0, .row 60044 0])], [(44, .z 31 2 1 (v1.2.2.2.2.1.map e_Entry)), (20044, .z 3 1 0 (v4.map e_i64)), (40044, .z 3 1 0 (v1.2.2.2.2.2.2.2.2.1.map e_i64)), (60044, .z 3 1 0 (v1.2.2.2.2.2.2.2.2.2.map e_i64))], [], []⟩ : S) ?_ ?_
       ·have hF := hv
        refine Nif hF (fun hb hF => ?_) (fun hb hF => ?_)
        ·obtain ⟨h8, hF⟩ := asrt_elim hF
         refine VR [.sealed, .xs ((v1.2.2.2.2.2.2.2.1 ++ ([m.From] : List Int)).map e_i64)] [4, 6, 7, 8] [4, 6, 7, 8] [44, 20044, 40044, 60044] [] [] [(8, [.i v1.1, .i v1.2.1, .i v1.2.2.1, .i v1.2.2.2.1, .row 44 1, .i v1.2.2.2.2.2.1, .i v1.2.2.2.2.2.2.1, .row 20044 1, .row 40044 0, .row 60044 0])] [(20044, .z 3 1 1 ((v1.2.2.2.2.2.2.2.1 ++ ([m.From] : List Int)).map e_i64))] [] (hc (app_ok e_i64 v1.2.2.2.2.2.2.2.1 ([m.From] : List Int)) (hc (appl_ok e_i64 h8) .nil)) ?_
         cases hF
         exact met [(20044, ⟨0, true, true, false⟩)] (by kernel_rfl)
        ·cases hF
         exact met [] (by kernel_rfl)
       ·obtain ⟨x9, h9, hF⟩ := lt_split hF
        refine NR [.nat (v4.length : Int), .callB (.bool x9)] [4, 6, 7, 8, 153] [4, 6, 7, 8] [44, 20044, 40044, 60044] [(153, .bool x9)] (hc (len_ok e_i64 v4) (hc (R_Majority_ok (v4.length : Int) v1.1 x9 h9) .nil)) ?_
        refine Nif hF (fun hb hF => ?_) (fun hb hF => ?_)
        ·obtain ⟨x10, h10, hF⟩ := ob_elim hF
         refine VR [.call (.agg (c_Node x10))] [4, 6, 7, 8] [4, 6, 7, 8] [] [] [] [(8, (c_Node x10))] [] [] (hc (R_Leader_ok (⟨v1.1, v1.2.1, v1.2.2.1, v1.2.2.2.1, v1.2.2.2.2.1, v1.2.2.2.2.2.1, v1.2.2.2.2.2.2.1, v4, v1.2.2.2.2.2.2.2.2.1, v1.2.2.2.2.2.2.2.2.2⟩ : Node) x10 h10) .nil) ?_
         obtain ⟨x11, h11, hF⟩ := ob_elim hF
         refine VD [.callE [] [] [] [] (.row 158 0) ⟨[], [], [(158, .z 62 9 0 (x11.map e_Mail))], [], []⟩] [4, 5, 6] [4, 6] [158] [] [(5, .row 158 0)] [(4, (c_Node x10)), (6, (c_Fault v))] [(158, .z 62 9 0 (x11.map e_Mail))] [] (hc (Pe.ren (R_Beats_ok x10 x11 h11) ⟨[], [(55, 158)], [], []⟩) .nil) ?_
         cases hF
         exact Wk_ret (hfin _ ⟨[], [], [], [], [], [], by kernel_rfl⟩)
        ·refine VD [] [4, 5, 6] [4, 6] [44, 20044, 40044, 60044] [] [(5, .nils)] [(4, [.i v1.1, .i v1.2.1, .i v1.2.2.1, .i v1.2.2.2.1, .row 44 1, .i v1.2.2.2.2.2.1, .i v1.2.2.2.2.2.2.1, .row 20044 0, .row 40044 0, .row 60044 0]), (6, (c_Fault v))] [] [] .nil ?_
         cases hF
         exact Wk_ret (hfin _ ⟨[], [], [], [], [], [], by kernel_rfl⟩)
     ·refine NR [] [3, 4, 6, 7, 8, 9, 162] [3, 4, 6, 7, 8, 9] [44, 20044, 40044, 60044] [(162, .bool (decide (m.Kind = 3)))] .nil ?_
      refine Nif hF (fun hb hF => ?_) (fun hb hF => ?_)
      ·refine VR [] [3, 4, 6, 7, 8, 9] [3, 4, 6, 7, 8, 9] [44, 20044, 40044, 60044] [] [] [(9, [.i 4, .i x.ID, .i m.From, .i v1.2.2.1, .i 0, .i 0, .i 0, .nils, .bool false])] [] [] .nil ?_
       refine NR [] [3, 4, 6, 7, 8, 9, 169] [3, 4, 6, 7, 8, 9] [44, 20044, 40044, 60044] [(169, .bool (decide (m.Term < v1.2.2.1)))] .nil ?_
       refine Nif hF (fun hb hF => ?_) (fun hb hF => ?_)
       ·refine NDL ([(⟨4, x.ID, m.From, v1.2.2.1, 0, 0, 0, ([] : List Entry), false⟩ : Mail)]) (fun v5 : List Mail => ([(5, .sl 9 (v5.map e_Mail))], [(4, [.i v1.1, .i v1.2.1, .i v1.2.2.1, .i v1.2.2.2.1, .row 44 1, .i v1.2.2.2.2.2.1, .i v1.2.2.2.2.2.2.1, .row 20044 0, .row 40044 0, .row 60044 0]), (6, (c_Fault v))], [], [])) [.sealed] [4, 5, 6] [4, 6] [44, 20044, 40044, 60044] [] .nil (fun v5 hv => ?_)
        have hF := lt_elim hF hv
        cases hF
        exact Wk_ret (hfin _ ⟨[], [], [], [], [], [], by kernel_rfl⟩)
       ·refine NR [] [3, 4, 6, 7, 8, 9, 176] [3, 4, 6, 7, 8, 9] [44, 20044, 40044, 60044] [(176, .bool (decide (v1.2.2.2.2.2.1 = 2)))] .nil ?_
        refine Nif hF (fun hb hF => ?_) (fun hb hF => ?_)
        ·refine VD [] [4, 5, 6] [4, 6] [44, 20044, 40044, 60044] [] [(5, .nils)] [(4, [.i v1.1, .i v1.2.1, .i v1.2.2.1, .i v1.2.2.2.1, .row 44 1, .i v1.2.2.2.2.2.1, .i v1.2.2.2.2.2.2.1, .row 20044 0, .row 40044 0, .row 60044 0]), (6, (c_Fault v))] [] [] .nil ?_
         cases hF
         exact Wk_ret (hfin _ ⟨[], [], [], [], [], [], by kernel_rfl⟩)
        ·obtain ⟨x12, h12, hF⟩ := ob_elim hF
         refine VR [.callE [] [] [] [] (.agg [.i x12.1, .i x12.2.1, .i x12.2.2.1, .i x12.2.2.2.1, .row 180 1, .i x12.2.2.2.2.2.1, .i x12.2.2.2.2.2.2, .row 20180 0, .row 40180 0, .row 60180 0]) ⟨[], [], [(180, .z 31 2 1 (x12.2.2.2.2.1.map e_Entry)), (20180, .z 3 1 0 (([] : List Int).map e_i64)), (40180, .z 3 1 0 (([] : List Int).map e_i64)), (60180, .z 3 1 0 (([] : List Int).map e_i64))], [], []⟩] [3, 4, 6, 7, 8, 9] [3, 4, 6, 7, 8, 9] [180, 20180, 40180, 60180] [] [] [(8, [.i x12.1, .i x12.2.1, .i x12.2.2.1, .i x12.2.2.2.1, .row 180 1, .i x12.2.2.2.2.2.1, .i x12.2.2.2.2.2.2, .row 20180 0, .row 40180 0, .row 60180 0])] [(180, .z 31 2 1 (x12.2.2.2.2.1.map e_Entry)), (20180, .z 3 1 0 (([] : List Int).map e_i64)), (40180, .z 3 1 0 (([] : List Int).map e_i64)), (60180, .z 3 1 0 (([] : List Int).map e_i64))] [] (hc (Pe.ren (R_Follower_ok (⟨v1.1, v1.2.1, v1.2.2.1, v1.2.2.2.1, v1.2.2.2.2.1, v1.2.2.2.2.2.1, v1.2.2.2.2.2.2.1, v1.2.2.2.2.2.2.2.1, v1.2.2.2.2.2.2.2.2.1, v1.2.2.2.2.2.2.2.2.2⟩ : Node) x12 h12) ⟨[], [(13, 180), (71001, 20180), (71002, 40180), (71003, 60180)], [], []⟩) .nil) ?_
         obtain ⟨x13, h13, hF⟩ := ob_elim hF
         refine VR [.callE [] [] [] [] (.tup [.row 190 0, .bool x13.2.1, .agg (c_Fault x13.2.2)]) ⟨[], [], [(190, .z 31 2 0 (x13.1.map e_Entry))], [], []⟩] [3, 4, 6, 7, 8, 9, 11, 12, 13] [3, 4, 6, 7, 8, 9, 13] [180, 190, 20180, 40180, 60180] [] [(11, .row 190 0), (12, .bool x13.2.1), (13, .ptr 13 0)] [(13, (c_Fault x13.2.2))] [(180, ⟨31, 2, 1, (x12.2.2.2.2.1.map e_Entry).length, 0, true, 0, [], (x12.2.2.2.2.1.map e_Entry)⟩), (190, .z 31 2 0 (x13.1.map e_Entry))] [] (hc (Pe.ren (R_PutLog_ok x12.2.2.2.2.1 m.A m.B m.Entries x13 h13) ⟨[], [(55, 190)], [], []⟩) .nil) ?_
         refine NR [] [3, 4, 6, 7, 8, 9, 11, 12, 196] [3, 4, 6, 7, 8, 9] [180, 190, 20180, 40180, 60180] [(196, .bool (!decide (x13.2.2.Code = 0)))] .nil ?_
         refine Nif hF (fun hb hF => ?_) (fun hb hF => ?_)
         ·refine VD [] [4, 5, 6] [4, 6] [180, 20180, 40180, 60180] [] [(5, .nils)] [(4, [.i x12.1, .i x12.2.1, .i x12.2.2.1, .i x12.2.2.2.1, .row 180 1, .i x12.2.2.2.2.2.1, .i x12.2.2.2.2.2.2, .row 20180 0, .row 40180 0, .row 60180 0]), (6, (c_Fault v))] [] [] .nil ?_
          cases hF
          exact Wk_ret (hfin _ ⟨[], [], [], [], [], [], by kernel_rfl⟩)
         ·refine NR [] [3, 4, 6, 7, 8, 9, 11, 200] [3, 4, 6, 7, 8, 9] [180, 190, 20180, 40180, 60180] [(200, .bool (!x13.2.1))] .nil ?_
          refine Nif hF (fun hb hF => ?_) (fun hb hF => ?_)
          ·refine VR [.nat (x12.2.2.2.2.1.length : Int)] [3, 4, 6, 7, 8, 9] [3, 4, 6, 7, 8, 9] [180, 20180, 40180, 60180] [] [] [(9, [.i 4, .i x.ID, .i m.From, .i v1.2.2.1, .i (x12.2.2.2.2.1.length : Int), .i 0, .i 0, .nils, .bool false])] [] [] (hc (len_ok e_Entry x12.2.2.2.2.1) .nil) ?_
           refine NR [] [3, 4, 6, 7, 8, 9, 210] [3, 4, 6, 7, 8, 9] [180, 20180, 40180, 60180] [(210, .bool (decide ((w64 (m.A - 1)) < (x12.2.2.2.2.1.length : Int))))] .nil ?_
           obtain ⟨v6, hv, hF⟩ := ob_elim hF
           refine Nmeet (⟨[(4, .ptr 4 0), (6, .ptr 6 0), (7, .ptr 7 0), (8, .ptr 8 0), (9, .ptr 9 0)], [(4, [.i 0, .i 0, .i 0, .i 0, .nils, .i 0, .i 0, .nils, .nils, .nils]), (6, [.i 0, .i 0]), (7, (c_Fault v)), (8, [.i x12.1, .i x12.2.1, .i x12.2.2.1, .i x12.2.2.2.1, .row 180 1, .i x12.2.2.2.2.2.1, .i x12.2.2.2.2.2.2, .row 20180 0, .row 40180 0, .row 60180 0]), (9, (c_Mail v6))], [(180, ⟨31, 2, 1, (x12.2.2.2.2.1.map e_Entry).length, 0, true, 0, [], (x12.2.2.2.2.1.map e_Entry)⟩), (20180, .z 3 1 0 (([] : List Int).map e_i64)), (40180, .z 3 1 0 (([] : List Int).map e_i64)), (60180, .z 3 1 0 (([] : List Int).map e_i64))], [], []⟩ : S) ?_ ?_
           ·have hF := hv
            refine Nif hF (fun hb hF => ?_) (fun hb hF => ?_)
            ·refine VR [] [4, 6, 7, 8, 9] [4, 6, 7, 8, 9] [180, 20180, 40180, 60180] [] [] [(9, [.i 4, .i x.ID, .i m.From, .i v1.2.2.1, .i (w64 (m.A - 1)), .i 0, .i 0, .nils, .bool false])] [] [] .nil ?_
             refine Wk_coeB 9 [.i 4, .i x.ID, .i m.From, .i v1.2.2.1, .i (w64 (m.A - 1)), .i 0, .i 0, .sl 2 (([] : List Entry).map e_Entry), .bool false] rfl (.cons (CoeS.refl _) (.cons (CoeS.refl _) (.cons (CoeS.refl _) (.cons (CoeS.refl _) (.cons (CoeS.refl _) (.cons (CoeS.refl _) (.cons (CoeS.refl _) (.cons (CoeS.nils 2) (.cons (CoeS.refl _) .nil))))))))) ?_
             cases hF
             exact met [] (by kernel_rfl)
            ·refine Wk_coeB 9 [.i 4, .i x.ID, .i m.From, .i v1.2.2.1, .i (x12.2.2.2.2.1.length : Int), .i 0, .i 0, .sl 2 (([] : List Entry).map e_Entry), .bool false] rfl (.cons (CoeS.refl _) (.cons (CoeS.refl _) (.cons (CoeS.refl _) (.cons (CoeS.refl _) (.cons (CoeS.refl _) (.cons (CoeS.refl _) (.cons (CoeS.refl _) (.cons (CoeS.nils 2) (.cons (CoeS.refl _) .nil))))))))) ?_
             cases hF
             exact met [] (by kernel_rfl)
           ·refine NR [] [4, 6, 7, 8, 9, 217] [4, 6, 7, 8, 9] [180, 20180, 40180, 60180] [(217, .bool (decide (v6.A < 0)))] .nil ?_
            obtain ⟨v7, hv, hF⟩ := ob_elim hF
            refine Nmeet (⟨[(4, .ptr 4 0), (6, .ptr 6 0), (7, .ptr 7 0), (8, .ptr 8 0), (9, .ptr 9 0)], [(4, [.i 0, .i 0, .i 0, .i 0, .nils, .i 0, .i 0, .nils, .nils, .nils]), (6, [.i 0, .i 0]), (7, (c_Fault v)), (8, [.i x12.1, .i x12.2.1, .i x12.2.2.1, .i x12.2.2.2.1, .row 180 1, .i x12.2.2.2.2.2.1, .i x12.2.2.2.2.2.2, .row 20180 0, .row 40180 0, .row 60180 0]), (9, (c_Mail v7))], [(180, ⟨31, 2, 1, (x12.2.2.2.2.1.map e_Entry).length, 0, true, 0, [], (x12.2.2.2.2.1.map e_Entry)⟩), (20180, .z 3 1 0 (([] : List Int).map e_i64)), (40180, .z 3 1 0 (([] : List Int).map e_i64)), (60180, .z 3 1 0 (([] : List Int).map e_i64))], [], []⟩ : S) ?_ ?_
            ·have hF := hv
             refine Nif hF (fun hb hF => ?_) (fun hb hF => ?_)
             ·refine VR [] [4, 6, 7, 8, 9] [4, 6, 7, 8, 9] [180, 20180, 40180, 60180] [] [] [(9, [.i v6.Kind, .i v6.From, .i v6.To, .i v6.Term, .i 0, .i v6.B, .i v6.C0, .sl 2 (v6.Entries.map e_Entry), .bool v6.Ok])] [] [] .nil ?_
              cases hF
              exact met [] (by kernel_rfl)
             ·cases hF
              exact met [] (by kernel_rfl)
            ·refine VD [.sealed] [4, 5, 6] [4, 6] [180, 20180, 40180, 60180] [] [(5, .sl 9 ([v7].map e_Mail))] [(4, [.i x12.1, .i x12.2.1, .i x12.2.2.1, .i x12.2.2.2.1, .row 180 1, .i x12.2.2.2.2.2.1, .i x12.2.2.2.2.2.2, .row 20180 0, .row 40180 0, .row 60180 0]), (6, (c_Fault v))] [] [] .nil ?_
             cases hF
             exact Wk_ret (hfin _ ⟨[], [], [], [], [], [], by kernel_rfl⟩)
          ·refine NR [] [3, 4, 6, 7, 8, 9, 11, 14] [3, 4, 6, 7, 8, 9] [180, 190, 20180, 40180, 60180] [(14, .i 0)] .nil ?_
           refine NmeetP (fun v8 : Unit => (⟨[(3, .ptr 3 0), (4, .ptr 4 0), (6, .ptr 6 0), (7, .ptr 7 0), (8, .ptr 8 0), (9, .ptr 9 0), (11, .row 190 0)], [(3, (c_Mail m)), (4, [.i 0, .i 0, .i 0, .i 0, .nils, .i 0, .i 0, .nils, .nils, .nils]), (6, [.i 0, .i 0]), (7, (c_Fault v)), (8, [.i x12.1, .i x12.2.1, .i x12.2.2.1, .i x12.2.2.2.1, .row 180 1, .i x12.2.2.2.2.2.1, .i x12.2.2.2.2.2.2, .row 20180 0, .row 40180 0, .row 60180 0]), (9, [.i 4, .i x.ID, .i m.From, .i v1.2.2.1, .i 0, .i 0, .i 0, .nils, .bool false])], [(180, ⟨31, 2, 1, (x12.2.2.2.2.1.map e_Entry).length, 0, true, 0, [], (x12.2.2.2.2.1.map e_Entry)⟩), (190, .z 31 2 0 (x13.1.map e_Entry)), (20180, .z 3 1 0 (([] : List Int).map e_i64)), (40180, .z 3 1 0 (([] : List Int).map e_i64)), (60180, .z 3 1 0 (([] : List Int).map e_i64))], [], []⟩ : S)) (fun v8 => R_TakeNode_J1 x m v v1 x12 x13 v8 = some r) ?_ ?_
           ·refine Nblk ?_
            unfold R_TakeNode_L1 at hF
            refine Niter (fun v12 : Int => (⟨[(3, .ptr 3 0), (4, .ptr 4 0), (6, .ptr 6 0), (7, .ptr 7 0), (8, .ptr 8 0), (9, .ptr 9 0), (11, .row 190 0), (14, .i v12)], [(3, (c_Mail m)), (4, [.i 0, .i 0, .i 0, .i 0, .nils, .i 0, .i 0, .nils, .nils, .nils]), (6, [.i 0, .i 0]), (7, (c_Fault v)), (8, [.i x12.1, .i x12.2.1, .i x12.2.2.1, .i x12.2.2.2.1, .row 180 1, .i x12.2.2.2.2.2.1, .i x12.2.2.2.2.2.2, .row 20180 0, .row 40180 0, .row 60180 0]), (9, [.i 4, .i x.ID, .i m.From, .i v1.2.2.1, .i 0, .i 0, .i 0, .nils, .bool false])], [(180, ⟨31, 2, 1, (x12.2.2.2.2.1.map e_Entry).length, 0, true, 0, [], (x12.2.2.2.2.1.map e_Entry)⟩), (190, .z 31 2 0 (x13.1.map e_Entry)), (20180, .z 3 1 0 (([] : List Int).map e_i64)), (40180, .z 3 1 0 (([] : List Int).map e_i64)), (60180, .z 3 1 0 (([] : List Int).map e_i64))], [], []⟩ : S)) [] hF (by kernel_rfl) ?_
            intro n1 v12 y1 hF ih1 dn1
            unfold R_TakeNode_B1 at hF
            refine NR [] [3, 4, 6, 7, 8, 9, 11, 14, 226] [3, 4, 6, 7, 8, 9] [180, 190, 20180, 40180, 60180] [(226, .bool (decide (v12 < x12.2.2.2.2.2.2)))] .nil ?_
            refine Nif hF (fun hb hF => ?_) (fun hb hF => ?_)
            ·refine Nblk ?_
             obtain ⟨h14, h15, h16, h17, hF⟩ := asrt4 hF
             refine ND [.nat (x13.1.length : Int), .av (e_Entry (lget x13.1 v12)), .av (e_Entry (lget x12.2.2.2.2.1 v12))] [3, 4, 6, 7, 8, 9, 11, 14, 244] [3, 4, 6, 7, 8, 9] [180, 190, 20180, 40180, 60180] [(244, .bool ((decide ((x13.1.length : Int) ≤ v12)) || (!(decide ((lget x13.1 v12).Term = (lget x12.2.2.2.2.1 v12).Term) && (decide ((lget x13.1 v12).Text = (lget x12.2.2.2.2.1 v12).Text) && true)))))] (hc (len_ok e_Entry x13.1) (hc (fun (ga0 : (!(decide ((x13.1.length : Int) ≤ v12))) = true) => (ixr_ok e_Entry (h14 ga0))) (hc (fun (ga0 : (!(decide ((x13.1.length : Int) ≤ v12))) = true) => (ldr_ok e_Entry (h15 ga0))) (hc (fun (ga0 : (!(decide ((x13.1.length : Int) ≤ v12))) = true) => (ixr_ok e_Entry (h16 ga0))) (hc (fun (ga0 : (!(decide ((x13.1.length : Int) ≤ v12))) = true) => (ldr_ok e_Entry (h17 ga0))) .nil))))) ?_
             refine Nif hF (fun hb hF => ?_) (fun hb hF => ?_)
             ·refine VD [] [4, 5, 6] [4, 6] [180, 20180, 40180, 60180] [] [(5, .nils)] [(4, [.i x12.1, .i x12.2.1, .i x12.2.2.1, .i x12.2.2.2.1, .row 180 1, .i x12.2.2.2.2.2.1, .i x12.2.2.2.2.2.2, .row 20180 0, .row 40180 0, .row 60180 0]), (6, (c_Fault v))] [] [] .nil ?_
              have hF := ret_done hF dn1
              cases hF
              exact Wk_ret (hfin _ ⟨[], [], [], [], [], [], by kernel_rfl⟩)
             ·refine NR [] [3, 4, 6, 7, 8, 9, 11, 14] [3, 4, 6, 7, 8, 9] [180, 190, 20180, 40180, 60180] [(14, .i (w64 (v12 + 1)))] .nil ?_
              exact Nrnd [] hF ih1 (by kernel_rfl)
            ·refine Nexit rfl ?_
             have hF := inrO_done hF dn1
             exact metP () [] hF (by kernel_rfl)
           ·intro v8 hF
            have hF : R_TakeNode_J1 x m v v1 x12 x13 v8 = some r := hF
            unfold R_TakeNode_J1 at hF
            refine VR [] [3, 4, 6, 7, 8, 9] [3, 4, 6, 7, 8, 9] [190, 20180, 40180, 60180] [] [] [(8, [.i x12.1, .i x12.2.1, .i x12.2.2.1, .i x12.2.2.2.1, .row 190 0, .i x12.2.2.2.2.2.1, .i x12.2.2.2.2.2.2, .row 20180 0, .row 40180 0, .row 60180 0])] [] [] .nil ?_
            refine VR [] [3, 4, 6, 7, 8, 9] [3, 4, 6, 7, 8, 9] [190, 20180, 40180, 60180] [] [] [(9, [.i 4, .i x.ID, .i m.From, .i v1.2.2.1, .i 0, .i 0, .i 0, .nils, .bool true])] [] [] .nil ?_
            refine VR [.nat (m.Entries.length : Int)] [3, 4, 6, 7, 8, 9] [3, 4, 6, 7, 8, 9] [190, 20180, 40180, 60180] [] [] [(9, [.i 4, .i x.ID, .i m.From, .i v1.2.2.1, .i (w64 (m.A + (m.Entries.length : Int))), .i 0, .i 0, .nils, .bool true])] [] [] (hc (len_ok e_Entry m.Entries) .nil) ?_
            refine NR [] [4, 6, 7, 8, 9, 15] [4, 6, 7, 8, 9] [190, 20180, 40180, 60180] [(15, .i m.C0)] .nil ?_
            refine NR [] [4, 6, 7, 8, 9, 15, 262] [4, 6, 7, 8, 9] [190, 20180, 40180, 60180] [(262, .bool (decide ((w64 (m.A + (m.Entries.length : Int))) < m.C0)))] .nil ?_
            obtain ⟨v9, hv, hF⟩ := ob_elim hF
            refine Nmeet (⟨[(4, .ptr 4 0), (6, .ptr 6 0), (7, .ptr 7 0), (8, .ptr 8 0), (9, .ptr 9 0), (15, .i v9)], [(4, [.i 0, .i 0, .i 0, .i 0, .nils, .i 0, .i 0, .nils, .nils, .nils]), (6, [.i 0, .i 0]), (7, (c_Fault v)), (8, [.i x12.1, .i x12.2.1, .i x12.2.2.1, .i x12.2.2.2.1, .row 190 0, .i x12.2.2.2.2.2.1, .i x12.2.2.2.2.2.2, .row 20180 0, .row 40180 0, .row 60180 0]), (9, [.i 4, .i x.ID, .i m.From, .i v1.2.2.1, .i (w64 (m.A + (m.Entries.length : Int))), .i 0, .i 0, .nils, .bool true])], [(190, .z 31 2 0 (x13.1.map e_Entry)), (20180, .z 3 1 0 (([] : List Int).map e_i64)), (40180, .z 3 1 0 (([] : List Int).map e_i64)), (60180, .z 3 1 0 (([] : List Int).map e_i64))], [], []⟩ : S) ?_ ?_
            ·have hF := hv
             refine Nif hF (fun hb hF => ?_) (fun hb hF => ?_)
             ·refine NR [] [4, 6, 7, 8, 9, 15] [4, 6, 7, 8, 9] [190, 20180, 40180, 60180] [(15, .i (w64 (m.A + (m.Entries.length : Int))))] .nil ?_
              cases hF
              exact met [] (by kernel_rfl)
             ·cases hF
              exact met [] (by kernel_rfl)
            ·refine NR [] [4, 6, 7, 8, 9, 15, 268] [4, 6, 7, 8, 9] [190, 20180, 40180, 60180] [(268, .bool (decide (x12.2.2.2.2.2.2 < v9)))] .nil ?_
             obtain ⟨v10, hv, hF⟩ := ob_elim hF
             refine Nmeet (⟨[(4, .ptr 4 0), (6, .ptr 6 0), (7, .ptr 7 0), (8, .ptr 8 0), (9, .ptr 9 0)], [(4, [.i 0, .i 0, .i 0, .i 0, .nils, .i 0, .i 0, .nils, .nils, .nils]), (6, [.i 0, .i 0]), (7, (c_Fault v)), (8, [.i x12.1, .i x12.2.1, .i x12.2.2.1, .i x12.2.2.2.1, .row 190 0, .i x12.2.2.2.2.2.1, .i v10, .row 20180 0, .row 40180 0, .row 60180 0]), (9, [.i 4, .i x.ID, .i m.From, .i v1.2.2.1, .i (w64 (m.A + (m.Entries.length : Int))), .i 0, .i 0, .nils, .bool true])], [(190, .z 31 2 0 (x13.1.map e_Entry)), (20180, .z 3 1 0 (([] : List Int).map e_i64)), (40180, .z 3 1 0 (([] : List Int).map e_i64)), (60180, .z 3 1 0 (([] : List Int).map e_i64))], [], []⟩ : S) ?_ ?_
             ·have hF := hv
              refine Nif hF (fun hb hF => ?_) (fun hb hF => ?_)
              ·refine VR [] [4, 6, 7, 8, 9] [4, 6, 7, 8, 9] [190, 20180, 40180, 60180] [] [] [(8, [.i x12.1, .i x12.2.1, .i x12.2.2.1, .i x12.2.2.2.1, .row 190 0, .i x12.2.2.2.2.2.1, .i v9, .row 20180 0, .row 40180 0, .row 60180 0])] [] [] .nil ?_
               cases hF
               exact met [] (by kernel_rfl)
              ·cases hF
               exact met [] (by kernel_rfl)
             ·refine NDL ([(⟨4, x.ID, m.From, v1.2.2.1, w64 (m.A + (m.Entries.length : Int)), 0, 0, ([] : List Entry), true⟩ : Mail)]) (fun v11 : List Mail => ([(5, .sl 9 (v11.map e_Mail))], [(4, [.i x12.1, .i x12.2.1, .i x12.2.2.1, .i x12.2.2.2.1, .row 190 0, .i x12.2.2.2.2.2.1, .i v10, .row 20180 0, .row 40180 0, .row 60180 0]), (6, (c_Fault v))], [], [])) [.sealed] [4, 5, 6] [4, 6] [190, 20180, 40180, 60180] [] .nil (fun v11 hv => ?_)
              have hF := lt_elim hF hv
              cases hF
              exact Wk_ret (hfin _ ⟨[], [], [], [], [], [], by kernel_rfl⟩)
      ·refine NR [] [3, 4, 6, 7, 8, 284] [3, 4, 6, 7, 8] [44, 20044, 40044, 60044] [(284, .bool ((!decide (v1.2.2.2.2.2.1 = 2)) || (!decide (m.Term = v1.2.2.1))))] .nil ?_
       refine Nif hF (fun hb hF => ?_) (fun hb hF => ?_)
       ·refine VD [] [4, 5, 6] [4, 6] [44, 20044, 40044, 60044] [] [(5, .nils)] [(4, [.i v1.1, .i v1.2.1, .i v1.2.2.1, .i v1.2.2.2.1, .row 44 1, .i v1.2.2.2.2.2.1, .i v1.2.2.2.2.2.2.1, .row 20044 0, .row 40044 0, .row 60044 0]), (6, (c_Fault v))] [] [] .nil ?_
        cases hF
        exact Wk_ret (hfin _ ⟨[], [], [], [], [], [], by kernel_rfl⟩)
       ·refine NR [] [3, 4, 6, 7, 8, 16] [3, 4, 6, 7, 8] [44, 20044, 40044, 60044] [(16, .i m.From)] .nil ?_
        refine NR [] [3, 4, 6, 7, 8, 16, 290] [3, 4, 6, 7, 8] [44, 20044, 40044, 60044] [(290, .bool m.Ok)] .nil ?_
        refine Nif hF (fun hb hF => ?_) (fun hb hF => ?_)
        ·refine NR [] [4, 6, 7, 8, 16, 17] [4, 6, 7, 8] [44, 20044, 40044, 60044] [(17, .i m.A)] .nil ?_
         refine NR [.nat (v1.2.2.2.2.1.length : Int)] [4, 6, 7, 8, 16, 17, 297] [4, 6, 7, 8] [44, 20044, 40044, 60044] [(297, .bool (decide ((v1.2.2.2.2.1.length : Int) < m.A)))] (hc (len_ok e_Entry v1.2.2.2.2.1) .nil) ?_
         obtain ⟨v13, hv, hF⟩ := ob_elim hF
         refine Nmeet (⟨[(4, .ptr 4 0), (6, .ptr 6 0), (7, .ptr 7 0), (8, .ptr 8 0), (16, .i m.From), (17, .i v13)], [(4, [.i 0, .i 0, .i 0, .i 0, .nils, .i 0, .i 0, .nils, .nils, .nils]), (6, [.i 0, .i 0]), (7, (c_Fault v)), (8, [.i v1.1, .i v1.2.1, .i v1.2.2.1, .i v1.2.2.2.1, .row 44 1, .i v1.2.2.2.2.2.1, .i v1.2.2.2.2.2.2.1, .row 20044 0, .row 40044 0, .row 60044 0])], [(44, .z 31 2 1 (v1.2.2.2.2.1.map e_Entry)), (20044, .z 3 1 0 (v1.2.2.2.2.2.2.2.1.map e_i64)), (40044, .z 3 1 0 (v1.2.2.2.2.2.2.2.2.1.map e_i64)), (60044, .z 3 1 0 (v1.2.2.2.2.2.2.2.2.2.map e_i64))], [], []⟩ : S) ?_ ?_
         ·have hF := hv
          refine Nif hF (fun hb hF => ?_) (fun hb hF => ?_)
          ·refine NR [.nat (v1.2.2.2.2.1.length : Int)] [4, 6, 7, 8, 16, 17] [4, 6, 7, 8] [44, 20044, 40044, 60044] [(17, .i (v1.2.2.2.2.1.length : Int))] (hc (len_ok e_Entry v1.2.2.2.2.1) .nil) ?_
           cases hF
           exact met [] (by kernel_rfl)
          ·cases hF
           exact met [] (by kernel_rfl)
         ·obtain ⟨h18, hF⟩ := asrt_elim hF
          obtain ⟨h19, hF⟩ := asrt_elim hF
          refine NR [.av (e_i64 (lget v1.2.2.2.2.2.2.2.2.2 m.From))] [4, 6, 7, 8, 16, 17, 307] [4, 6, 7, 8] [44, 20044, 40044, 60044] [(307, .bool (decide ((lget v1.2.2.2.2.2.2.2.2.2 m.From) < v13)))] (hc (ixr_ok e_i64 h18) (hc (ldr_ok e_i64 h19) .nil)) ?_
          obtain ⟨v14, hv, hF⟩ := ob_elim hF
          refine Nmeet (⟨[(4, .ptr 4 0), (6, .ptr 6 0), (7, .ptr 7 0), (8, .ptr 8 0), (16, .i m.From)], [(4, [.i 0, .i 0, .i 0, .i 0, .nils, .i 0, .i 0, .nils, .nils, .nils]), (6, [.i 0, .i 0]), (7, (c_Fault v)), (8, [.i v1.1, .i v1.2.1, .i v1.2.2.1, .i v1.2.2.2.1, .row 44 1, .i v1.2.2.2.2.2.1, .i v1.2.2.2.2.2.2.1, .row 20044 0, .row 40044 0, .row 60044 0])], [(44, .z 31 2 1 (v1.2.2.2.2.1.map e_Entry)), (20044, .z 3 1 0 (v1.2.2.2.2.2.2.2.1.map e_i64)), (40044, .z 3 1 0 (v1.2.2.2.2.2.2.2.2.1.map e_i64)), (60044, .z 3 1 0 (v14.map e_i64))], [], []⟩ : S) ?_ ?_
          ·have hF := hv
           refine Nif hF (fun hb hF => ?_) (fun hb hF => ?_)
           ·obtain ⟨h20, hF⟩ := asrt_elim hF
            obtain ⟨h21, hF⟩ := asrt_elim hF
            refine VR [.av (e_i64 (lget v1.2.2.2.2.2.2.2.2.2 m.From)), .xs ((lset v1.2.2.2.2.2.2.2.2.2 m.From v13).map e_i64)] [4, 6, 7, 8, 16] [4, 6, 7, 8] [44, 20044, 40044, 60044] [] [] [] [(60044, .z 3 1 0 ((lset v1.2.2.2.2.2.2.2.2.2 m.From v13).map e_i64))] [] (hc (ixr_ok e_i64 h20) (hc (ldr_ok e_i64 h21) (hc (set_ok e_i64 v1.2.2.2.2.2.2.2.2.2 m.From v13) (hc (Nat.zero_le m.From.toNat) .nil)))) ?_
            cases hF
            exact met [] (by kernel_rfl)
           ·cases hF
            exact met [] (by kernel_rfl)
          ·obtain ⟨h22, hF⟩ := asrt_elim hF
           obtain ⟨h23, h24, hF⟩ := asrt2 hF
           obtain ⟨h25, hF⟩ := asrt_elim hF
           refine VD [.av (e_i64 (lget v14 m.From)), .av (e_i64 (lget v1.2.2.2.2.2.2.2.2.1 m.From)), .xs ((lset v1.2.2.2.2.2.2.2.2.1 m.From (w64 ((lget v14 m.From) + 1))).map e_i64)] [4, 6, 7, 8] [4, 6, 7, 8] [44, 20044, 40044, 60044] [] [] [] [(40044, .z 3 1 0 ((lset v1.2.2.2.2.2.2.2.2.1 m.From (w64 ((lget v14 m.From) + 1))).map e_i64))] [] (hc (ixr_ok e_i64 h22) (hc (ldr_ok e_i64 h23) (hc (ixr_ok e_i64 h24) (hc (ldr_ok e_i64 h25) (hc (set_ok e_i64 v1.2.2.2.2.2.2.2.2.1 m.From (w64 ((lget v14 m.From) + 1))) (hc (Nat.zero_le m.From.toNat) .nil)))))) ?_
           obtain ⟨x14, h26, hF⟩ := ob_elim hF
           refine VD [.call (.agg (c_Node x14))] [4, 5, 6] [4, 6] [] [] [(5, .nils)] [(4, (c_Node x14)), (6, (c_Fault v))] [] [] (hc (R_Counted_ok (⟨v1.1, v1.2.1, v1.2.2.1, v1.2.2.2.1, v1.2.2.2.2.1, v1.2.2.2.2.2.1, v1.2.2.2.2.2.2.1, v1.2.2.2.2.2.2.2.1, (lset v1.2.2.2.2.2.2.2.2.1 m.From (w64 ((lget v14 m.From) + 1))), v14⟩ : Node) x14 h26) .nil) ?_
           cases hF
           exact Wk_ret (hfin _ ⟨[], [], [], [], [], [], by kernel_rfl⟩)
        ·obtain ⟨h27, hF⟩ := asrt_elim hF
         obtain ⟨h28, hF⟩ := asrt_elim hF
         refine NR [.av (e_i64 (lget v1.2.2.2.2.2.2.2.2.1 m.From))] [3, 4, 6, 7, 8, 16, 18] [3, 4, 6, 7, 8] [44, 20044, 40044, 60044] [(18, .i (w64 ((lget v1.2.2.2.2.2.2.2.2.1 m.From) - 1)))] (hc (ixr_ok e_i64 h27) (hc (ldr_ok e_i64 h28) .nil)) ?_
         refine NR [] [3, 4, 6, 7, 8, 16, 18, 336] [3, 4, 6, 7, 8] [44, 20044, 40044, 60044] [(336, .bool (decide ((w64 (m.A + 1)) < (w64 ((lget v1.2.2.2.2.2.2.2.2.1 m.From) - 1)))))] .nil ?_
         obtain ⟨v15, hv, hF⟩ := ob_elim hF
         refine Nmeet (⟨[(4, .ptr 4 0), (6, .ptr 6 0), (7, .ptr 7 0), (8, .ptr 8 0), (16, .i m.From), (18, .i v15)], [(4, [.i 0, .i 0, .i 0, .i 0, .nils, .i 0, .i 0, .nils, .nils, .nils]), (6, [.i 0, .i 0]), (7, (c_Fault v)), (8, [.i v1.1, .i v1.2.1, .i v1.2.2.1, .i v1.2.2.2.1, .row 44 1, .i v1.2.2.2.2.2.1, .i v1.2.2.2.2.2.2.1, .row 20044 0, .row 40044 0, .row 60044 0])], [(44, .z 31 2 1 (v1.2.2.2.2.1.map e_Entry)), (20044, .z 3 1 0 (v1.2.2.2.2.2.2.2.1.map e_i64)), (40044, .z 3 1 0 (v1.2.2.2.2.2.2.2.2.1.map e_i64)), (60044, .z 3 1 0 (v1.2.2.2.2.2.2.2.2.2.map e_i64))], [], []⟩ : S) ?_ ?_
         ·have hF := hv
          refine Nif hF (fun hb hF => ?_) (fun hb hF => ?_)
          ·refine NR [] [4, 6, 7, 8, 16, 18] [4, 6, 7, 8] [44, 20044, 40044, 60044] [(18, .i (w64 (m.A + 1)))] .nil ?_
           cases hF
           exact met [] (by kernel_rfl)
          ·cases hF
           exact met [] (by kernel_rfl)
         ·obtain ⟨h29, hF⟩ := asrt_elim hF
          obtain ⟨h30, hF⟩ := asrt_elim hF
          refine NR [.av (e_i64 (lget v1.2.2.2.2.2.2.2.2.2 m.From))] [4, 6, 7, 8, 16, 18, 347] [4, 6, 7, 8] [44, 20044, 40044, 60044] [(347, .bool (decide (v15 < (w64 ((lget v1.2.2.2.2.2.2.2.2.2 m.From) + 1)))))] (hc (ixr_ok e_i64 h29) (hc (ldr_ok e_i64 h30) .nil)) ?_
          obtain ⟨v16, hv, hF⟩ := ob_elim hF
          refine Nmeet (⟨[(4, .ptr 4 0), (6, .ptr 6 0), (7, .ptr 7 0), (8, .ptr 8 0), (16, .i m.From), (18, .i v16)], [(4, [.i 0, .i 0, .i 0, .i 0, .nils, .i 0, .i 0, .nils, .nils, .nils]), (6, [.i 0, .i 0]), (7, (c_Fault v)), (8, [.i v1.1, .i v1.2.1, .i v1.2.2.1, .i v1.2.2.2.1, .row 44 1, .i v1.2.2.2.2.2.1, .i v1.2.2.2.2.2.2.1, .row 20044 0, .row 40044 0, .row 60044 0])], [(44, .z 31 2 1 (v1.2.2.2.2.1.map e_Entry)), (20044, .z 3 1 0 (v1.2.2.2.2.2.2.2.1.map e_i64)), (40044, .z 3 1 0 (v1.2.2.2.2.2.2.2.2.1.map e_i64)), (60044, .z 3 1 0 (v1.2.2.2.2.2.2.2.2.2.map e_i64))], [], []⟩ : S) ?_ ?_
          ·have hF := hv
           refine Nif hF (fun hb hF => ?_) (fun hb hF => ?_)
           ·obtain ⟨h31, hF⟩ := asrt_elim hF
            obtain ⟨h32, hF⟩ := asrt_elim hF
            refine NR [.av (e_i64 (lget v1.2.2.2.2.2.2.2.2.2 m.From))] [4, 6, 7, 8, 16, 18] [4, 6, 7, 8] [44, 20044, 40044, 60044] [(18, .i (w64 ((lget v1.2.2.2.2.2.2.2.2.2 m.From) + 1)))] (hc (ixr_ok e_i64 h31) (hc (ldr_ok e_i64 h32) .nil)) ?_
            cases hF
            exact met [] (by kernel_rfl)
           ·cases hF
            exact met [] (by kernel_rfl)
          ·obtain ⟨h33, hF⟩ := asrt_elim hF
           obtain ⟨h34, hF⟩ := asrt_elim hF
           refine VR [.av (e_i64 (lget v1.2.2.2.2.2.2.2.2.1 m.From)), .xs ((lset v1.2.2.2.2.2.2.2.2.1 m.From v16).map e_i64)] [4, 6, 7, 8] [4, 6, 7, 8] [44, 20044, 40044, 60044] [] [] [] [(40044, .z 3 1 0 ((lset v1.2.2.2.2.2.2.2.2.1 m.From v16).map e_i64))] [] (hc (ixr_ok e_i64 h33) (hc (ldr_ok e_i64 h34) (hc (set_ok e_i64 v1.2.2.2.2.2.2.2.2.1 m.From v16) (hc (Nat.zero_le m.From.toNat) .nil)))) ?_
           refine VD [] [4, 5, 6] [4, 6] [44, 20044, 40044, 60044] [] [(5, .nils)] [(4, [.i v1.1, .i v1.2.1, .i v1.2.2.1, .i v1.2.2.2.1, .row 44 1, .i v1.2.2.2.2.2.1, .i v1.2.2.2.2.2.2.1, .row 20044 0, .row 40044 0, .row 60044 0]), (6, (c_Fault v))] [] [] .nil ?_
           cases hF
           exact Wk_ret (hfin _ ⟨[], [], [], [], [], [], by kernel_rfl⟩)

end G
end Go.Proofs.Ytcnngkigpfpalaa
