/- The program's functions as plain functions, and that they are these. Written by a program (dec2.py). -/
import Derived.Test.YtcnngkigpfpalaaGf3
namespace Go.Proofs.Ytcnngkigpfpalaa
open Go Go.Dm
set_option linter.unusedVariables false
set_option linter.unusedSimpArgs false
set_option maxRecDepth 100000
namespace G
/- tabularyref.RestartNode -/
noncomputable def R_RestartNode (x : Node) : Option (Int × Int × Int × Int × List Entry × Int × Int × List Int × List Int × List Int × Fault) :=
 ob (R_NodeFault x) fun x1 =>
 if (!decide (x1.Code = 0)) = true then
  some (0, 0, 0, 0, ([] : List Entry), 0, 0, ([] : List Int), ([] : List Int), ([] : List Int), x1)
 else
  ob (R_Follower x) fun x2 =>
  some (x2.1, x2.2.1, x2.2.2.1, x2.2.2.2.1, x2.2.2.2.2.1, x2.2.2.2.2.2.1, 0, ([] : List Int), ([] : List Int), ([] : List Int), x1)
theorem R_RestartNode_ok (x : Node) (r : Int × Int × Int × Int × List Entry × Int × Int × List Int × List Int × List Int × Fault) (hF : R_RestartNode x = some r) : Pe Try.prog 40 S.none [.agg (c_Node x)] (.tup [.agg [.i r.1, .i r.2.1, .i r.2.2.1, .i r.2.2.2.1, .row 14 0, .i r.2.2.2.2.2.1, .i r.2.2.2.2.2.2.1, .row 20014 0, .row 40014 0, .row 60014 0], .agg (c_Fault r.2.2.2.2.2.2.2.2.2.2)]) ⟨[], [], [(14, .z 31 2 0 (r.2.2.2.2.1.map e_Entry)), (20014, .z 3 1 0 (r.2.2.2.2.2.2.2.1.map e_i64)), (40014, .z 3 1 0 (r.2.2.2.2.2.2.2.2.1.map e_i64)), (60014, .z 3 1 0 (r.2.2.2.2.2.2.2.2.2.1.map e_i64))], [], []⟩ := by
 refine PeN 18 [.cell 2 46, .cell 3 26] [46, 26] Ty.ok Fn.b40 Try.func40 ?_
 intro Q g hfin
 unfold R_RestartNode at hF
 refine VR [] [1, 2, 3] [1, 2, 3] [] [] [(1, .ptr 1 0), (2, .ptr 2 0), (3, .ptr 3 0)] [(1, (c_Node x)), (2, [.i 0, .i 0, .i 0, .i 0, .nils, .i 0, .i 0, .nils, .nils, .nils]), (3, [.i 0, .i 0])] [] [] .nil ?_
 obtain ⟨x1, h0, hF⟩ := ob_elim hF
 refine VR [.callB (.agg (c_Fault x1))] [1, 2, 3, 4] [1, 2, 3, 4] [] [] [(4, .ptr 4 0)] [(4, (c_Fault x1))] [] [] (hc (R_NodeFault_ok x x1 h0) .nil) ?_
 refine NR [] [1, 2, 3, 4, 10] [1, 2, 3, 4] [] [(10, .bool (!decide (x1.Code = 0)))] .nil ?_
 refine Nif hF (fun hb hF => ?_) (fun hb hF => ?_)
 ·refine VD [] [2, 3] [2, 3] [] [] [] [(3, (c_Fault x1))] [] [] .nil ?_
  cases hF
  refine Wk_nilrowB 2 4 60000 31 2 rfl rfl rfl rfl rfl ?_
  refine Wk_nilrowB 2 7 60001 3 1 rfl rfl rfl rfl rfl ?_
  refine Wk_nilrowB 2 8 60002 3 1 rfl rfl rfl rfl rfl ?_
  refine Wk_nilrowB 2 9 60003 3 1 rfl rfl rfl rfl rfl ?_
  refine Wk_ren' ⟨[], [(60000, 14), (60001, 20014), (60002, 40014), (60003, 60014)], [], []⟩ rfl ?_
  exact Wk_ret (hfin _ ⟨[14, 20014, 40014, 60014], [], [14, 20014, 40014, 60014], [], [], [], by kernel_rfl⟩)
 ·obtain ⟨x2, h1, hF⟩ := ob_elim hF
  refine VR [.callE [] [] [] [] (.agg [.i x2.1, .i x2.2.1, .i x2.2.2.1, .i x2.2.2.2.1, .row 14 1, .i x2.2.2.2.2.2.1, .i x2.2.2.2.2.2.2, .row 20014 0, .row 40014 0, .row 60014 0]) ⟨[], [], [(14, .z 31 2 1 (x2.2.2.2.2.1.map e_Entry)), (20014, .z 3 1 0 (([] : List Int).map e_i64)), (40014, .z 3 1 0 (([] : List Int).map e_i64)), (60014, .z 3 1 0 (([] : List Int).map e_i64))], [], []⟩] [2, 3, 4, 5] [2, 3, 4, 5] [14, 20014, 40014, 60014] [] [(5, .ptr 5 0)] [(5, [.i x2.1, .i x2.2.1, .i x2.2.2.1, .i x2.2.2.2.1, .row 14 1, .i x2.2.2.2.2.2.1, .i x2.2.2.2.2.2.2, .row 20014 0, .row 40014 0, .row 60014 0])] [(14, .z 31 2 1 (x2.2.2.2.2.1.map e_Entry)), (20014, .z 3 1 0 (([] : List Int).map e_i64)), (40014, .z 3 1 0 (([] : List Int).map e_i64)), (60014, .z 3 1 0 (([] : List Int).map e_i64))] [] (hc (Pe.ren (R_Follower_ok x x2 h1) ⟨[], [(13, 14), (71001, 20014), (71002, 40014), (71003, 60014)], [], []⟩) .nil) ?_
  refine VR [] [2, 3, 4, 5] [2, 3, 4, 5] [14, 20014, 40014, 60014] [] [] [(5, [.i x2.1, .i x2.2.1, .i x2.2.2.1, .i x2.2.2.2.1, .row 14 1, .i x2.2.2.2.2.2.1, .i 0, .row 20014 0, .row 40014 0, .row 60014 0])] [] [] .nil ?_
  refine VD [] [2, 3] [2, 3] [14, 20014, 40014, 60014] [] [] [(2, [.i x2.1, .i x2.2.1, .i x2.2.2.1, .i x2.2.2.2.1, .row 14 1, .i x2.2.2.2.2.2.1, .i 0, .row 20014 0, .row 40014 0, .row 60014 0]), (3, (c_Fault x1))] [] [] .nil ?_
  cases hF
  exact Wk_ret (hfin _ ⟨[14, 20014, 40014, 60014], [], [14, 20014, 40014, 60014], [], [], [(14, ⟨0, true, true, false⟩)], by kernel_rfl⟩)

/- tabularyref.GameStep -/
noncomputable def R_GameStep_J1 (g0 : Game) (d : Deed) (v : List Mail × Int × Int × Int × Int × Int × Int × List Entry × Int × Int × List Int × List Int × List Int × List Mail × Fault) : Option (List Node × List Mail × Int × Int) :=
 ob (
  if (((!decide (d.Kind = 4)) && (!decide (d.Kind = 5))) && (decide (v.2.2.2.2.2.2.2.2.2.2.2.2.2.2.Code = 0))) = true then
   asrt (0 ≤ v.2.2.1 ∧ v.2.2.1 < (g0.C0.Nodes.length : Int)) <|
   asrt (0 ≤ v.2.2.1 ∧ v.2.2.1 < (g0.C0.Nodes.length : Int)) <|
   lt ((lset g0.C0.Nodes v.2.2.1 (⟨v.2.2.2.1, v.2.2.2.2.1, v.2.2.2.2.2.1, v.2.2.2.2.2.2.1, v.2.2.2.2.2.2.2.1, v.2.2.2.2.2.2.2.2.1, v.2.2.2.2.2.2.2.2.2.1, v.2.2.2.2.2.2.2.2.2.2.1, v.2.2.2.2.2.2.2.2.2.2.2.1, v.2.2.2.2.2.2.2.2.2.2.2.2.1⟩ : Node))) fun (v2 : List Node) =>
   asrt (((v.1 ++ v.2.2.2.2.2.2.2.2.2.2.2.2.2.1).length : Int) * 88 ≤ 140737488351232) <|
   some (v2, (v.1 ++ v.2.2.2.2.2.2.2.2.2.2.2.2.2.1))
  else
   some (g0.C0.Nodes, v.1)) fun (v1 : List Node × List Mail) =>
 if (decide (200 < (v1.2.length : Int))) = true then
  some (v1.1, v1.2, v.2.1, 9)
 else
  some (v1.1, v1.2, v.2.1, 0)
noncomputable def R_GameStep (g0 : Game) (texts : List (List UInt8)) (d : Deed) : Option (List Node × List Mail × Int × Int) :=
 asrt ((g0.C0.Nodes.length : Int) * 144 ≤ 140737488351232) <|
 asrt ((g0.C0.Way.length : Int) * 88 ≤ 140737488351232) <|
 if ((decide (d.Kind < 0)) || (decide (6 < d.Kind))) = true then
  some (g0.C0.Nodes, g0.C0.Way, g0.K, 4)
 else
  if ((((decide (3 ≤ d.Kind)) && (decide (d.Kind ≤ 5))) && ((decide (d.N < 0)) || (decide ((g0.C0.Way.length : Int) ≤ d.N)))) || ((!((decide (3 ≤ d.Kind)) && (decide (d.Kind ≤ 5)))) && ((decide (d.Who < 0)) || (decide ((g0.C0.Nodes.length : Int) ≤ d.Who))))) = true then
   some (g0.C0.Nodes, g0.C0.Way, g0.K, 3)
  else
   if (decide (d.Kind = 0)) = true then
    asrt (0 ≤ d.Who ∧ d.Who < (g0.C0.Nodes.length : Int)) <|
    ob (R_StandNode (⟨(lget g0.C0.Nodes d.Who).N, (lget g0.C0.Nodes d.Who).ID, (lget g0.C0.Nodes d.Who).Term, (lget g0.C0.Nodes d.Who).Vote, (lget g0.C0.Nodes d.Who).Log, (lget g0.C0.Nodes d.Who).Role, (lget g0.C0.Nodes d.Who).Commit, (lget g0.C0.Nodes d.Who).Votes, (lget g0.C0.Nodes d.Who).Next, (lget g0.C0.Nodes d.Who).Have⟩ : Node)) fun x =>
    R_GameStep_J1 g0 d (g0.C0.Way, g0.K, d.Who, x.1.N, x.1.ID, x.1.Term, x.1.Vote, x.1.Log, x.1.Role, x.1.Commit, x.1.Votes, x.1.Next, x.1.Have, x.2.1, x.2.2)
   else
    if (decide (d.Kind = 1)) = true then
     if (decide ((texts.length : Int) ≤ g0.K)) = true then
      some (g0.C0.Nodes, g0.C0.Way, g0.K, 6)
     else
      asrt (0 ≤ d.Who ∧ d.Who < (g0.C0.Nodes.length : Int)) <|
      asrt (0 ≤ g0.K ∧ g0.K < (texts.length : Int)) <|
      ob (R_ProposeNode (⟨(lget g0.C0.Nodes d.Who).N, (lget g0.C0.Nodes d.Who).ID, (lget g0.C0.Nodes d.Who).Term, (lget g0.C0.Nodes d.Who).Vote, (lget g0.C0.Nodes d.Who).Log, (lget g0.C0.Nodes d.Who).Role, (lget g0.C0.Nodes d.Who).Commit, (lget g0.C0.Nodes d.Who).Votes, (lget g0.C0.Nodes d.Who).Next, (lget g0.C0.Nodes d.Who).Have⟩ : Node) (lget texts g0.K)) fun x1 =>
      if (decide (x1.2.Code = 0)) = true then
       R_GameStep_J1 g0 d (g0.C0.Way, w64 (g0.K + 1), d.Who, x1.1.N, x1.1.ID, x1.1.Term, x1.1.Vote, x1.1.Log, x1.1.Role, x1.1.Commit, x1.1.Votes, x1.1.Next, x1.1.Have, ([] : List Mail), x1.2)
      else
       R_GameStep_J1 g0 d (g0.C0.Way, g0.K, d.Who, x1.1.N, x1.1.ID, x1.1.Term, x1.1.Vote, x1.1.Log, x1.1.Role, x1.1.Commit, x1.1.Votes, x1.1.Next, x1.1.Have, ([] : List Mail), x1.2)
    else
     if (decide (d.Kind = 2)) = true then
      asrt (0 ≤ d.Who ∧ d.Who < (g0.C0.Nodes.length : Int)) <|
      ob (R_BeatNode (⟨(lget g0.C0.Nodes d.Who).N, (lget g0.C0.Nodes d.Who).ID, (lget g0.C0.Nodes d.Who).Term, (lget g0.C0.Nodes d.Who).Vote, (lget g0.C0.Nodes d.Who).Log, (lget g0.C0.Nodes d.Who).Role, (lget g0.C0.Nodes d.Who).Commit, (lget g0.C0.Nodes d.Who).Votes, (lget g0.C0.Nodes d.Who).Next, (lget g0.C0.Nodes d.Who).Have⟩ : Node)) fun x2 =>
      R_GameStep_J1 g0 d (g0.C0.Way, g0.K, d.Who, (lget g0.C0.Nodes d.Who).N, (lget g0.C0.Nodes d.Who).ID, (lget g0.C0.Nodes d.Who).Term, (lget g0.C0.Nodes d.Who).Vote, (lget g0.C0.Nodes d.Who).Log, (lget g0.C0.Nodes d.Who).Role, (lget g0.C0.Nodes d.Who).Commit, (lget g0.C0.Nodes d.Who).Votes, (lget g0.C0.Nodes d.Who).Next, (lget g0.C0.Nodes d.Who).Have, x2.1, x2.2)
     else
      if (decide (d.Kind = 3)) = true then
       asrt (0 ≤ d.N ∧ d.N < (g0.C0.Way.length : Int)) <|
       ob (R_Without g0.C0.Way d.N) fun x3 =>
       asrt (0 ≤ (lget g0.C0.Way d.N).To ∧ (lget g0.C0.Way d.N).To < (g0.C0.Nodes.length : Int)) <|
       ob (R_TakeNode (⟨(lget g0.C0.Nodes ((lget g0.C0.Way d.N).To)).N, (lget g0.C0.Nodes ((lget g0.C0.Way d.N).To)).ID, (lget g0.C0.Nodes ((lget g0.C0.Way d.N).To)).Term, (lget g0.C0.Nodes ((lget g0.C0.Way d.N).To)).Vote, (lget g0.C0.Nodes ((lget g0.C0.Way d.N).To)).Log, (lget g0.C0.Nodes ((lget g0.C0.Way d.N).To)).Role, (lget g0.C0.Nodes ((lget g0.C0.Way d.N).To)).Commit, (lget g0.C0.Nodes ((lget g0.C0.Way d.N).To)).Votes, (lget g0.C0.Nodes ((lget g0.C0.Way d.N).To)).Next, (lget g0.C0.Nodes ((lget g0.C0.Way d.N).To)).Have⟩ : Node) (⟨(lget g0.C0.Way d.N).Kind, (lget g0.C0.Way d.N).From, (lget g0.C0.Way d.N).To, (lget g0.C0.Way d.N).Term, (lget g0.C0.Way d.N).A, (lget g0.C0.Way d.N).B, (lget g0.C0.Way d.N).C0, (lget g0.C0.Way d.N).Entries, (lget g0.C0.Way d.N).Ok⟩ : Mail)) fun x4 =>
       R_GameStep_J1 g0 d (x3, g0.K, (lget g0.C0.Way d.N).To, x4.1, x4.2.1, x4.2.2.1, x4.2.2.2.1, x4.2.2.2.2.1, x4.2.2.2.2.2.1, x4.2.2.2.2.2.2.1, x4.2.2.2.2.2.2.2.1, x4.2.2.2.2.2.2.2.2.1, x4.2.2.2.2.2.2.2.2.2.1, x4.2.2.2.2.2.2.2.2.2.2.1, x4.2.2.2.2.2.2.2.2.2.2.2)
      else
       if (decide (d.Kind = 4)) = true then
        asrt (0 ≤ d.N ∧ d.N < (g0.C0.Way.length : Int)) <|
        asrt (((g0.C0.Way ++ [(⟨(lget g0.C0.Way d.N).Kind, (lget g0.C0.Way d.N).From, (lget g0.C0.Way d.N).To, (lget g0.C0.Way d.N).Term, (lget g0.C0.Way d.N).A, (lget g0.C0.Way d.N).B, (lget g0.C0.Way d.N).C0, (lget g0.C0.Way d.N).Entries, (lget g0.C0.Way d.N).Ok⟩ : Mail)]).length : Int) * 88 ≤ 140737488351232) <|
        lt ((g0.C0.Way ++ [(⟨(lget g0.C0.Way d.N).Kind, (lget g0.C0.Way d.N).From, (lget g0.C0.Way d.N).To, (lget g0.C0.Way d.N).Term, (lget g0.C0.Way d.N).A, (lget g0.C0.Way d.N).B, (lget g0.C0.Way d.N).C0, (lget g0.C0.Way d.N).Entries, (lget g0.C0.Way d.N).Ok⟩ : Mail)])) fun (v3 : List Mail) =>
        R_GameStep_J1 g0 d (v3, g0.K, d.Who, 0, 0, 0, 0, ([] : List Entry), 0, 0, ([] : List Int), ([] : List Int), ([] : List Int), ([] : List Mail), (⟨0, 0⟩ : Fault))
       else
        if (decide (d.Kind = 5)) = true then
         ob (R_Without g0.C0.Way d.N) fun x5 =>
         R_GameStep_J1 g0 d (x5, g0.K, d.Who, 0, 0, 0, 0, ([] : List Entry), 0, 0, ([] : List Int), ([] : List Int), ([] : List Int), ([] : List Mail), (⟨0, 0⟩ : Fault))
        else
         if (decide (d.Kind = 6)) = true then
          asrt (0 ≤ d.Who ∧ d.Who < (g0.C0.Nodes.length : Int)) <|
          ob (R_RestartNode (⟨(lget g0.C0.Nodes d.Who).N, (lget g0.C0.Nodes d.Who).ID, (lget g0.C0.Nodes d.Who).Term, (lget g0.C0.Nodes d.Who).Vote, (lget g0.C0.Nodes d.Who).Log, (lget g0.C0.Nodes d.Who).Role, (lget g0.C0.Nodes d.Who).Commit, (lget g0.C0.Nodes d.Who).Votes, (lget g0.C0.Nodes d.Who).Next, (lget g0.C0.Nodes d.Who).Have⟩ : Node)) fun x6 =>
          R_GameStep_J1 g0 d (g0.C0.Way, g0.K, d.Who, x6.1, x6.2.1, x6.2.2.1, x6.2.2.2.1, x6.2.2.2.2.1, x6.2.2.2.2.2.1, x6.2.2.2.2.2.2.1, x6.2.2.2.2.2.2.2.1, x6.2.2.2.2.2.2.2.2.1, x6.2.2.2.2.2.2.2.2.2.1, ([] : List Mail), x6.2.2.2.2.2.2.2.2.2.2)
         else
          R_GameStep_J1 g0 d (g0.C0.Way, g0.K, d.Who, 0, 0, 0, 0, ([] : List Entry), 0, 0, ([] : List Int), ([] : List Int), ([] : List Int), ([] : List Mail), (⟨0, 0⟩ : Fault))
theorem R_GameStep_ok (g0 : Game) (texts : List (List UInt8)) (d : Deed) (r : List Node × List Mail × Int × Int) (hF : R_GameStep g0 texts d = some r) : Pe Try.prog 88 S.none [.agg (c_Game g0), .sl 1 (texts.map e_str), .agg (c_Deed d)] (.tup [.agg [.row 24 1, .row 33 0, .i r.2.2.1], .i r.2.2.2]) ⟨[], [], [(24, .z 46 10 1 (r.1.map e_Node)), (33, .z 62 9 0 (r.2.1.map e_Mail))], [], []⟩ := by
 refine PeN 250 [.cell 6 82, .tmp 7] [82, 3] Ty.ok Fn.b88 Try.func88 ?_
 intro Q g hfin
 unfold R_GameStep at hF
 refine VR [] [1, 3, 5, 6] [3, 5, 6] [] [] [(3, .ptr 3 0), (5, .ptr 5 0), (6, .ptr 6 0)] [(3, (c_Game g0)), (5, (c_Deed d)), (6, [.nils, .nils, .i 0])] [] [] .nil ?_
 refine VR [] [1, 3, 5, 6, 8] [3, 5, 6, 8] [] [] [(8, .ptr 8 0)] [(8, [.nils, .nils, .i g0.K])] [] [] .nil ?_
 obtain ⟨h0, hF⟩ := asrt_elim hF
 refine VR [.xs (g0.C0.Nodes.map e_Node)] [1, 3, 5, 6, 8] [3, 5, 6, 8] [24] [] [] [(8, [.row 24 1, .nils, .i g0.K])] [(24, .z 46 10 1 (g0.C0.Nodes.map e_Node))] [] (hc (app0_ok e_Node g0.C0.Nodes) (hc (appl_ok e_Node h0) .nil)) ?_
 obtain ⟨h1, hF⟩ := asrt_elim hF
 refine VR [.xs (g0.C0.Way.map e_Mail)] [1, 3, 5, 6, 8] [3, 5, 6, 8] [24, 33] [] [] [(8, [.row 24 1, .row 33 1, .i g0.K])] [(33, .z 62 9 1 (g0.C0.Way.map e_Mail))] [] (hc (app0_ok e_Mail g0.C0.Way) (hc (appl_ok e_Mail h1) .nil)) ?_
 refine NR [] [1, 3, 5, 6, 8, 43] [3, 5, 6, 8] [24, 33] [(43, .bool ((decide (d.Kind < 0)) || (decide (6 < d.Kind))))] .nil ?_
 refine Nif hF (fun hb hF => ?_) (fun hb hF => ?_)
 ·refine VR [] [6, 7] [6] [24, 33] [] [(7, .i 4)] [(6, [.row 24 1, .row 33 1, .i g0.K])] [] [] .nil ?_
  cases hF
  exact Wk_ret (hfin _ ⟨[24, 33], [], [24, 33], [], [], [(33, ⟨0, true, true, false⟩)], by kernel_rfl⟩)
 ·refine NR [] [1, 3, 5, 6, 8, 9] [3, 5, 6, 8] [24, 33] [(9, .bool ((decide (3 ≤ d.Kind)) && (decide (d.Kind ≤ 5))))] .nil ?_
  refine NR [.nat (g0.C0.Way.length : Int), .nat (g0.C0.Nodes.length : Int)] [1, 3, 5, 6, 8, 85] [3, 5, 6, 8] [24, 33] [(85, .bool ((((decide (3 ≤ d.Kind)) && (decide (d.Kind ≤ 5))) && ((decide (d.N < 0)) || (decide ((g0.C0.Way.length : Int) ≤ d.N)))) || ((!((decide (3 ≤ d.Kind)) && (decide (d.Kind ≤ 5)))) && ((decide (d.Who < 0)) || (decide ((g0.C0.Nodes.length : Int) ≤ d.Who))))))] (hc (fun (_ : (!(decide (d.N < 0))) = true) (_ : ((decide (3 ≤ d.Kind)) && (decide (d.Kind ≤ 5))) = true) => (len_ok e_Mail g0.C0.Way)) (hc (fun (_ : (!(decide (d.Who < 0))) = true) (_ : (!((decide (3 ≤ d.Kind)) && (decide (d.Kind ≤ 5)))) = true) (_ : (!(((decide (3 ≤ d.Kind)) && (decide (d.Kind ≤ 5))) && ((decide (d.N < 0)) || (decide ((g0.C0.Way.length : Int) ≤ d.N))))) = true) => (len_ok e_Node g0.C0.Nodes)) .nil)) ?_
  refine Nif hF (fun hb hF => ?_) (fun hb hF => ?_)
  ·refine VR [] [6, 7] [6] [24, 33] [] [(7, .i 3)] [(6, [.row 24 1, .row 33 1, .i g0.K])] [] [] .nil ?_
   cases hF
   exact Wk_ret (hfin _ ⟨[24, 33], [], [24, 33], [], [], [(33, ⟨0, true, true, false⟩)], by kernel_rfl⟩)
  ·refine NR [] [1, 3, 5, 6, 8, 10] [3, 5, 6, 8] [24, 33] [(10, .i d.Who)] .nil ?_
   refine VR [] [1, 3, 5, 6, 8, 10, 11] [3, 5, 6, 8, 11] [24, 33] [] [(11, .ptr 11 0)] [(11, [.i 0, .i 0, .i 0, .i 0, .nils, .i 0, .i 0, .nils, .nils, .nils])] [] [] .nil ?_
   refine NR [] [1, 3, 5, 6, 8, 10, 11, 12] [3, 5, 6, 8, 11] [24, 33] [(12, .nils)] .nil ?_
   refine VR [] [1, 3, 5, 6, 8, 10, 11, 12, 13] [3, 5, 6, 8, 11, 13] [24, 33] [] [(13, .ptr 13 0)] [(13, [.i 0, .i 0])] [] [] .nil ?_
   refine NR [] [1, 3, 5, 6, 8, 10, 11, 12, 13, 91] [3, 5, 6, 8, 11, 13] [24, 33] [(91, .i d.Kind)] .nil ?_
   refine Nblk ?_
   refine NR [] [1, 3, 5, 6, 8, 10, 11, 12, 13, 91, 92] [3, 5, 6, 8, 11, 13] [24, 33] [(92, .bool (decide (d.Kind = 0)))] .nil ?_
   refine NmeetP (fun v : List Mail × Int × Int × Int × Int × Int × Int × List Entry × Int × Int × List Int × List Int × List Int × List Mail × Fault => (⟨[(5, .ptr 5 0), (6, .ptr 6 0), (8, .ptr 8 0), (10, .i v.2.2.1), (11, .ptr 11 0), (12, .sl 9 (v.2.2.2.2.2.2.2.2.2.2.2.2.2.1.map e_Mail)), (13, .ptr 13 0)], [(5, (c_Deed d)), (6, [.nils, .nils, .i 0]), (8, [.row 24 1, .row 33 0, .i v.2.1]), (11, [.i v.2.2.2.1, .i v.2.2.2.2.1, .i v.2.2.2.2.2.1, .i v.2.2.2.2.2.2.1, .sl 2 (v.2.2.2.2.2.2.2.1.map e_Entry), .i v.2.2.2.2.2.2.2.2.1, .i v.2.2.2.2.2.2.2.2.2.1, .sl 1 (v.2.2.2.2.2.2.2.2.2.2.1.map e_i64), .sl 1 (v.2.2.2.2.2.2.2.2.2.2.2.1.map e_i64), .sl 1 (v.2.2.2.2.2.2.2.2.2.2.2.2.1.map e_i64)]), (13, (c_Fault v.2.2.2.2.2.2.2.2.2.2.2.2.2.2))], [(24, .z 46 10 1 (g0.C0.Nodes.map e_Node)), (33, .z 62 9 0 (v.1.map e_Mail))], [], []⟩ : S)) (fun v => R_GameStep_J1 g0 d v = some r) ?_ ?_
   ·refine Nif hF (fun hb hF => ?_) (fun hb hF => ?_)
    ·obtain ⟨h5, hF⟩ := asrt_elim hF
     obtain ⟨x, h6, hF⟩ := ob_elim hF
     refine VR [.av (e_Node (lget g0.C0.Nodes d.Who)), .callE [] [] [] [] (.tup [.agg (c_Node x.1), .row 101 0, .agg (c_Fault x.2.2)]) ⟨[], [], [(101, .z 62 9 0 (x.2.1.map e_Mail))], [], []⟩] [5, 6, 8, 10, 11, 12, 13] [5, 6, 8, 11, 13] [24, 33, 101] [] [(12, .row 101 0)] [(11, (c_Node x.1)), (13, (c_Fault x.2.2))] [(101, .z 62 9 0 (x.2.1.map e_Mail))] [] (hc (idx_ok e_Node h5) (hc (Pe.ren (R_StandNode_ok (⟨(lget g0.C0.Nodes d.Who).N, (lget g0.C0.Nodes d.Who).ID, (lget g0.C0.Nodes d.Who).Term, (lget g0.C0.Nodes d.Who).Vote, (lget g0.C0.Nodes d.Who).Log, (lget g0.C0.Nodes d.Who).Role, (lget g0.C0.Nodes d.Who).Commit, (lget g0.C0.Nodes d.Who).Votes, (lget g0.C0.Nodes d.Who).Next, (lget g0.C0.Nodes d.Who).Have⟩ : Node) x h6) ⟨[], [(73, 101)], [], []⟩) .nil)) ?_
     refine Wk_sealX [] 12 rfl rfl ?_
     exact metP (g0.C0.Way, g0.K, d.Who, x.1.N, x.1.ID, x.1.Term, x.1.Vote, x.1.Log, x.1.Role, x.1.Commit, x.1.Votes, x.1.Next, x.1.Have, x.2.1, x.2.2) [(33, ⟨0, true, true, false⟩)] hF (by kernel_rfl)
    ·refine NR [] [1, 3, 5, 6, 8, 10, 11, 12, 13, 91, 105] [3, 5, 6, 8, 11, 13] [24, 33] [(105, .bool (decide (d.Kind = 1)))] .nil ?_
     refine Nif hF (fun hb hF => ?_) (fun hb hF => ?_)
     ·refine NR [.nat (texts.length : Int)] [1, 3, 5, 6, 8, 10, 11, 12, 13, 111] [3, 5, 6, 8, 11, 13] [24, 33] [(111, .bool (decide ((texts.length : Int) ≤ g0.K)))] (hc (len_ok e_str texts) .nil) ?_
      refine Nif hF (fun hb hF => ?_) (fun hb hF => ?_)
      ·refine VR [] [6, 7] [6] [24, 33] [] [(7, .i 6)] [(6, [.row 24 1, .row 33 1, .i g0.K])] [] [] .nil ?_
       cases hF
       exact Wk_ret (hfin _ ⟨[24, 33], [], [24, 33], [], [], [(33, ⟨0, true, true, false⟩)], by kernel_rfl⟩)
      ·obtain ⟨h7, hF⟩ := asrt_elim hF
       obtain ⟨h8, hF⟩ := asrt_elim hF
       obtain ⟨x1, h9, hF⟩ := ob_elim hF
       refine VD [.av (e_Node (lget g0.C0.Nodes d.Who)), .av (e_str (lget texts g0.K)), .call (.tup [.agg (c_Node x1.1), .agg (c_Fault x1.2)])] [3, 5, 6, 8, 10, 11, 12, 13] [3, 5, 6, 8, 11, 13] [24, 33] [] [] [(11, (c_Node x1.1)), (13, (c_Fault x1.2))] [] [] (hc (idx_ok e_Node h7) (hc (idx_ok e_str h8) (hc (R_ProposeNode_ok (⟨(lget g0.C0.Nodes d.Who).N, (lget g0.C0.Nodes d.Who).ID, (lget g0.C0.Nodes d.Who).Term, (lget g0.C0.Nodes d.Who).Vote, (lget g0.C0.Nodes d.Who).Log, (lget g0.C0.Nodes d.Who).Role, (lget g0.C0.Nodes d.Who).Commit, (lget g0.C0.Nodes d.Who).Votes, (lget g0.C0.Nodes d.Who).Next, (lget g0.C0.Nodes d.Who).Have⟩ : Node) (lget texts g0.K) x1 h9) .nil))) ?_
       refine NR [] [3, 5, 6, 8, 10, 11, 12, 13, 130] [3, 5, 6, 8, 11, 13] [24, 33] [(130, .bool (decide (x1.2.Code = 0)))] .nil ?_
       refine Nif hF (fun hb hF => ?_) (fun hb hF => ?_)
       ·refine VR [] [5, 6, 8, 10, 11, 12, 13] [5, 6, 8, 11, 13] [24, 33] [] [] [(8, [.row 24 1, .row 33 1, .i (w64 (g0.K + 1))])] [] [] .nil ?_
        refine Wk_coe 12 (.sl 9 (([] : List Mail).map e_Mail)) rfl (.cell rfl (CoeS.nils 9)) ?_
        exact metP (g0.C0.Way, w64 (g0.K + 1), d.Who, x1.1.N, x1.1.ID, x1.1.Term, x1.1.Vote, x1.1.Log, x1.1.Role, x1.1.Commit, x1.1.Votes, x1.1.Next, x1.1.Have, ([] : List Mail), x1.2) [(33, ⟨0, true, true, false⟩)] hF (by kernel_rfl)
       ·refine Wk_coe 12 (.sl 9 (([] : List Mail).map e_Mail)) rfl (.cell rfl (CoeS.nils 9)) ?_
        exact metP (g0.C0.Way, g0.K, d.Who, x1.1.N, x1.1.ID, x1.1.Term, x1.1.Vote, x1.1.Log, x1.1.Role, x1.1.Commit, x1.1.Votes, x1.1.Next, x1.1.Have, ([] : List Mail), x1.2) [(33, ⟨0, true, true, false⟩)] hF (by kernel_rfl)
     ·refine NR [] [3, 5, 6, 8, 10, 11, 12, 13, 91, 135] [3, 5, 6, 8, 11, 13] [24, 33] [(135, .bool (decide (d.Kind = 2)))] .nil ?_
      refine Nif hF (fun hb hF => ?_) (fun hb hF => ?_)
      ·obtain ⟨h10, hF⟩ := asrt_elim hF
       refine VR [.av (e_Node (lget g0.C0.Nodes d.Who))] [5, 6, 8, 10, 11, 13] [5, 6, 8, 11, 13] [24, 33] [] [] [(11, (c_Node (lget g0.C0.Nodes d.Who)))] [] [] (hc (idx_ok e_Node h10) .nil) ?_
       obtain ⟨x2, h11, hF⟩ := ob_elim hF
       refine VR [.callE [] [] [] [] (.tup [.row 145 0, .agg (c_Fault x2.2)]) ⟨[], [], [(145, .z 62 9 0 (x2.1.map e_Mail))], [], []⟩] [5, 6, 8, 10, 11, 12, 13] [5, 6, 8, 11, 13] [24, 33, 145] [] [(12, .row 145 0)] [(13, (c_Fault x2.2))] [(145, .z 62 9 0 (x2.1.map e_Mail))] [] (hc (Pe.ren (R_BeatNode_ok (⟨(lget g0.C0.Nodes d.Who).N, (lget g0.C0.Nodes d.Who).ID, (lget g0.C0.Nodes d.Who).Term, (lget g0.C0.Nodes d.Who).Vote, (lget g0.C0.Nodes d.Who).Log, (lget g0.C0.Nodes d.Who).Role, (lget g0.C0.Nodes d.Who).Commit, (lget g0.C0.Nodes d.Who).Votes, (lget g0.C0.Nodes d.Who).Next, (lget g0.C0.Nodes d.Who).Have⟩ : Node) x2 h11) ⟨[], [(21, 145)], [], []⟩) .nil) ?_
       refine Wk_sealX [] 12 rfl rfl ?_
       exact metP (g0.C0.Way, g0.K, d.Who, (lget g0.C0.Nodes d.Who).N, (lget g0.C0.Nodes d.Who).ID, (lget g0.C0.Nodes d.Who).Term, (lget g0.C0.Nodes d.Who).Vote, (lget g0.C0.Nodes d.Who).Log, (lget g0.C0.Nodes d.Who).Role, (lget g0.C0.Nodes d.Who).Commit, (lget g0.C0.Nodes d.Who).Votes, (lget g0.C0.Nodes d.Who).Next, (lget g0.C0.Nodes d.Who).Have, x2.1, x2.2) [(33, ⟨0, true, true, false⟩)] hF (by kernel_rfl)
      ·refine NR [] [3, 5, 6, 8, 10, 11, 12, 13, 91, 148] [3, 5, 6, 8, 11, 13] [24, 33] [(148, .bool (decide (d.Kind = 3)))] .nil ?_
       refine Nif hF (fun hb hF => ?_) (fun hb hF => ?_)
       ·obtain ⟨h12, hF⟩ := asrt_elim hF
        refine VR [.av (e_Mail (lget g0.C0.Way d.N))] [3, 5, 6, 8, 11, 13, 14] [3, 5, 6, 8, 11, 13, 14] [24, 33] [] [(14, .ptr 14 0)] [(14, (c_Mail (lget g0.C0.Way d.N)))] [] [] (hc (idx_ok e_Mail h12) .nil) ?_
        obtain ⟨x3, h13, hF⟩ := ob_elim hF
        refine VR [.callE [] [] [] [] (.row 162 0) ⟨[], [], [(162, .z 62 9 0 (x3.map e_Mail))], [], []⟩] [3, 5, 6, 8, 11, 13, 14] [3, 5, 6, 8, 11, 13, 14] [24, 162] [] [] [(8, [.row 24 1, .row 162 0, .i g0.K])] [(162, .z 62 9 0 (x3.map e_Mail))] [] (hc (Pe.ren (R_Without_ok g0.C0.Way d.N x3 h13) ⟨[], [(22, 162)], [], []⟩) .nil) ?_
        refine NR [] [3, 5, 6, 8, 10, 11, 13, 14] [3, 5, 6, 8, 11, 13, 14] [24, 162] [(10, .i ((lget g0.C0.Way d.N).To))] .nil ?_
        obtain ⟨h14, hF⟩ := asrt_elim hF
        obtain ⟨x4, h15, hF⟩ := ob_elim hF
        refine VD [.av (e_Node (lget g0.C0.Nodes ((lget g0.C0.Way d.N).To))), .call (.tup [.agg [.i x4.1, .i x4.2.1, .i x4.2.2.1, .i x4.2.2.2.1, .sl 2 (x4.2.2.2.2.1.map e_Entry), .i x4.2.2.2.2.2.1, .i x4.2.2.2.2.2.2.1, .sl 1 (x4.2.2.2.2.2.2.2.1.map e_i64), .sl 1 (x4.2.2.2.2.2.2.2.2.1.map e_i64), .sl 1 (x4.2.2.2.2.2.2.2.2.2.1.map e_i64)], .sl 9 (x4.2.2.2.2.2.2.2.2.2.2.1.map e_Mail), .agg (c_Fault x4.2.2.2.2.2.2.2.2.2.2.2)])] [5, 6, 8, 10, 11, 12, 13] [5, 6, 8, 11, 13] [24, 162] [] [(12, .sl 9 (x4.2.2.2.2.2.2.2.2.2.2.1.map e_Mail))] [(11, [.i x4.1, .i x4.2.1, .i x4.2.2.1, .i x4.2.2.2.1, .sl 2 (x4.2.2.2.2.1.map e_Entry), .i x4.2.2.2.2.2.1, .i x4.2.2.2.2.2.2.1, .sl 1 (x4.2.2.2.2.2.2.2.1.map e_i64), .sl 1 (x4.2.2.2.2.2.2.2.2.1.map e_i64), .sl 1 (x4.2.2.2.2.2.2.2.2.2.1.map e_i64)]), (13, (c_Fault x4.2.2.2.2.2.2.2.2.2.2.2))] [] [] (hc (idx_ok e_Node h14) (hc (R_TakeNode_ok (⟨(lget g0.C0.Nodes ((lget g0.C0.Way d.N).To)).N, (lget g0.C0.Nodes ((lget g0.C0.Way d.N).To)).ID, (lget g0.C0.Nodes ((lget g0.C0.Way d.N).To)).Term, (lget g0.C0.Nodes ((lget g0.C0.Way d.N).To)).Vote, (lget g0.C0.Nodes ((lget g0.C0.Way d.N).To)).Log, (lget g0.C0.Nodes ((lget g0.C0.Way d.N).To)).Role, (lget g0.C0.Nodes ((lget g0.C0.Way d.N).To)).Commit, (lget g0.C0.Nodes ((lget g0.C0.Way d.N).To)).Votes, (lget g0.C0.Nodes ((lget g0.C0.Way d.N).To)).Next, (lget g0.C0.Nodes ((lget g0.C0.Way d.N).To)).Have⟩ : Node) (⟨(lget g0.C0.Way d.N).Kind, (lget g0.C0.Way d.N).From, (lget g0.C0.Way d.N).To, (lget g0.C0.Way d.N).Term, (lget g0.C0.Way d.N).A, (lget g0.C0.Way d.N).B, (lget g0.C0.Way d.N).C0, (lget g0.C0.Way d.N).Entries, (lget g0.C0.Way d.N).Ok⟩ : Mail) x4 h15) .nil)) ?_
        refine Wk_trim (fs := [5, 6, 8, 10, 11, 12, 13]) (bs := [5, 6, 8, 11, 13]) (rs := [24, 162]) (ms := []) (aa := []) (nv := []) rfl ?_
        refine Wk_ren' ⟨[], [(162, 33)], [], []⟩ rfl ?_
        exact metP (x3, g0.K, (lget g0.C0.Way d.N).To, x4.1, x4.2.1, x4.2.2.1, x4.2.2.2.1, x4.2.2.2.2.1, x4.2.2.2.2.2.1, x4.2.2.2.2.2.2.1, x4.2.2.2.2.2.2.2.1, x4.2.2.2.2.2.2.2.2.1, x4.2.2.2.2.2.2.2.2.2.1, x4.2.2.2.2.2.2.2.2.2.2.1, x4.2.2.2.2.2.2.2.2.2.2.2) [] hF (by kernel_rfl)
       ·refine NR [] [3, 5, 6, 8, 10, 11, 12, 13, 91, 179] [3, 5, 6, 8, 11, 13] [24, 33] [(179, .bool (decide (d.Kind = 4)))] .nil ?_
        refine Nif hF (fun hb hF => ?_) (fun hb hF => ?_)
        ·obtain ⟨h16, hF⟩ := asrt_elim hF
         obtain ⟨h17, hF⟩ := asrt_elim hF
         refine NDL ((g0.C0.Way ++ [(⟨(lget g0.C0.Way d.N).Kind, (lget g0.C0.Way d.N).From, (lget g0.C0.Way d.N).To, (lget g0.C0.Way d.N).Term, (lget g0.C0.Way d.N).A, (lget g0.C0.Way d.N).B, (lget g0.C0.Way d.N).C0, (lget g0.C0.Way d.N).Entries, (lget g0.C0.Way d.N).Ok⟩ : Mail)])) (fun v3 : List Mail => ([], [(8, [.row 24 1, .row 33 2, .i g0.K])], [(33, .z 62 9 2 (v3.map e_Mail))], [])) [.av (e_Mail (lget g0.C0.Way d.N)), .sealed, .xs ((g0.C0.Way ++ [(⟨(lget g0.C0.Way d.N).Kind, (lget g0.C0.Way d.N).From, (lget g0.C0.Way d.N).To, (lget g0.C0.Way d.N).Term, (lget g0.C0.Way d.N).A, (lget g0.C0.Way d.N).B, (lget g0.C0.Way d.N).C0, (lget g0.C0.Way d.N).Entries, (lget g0.C0.Way d.N).Ok⟩ : Mail)]).map e_Mail)] [5, 6, 8, 10, 11, 12, 13] [5, 6, 8, 11, 13] [24, 33] [] (hc (idx_ok e_Mail h16) (hc (app_ok e_Mail g0.C0.Way [(⟨(lget g0.C0.Way d.N).Kind, (lget g0.C0.Way d.N).From, (lget g0.C0.Way d.N).To, (lget g0.C0.Way d.N).Term, (lget g0.C0.Way d.N).A, (lget g0.C0.Way d.N).B, (lget g0.C0.Way d.N).C0, (lget g0.C0.Way d.N).Entries, (lget g0.C0.Way d.N).Ok⟩ : Mail)]) (hc (appl_ok e_Mail h17) .nil))) (fun v3 hv => ?_)
         have hF := lt_elim hF hv
         refine Wk_coe 12 (.sl 9 (([] : List Mail).map e_Mail)) rfl (.cell rfl (CoeS.nils 9)) ?_
         refine Wk_coeB 11 [.i 0, .i 0, .i 0, .i 0, .sl 2 (([] : List Entry).map e_Entry), .i 0, .i 0, .sl 1 (([] : List Int).map e_i64), .sl 1 (([] : List Int).map e_i64), .sl 1 (([] : List Int).map e_i64)] rfl (.cons (CoeS.refl _) (.cons (CoeS.refl _) (.cons (CoeS.refl _) (.cons (CoeS.refl _) (.cons (CoeS.nils 2) (.cons (CoeS.refl _) (.cons (CoeS.refl _) (.cons (CoeS.nils 1) (.cons (CoeS.nils 1) (.cons (CoeS.nils 1) .nil)))))))))) ?_
         exact metP (v3, g0.K, d.Who, 0, 0, 0, 0, ([] : List Entry), 0, 0, ([] : List Int), ([] : List Int), ([] : List Int), ([] : List Mail), (⟨0, 0⟩ : Fault)) [(33, ⟨0, true, true, false⟩)] hF (by kernel_rfl)
        ·refine NR [] [3, 5, 6, 8, 10, 11, 12, 13, 91, 195] [3, 5, 6, 8, 11, 13] [24, 33] [(195, .bool (decide (d.Kind = 5)))] .nil ?_
         refine Nif hF (fun hb hF => ?_) (fun hb hF => ?_)
         ·obtain ⟨x5, h18, hF⟩ := ob_elim hF
          refine VR [.callE [] [] [] [] (.row 202 0) ⟨[], [], [(202, .z 62 9 0 (x5.map e_Mail))], [], []⟩] [5, 6, 8, 10, 11, 12, 13] [5, 6, 8, 11, 13] [24, 202] [] [] [(8, [.row 24 1, .row 202 0, .i g0.K])] [(202, .z 62 9 0 (x5.map e_Mail))] [] (hc (Pe.ren (R_Without_ok g0.C0.Way d.N x5 h18) ⟨[], [(22, 202)], [], []⟩) .nil) ?_
          refine Wk_coe 12 (.sl 9 (([] : List Mail).map e_Mail)) rfl (.cell rfl (CoeS.nils 9)) ?_
          refine Wk_coeB 11 [.i 0, .i 0, .i 0, .i 0, .sl 2 (([] : List Entry).map e_Entry), .i 0, .i 0, .sl 1 (([] : List Int).map e_i64), .sl 1 (([] : List Int).map e_i64), .sl 1 (([] : List Int).map e_i64)] rfl (.cons (CoeS.refl _) (.cons (CoeS.refl _) (.cons (CoeS.refl _) (.cons (CoeS.refl _) (.cons (CoeS.nils 2) (.cons (CoeS.refl _) (.cons (CoeS.refl _) (.cons (CoeS.nils 1) (.cons (CoeS.nils 1) (.cons (CoeS.nils 1) .nil)))))))))) ?_
          refine Wk_trim (fs := [5, 6, 8, 10, 11, 12, 13]) (bs := [5, 6, 8, 11, 13]) (rs := [24, 202]) (ms := []) (aa := []) (nv := []) rfl ?_
          refine Wk_ren' ⟨[], [(202, 33)], [], []⟩ rfl ?_
          exact metP (x5, g0.K, d.Who, 0, 0, 0, 0, ([] : List Entry), 0, 0, ([] : List Int), ([] : List Int), ([] : List Int), ([] : List Mail), (⟨0, 0⟩ : Fault)) [] hF (by kernel_rfl)
         ·refine NR [] [3, 5, 6, 8, 10, 11, 12, 13, 205] [3, 5, 6, 8, 11, 13] [24, 33] [(205, .bool (decide (d.Kind = 6)))] .nil ?_
          refine Nif hF (fun hb hF => ?_) (fun hb hF => ?_)
          ·obtain ⟨h19, hF⟩ := asrt_elim hF
           obtain ⟨x6, h20, hF⟩ := ob_elim hF
           refine VR [.av (e_Node (lget g0.C0.Nodes d.Who)), .callE [] [] [] [] (.tup [.agg [.i x6.1, .i x6.2.1, .i x6.2.2.1, .i x6.2.2.2.1, .row 214 0, .i x6.2.2.2.2.2.1, .i x6.2.2.2.2.2.2.1, .row 20214 0, .row 40214 0, .row 60214 0], .agg (c_Fault x6.2.2.2.2.2.2.2.2.2.2)]) ⟨[], [], [(214, .z 31 2 0 (x6.2.2.2.2.1.map e_Entry)), (20214, .z 3 1 0 (x6.2.2.2.2.2.2.2.1.map e_i64)), (40214, .z 3 1 0 (x6.2.2.2.2.2.2.2.2.1.map e_i64)), (60214, .z 3 1 0 (x6.2.2.2.2.2.2.2.2.2.1.map e_i64))], [], []⟩] [5, 6, 8, 10, 11, 12, 13] [5, 6, 8, 11, 13] [24, 33, 214, 20214, 40214, 60214] [] [] [(11, [.i x6.1, .i x6.2.1, .i x6.2.2.1, .i x6.2.2.2.1, .row 214 0, .i x6.2.2.2.2.2.1, .i x6.2.2.2.2.2.2.1, .row 20214 0, .row 40214 0, .row 60214 0]), (13, (c_Fault x6.2.2.2.2.2.2.2.2.2.2))] [(214, .z 31 2 0 (x6.2.2.2.2.1.map e_Entry)), (20214, .z 3 1 0 (x6.2.2.2.2.2.2.2.1.map e_i64)), (40214, .z 3 1 0 (x6.2.2.2.2.2.2.2.2.1.map e_i64)), (60214, .z 3 1 0 (x6.2.2.2.2.2.2.2.2.2.1.map e_i64))] [] (hc (idx_ok e_Node h19) (hc (Pe.ren (R_RestartNode_ok (⟨(lget g0.C0.Nodes d.Who).N, (lget g0.C0.Nodes d.Who).ID, (lget g0.C0.Nodes d.Who).Term, (lget g0.C0.Nodes d.Who).Vote, (lget g0.C0.Nodes d.Who).Log, (lget g0.C0.Nodes d.Who).Role, (lget g0.C0.Nodes d.Who).Commit, (lget g0.C0.Nodes d.Who).Votes, (lget g0.C0.Nodes d.Who).Next, (lget g0.C0.Nodes d.Who).Have⟩ : Node) x6 h20) ⟨[], [(14, 214), (20014, 20214), (40014, 40214), (60014, 60214)], [], []⟩) .nil)) ?_
           refine Wk_coe 12 (.sl 9 (([] : List Mail).map e_Mail)) rfl (.cell rfl (CoeS.nils 9)) ?_
           refine Wk_sealBX [] 11 rfl rfl ?_
           exact metP (g0.C0.Way, g0.K, d.Who, x6.1, x6.2.1, x6.2.2.1, x6.2.2.2.1, x6.2.2.2.2.1, x6.2.2.2.2.2.1, x6.2.2.2.2.2.2.1, x6.2.2.2.2.2.2.2.1, x6.2.2.2.2.2.2.2.2.1, x6.2.2.2.2.2.2.2.2.2.1, ([] : List Mail), x6.2.2.2.2.2.2.2.2.2.2) [(33, ⟨0, true, true, false⟩)] hF (by kernel_rfl)
          ·refine Wk_coe 12 (.sl 9 (([] : List Mail).map e_Mail)) rfl (.cell rfl (CoeS.nils 9)) ?_
           refine Wk_coeB 11 [.i 0, .i 0, .i 0, .i 0, .sl 2 (([] : List Entry).map e_Entry), .i 0, .i 0, .sl 1 (([] : List Int).map e_i64), .sl 1 (([] : List Int).map e_i64), .sl 1 (([] : List Int).map e_i64)] rfl (.cons (CoeS.refl _) (.cons (CoeS.refl _) (.cons (CoeS.refl _) (.cons (CoeS.refl _) (.cons (CoeS.nils 2) (.cons (CoeS.refl _) (.cons (CoeS.refl _) (.cons (CoeS.nils 1) (.cons (CoeS.nils 1) (.cons (CoeS.nils 1) .nil)))))))))) ?_
           exact metP (g0.C0.Way, g0.K, d.Who, 0, 0, 0, 0, ([] : List Entry), 0, 0, ([] : List Int), ([] : List Int), ([] : List Int), ([] : List Mail), (⟨0, 0⟩ : Fault)) [(33, ⟨0, true, true, false⟩)] hF (by kernel_rfl)
   ·intro v hF
    have hF : R_GameStep_J1 g0 d v = some r := hF
    unfold R_GameStep_J1 at hF
    refine NR [] [6, 8, 10, 11, 12, 229] [6, 8, 11] [24, 33] [(229, .bool (((!decide (d.Kind = 4)) && (!decide (d.Kind = 5))) && (decide (v.2.2.2.2.2.2.2.2.2.2.2.2.2.2.Code = 0))))] .nil ?_
    obtain ⟨v1, hv, hF⟩ := ob_elim hF
    refine Nmeet (⟨[(6, .ptr 6 0), (8, .ptr 8 0)], [(6, [.nils, .nils, .i 0]), (8, [.row 24 1, .row 33 0, .i v.2.1])], [(24, .z 46 10 1 (v1.1.map e_Node)), (33, .z 62 9 0 (v1.2.map e_Mail))], [], []⟩ : S) ?_ ?_
    ·have hF := hv
     refine Nif hF (fun hb hF => ?_) (fun hb hF => ?_)
     ·obtain ⟨h2, hF⟩ := asrt_elim hF
      obtain ⟨h3, hF⟩ := asrt_elim hF
      refine NRL ((lset g0.C0.Nodes v.2.2.1 (⟨v.2.2.2.1, v.2.2.2.2.1, v.2.2.2.2.2.1, v.2.2.2.2.2.2.1, v.2.2.2.2.2.2.2.1, v.2.2.2.2.2.2.2.2.1, v.2.2.2.2.2.2.2.2.2.1, v.2.2.2.2.2.2.2.2.2.2.1, v.2.2.2.2.2.2.2.2.2.2.2.1, v.2.2.2.2.2.2.2.2.2.2.2.2.1⟩ : Node))) (fun v2 : List Node => ([], [], [(24, .z 46 10 1 (v2.map e_Node))], [])) [.av (e_Node (lget g0.C0.Nodes v.2.2.1)), .xs ((lset g0.C0.Nodes v.2.2.1 (⟨v.2.2.2.1, v.2.2.2.2.1, v.2.2.2.2.2.1, v.2.2.2.2.2.2.1, v.2.2.2.2.2.2.2.1, v.2.2.2.2.2.2.2.2.1, v.2.2.2.2.2.2.2.2.2.1, v.2.2.2.2.2.2.2.2.2.2.1, v.2.2.2.2.2.2.2.2.2.2.2.1, v.2.2.2.2.2.2.2.2.2.2.2.2.1⟩ : Node)).map e_Node)] [6, 8, 12] [6, 8] [24, 33] [] (hc (ixr_ok e_Node h2) (hc (ldr_ok e_Node h3) (hc (set_ok e_Node g0.C0.Nodes v.2.2.1 (⟨v.2.2.2.1, v.2.2.2.2.1, v.2.2.2.2.2.1, v.2.2.2.2.2.2.1, v.2.2.2.2.2.2.2.1, v.2.2.2.2.2.2.2.2.1, v.2.2.2.2.2.2.2.2.2.1, v.2.2.2.2.2.2.2.2.2.2.1, v.2.2.2.2.2.2.2.2.2.2.2.1, v.2.2.2.2.2.2.2.2.2.2.2.2.1⟩ : Node)) (hc (Nat.zero_le v.2.2.1.toNat) .nil)))) (fun v2 hv => ?_)
      have hF := lt_elim hF hv
      obtain ⟨h4, hF⟩ := asrt_elim hF
      refine VR [.xs ((v.1 ++ v.2.2.2.2.2.2.2.2.2.2.2.2.2.1).map e_Mail)] [6, 8] [6, 8] [24, 33] [] [] [(8, [.row 24 1, .row 33 1, .i v.2.1])] [(33, .z 62 9 1 ((v.1 ++ v.2.2.2.2.2.2.2.2.2.2.2.2.2.1).map e_Mail))] [] (hc (app_ok e_Mail v.1 v.2.2.2.2.2.2.2.2.2.2.2.2.2.1) (hc (appl_ok e_Mail h4) .nil)) ?_
      cases hF
      exact met [(33, ⟨0, true, true, false⟩)] (by kernel_rfl)
     ·cases hF
      exact met [] (by kernel_rfl)
    ·refine NR [.nat (v1.2.length : Int)] [6, 8, 247] [6, 8] [24, 33] [(247, .bool (decide (200 < (v1.2.length : Int))))] (hc (len_ok e_Mail v1.2) .nil) ?_
     refine Nif hF (fun hb hF => ?_) (fun hb hF => ?_)
     ·refine VR [] [6, 7] [6] [24, 33] [] [(7, .i 9)] [(6, [.row 24 1, .row 33 0, .i v.2.1])] [] [] .nil ?_
      cases hF
      exact Wk_ret (hfin _ ⟨[24, 33], [], [24, 33], [], [], [], by kernel_rfl⟩)
     ·refine VR [] [6, 7] [6] [24, 33] [] [(7, .i 0)] [(6, [.row 24 1, .row 33 0, .i v.2.1])] [] [] .nil ?_
      cases hF
      exact Wk_ret (hfin _ ⟨[24, 33], [], [24, 33], [], [], [], by kernel_rfl⟩)

/- tabularyref.Games -/
noncomputable def R_Games_v1_J1 (v : List Game) : Option (List Game × Fault) :=
 some (v, (⟨0, 0⟩ : Fault))
noncomputable def R_Games_v1_B1 (texts : List (List UInt8)) (deeds : List Deed) (v1 : List Game × Int) : Option ((List Game × Int) ⊕ (List Game × Fault)) :=
 if (decide (v1.2 < (deeds.length : Int))) = true then
  asrt (0 ≤ v1.2 ∧ v1.2 < (v1.1.length : Int)) <|
  asrt (0 ≤ v1.2 ∧ v1.2 < (v1.1.length : Int)) <|
  asrt (0 ≤ v1.2 ∧ v1.2 < (deeds.length : Int)) <|
  ob (R_GameStep (⟨(⟨((lget v1.1 v1.2).C0).Nodes, ((lget v1.1 v1.2).C0).Way⟩ : Clan), (lget v1.1 v1.2).K⟩ : Game) texts (⟨(lget deeds v1.2).Kind, (lget deeds v1.2).Who, (lget deeds v1.2).N⟩ : Deed)) fun x4 =>
  if (!decide (x4.2.2.2 = 0)) = true then
   lt (R_F x4.2.2.2 v1.2) fun x5 =>
   some (Sum.inr (([] : List Game), x5))
  else
   asrt (((v1.1 ++ [(⟨(⟨x4.1, x4.2.1⟩ : Clan), x4.2.2.1⟩ : Game)]).length : Int) * 56 ≤ 140737488351232) <|
   some (Sum.inl ((v1.1 ++ [(⟨(⟨x4.1, x4.2.1⟩ : Clan), x4.2.2.1⟩ : Game)]), w64 (v1.2 + 1)))
 else
  inrO (R_Games_v1_J1 v1.1)
noncomputable def R_Games_v1_L1 (texts : List (List UInt8)) (deeds : List Deed) (v0 : List Game × Int) : Option (List Game × Fault) :=
 loopO (fun y => R_Games_v1_B1 texts deeds y) v0
noncomputable def R_Games_v1 (num : Int) (texts : List (List UInt8)) (deeds : List Deed) : Option (List Game × Fault) :=
 if ((decide (num < 1)) || (decide (7 < num))) = true then
  lt (R_F 3 (-1)) fun x =>
  some (([] : List Game), x)
 else
  if (decide (2000 < (deeds.length : Int))) = true then
   lt (R_F 2 (-1)) fun x1 =>
   some (([] : List Game), x1)
  else
   if (decide (100 < (texts.length : Int))) = true then
    lt (R_F 2 (-2)) fun x2 =>
    some (([] : List Game), x2)
   else
    ob (R_Begin num) fun x3 =>
    R_Games_v1_L1 texts deeds ([(⟨(⟨x3.1, ([] : List Mail)⟩ : Clan), x3.2⟩ : Game)], 0)
theorem R_Games_v1_ok (num : Int) (texts : List (List UInt8)) (deeds : List Deed) (r : List Game × Fault) (hF : R_Games_v1 num texts deeds = some r) : Pe Try.prog 48 S.none [.i num, .sl 1 (texts.map e_str), .sl 3 (deeds.map e_Deed)] (.tup [.sl 3 (r.1.map e_Game), .agg (c_Fault r.2)]) S.none := by
 refine PeN 60 [.tmp 6, .cell 7 26] [77, 26] Ty.ok Fn.b48 Try.func48 ?_
 intro Q g hfin
 unfold R_Games_v1 at hF
 refine VR [] [0, 1, 2, 7] [7] [] [] [(7, .ptr 7 0)] [(7, [.i 0, .i 0])] [] [] .nil ?_
 refine NR [] [0, 1, 2, 7, 17] [7] [] [(17, .bool ((decide (num < 1)) || (decide (7 < num))))] .nil ?_
 refine Nif hF (fun hb hF => ?_) (fun hb hF => ?_)
 ·obtain ⟨x, h0, hF⟩ := lt_split hF
  refine VR [.callB (.agg (c_Fault x))] [6, 7] [7] [] [] [(6, .nils)] [(7, (c_Fault x))] [] [] (hc (R_F_ok 3 (-1) x h0) .nil) ?_
  cases hF
  exact Wk_ret (hfin _ ⟨[], [], [], [], [], [], by kernel_rfl⟩)
 ·refine NR [.nat (deeds.length : Int)] [0, 1, 2, 7, 21] [7] [] [(21, .bool (decide (2000 < (deeds.length : Int))))] (hc (len_ok e_Deed deeds) .nil) ?_
  refine Nif hF (fun hb hF => ?_) (fun hb hF => ?_)
  ·obtain ⟨x1, h1, hF⟩ := lt_split hF
   refine VR [.callB (.agg (c_Fault x1))] [6, 7] [7] [] [] [(6, .nils)] [(7, (c_Fault x1))] [] [] (hc (R_F_ok 2 (-1) x1 h1) .nil) ?_
   cases hF
   exact Wk_ret (hfin _ ⟨[], [], [], [], [], [], by kernel_rfl⟩)
  ·refine NR [.nat (texts.length : Int)] [0, 1, 2, 7, 25] [7] [] [(25, .bool (decide (100 < (texts.length : Int))))] (hc (len_ok e_str texts) .nil) ?_
   refine Nif hF (fun hb hF => ?_) (fun hb hF => ?_)
   ·obtain ⟨x2, h2, hF⟩ := lt_split hF
    refine VR [.callB (.agg (c_Fault x2))] [6, 7] [7] [] [] [(6, .nils)] [(7, (c_Fault x2))] [] [] (hc (R_F_ok 2 (-2) x2 h2) .nil) ?_
    cases hF
    exact Wk_ret (hfin _ ⟨[], [], [], [], [], [], by kernel_rfl⟩)
   ·obtain ⟨x3, h3, hF⟩ := ob_elim hF
    refine VR [.callE [] [] [] [] (.agg [.row 28 0, .row 20028 0, .i x3.2]) ⟨[], [], [(28, .z 46 10 0 (x3.1.map e_Node)), (20028, .z 62 9 0 (([] : List Mail).map e_Mail))], [], []⟩] [1, 2, 7, 8] [7] [29] [] [(8, .row 29 0)] [] [(29, ⟨82, 3, 0, 0, 0, true, 0, [], ([(⟨(⟨x3.1, ([] : List Mail)⟩ : Clan), x3.2⟩ : Game)].map e_Game)⟩)] [] (hc (Pe.ren (R_Begin_ok num x3 h3) ⟨[], [(17, 28), (71001, 20028)], [], []⟩) .nil) ?_
    refine NR [] [1, 2, 7, 8, 9] [7] [29] [(9, .i 0)] .nil ?_
    refine NmeetP (fun v : List Game => (⟨[(7, .ptr 7 0), (8, .row 29 0)], [(7, [.i 0, .i 0])], [(29, .z 82 3 0 (v.map e_Game))], [], []⟩ : S)) (fun v => R_Games_v1_J1 v = some r) ?_ ?_
    ·refine Nblk ?_
     unfold R_Games_v1_L1 at hF
     refine Niter (fun v1 : List Game × Int => (⟨[(1, .sl 1 (texts.map e_str)), (2, .sl 3 (deeds.map e_Deed)), (7, .ptr 7 0), (8, .row 29 0), (9, .i v1.2)], [(7, [.i 0, .i 0])], [(29, .z 82 3 0 (v1.1.map e_Game))], [], []⟩ : S)) [] hF (by kernel_rfl) ?_
     intro n1 v1 y1 hF ih1 dn1
     unfold R_Games_v1_B1 at hF
     refine NR [.nat (deeds.length : Int)] [1, 2, 7, 8, 9, 33] [7] [29] [(33, .bool (decide (v1.2 < (deeds.length : Int))))] (hc (len_ok e_Deed deeds) .nil) ?_
     refine Nif hF (fun hb hF => ?_) (fun hb hF => ?_)
     ·refine Nblk ?_
      obtain ⟨h4, h5, hF⟩ := asrt2 hF
      obtain ⟨h6, hF⟩ := asrt_elim hF
      obtain ⟨x4, h7, hF⟩ := ob_elim hF
      refine VD [.av (e_Game (lget v1.1 v1.2)), .av (e_Deed (lget deeds v1.2)), .callE [] [] [] [] (.tup [.agg [.row 46 1, .row 20046 0, .i x4.2.2.1], .i x4.2.2.2]) ⟨[], [], [(46, .z 46 10 1 (x4.1.map e_Node)), (20046, .z 62 9 0 (x4.2.1.map e_Mail))], [], []⟩] [1, 2, 7, 8, 9, 10, 11] [7, 10] [29, 46, 20046] [] [(10, .ptr 10 0), (11, .i x4.2.2.2)] [(10, [.row 46 1, .row 20046 0, .i x4.2.2.1])] [(46, .z 46 10 1 (x4.1.map e_Node)), (20046, .z 62 9 0 (x4.2.1.map e_Mail))] [] (hc (ixr_ok e_Game h4) (hc (ldr_ok e_Game h5) (hc (idx_ok e_Deed h6) (hc (Pe.ren (R_GameStep_ok (⟨(⟨((lget v1.1 v1.2).C0).Nodes, ((lget v1.1 v1.2).C0).Way⟩ : Clan), (lget v1.1 v1.2).K⟩ : Game) texts (⟨(lget deeds v1.2).Kind, (lget deeds v1.2).Who, (lget deeds v1.2).N⟩ : Deed) x4 h7) ⟨[], [(24, 46), (33, 20046)], [], []⟩) .nil)))) ?_
      refine NR [] [1, 2, 7, 8, 9, 10, 11, 50] [7, 10] [29, 46, 20046] [(50, .bool (!decide (x4.2.2.2 = 0)))] .nil ?_
      refine Nif hF (fun hb hF => ?_) (fun hb hF => ?_)
      ·obtain ⟨x5, h8, hF⟩ := lt_split hF
       refine VR [.callB (.agg (c_Fault x5))] [6, 7] [7] [] [] [(6, .nils)] [(7, (c_Fault x5))] [] [] (hc (R_F_ok x4.2.2.2 v1.2 x5 h8) .nil) ?_
       have hF := ret_done hF dn1
       cases hF
       exact Wk_ret (hfin _ ⟨[], [], [], [], [], [], by kernel_rfl⟩)
      ·obtain ⟨h9, hF⟩ := asrt_elim hF
       refine VR [.sealed, .xs ((v1.1 ++ [(⟨(⟨x4.1, x4.2.1⟩ : Clan), x4.2.2.1⟩ : Game)]).map e_Game)] [1, 2, 7, 8, 9] [7] [29] [] [(8, .row 29 1)] [] [(29, ⟨82, 3, 1, 0, 0, true, 0, [], ((v1.1 ++ [(⟨(⟨x4.1, x4.2.1⟩ : Clan), x4.2.2.1⟩ : Game)]).map e_Game)⟩)] [] (hc (app_ok e_Game v1.1 [(⟨(⟨x4.1, x4.2.1⟩ : Clan), x4.2.2.1⟩ : Game)]) (hc (appl_ok e_Game h9) .nil)) ?_
       refine NR [] [1, 2, 7, 8, 9] [7] [29] [(9, .i (w64 (v1.2 + 1)))] .nil ?_
       exact Nrnd [(29, ⟨0, true, true, false⟩)] hF ih1 (by kernel_rfl)
     ·refine Nexit rfl ?_
      have hF := inrO_done hF dn1
      exact metP v1.1 [] hF (by kernel_rfl)
    ·intro v hF
     have hF : R_Games_v1_J1 v = some r := hF
     unfold R_Games_v1_J1 at hF
     refine NR [] [6, 7] [7] [29] [(6, .row 29 0)] .nil ?_
     cases hF
     exact Wk_ret (hfin _ ⟨[], [], [], [], [], [], by kernel_rfl⟩)

/- tabularyref.SameLog -/
noncomputable def R_SameLog_J1 (v : Unit) : Option Bool :=
 some true
noncomputable def R_SameLog_B1 (a0 : List Entry) (b : List Entry) (v1 : Int) : Option (Int ⊕ Bool) :=
 if (decide (v1 < (a0.length : Int))) = true then
  asrt (0 ≤ v1 ∧ v1 < (a0.length : Int)) <|
  asrt (0 ≤ v1 ∧ v1 < (b.length : Int)) <|
  if (!(decide ((lget a0 v1).Term = (lget b v1).Term) && (decide ((lget a0 v1).Text = (lget b v1).Text) && true))) = true then
   some (Sum.inr false)
  else
   some (Sum.inl (w64 (v1 + 1)))
 else
  inrO (R_SameLog_J1 ())
noncomputable def R_SameLog_L1 (a0 : List Entry) (b : List Entry) (v0 : Int) : Option Bool :=
 loopO (fun y => R_SameLog_B1 a0 b y) v0
noncomputable def R_SameLog (a0 : List Entry) (b : List Entry) : Option Bool :=
 if (!decide ((a0.length : Int) = (b.length : Int))) = true then
  some false
 else
  R_SameLog_L1 a0 b 0
theorem R_SameLog_ok (a0 : List Entry) (b : List Entry) (r : Bool) (hF : R_SameLog a0 b = some r) : Pe Try.prog 16 S.none [.sl 2 (a0.map e_Entry), .sl 2 (b.map e_Entry)] (.bool r) S.none := by
 refine PeN 26 [.tmp 4] [4] Ty.ok Fn.b16 Try.func16 ?_
 intro Q g hfin
 unfold R_SameLog at hF
 refine NR [] [0, 1] [] [] [] .nil ?_
 refine NR [.nat (a0.length : Int), .nat (b.length : Int)] [0, 1, 10] [] [] [(10, .bool (!decide ((a0.length : Int) = (b.length : Int))))] (hc (len_ok e_Entry a0) (hc (len_ok e_Entry b) .nil)) ?_
 refine Nif hF (fun hb hF => ?_) (fun hb hF => ?_)
 ·refine NR [] [4] [] [] [(4, .bool false)] .nil ?_
  cases hF
  exact Wk_ret (hfin _ ⟨[], [], [], [], [], [], by kernel_rfl⟩)
 ·refine NR [] [0, 1, 5] [] [] [(5, .i 0)] .nil ?_
  refine NmeetP (fun v : Unit => (S.none : S)) (fun v => R_SameLog_J1 v = some r) ?_ ?_
  ·refine Nblk ?_
   unfold R_SameLog_L1 at hF
   refine Niter (fun v1 : Int => (⟨[(0, .sl 2 (a0.map e_Entry)), (1, .sl 2 (b.map e_Entry)), (5, .i v1)], [], [], [], []⟩ : S)) [] hF (by kernel_rfl) ?_
   intro n1 v1 y1 hF ih1 dn1
   unfold R_SameLog_B1 at hF
   refine NR [.nat (a0.length : Int)] [0, 1, 5, 14] [] [] [(14, .bool (decide (v1 < (a0.length : Int))))] (hc (len_ok e_Entry a0) .nil) ?_
   refine Nif hF (fun hb hF => ?_) (fun hb hF => ?_)
   ·refine Nblk ?_
    obtain ⟨h0, h1, hF⟩ := asrt2 hF
    refine ND [.av (e_Entry (lget a0 v1)), .av (e_Entry (lget b v1))] [0, 1, 5, 25] [] [] [(25, .bool (!(decide ((lget a0 v1).Term = (lget b v1).Term) && (decide ((lget a0 v1).Text = (lget b v1).Text) && true))))] (hc (idx_ok e_Entry h0) (hc (idx_ok e_Entry h1) .nil)) ?_
    refine Nif hF (fun hb hF => ?_) (fun hb hF => ?_)
    ·refine NR [] [4] [] [] [(4, .bool false)] .nil ?_
     have hF := ret_done hF dn1
     cases hF
     exact Wk_ret (hfin _ ⟨[], [], [], [], [], [], by kernel_rfl⟩)
    ·refine NR [] [0, 1, 5] [] [] [(5, .i (w64 (v1 + 1)))] .nil ?_
     exact Nrnd [] hF ih1 (by kernel_rfl)
   ·refine Nexit rfl ?_
    have hF := inrO_done hF dn1
    exact metP () [] hF (by kernel_rfl)
  ·intro v hF
   have hF : R_SameLog_J1 v = some r := hF
   unfold R_SameLog_J1 at hF
   refine NR [] [4] [] [] [(4, .bool true)] .nil ?_
   cases hF
   exact Wk_ret (hfin _ ⟨[], [], [], [], [], [], by kernel_rfl⟩)

/- tabularyref.Ints -/
noncomputable def R_Ints_J1 (v : Unit) : Option Bool :=
 some true
noncomputable def R_Ints_B1 (a0 : List Int) (b : List Int) (v1 : Int) : Option (Int ⊕ Bool) :=
 if (decide (v1 < (a0.length : Int))) = true then
  asrt (0 ≤ v1 ∧ v1 < (a0.length : Int)) <|
  asrt (0 ≤ v1 ∧ v1 < (b.length : Int)) <|
  if (!decide ((lget a0 v1) = (lget b v1))) = true then
   some (Sum.inr false)
  else
   some (Sum.inl (w64 (v1 + 1)))
 else
  inrO (R_Ints_J1 ())
noncomputable def R_Ints_L1 (a0 : List Int) (b : List Int) (v0 : Int) : Option Bool :=
 loopO (fun y => R_Ints_B1 a0 b y) v0
noncomputable def R_Ints (a0 : List Int) (b : List Int) : Option Bool :=
 if (!decide ((a0.length : Int) = (b.length : Int))) = true then
  some false
 else
  R_Ints_L1 a0 b 0
theorem R_Ints_ok (a0 : List Int) (b : List Int) (r : Bool) (hF : R_Ints a0 b = some r) : Pe Try.prog 71 S.none [.sl 1 (a0.map e_i64), .sl 1 (b.map e_i64)] (.bool r) S.none := by
 refine PeN 26 [.tmp 4] [4] Ty.ok Fn.b71 Try.func71 ?_
 intro Q g hfin
 unfold R_Ints at hF
 refine NR [] [0, 1] [] [] [] .nil ?_
 refine NR [.nat (a0.length : Int), .nat (b.length : Int)] [0, 1, 10] [] [] [(10, .bool (!decide ((a0.length : Int) = (b.length : Int))))] (hc (len_ok e_i64 a0) (hc (len_ok e_i64 b) .nil)) ?_
 refine Nif hF (fun hb hF => ?_) (fun hb hF => ?_)
 ·refine NR [] [4] [] [] [(4, .bool false)] .nil ?_
  cases hF
  exact Wk_ret (hfin _ ⟨[], [], [], [], [], [], by kernel_rfl⟩)
 ·refine NR [] [0, 1, 5] [] [] [(5, .i 0)] .nil ?_
  refine NmeetP (fun v : Unit => (S.none : S)) (fun v => R_Ints_J1 v = some r) ?_ ?_
  ·refine Nblk ?_
   unfold R_Ints_L1 at hF
   refine Niter (fun v1 : Int => (⟨[(0, .sl 1 (a0.map e_i64)), (1, .sl 1 (b.map e_i64)), (5, .i v1)], [], [], [], []⟩ : S)) [] hF (by kernel_rfl) ?_
   intro n1 v1 y1 hF ih1 dn1
   unfold R_Ints_B1 at hF
   refine NR [.nat (a0.length : Int)] [0, 1, 5, 14] [] [] [(14, .bool (decide (v1 < (a0.length : Int))))] (hc (len_ok e_i64 a0) .nil) ?_
   refine Nif hF (fun hb hF => ?_) (fun hb hF => ?_)
   ·refine Nblk ?_
    obtain ⟨h0, h1, hF⟩ := asrt2 hF
    refine ND [.av (e_i64 (lget a0 v1)), .av (e_i64 (lget b v1))] [0, 1, 5, 25] [] [] [(25, .bool (!decide ((lget a0 v1) = (lget b v1))))] (hc (idx_ok e_i64 h0) (hc (idx_ok e_i64 h1) .nil)) ?_
    refine Nif hF (fun hb hF => ?_) (fun hb hF => ?_)
    ·refine NR [] [4] [] [] [(4, .bool false)] .nil ?_
     have hF := ret_done hF dn1
     cases hF
     exact Wk_ret (hfin _ ⟨[], [], [], [], [], [], by kernel_rfl⟩)
    ·refine NR [] [0, 1, 5] [] [] [(5, .i (w64 (v1 + 1)))] .nil ?_
     exact Nrnd [] hF ih1 (by kernel_rfl)
   ·refine Nexit rfl ?_
    have hF := inrO_done hF dn1
    exact metP () [] hF (by kernel_rfl)
  ·intro v hF
   have hF : R_Ints_J1 v = some r := hF
   unfold R_Ints_J1 at hF
   refine NR [] [4] [] [] [(4, .bool true)] .nil ?_
   cases hF
   exact Wk_ret (hfin _ ⟨[], [], [], [], [], [], by kernel_rfl⟩)

/- tabularyref.SameNode -/
noncomputable def R_SameNode (a0 : Node) (b : Node) : Option Bool :=
 ob (if ((((((decide (a0.N = b.N)) && (decide (a0.ID = b.ID))) && (decide (a0.Term = b.Term))) && (decide (a0.Vote = b.Vote))) && (decide (a0.Role = b.Role))) && (decide (a0.Commit = b.Commit))) = true then (R_SameLog a0.Log b.Log) else some default) fun x =>
 ob (if (((((((decide (a0.N = b.N)) && (decide (a0.ID = b.ID))) && (decide (a0.Term = b.Term))) && (decide (a0.Vote = b.Vote))) && (decide (a0.Role = b.Role))) && (decide (a0.Commit = b.Commit))) && x) = true then (R_Ints a0.Votes b.Votes) else some default) fun x1 =>
 ob (if ((((((((decide (a0.N = b.N)) && (decide (a0.ID = b.ID))) && (decide (a0.Term = b.Term))) && (decide (a0.Vote = b.Vote))) && (decide (a0.Role = b.Role))) && (decide (a0.Commit = b.Commit))) && x) && x1) = true then (R_Ints a0.Next b.Next) else some default) fun x2 =>
 ob (if (((((((((decide (a0.N = b.N)) && (decide (a0.ID = b.ID))) && (decide (a0.Term = b.Term))) && (decide (a0.Vote = b.Vote))) && (decide (a0.Role = b.Role))) && (decide (a0.Commit = b.Commit))) && x) && x1) && x2) = true then (R_Ints a0.Have b.Have) else some default) fun x3 =>
 lt ((((((((((decide (a0.N = b.N)) && (decide (a0.ID = b.ID))) && (decide (a0.Term = b.Term))) && (decide (a0.Vote = b.Vote))) && (decide (a0.Role = b.Role))) && (decide (a0.Commit = b.Commit))) && x) && x1) && x2) && x3) fun (v : Bool) =>
 some v
theorem R_SameNode_ok (a0 : Node) (b : Node) (r : Bool) (hF : R_SameNode a0 b = some r) : Pe Try.prog 35 S.none [.agg (c_Node a0), .agg (c_Node b)] (.bool r) S.none := by
 refine PeN 73 [.tmp 4] [4] Ty.ok Fn.b35 Try.func35 ?_
 intro Q g hfin
 unfold R_SameNode at hF
 refine VR [] [2, 3] [2, 3] [] [] [(2, .ptr 2 0), (3, .ptr 3 0)] [(2, (c_Node a0)), (3, (c_Node b))] [] [] .nil ?_
 obtain ⟨x, h0, hF⟩ := ob_elim hF
 obtain ⟨x1, h1, hF⟩ := ob_elim hF
 obtain ⟨x2, h2, hF⟩ := ob_elim hF
 obtain ⟨x3, h3, hF⟩ := ob_elim hF
 refine NRL ((((((((((decide (a0.N = b.N)) && (decide (a0.ID = b.ID))) && (decide (a0.Term = b.Term))) && (decide (a0.Vote = b.Vote))) && (decide (a0.Role = b.Role))) && (decide (a0.Commit = b.Commit))) && x) && x1) && x2) && x3) (fun v : Bool => ([(4, .bool v)], [], [], [])) [.callB (.bool x), .callB (.bool x1), .callB (.bool x2), .callB (.bool x3)] [4] [] [] [] (hc (fun (ga0 : ((((((decide (a0.N = b.N)) && (decide (a0.ID = b.ID))) && (decide (a0.Term = b.Term))) && (decide (a0.Vote = b.Vote))) && (decide (a0.Role = b.Role))) && (decide (a0.Commit = b.Commit))) = true) => (R_SameLog_ok a0.Log b.Log x (ite_t h0 ga0))) (hc (fun (ga0 : (((((((decide (a0.N = b.N)) && (decide (a0.ID = b.ID))) && (decide (a0.Term = b.Term))) && (decide (a0.Vote = b.Vote))) && (decide (a0.Role = b.Role))) && (decide (a0.Commit = b.Commit))) && x) = true) => (R_Ints_ok a0.Votes b.Votes x1 (ite_t h1 ga0))) (hc (fun (ga0 : ((((((((decide (a0.N = b.N)) && (decide (a0.ID = b.ID))) && (decide (a0.Term = b.Term))) && (decide (a0.Vote = b.Vote))) && (decide (a0.Role = b.Role))) && (decide (a0.Commit = b.Commit))) && x) && x1) = true) => (R_Ints_ok a0.Next b.Next x2 (ite_t h2 ga0))) (hc (fun (ga0 : (((((((((decide (a0.N = b.N)) && (decide (a0.ID = b.ID))) && (decide (a0.Term = b.Term))) && (decide (a0.Vote = b.Vote))) && (decide (a0.Role = b.Role))) && (decide (a0.Commit = b.Commit))) && x) && x1) && x2) = true) => (R_Ints_ok a0.Have b.Have x3 (ite_t h3 ga0))) .nil)))) (fun v hv => ?_)
 have hF := lt_elim hF hv
 cases hF
 exact Wk_ret (hfin _ ⟨[], [], [], [], [], [], by kernel_rfl⟩)

/- tabularyref.SameMails -/
noncomputable def R_SameMails_J1 (v : Unit) : Option Bool :=
 some true
noncomputable def R_SameMails_B1 (a0 : List Mail) (b : List Mail) (v1 : Int) : Option (Int ⊕ Bool) :=
 if (decide (v1 < (a0.length : Int))) = true then
  asrt (0 ≤ v1 ∧ v1 < (a0.length : Int)) <|
  asrt (0 ≤ v1 ∧ v1 < (b.length : Int)) <|
  ob (if (!((((((((!decide (((lget a0 v1).Kind) = ((lget b v1).Kind))) || (!decide (((lget a0 v1).From) = ((lget b v1).From)))) || (!decide (((lget a0 v1).To) = ((lget b v1).To)))) || (!decide (((lget a0 v1).Term) = ((lget b v1).Term)))) || (!decide (((lget a0 v1).A) = ((lget b v1).A)))) || (!decide (((lget a0 v1).B) = ((lget b v1).B)))) || (!decide (((lget a0 v1).C0) = ((lget b v1).C0)))) || (!(((lget a0 v1).Ok) == ((lget b v1).Ok))))) = true then (R_SameLog ((lget a0 v1).Entries) ((lget b v1).Entries)) else some default) fun x =>
  if (((((((((!decide (((lget a0 v1).Kind) = ((lget b v1).Kind))) || (!decide (((lget a0 v1).From) = ((lget b v1).From)))) || (!decide (((lget a0 v1).To) = ((lget b v1).To)))) || (!decide (((lget a0 v1).Term) = ((lget b v1).Term)))) || (!decide (((lget a0 v1).A) = ((lget b v1).A)))) || (!decide (((lget a0 v1).B) = ((lget b v1).B)))) || (!decide (((lget a0 v1).C0) = ((lget b v1).C0)))) || (!(((lget a0 v1).Ok) == ((lget b v1).Ok)))) || (!x)) = true then
   some (Sum.inr false)
  else
   some (Sum.inl (w64 (v1 + 1)))
 else
  inrO (R_SameMails_J1 ())
noncomputable def R_SameMails_L1 (a0 : List Mail) (b : List Mail) (v0 : Int) : Option Bool :=
 loopO (fun y => R_SameMails_B1 a0 b y) v0
noncomputable def R_SameMails (a0 : List Mail) (b : List Mail) : Option Bool :=
 if (!decide ((a0.length : Int) = (b.length : Int))) = true then
  some false
 else
  R_SameMails_L1 a0 b 0
theorem R_SameMails_ok (a0 : List Mail) (b : List Mail) (r : Bool) (hF : R_SameMails a0 b = some r) : Pe Try.prog 41 S.none [.sl 9 (a0.map e_Mail), .sl 9 (b.map e_Mail)] (.bool r) S.none := by
 refine PeN 89 [.tmp 4] [4] Ty.ok Fn.b41 Try.func41 ?_
 intro Q g hfin
 unfold R_SameMails at hF
 refine NR [] [0, 1] [] [] [] .nil ?_
 refine NR [.nat (a0.length : Int), .nat (b.length : Int)] [0, 1, 12] [] [] [(12, .bool (!decide ((a0.length : Int) = (b.length : Int))))] (hc (len_ok e_Mail a0) (hc (len_ok e_Mail b) .nil)) ?_
 refine Nif hF (fun hb hF => ?_) (fun hb hF => ?_)
 ·refine NR [] [4] [] [] [(4, .bool false)] .nil ?_
  cases hF
  exact Wk_ret (hfin _ ⟨[], [], [], [], [], [], by kernel_rfl⟩)
 ·refine NR [] [0, 1, 5] [] [] [(5, .i 0)] .nil ?_
  refine NmeetP (fun v : Unit => (S.none : S)) (fun v => R_SameMails_J1 v = some r) ?_ ?_
  ·refine Nblk ?_
   unfold R_SameMails_L1 at hF
   refine Niter (fun v1 : Int => (⟨[(0, .sl 9 (a0.map e_Mail)), (1, .sl 9 (b.map e_Mail)), (5, .i v1)], [], [], [], []⟩ : S)) [] hF (by kernel_rfl) ?_
   intro n1 v1 y1 hF ih1 dn1
   unfold R_SameMails_B1 at hF
   refine NR [.nat (a0.length : Int)] [0, 1, 5, 16] [] [] [(16, .bool (decide (v1 < (a0.length : Int))))] (hc (len_ok e_Mail a0) .nil) ?_
   refine Nif hF (fun hb hF => ?_) (fun hb hF => ?_)
   ·refine Nblk ?_
    obtain ⟨h0, h1, hF⟩ := asrt2 hF
    refine VD [.av (e_Mail (lget a0 v1)), .av (e_Mail (lget b v1))] [0, 1, 5, 6, 7] [6, 7] [] [] [(6, .ptr 6 0), (7, .ptr 7 0)] [(6, (c_Mail (lget a0 v1))), (7, (c_Mail (lget b v1)))] [] [] (hc (idx_ok e_Mail h0) (hc (idx_ok e_Mail h1) .nil)) ?_
    obtain ⟨x, h2, hF⟩ := ob_elim hF
    refine NR [.callB (.bool x)] [0, 1, 5, 88] [] [] [(88, .bool (((((((((!decide (((lget a0 v1).Kind) = ((lget b v1).Kind))) || (!decide (((lget a0 v1).From) = ((lget b v1).From)))) || (!decide (((lget a0 v1).To) = ((lget b v1).To)))) || (!decide (((lget a0 v1).Term) = ((lget b v1).Term)))) || (!decide (((lget a0 v1).A) = ((lget b v1).A)))) || (!decide (((lget a0 v1).B) = ((lget b v1).B)))) || (!decide (((lget a0 v1).C0) = ((lget b v1).C0)))) || (!(((lget a0 v1).Ok) == ((lget b v1).Ok)))) || (!x)))] (hc (fun (ga0 : (!((((((((!decide (((lget a0 v1).Kind) = ((lget b v1).Kind))) || (!decide (((lget a0 v1).From) = ((lget b v1).From)))) || (!decide (((lget a0 v1).To) = ((lget b v1).To)))) || (!decide (((lget a0 v1).Term) = ((lget b v1).Term)))) || (!decide (((lget a0 v1).A) = ((lget b v1).A)))) || (!decide (((lget a0 v1).B) = ((lget b v1).B)))) || (!decide (((lget a0 v1).C0) = ((lget b v1).C0)))) || (!(((lget a0 v1).Ok) == ((lget b v1).Ok))))) = true) => (R_SameLog_ok ((lget a0 v1).Entries) ((lget b v1).Entries) x (ite_t h2 ga0))) .nil) ?_
    refine Nif hF (fun hb hF => ?_) (fun hb hF => ?_)
    ·refine NR [] [4] [] [] [(4, .bool false)] .nil ?_
     have hF := ret_done hF dn1
     cases hF
     exact Wk_ret (hfin _ ⟨[], [], [], [], [], [], by kernel_rfl⟩)
    ·refine NR [] [0, 1, 5] [] [] [(5, .i (w64 (v1 + 1)))] .nil ?_
     exact Nrnd [] hF ih1 (by kernel_rfl)
   ·refine Nexit rfl ?_
    have hF := inrO_done hF dn1
    exact metP () [] hF (by kernel_rfl)
  ·intro v hF
   have hF : R_SameMails_J1 v = some r := hF
   unfold R_SameMails_J1 at hF
   refine NR [] [4] [] [] [(4, .bool true)] .nil ?_
   cases hF
   exact Wk_ret (hfin _ ⟨[], [], [], [], [], [], by kernel_rfl⟩)

/- tabularyref.SameClan -/
noncomputable def R_SameClan_J1 (a0 : Clan) (b : Clan) (v : Unit) : Option Bool :=
 ob (R_SameMails a0.Way b.Way) fun x =>
 some x
noncomputable def R_SameClan_B1 (a0 : Clan) (b : Clan) (v1 : Int) : Option (Int ⊕ Bool) :=
 if (decide (v1 < (a0.Nodes.length : Int))) = true then
  asrt (0 ≤ v1 ∧ v1 < (a0.Nodes.length : Int)) <|
  asrt (0 ≤ v1 ∧ v1 < (b.Nodes.length : Int)) <|
  ob (R_SameNode (⟨(lget a0.Nodes v1).N, (lget a0.Nodes v1).ID, (lget a0.Nodes v1).Term, (lget a0.Nodes v1).Vote, (lget a0.Nodes v1).Log, (lget a0.Nodes v1).Role, (lget a0.Nodes v1).Commit, (lget a0.Nodes v1).Votes, (lget a0.Nodes v1).Next, (lget a0.Nodes v1).Have⟩ : Node) (⟨(lget b.Nodes v1).N, (lget b.Nodes v1).ID, (lget b.Nodes v1).Term, (lget b.Nodes v1).Vote, (lget b.Nodes v1).Log, (lget b.Nodes v1).Role, (lget b.Nodes v1).Commit, (lget b.Nodes v1).Votes, (lget b.Nodes v1).Next, (lget b.Nodes v1).Have⟩ : Node)) fun x1 =>
  if (!x1) = true then
   some (Sum.inr false)
  else
   some (Sum.inl (w64 (v1 + 1)))
 else
  inrO (R_SameClan_J1 a0 b ())
noncomputable def R_SameClan_L1 (a0 : Clan) (b : Clan) (v0 : Int) : Option Bool :=
 loopO (fun y => R_SameClan_B1 a0 b y) v0
noncomputable def R_SameClan (a0 : Clan) (b : Clan) : Option Bool :=
 if (!decide ((a0.Nodes.length : Int) = (b.Nodes.length : Int))) = true then
  some false
 else
  R_SameClan_L1 a0 b 0
theorem R_SameClan_ok (a0 : Clan) (b : Clan) (r : Bool) (hF : R_SameClan a0 b = some r) : Pe Try.prog 49 S.none [.agg (c_Clan a0), .agg (c_Clan b)] (.bool r) S.none := by
 refine PeN 37 [.tmp 4] [4] Ty.ok Fn.b49 Try.func49 ?_
 intro Q g hfin
 unfold R_SameClan at hF
 refine VR [] [2, 3] [2, 3] [] [] [(2, .ptr 2 0), (3, .ptr 3 0)] [(2, (c_Clan a0)), (3, (c_Clan b))] [] [] .nil ?_
 refine NR [.nat (a0.Nodes.length : Int), .nat (b.Nodes.length : Int)] [2, 3, 12] [2, 3] [] [(12, .bool (!decide ((a0.Nodes.length : Int) = (b.Nodes.length : Int))))] (hc (len_ok e_Node a0.Nodes) (hc (len_ok e_Node b.Nodes) .nil)) ?_
 refine Nif hF (fun hb hF => ?_) (fun hb hF => ?_)
 ·refine NR [] [4] [] [] [(4, .bool false)] .nil ?_
  cases hF
  exact Wk_ret (hfin _ ⟨[], [], [], [], [], [], by kernel_rfl⟩)
 ·refine NR [] [2, 3, 5] [2, 3] [] [(5, .i 0)] .nil ?_
  refine NmeetP (fun v : Unit => (⟨[(2, .ptr 2 0), (3, .ptr 3 0)], [(2, (c_Clan a0)), (3, (c_Clan b))], [], [], []⟩ : S)) (fun v => R_SameClan_J1 a0 b v = some r) ?_ ?_
  ·refine Nblk ?_
   unfold R_SameClan_L1 at hF
   refine Niter (fun v1 : Int => (⟨[(2, .ptr 2 0), (3, .ptr 3 0), (5, .i v1)], [(2, (c_Clan a0)), (3, (c_Clan b))], [], [], []⟩ : S)) [] hF (by kernel_rfl) ?_
   intro n1 v1 y1 hF ih1 dn1
   unfold R_SameClan_B1 at hF
   refine NR [.nat (a0.Nodes.length : Int)] [2, 3, 5, 17] [2, 3] [] [(17, .bool (decide (v1 < (a0.Nodes.length : Int))))] (hc (len_ok e_Node a0.Nodes) .nil) ?_
   refine Nif hF (fun hb hF => ?_) (fun hb hF => ?_)
   ·refine Nblk ?_
    obtain ⟨h1, h2, hF⟩ := asrt2 hF
    obtain ⟨x1, h3, hF⟩ := ob_elim hF
    refine ND [.av (e_Node (lget a0.Nodes v1)), .av (e_Node (lget b.Nodes v1)), .callB (.bool x1)] [2, 3, 5, 31] [2, 3] [] [(31, .bool (!x1))] (hc (idx_ok e_Node h1) (hc (idx_ok e_Node h2) (hc (R_SameNode_ok (⟨(lget a0.Nodes v1).N, (lget a0.Nodes v1).ID, (lget a0.Nodes v1).Term, (lget a0.Nodes v1).Vote, (lget a0.Nodes v1).Log, (lget a0.Nodes v1).Role, (lget a0.Nodes v1).Commit, (lget a0.Nodes v1).Votes, (lget a0.Nodes v1).Next, (lget a0.Nodes v1).Have⟩ : Node) (⟨(lget b.Nodes v1).N, (lget b.Nodes v1).ID, (lget b.Nodes v1).Term, (lget b.Nodes v1).Vote, (lget b.Nodes v1).Log, (lget b.Nodes v1).Role, (lget b.Nodes v1).Commit, (lget b.Nodes v1).Votes, (lget b.Nodes v1).Next, (lget b.Nodes v1).Have⟩ : Node) x1 h3) .nil))) ?_
    refine Nif hF (fun hb hF => ?_) (fun hb hF => ?_)
    ·refine NR [] [4] [] [] [(4, .bool false)] .nil ?_
     have hF := ret_done hF dn1
     cases hF
     exact Wk_ret (hfin _ ⟨[], [], [], [], [], [], by kernel_rfl⟩)
    ·refine NR [] [2, 3, 5] [2, 3] [] [(5, .i (w64 (v1 + 1)))] .nil ?_
     exact Nrnd [] hF ih1 (by kernel_rfl)
   ·refine Nexit rfl ?_
    have hF := inrO_done hF dn1
    exact metP () [] hF (by kernel_rfl)
  ·intro v hF
   have hF : R_SameClan_J1 a0 b v = some r := hF
   unfold R_SameClan_J1 at hF
   obtain ⟨x, h0, hF⟩ := ob_elim hF
   refine NR [.callB (.bool x)] [4] [] [] [(4, .bool x)] (hc (R_SameMails_ok a0.Way b.Way x h0) .nil) ?_
   cases hF
   exact Wk_ret (hfin _ ⟨[], [], [], [], [], [], by kernel_rfl⟩)

/- tabularylaw.ClanPlays -/
noncomputable def law_ClanPlays_J2 (x7 : List (List UInt8) × Fault) (v1 : List (List UInt8)) : Option Bool :=
 ob (if (decide (x7.2.Code = 0)) = true then (R_SameTexts x7.1 v1) else some default) fun x8 =>
 some ((decide (x7.2.Code = 0)) && x8)
noncomputable def law_ClanPlays_J3 (v2 : List (List UInt8) × Int × Int) (v3 : List (List UInt8) × Int) : Option ((List (List UInt8) × Int × Int) ⊕ Bool) :=
 some (Sum.inl (v3.1, v3.2, w64 (v2.2.2 + 1)))
noncomputable def law_ClanPlays_J4 (v2 : List (List UInt8) × Int × Int) (v4 : Int) (v5 : List (List UInt8)) : Option ((List (List UInt8) × Int × Int) ⊕ Bool) :=
 law_ClanPlays_J3 v2 (v5, v4)
noncomputable def law_ClanPlays_B2 (x4 : List Game × Fault) (v2 : List (List UInt8) × Int × Int) (v4 : Int) (v6 : List (List UInt8) × Int) : Option ((List (List UInt8) × Int) ⊕ ((List (List UInt8) × Int × Int) ⊕ Bool)) :=
 if (decide (v6.2 < v4)) = true then
  asrt (0 ≤ v2.2.2 ∧ v2.2.2 < ((((lget x4.1 (w64 ((x4.1.length : Int) - 1))).C0).Nodes).length : Int)) <|
  asrt (0 ≤ v6.2 ∧ v6.2 < (((lget (((lget x4.1 (w64 ((x4.1.length : Int) - 1))).C0).Nodes) v2.2.2).Log).length : Int)) <|
  asrt (((v6.1 ++ ([(lget ((lget (((lget x4.1 (w64 ((x4.1.length : Int) - 1))).C0).Nodes) v2.2.2).Log) v6.2).Text] : List (List UInt8))).length : Int) * 16 ≤ 140737488351232) <|
  lt ((v6.1 ++ ([(lget ((lget (((lget x4.1 (w64 ((x4.1.length : Int) - 1))).C0).Nodes) v2.2.2).Log) v6.2).Text] : List (List UInt8)))) fun (v7 : List (List UInt8)) =>
  some (Sum.inl (v7, w64 (v6.2 + 1)))
 else
  inrO (law_ClanPlays_J4 v2 v4 v6.1)
noncomputable def law_ClanPlays_L2 (x4 : List Game × Fault) (v2 : List (List UInt8) × Int × Int) (v4 : Int) (v0 : List (List UInt8) × Int) : Option ((List (List UInt8) × Int × Int) ⊕ Bool) :=
 loopO (fun y => law_ClanPlays_B2 x4 v2 v4 y) v0
noncomputable def law_ClanPlays_B1 (x4 : List Game × Fault) (x7 : List (List UInt8) × Fault) (v2 : List (List UInt8) × Int × Int) : Option ((List (List UInt8) × Int × Int) ⊕ Bool) :=
 if (decide (v2.2.2 < ((((lget x4.1 (w64 ((x4.1.length : Int) - 1))).C0).Nodes).length : Int))) = true then
  asrt (0 ≤ v2.2.2 ∧ v2.2.2 < ((((lget x4.1 (w64 ((x4.1.length : Int) - 1))).C0).Nodes).length : Int)) <|
  if (decide (v2.2.1 < ((lget (((lget x4.1 (w64 ((x4.1.length : Int) - 1))).C0).Nodes) v2.2.2).Commit))) = true then
   asrt (0 ≤ v2.2.2 ∧ v2.2.2 < ((((lget x4.1 (w64 ((x4.1.length : Int) - 1))).C0).Nodes).length : Int)) <|
   lt ((lget (((lget x4.1 (w64 ((x4.1.length : Int) - 1))).C0).Nodes) v2.2.2).Commit) fun (v4 : Int) =>
   law_ClanPlays_L2 x4 v2 v4 (([] : List (List UInt8)), 0)
  else
   law_ClanPlays_J3 v2 (v2.1, v2.2.1)
 else
  inrO (law_ClanPlays_J2 x7 v2.1)
noncomputable def law_ClanPlays_L1 (x4 : List Game × Fault) (x7 : List (List UInt8) × Fault) (v0 : List (List UInt8) × Int × Int) : Option Bool :=
 loopO (fun y => law_ClanPlays_B1 x4 x7 y) v0
noncomputable def law_ClanPlays_J1 (num : Int) (texts : List (List UInt8)) (deeds : List Deed) (x1 : List (List UInt8)) (x2 : Clan × Fault) (v : Unit) : Option Bool :=
 ob (R_SameTexts x1 texts) fun x3 =>
 if (!x3) = true then
  some false
 else
  ob (R_Games_v1 num texts deeds) fun x4 =>
  if (!(decide (x2.2.Code = x4.2.Code) && (decide (x2.2.At = x4.2.At) && true))) = true then
   some false
  else
   if (!decide (x4.2.Code = 0)) = true then
    ob (R_SameClan x2.1 (⟨([] : List Node), ([] : List Mail)⟩ : Clan)) fun x5 =>
    some x5
   else
    asrt (0 ≤ w64 ((x4.1.length : Int) - 1) ∧ w64 ((x4.1.length : Int) - 1) < (x4.1.length : Int)) <|
    ob (R_SameClan x2.1 (⟨((lget x4.1 (w64 ((x4.1.length : Int) - 1))).C0).Nodes, ((lget x4.1 (w64 ((x4.1.length : Int) - 1))).C0).Way⟩ : Clan)) fun x6 =>
    if (!x6) = true then
     some false
    else
     ob (clan_Good_v1 x2.1) fun x7 =>
     law_ClanPlays_L1 x4 x7 (([] : List (List UInt8)), 0, 0)
noncomputable def law_ClanPlays_B3 (num : Int) (texts : List (List UInt8)) (deeds : List Deed) (x1 : List (List UInt8)) (x2 : Clan × Fault) (v8 : Int) : Option (Int ⊕ Bool) :=
 if (decide (v8 < (deeds.length : Int))) = true then
  asrt (0 ≤ v8 ∧ v8 < (deeds.length : Int)) <|
  asrt (0 ≤ v8 ∧ v8 < (deeds.length : Int)) <|
  asrt (0 ≤ v8 ∧ v8 < (deeds.length : Int)) <|
  if (!(decide ((lget deeds v8).Kind = (lget deeds v8).Kind) && (decide ((lget deeds v8).Who = (lget deeds v8).Who) && (decide ((lget deeds v8).N = (lget deeds v8).N) && true)))) = true then
   some (Sum.inr false)
  else
   some (Sum.inl (w64 (v8 + 1)))
 else
  inrO (law_ClanPlays_J1 num texts deeds x1 x2 ())
noncomputable def law_ClanPlays_L3 (num : Int) (texts : List (List UInt8)) (deeds : List Deed) (x1 : List (List UInt8)) (x2 : Clan × Fault) (v0 : Int) : Option Bool :=
 loopO (fun y => law_ClanPlays_B3 num texts deeds x1 x2 y) v0
noncomputable def law_ClanPlays (num : Int) (texts : List (List UInt8)) (deeds : List Deed) : Option Bool :=
 ob (law_clanBegun) fun x =>
 if (!x) = true then
  some false
 else
  if ((((decide (300 < (deeds.length : Int))) && (decide ((deeds.length : Int) < 2001))) || (decide (3000 < (deeds.length : Int)))) || (decide (300 < (texts.length : Int)))) = true then
   some true
  else
   asrt ((deeds.length : Int) * 24 ≤ 140737488351232) <|
   ob (law_ownTexts_v1 texts) fun x1 =>
   ob (clan_Play_v1 num x1 deeds) fun x2 =>
   law_ClanPlays_L3 num texts deeds x1 x2 0
theorem law_ClanPlays_ok (num : Int) (texts : List (List UInt8)) (deeds : List Deed) (r : Bool) (hF : law_ClanPlays num texts deeds = some r) : Pe Try.prog 9 S.none [.i num, .sl 1 (texts.map e_str), .sl 3 (deeds.map e_Deed)] (.bool r) S.none := by
 refine PeN 150 [.tmp 6] [4] Ty.ok Fn.b9 Try.func9 ?_
 intro Q g hfin
 unfold law_ClanPlays at hF
 refine NR [] [0, 1, 2] [] [] [] .nil ?_
 obtain ⟨x, h0, hF⟩ := ob_elim hF
 refine NR [.callB (.bool x)] [0, 1, 2, 22] [] [] [(22, .bool (!x))] (hc (law_clanBegun_ok  x h0) .nil) ?_
 refine Nif hF (fun hb hF => ?_) (fun hb hF => ?_)
 ·refine NR [] [6] [] [] [(6, .bool false)] .nil ?_
  cases hF
  exact Wk_ret (hfin _ ⟨[], [], [], [], [], [], by kernel_rfl⟩)
 ·refine NR [.nat (deeds.length : Int), .nat (deeds.length : Int), .nat (deeds.length : Int), .nat (texts.length : Int)] [0, 1, 2, 40] [] [] [(40, .bool ((((decide (300 < (deeds.length : Int))) && (decide ((deeds.length : Int) < 2001))) || (decide (3000 < (deeds.length : Int)))) || (decide (300 < (texts.length : Int)))))] (hc (len_ok e_Deed deeds) (hc (fun (_ : (decide (300 < (deeds.length : Int))) = true) => (len_ok e_Deed deeds)) (hc (fun (_ : (!((decide (300 < (deeds.length : Int))) && (decide ((deeds.length : Int) < 2001)))) = true) => (len_ok e_Deed deeds)) (hc (fun (_ : (!(((decide (300 < (deeds.length : Int))) && (decide ((deeds.length : Int) < 2001))) || (decide (3000 < (deeds.length : Int))))) = true) => (len_ok e_str texts)) .nil)))) ?_
  refine Nif hF (fun hb hF => ?_) (fun hb hF => ?_)
  ·refine NR [] [6] [] [] [(6, .bool true)] .nil ?_
   cases hF
   exact Wk_ret (hfin _ ⟨[], [], [], [], [], [], by kernel_rfl⟩)
  ·obtain ⟨h1, hF⟩ := asrt_elim hF
   refine VR [.xs (deeds.map e_Deed)] [0, 1, 2, 7] [] [42] [] [(7, .row 42 1)] [] [(42, .z 75 3 1 (deeds.map e_Deed))] [] (hc (app0_ok e_Deed deeds) (hc (appl_ok e_Deed h1) .nil)) ?_
   obtain ⟨x1, h2, hF⟩ := ob_elim hF
   refine NR [.call (.sl 1 (x1.map e_str))] [0, 1, 2, 7, 8] [] [42] [(8, .sl 1 (x1.map e_str))] (hc (law_ownTexts_v1_ok texts x1 h2) .nil) ?_
   obtain ⟨x2, h3, hF⟩ := ob_elim hF
   refine VR [.call (.tup [.agg (c_Clan x2.1), .agg (c_Fault x2.2)])] [0, 1, 2, 7, 8, 9, 10] [9, 10] [42] [] [(9, .ptr 9 0), (10, .ptr 10 0)] [(9, (c_Clan x2.1)), (10, (c_Fault x2.2))] [(42, ⟨75, 3, 1, (deeds.map e_Deed).length, 0, true, 0, [], (deeds.map e_Deed)⟩)] [] (hc (clan_Play_v1_ok num x1 deeds x2 h3) .nil) ?_
   refine NR [] [0, 1, 2, 7, 8, 9, 10, 11] [9, 10] [42] [(11, .i 0)] .nil ?_
   refine NmeetP (fun v : Unit => (⟨[(0, .i num), (1, .sl 1 (texts.map e_str)), (2, .sl 3 (deeds.map e_Deed)), (8, .sl 1 (x1.map e_str)), (9, .ptr 9 0), (10, .ptr 10 0)], [(9, (c_Clan x2.1)), (10, (c_Fault x2.2))], [], [], []⟩ : S)) (fun v => law_ClanPlays_J1 num texts deeds x1 x2 v = some r) ?_ ?_
   ·refine Nblk ?_
    unfold law_ClanPlays_L3 at hF
    refine Niter (fun v8 : Int => (⟨[(0, .i num), (1, .sl 1 (texts.map e_str)), (2, .sl 3 (deeds.map e_Deed)), (7, .row 42 1), (8, .sl 1 (x1.map e_str)), (9, .ptr 9 0), (10, .ptr 10 0), (11, .i v8)], [(9, (c_Clan x2.1)), (10, (c_Fault x2.2))], [(42, ⟨75, 3, 1, (deeds.map e_Deed).length, 0, true, 0, [], (deeds.map e_Deed)⟩)], [], []⟩ : S)) [] hF (by kernel_rfl) ?_
    intro n1 v8 y1 hF ih1 dn1
    unfold law_ClanPlays_B3 at hF
    refine NR [.nat (deeds.length : Int)] [0, 1, 2, 7, 8, 9, 10, 11, 55] [9, 10] [42] [(55, .bool (decide (v8 < (deeds.length : Int))))] (hc (len_ok e_Deed deeds) .nil) ?_
    refine Nif hF (fun hb hF => ?_) (fun hb hF => ?_)
    ·refine Nblk ?_
     obtain ⟨h16, h17, hF⟩ := asrt2 hF
     obtain ⟨h18, hF⟩ := asrt_elim hF
     refine ND [.av (e_Deed (lget deeds v8)), .av (e_Deed (lget deeds v8))] [0, 1, 2, 7, 8, 9, 10, 11, 66] [9, 10] [42] [(66, .bool (!(decide ((lget deeds v8).Kind = (lget deeds v8).Kind) && (decide ((lget deeds v8).Who = (lget deeds v8).Who) && (decide ((lget deeds v8).N = (lget deeds v8).N) && true)))))] (hc (ixr_ok e_Deed h16) (hc (ldr_ok e_Deed h17) (hc (idx_ok e_Deed h18) .nil))) ?_
     refine Nif hF (fun hb hF => ?_) (fun hb hF => ?_)
     ·refine NR [] [6] [] [] [(6, .bool false)] .nil ?_
      have hF := ret_done hF dn1
      cases hF
      exact Wk_ret (hfin _ ⟨[], [], [], [], [], [], by kernel_rfl⟩)
     ·refine NR [] [0, 1, 2, 7, 8, 9, 10, 11] [9, 10] [42] [(11, .i (w64 (v8 + 1)))] .nil ?_
      exact Nrnd [] hF ih1 (by kernel_rfl)
    ·refine Nexit rfl ?_
     have hF := inrO_done hF dn1
     exact metP () [] hF (by kernel_rfl)
   ·intro v hF
    have hF : law_ClanPlays_J1 num texts deeds x1 x2 v = some r := hF
    unfold law_ClanPlays_J1 at hF
    obtain ⟨x3, h4, hF⟩ := ob_elim hF
    refine NR [.callB (.bool x3)] [0, 1, 2, 9, 10, 70] [9, 10] [] [(70, .bool (!x3))] (hc (R_SameTexts_ok x1 texts x3 h4) .nil) ?_
    refine Nif hF (fun hb hF => ?_) (fun hb hF => ?_)
    ·refine NR [] [6] [] [] [(6, .bool false)] .nil ?_
     cases hF
     exact Wk_ret (hfin _ ⟨[], [], [], [], [], [], by kernel_rfl⟩)
    ·obtain ⟨x4, h5, hF⟩ := ob_elim hF
     refine VR [.call (.tup [.sl 3 (x4.1.map e_Game), .agg (c_Fault x4.2)])] [9, 10, 12, 13] [9, 10, 13] [] [] [(12, .sl 3 (x4.1.map e_Game)), (13, .ptr 13 0)] [(13, (c_Fault x4.2))] [] [] (hc (R_Games_v1_ok num texts deeds x4 h5) .nil) ?_
     refine NR [] [9, 12, 13, 80] [9, 13] [] [(80, .bool (!(decide (x2.2.Code = x4.2.Code) && (decide (x2.2.At = x4.2.At) && true))))] .nil ?_
     refine Nif hF (fun hb hF => ?_) (fun hb hF => ?_)
     ·refine NR [] [6] [] [] [(6, .bool false)] .nil ?_
      cases hF
      exact Wk_ret (hfin _ ⟨[], [], [], [], [], [], by kernel_rfl⟩)
     ·refine NR [] [9, 12, 83] [9] [] [(83, .bool (!decide (x4.2.Code = 0)))] .nil ?_
      refine Nif hF (fun hb hF => ?_) (fun hb hF => ?_)
      ·obtain ⟨x5, h6, hF⟩ := ob_elim hF
       refine NR [.callB (.bool x5)] [6] [] [] [(6, .bool x5)] (hc (R_SameClan_ok x2.1 (⟨([] : List Node), ([] : List Mail)⟩ : Clan) x5 h6) .nil) ?_
       cases hF
       exact Wk_ret (hfin _ ⟨[], [], [], [], [], [], by kernel_rfl⟩)
      ·obtain ⟨h7, hF⟩ := asrt_elim hF
       refine VR [.nat (x4.1.length : Int), .av (e_Game (lget x4.1 (w64 ((x4.1.length : Int) - 1))))] [9, 14] [9, 14] [] [] [(14, .ptr 14 0)] [(14, [.sl 10 ((((lget x4.1 (w64 ((x4.1.length : Int) - 1))).C0).Nodes).map e_Node), .sl 9 ((((lget x4.1 (w64 ((x4.1.length : Int) - 1))).C0).Way).map e_Mail)])] [] [] (hc (len_ok e_Game x4.1) (hc (idx_ok e_Game h7) .nil)) ?_
       obtain ⟨x6, h8, hF⟩ := ob_elim hF
       refine NR [.callB (.bool x6)] [9, 14, 97] [9, 14] [] [(97, .bool (!x6))] (hc (R_SameClan_ok x2.1 (⟨((lget x4.1 (w64 ((x4.1.length : Int) - 1))).C0).Nodes, ((lget x4.1 (w64 ((x4.1.length : Int) - 1))).C0).Way⟩ : Clan) x6 h8) .nil) ?_
       refine Nif hF (fun hb hF => ?_) (fun hb hF => ?_)
       ·refine NR [] [6] [] [] [(6, .bool false)] .nil ?_
        cases hF
        exact Wk_ret (hfin _ ⟨[], [], [], [], [], [], by kernel_rfl⟩)
       ·obtain ⟨x7, h9, hF⟩ := ob_elim hF
        refine VR [.call (.tup [.sl 1 (x7.1.map e_str), .agg (c_Fault x7.2)])] [14, 15, 16] [14, 16] [] [] [(15, .sl 1 (x7.1.map e_str)), (16, .ptr 16 0)] [(16, (c_Fault x7.2))] [] [] (hc (clan_Good_v1_ok x2.1 x7 h9) .nil) ?_
        refine NR [] [14, 15, 16, 17] [14, 16] [] [(17, .nils)] .nil ?_
        refine NR [] [14, 15, 16, 17, 18] [14, 16] [] [(18, .i 0)] .nil ?_
        refine NR [] [14, 15, 16, 17, 18, 19] [14, 16] [] [(19, .i 0)] .nil ?_
        refine NmeetP (fun v1 : List (List UInt8) => (⟨[(15, .sl 1 (x7.1.map e_str)), (16, .ptr 16 0), (17, .row 141 0)], [(16, (c_Fault x7.2))], [(141, .z 9 1 0 (v1.map e_str))], [], []⟩ : S)) (fun v1 => law_ClanPlays_J2 x7 v1 = some r) ?_ ?_
        ·refine Nblk ?_
         unfold law_ClanPlays_L1 at hF
         refine Wk_nilrow 17 60000 9 1 rfl rfl rfl ?_
         refine Wk_trim (fs := [14, 15, 16, 17, 18, 19]) (bs := [14, 16]) (rs := [60000]) (ms := []) (aa := []) (nv := []) rfl ?_
         refine Wk_ren' ⟨[], [(60000, 141)], [], []⟩ rfl ?_
         refine Niter (fun v2 : List (List UInt8) × Int × Int => (⟨[(14, .ptr 14 0), (15, .sl 1 (x7.1.map e_str)), (16, .ptr 16 0), (17, .row 141 0), (18, .i v2.2.1), (19, .i v2.2.2)], [(14, [.sl 10 ((((lget x4.1 (w64 ((x4.1.length : Int) - 1))).C0).Nodes).map e_Node), .sl 9 ((((lget x4.1 (w64 ((x4.1.length : Int) - 1))).C0).Way).map e_Mail)]), (16, (c_Fault x7.2))], [(141, .z 9 1 0 (v2.1.map e_str))], [], []⟩ : S)) [] hF (by kernel_rfl) ?_
         intro n1 v2 y1 hF ih1 dn1
         unfold law_ClanPlays_B1 at hF
         refine NR [.nat ((((lget x4.1 (w64 ((x4.1.length : Int) - 1))).C0).Nodes).length : Int)] [14, 15, 16, 17, 18, 19, 107] [14, 16] [141] [(107, .bool (decide (v2.2.2 < ((((lget x4.1 (w64 ((x4.1.length : Int) - 1))).C0).Nodes).length : Int))))] (hc (len_ok e_Node (((lget x4.1 (w64 ((x4.1.length : Int) - 1))).C0).Nodes)) .nil) ?_
         refine Nif hF (fun hb hF => ?_) (fun hb hF => ?_)
         ·refine Nblk ?_
          obtain ⟨h11, hF⟩ := asrt_elim hF
          refine NR [.av (e_Node (lget (((lget x4.1 (w64 ((x4.1.length : Int) - 1))).C0).Nodes) v2.2.2))] [14, 15, 16, 17, 18, 19, 117] [14, 16] [141] [(117, .bool (decide (v2.2.1 < ((lget (((lget x4.1 (w64 ((x4.1.length : Int) - 1))).C0).Nodes) v2.2.2).Commit))))] (hc (idx_ok e_Node h11) .nil) ?_
          refine NmeetP (fun v3 : List (List UInt8) × Int => (⟨[(14, .ptr 14 0), (15, .sl 1 (x7.1.map e_str)), (16, .ptr 16 0), (17, .row 141 0), (18, .i v3.2), (19, .i v2.2.2)], [(14, [.sl 10 ((((lget x4.1 (w64 ((x4.1.length : Int) - 1))).C0).Nodes).map e_Node), .sl 9 ((((lget x4.1 (w64 ((x4.1.length : Int) - 1))).C0).Way).map e_Mail)]), (16, (c_Fault x7.2))], [(141, .z 9 1 0 (v3.1.map e_str))], [], []⟩ : S)) (fun v3 => law_ClanPlays_J3 v2 v3 = some y1) ?_ ?_
          ·refine Nif hF (fun hb hF => ?_) (fun hb hF => ?_)
           ·obtain ⟨h12, hF⟩ := asrt_elim hF
            refine NRL ((lget (((lget x4.1 (w64 ((x4.1.length : Int) - 1))).C0).Nodes) v2.2.2).Commit) (fun v4 : Int => ([(18, .i v4)], [], [], [])) [.av (e_Node (lget (((lget x4.1 (w64 ((x4.1.length : Int) - 1))).C0).Nodes) v2.2.2))] [14, 15, 16, 18, 19] [14, 16] [] [] (hc (idx_ok e_Node h12) .nil) (fun v4 hv => ?_)
            have hF := lt_elim hF hv
            refine NR [] [14, 15, 16, 17, 18, 19] [14, 16] [] [(17, .nils)] .nil ?_
            refine NR [] [14, 15, 16, 17, 18, 19, 20] [14, 16] [] [(20, .i 0)] .nil ?_
            refine NmeetP (fun v5 : List (List UInt8) => (⟨[(14, .ptr 14 0), (15, .sl 1 (x7.1.map e_str)), (16, .ptr 16 0), (17, .row 141 0), (18, .i v4), (19, .i v2.2.2)], [(14, [.sl 10 ((((lget x4.1 (w64 ((x4.1.length : Int) - 1))).C0).Nodes).map e_Node), .sl 9 ((((lget x4.1 (w64 ((x4.1.length : Int) - 1))).C0).Way).map e_Mail)]), (16, (c_Fault x7.2))], [(141, .z 9 1 0 (v5.map e_str))], [], []⟩ : S)) (fun v5 => law_ClanPlays_J4 v2 v4 v5 = some y1) ?_ ?_
            ·refine Nblk ?_
             unfold law_ClanPlays_L2 at hF
             refine Wk_nilrow 17 60001 9 1 rfl rfl rfl ?_
             refine Wk_trim (fs := [14, 15, 16, 17, 18, 19, 20]) (bs := [14, 16]) (rs := [60001]) (ms := []) (aa := []) (nv := []) rfl ?_
             refine Wk_ren' ⟨[], [(60001, 141)], [], []⟩ rfl ?_
             refine Niter (fun v6 : List (List UInt8) × Int => (⟨[(14, .ptr 14 0), (15, .sl 1 (x7.1.map e_str)), (16, .ptr 16 0), (17, .row 141 0), (18, .i v4), (19, .i v2.2.2), (20, .i v6.2)], [(14, [.sl 10 ((((lget x4.1 (w64 ((x4.1.length : Int) - 1))).C0).Nodes).map e_Node), .sl 9 ((((lget x4.1 (w64 ((x4.1.length : Int) - 1))).C0).Way).map e_Mail)]), (16, (c_Fault x7.2))], [(141, .z 9 1 0 (v6.1.map e_str))], [], []⟩ : S)) [] hF (by kernel_rfl) ?_
             intro n2 v6 y2 hF ih2 dn2
             unfold law_ClanPlays_B2 at hF
             refine NR [] [14, 15, 16, 17, 18, 19, 20, 126] [14, 16] [141] [(126, .bool (decide (v6.2 < v4)))] .nil ?_
             refine Nif hF (fun hb hF => ?_) (fun hb hF => ?_)
             ·refine Nblk ?_
              obtain ⟨h13, h14, hF⟩ := asrt2 hF
              obtain ⟨h15, hF⟩ := asrt_elim hF
              refine NRL ((v6.1 ++ ([(lget ((lget (((lget x4.1 (w64 ((x4.1.length : Int) - 1))).C0).Nodes) v2.2.2).Log) v6.2).Text] : List (List UInt8)))) (fun v7 : List (List UInt8) => ([(17, .row 141 1)], [], [(141, .z 9 1 1 (v7.map e_str))], [])) [.av (e_Node (lget (((lget x4.1 (w64 ((x4.1.length : Int) - 1))).C0).Nodes) v2.2.2)), .av (e_Entry (lget ((lget (((lget x4.1 (w64 ((x4.1.length : Int) - 1))).C0).Nodes) v2.2.2).Log) v6.2)), .sealed, .xs ((v6.1 ++ ([(lget ((lget (((lget x4.1 (w64 ((x4.1.length : Int) - 1))).C0).Nodes) v2.2.2).Log) v6.2).Text] : List (List UInt8))).map e_str)] [14, 15, 16, 17, 18, 19, 20] [14, 16] [141] [] (hc (idx_ok e_Node h13) (hc (idx_ok e_Entry h14) (hc (app_ok e_str v6.1 ([(lget ((lget (((lget x4.1 (w64 ((x4.1.length : Int) - 1))).C0).Nodes) v2.2.2).Log) v6.2).Text] : List (List UInt8))) (hc (appl_ok e_str h15) .nil)))) (fun v7 hv => ?_)
              have hF := lt_elim hF hv
              refine NR [] [14, 15, 16, 17, 18, 19, 20] [14, 16] [141] [(20, .i (w64 (v6.2 + 1)))] .nil ?_
              exact Nrnd [(141, ⟨0, true, true, false⟩)] hF ih2 (by kernel_rfl)
             ·refine Nexit rfl ?_
              have hF := inrO_done hF dn2
              exact metP v6.1 [] hF (by kernel_rfl)
            ·intro v5 hF
             have hF : law_ClanPlays_J4 v2 v4 v5 = some y1 := hF
             unfold law_ClanPlays_J4 at hF
             exact metP (v5, v4) [] hF (by kernel_rfl)
           ·exact metP (v2.1, v2.2.1) [] hF (by kernel_rfl)
          ·intro v3 hF
           have hF : law_ClanPlays_J3 v2 v3 = some y1 := hF
           unfold law_ClanPlays_J3 at hF
           refine NR [] [14, 15, 16, 17, 18, 19] [14, 16] [141] [(19, .i (w64 (v2.2.2 + 1)))] .nil ?_
           exact Nrnd [] hF ih1 (by kernel_rfl)
         ·refine Nexit rfl ?_
          have hF := inrO_done hF dn1
          exact metP v2.1 [] hF (by kernel_rfl)
        ·intro v1 hF
         have hF : law_ClanPlays_J2 x7 v1 = some r := hF
         unfold law_ClanPlays_J2 at hF
         obtain ⟨x8, h10, hF⟩ := ob_elim hF
         refine NR [.callB (.bool x8)] [6] [] [] [(6, .bool ((decide (x7.2.Code = 0)) && x8))] (hc (fun (ga0 : (decide (x7.2.Code = 0)) = true) => (R_SameTexts_ok x7.1 v1 x8 (ite_t h10 ga0))) .nil) ?_
         cases hF
         exact Wk_ret (hfin _ ⟨[], [], [], [], [], [], by kernel_rfl⟩)

end G
end Go.Proofs.Ytcnngkigpfpalaa
