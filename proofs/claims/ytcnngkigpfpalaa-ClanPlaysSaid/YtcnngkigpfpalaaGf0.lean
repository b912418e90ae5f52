/- The program's functions as plain functions, and that they are these. Written by a program (dec2.py). -/
import Derived.Test.YtcnngkigpfpalaaTys
namespace Go.Proofs.Ytcnngkigpfpalaa
open Go Go.Dm
set_option linter.unusedVariables false
set_option linter.unusedSimpArgs false
set_option maxRecDepth 100000
namespace G
/- clan.fault -/
noncomputable def clan_fault (code : Int) (at0 : Int) : Fault :=
 (⟨code, at0⟩ : Fault)
theorem clan_fault_ok (code : Int) (at0 : Int) (r : Fault) (hF : clan_fault code at0 = r) : Pe Try.prog 84 S.none [.i code, .i at0] (.agg (c_Fault r)) S.none := by
 refine PeN 8 [.cell 4 26] [26] Ty.ok Fn.b84 Try.func84 ?_
 intro Q g hfin
 unfold clan_fault at hF
 refine VR [] [0, 1, 4] [4] [] [] [(4, .ptr 4 0)] [(4, [.i 0, .i 0])] [] [] .nil ?_
 refine VR [] [4] [4] [] [] [] [(4, [.i code, .i at0])] [] [] .nil ?_
 cases hF
 exact Wk_ret (hfin _ ⟨[], [], [], [], [], [], by kernel_rfl⟩)

/- raft.within -/
noncomputable def raft_within (num : Int) (from0 : Int) (to0 : Int) : Bool :=
 (decide (from0 ≤ num)) && (decide (num ≤ to0))
theorem raft_within_ok (num : Int) (from0 : Int) (to0 : Int) (r : Bool) (hF : raft_within num from0 to0 = r) : Pe Try.prog 60 S.none [.i num, .i from0, .i to0] (.bool r) S.none := by
 refine PeN 15 [.tmp 6] [4] Ty.ok Fn.b60 Try.func60 ?_
 intro Q g hfin
 unfold raft_within at hF
 refine NR [] [0, 1, 2] [] [] [] .nil ?_
 refine NR [] [6] [] [] [(6, .bool ((decide (from0 ≤ num)) && (decide (num ≤ to0))))] .nil ?_
 cases hF
 exact Wk_ret (hfin _ ⟨[], [], [], [], [], [], by kernel_rfl⟩)

/- raft.fault -/
noncomputable def raft_fault (code : Int) (at0 : Int) : Fault :=
 (⟨code, at0⟩ : Fault)
theorem raft_fault_ok (code : Int) (at0 : Int) (r : Fault) (hF : raft_fault code at0 = r) : Pe Try.prog 61 S.none [.i code, .i at0] (.agg (c_Fault r)) S.none := by
 refine PeN 8 [.cell 4 26] [26] Ty.ok Fn.b61 Try.func61 ?_
 intro Q g hfin
 unfold raft_fault at hF
 refine VR [] [0, 1, 4] [4] [] [] [(4, .ptr 4 0)] [(4, [.i 0, .i 0])] [] [] .nil ?_
 refine VR [] [4] [4] [] [] [] [(4, [.i code, .i at0])] [] [] .nil ?_
 cases hF
 exact Wk_ret (hfin _ ⟨[], [], [], [], [], [], by kernel_rfl⟩)

/- entry.fault -/
noncomputable def entry_fault (code : Int) (at0 : Int) : Fault :=
 (⟨code, at0⟩ : Fault)
theorem entry_fault_ok (code : Int) (at0 : Int) (r : Fault) (hF : entry_fault code at0 = r) : Pe Try.prog 57 S.none [.i code, .i at0] (.agg (c_Fault r)) S.none := by
 refine PeN 8 [.cell 4 26] [26] Ty.ok Fn.b57 Try.func57 ?_
 intro Q g hfin
 unfold entry_fault at hF
 refine VR [] [0, 1, 4] [4] [] [] [(4, .ptr 4 0)] [(4, [.i 0, .i 0])] [] [] .nil ?_
 refine VR [] [4] [4] [] [] [] [(4, [.i code, .i at0])] [] [] .nil ?_
 cases hF
 exact Wk_ret (hfin _ ⟨[], [], [], [], [], [], by kernel_rfl⟩)

/- entry.Check -/
noncomputable def entry_Check_J1 (v : Unit) : Option Fault :=
 some (⟨0, 0⟩ : Fault)
noncomputable def entry_Check_B1 (l : List Entry) (v1 : Int × Int) : Option ((Int × Int) ⊕ Fault) :=
 if (decide (v1.2 < (l.length : Int))) = true then
  asrt (0 ≤ v1.2 ∧ v1.2 < (l.length : Int)) <|
  if ((decide (((lget l v1.2).Term) < 1)) || (decide (1000000000 < ((lget l v1.2).Term)))) = true then
   lt (entry_fault 3 v1.2) fun x1 =>
   some (Sum.inr x1)
  else
   if (decide (((lget l v1.2).Term) < v1.1)) = true then
    lt (entry_fault 11 v1.2) fun x2 =>
    some (Sum.inr x2)
   else
    if (decide (200 < (((lget l v1.2).Text).length : Int))) = true then
     lt (entry_fault 8 v1.2) fun x3 =>
     some (Sum.inr x3)
    else
     some (Sum.inl ((lget l v1.2).Term, w64 (v1.2 + 1)))
 else
  inrO (entry_Check_J1 ())
noncomputable def entry_Check_L1 (l : List Entry) (v0 : Int × Int) : Option Fault :=
 loopO (fun y => entry_Check_B1 l y) v0
noncomputable def entry_Check (l : List Entry) : Option Fault :=
 if (decide (100 < (l.length : Int))) = true then
  lt (entry_fault 2 (-1)) fun x =>
  some x
 else
  entry_Check_L1 l (0, 0)
theorem entry_Check_ok (l : List Entry) (r : Fault) (hF : entry_Check l = some r) : Pe Try.prog 17 S.none [.sl 2 (l.map e_Entry)] (.agg (c_Fault r)) S.none := by
 refine PeN 46 [.cell 2 26] [26] Ty.ok Fn.b17 Try.func17 ?_
 intro Q g hfin
 unfold entry_Check at hF
 refine VR [] [0, 2] [2] [] [] [(2, .ptr 2 0)] [(2, [.i 0, .i 0])] [] [] .nil ?_
 refine NR [.nat (l.length : Int)] [0, 2, 8] [2] [] [(8, .bool (decide (100 < (l.length : Int))))] (hc (len_ok e_Entry l) .nil) ?_
 refine Nif hF (fun hb hF => ?_) (fun hb hF => ?_)
 ·obtain ⟨x, h0, hF⟩ := lt_split hF
  refine VR [.callB (.agg (c_Fault x))] [2] [2] [] [] [] [(2, (c_Fault x))] [] [] (hc (entry_fault_ok 2 (-1) x h0) .nil) ?_
  cases hF
  exact Wk_ret (hfin _ ⟨[], [], [], [], [], [], by kernel_rfl⟩)
 ·refine NR [] [0, 2, 3] [2] [] [(3, .i 0)] .nil ?_
  refine NR [.nat (l.length : Int)] [2, 3, 10, 11, 12] [2] [] [(10, .sl 2 (l.map e_Entry)), (11, .i (l.length : Int)), (12, .i 0)] (hc (len_ok e_Entry l) .nil) ?_
  refine NmeetP (fun v : Unit => (⟨[(2, .ptr 2 0)], [(2, [.i 0, .i 0])], [], [], []⟩ : S)) (fun v => entry_Check_J1 v = some r) ?_ ?_
  ·refine Nblk ?_
   unfold entry_Check_L1 at hF
   refine Niter (fun v1 : Int × Int => (⟨[(2, .ptr 2 0), (3, .i v1.1), (10, .sl 2 (l.map e_Entry)), (11, .i (l.length : Int)), (12, .i v1.2)], [(2, [.i 0, .i 0])], [], [], []⟩ : S)) [] hF (by kernel_rfl) ?_
   intro n1 v1 y1 hF ih1 dn1
   unfold entry_Check_B1 at hF
   refine NR [] [2, 3, 10, 11, 12, 13] [2] [] [(13, .bool (decide (v1.2 < (l.length : Int))))] .nil ?_
   refine Nif hF (fun hb hF => ?_) (fun hb hF => ?_)
   ·refine Nblk ?_
    obtain ⟨h1, hF⟩ := asrt_elim hF
    refine VR [.av (e_Entry (lget l v1.2))] [2, 3, 4, 5, 10, 11, 12] [2, 5] [] [] [(4, .i v1.2), (5, .ptr 5 0)] [(5, [.i ((lget l v1.2).Term), .str ((lget l v1.2).Text)])] [] [] (hc (idx_ok e_Entry h1) .nil) ?_
    refine Nblk ?_
    refine NR [] [2, 3, 4, 5, 10, 11, 12, 17] [2, 5] [] [(17, .bool ((decide (((lget l v1.2).Term) < 1)) || (decide (1000000000 < ((lget l v1.2).Term)))))] .nil ?_
    refine Nif hF (fun hb hF => ?_) (fun hb hF => ?_)
    ·obtain ⟨x1, h2, hF⟩ := lt_split hF
     refine VR [.callB (.agg (c_Fault x1))] [2] [2] [] [] [] [(2, (c_Fault x1))] [] [] (hc (entry_fault_ok 3 v1.2 x1 h2) .nil) ?_
     have hF := ret_done hF dn1
     cases hF
     exact Wk_ret (hfin _ ⟨[], [], [], [], [], [], by kernel_rfl⟩)
    ·refine NR [] [2, 4, 5, 10, 11, 12, 28] [2, 5] [] [(28, .bool (decide (((lget l v1.2).Term) < v1.1)))] .nil ?_
     refine Nif hF (fun hb hF => ?_) (fun hb hF => ?_)
     ·obtain ⟨x2, h3, hF⟩ := lt_split hF
      refine VR [.callB (.agg (c_Fault x2))] [2] [2] [] [] [] [(2, (c_Fault x2))] [] [] (hc (entry_fault_ok 11 v1.2 x2 h3) .nil) ?_
      have hF := ret_done hF dn1
      cases hF
      exact Wk_ret (hfin _ ⟨[], [], [], [], [], [], by kernel_rfl⟩)
     ·refine NR [] [2, 4, 5, 10, 11, 12, 35] [2, 5] [] [(35, .bool (decide (200 < (((lget l v1.2).Text).length : Int))))] .nil ?_
      refine Nif hF (fun hb hF => ?_) (fun hb hF => ?_)
      ·obtain ⟨x3, h4, hF⟩ := lt_split hF
       refine VR [.callB (.agg (c_Fault x3))] [2] [2] [] [] [] [(2, (c_Fault x3))] [] [] (hc (entry_fault_ok 8 v1.2 x3 h4) .nil) ?_
       have hF := ret_done hF dn1
       cases hF
       exact Wk_ret (hfin _ ⟨[], [], [], [], [], [], by kernel_rfl⟩)
      ·refine NR [] [2, 3, 10, 11, 12] [2] [] [(3, .i ((lget l v1.2).Term))] .nil ?_
       refine NR [] [2, 3, 10, 11, 12] [2] [] [(12, .i (w64 (v1.2 + 1)))] .nil ?_
       exact Nrnd [] hF ih1 (by kernel_rfl)
   ·refine Nexit rfl ?_
    have hF := inrO_done hF dn1
    exact metP () [] hF (by kernel_rfl)
  ·intro v hF
   have hF : entry_Check_J1 v = some r := hF
   unfold entry_Check_J1 at hF
   refine NR [] [2] [2] [] [] .nil ?_
   cases hF
   exact Wk_ret (hfin _ ⟨[], [], [], [], [], [], by kernel_rfl⟩)

/- entry.TermAt -/
noncomputable def entry_TermAt (l : List Entry) (at0 : Int) : Option Int :=
 if ((decide (at0 < 1)) || (decide ((l.length : Int) < at0))) = true then
  some 0
 else
  asrt (0 ≤ w64 (at0 - 1) ∧ w64 (at0 - 1) < (l.length : Int)) <|
  some ((lget l (w64 (at0 - 1))).Term)
theorem entry_TermAt_ok (l : List Entry) (at0 : Int) (r : Int) (hF : entry_TermAt l at0 = some r) : Pe Try.prog 62 S.none [.sl 2 (l.map e_Entry), .i at0] (.i r) S.none := by
 refine PeN 19 [.tmp 4] [3] Ty.ok Fn.b62 Try.func62 ?_
 intro Q g hfin
 unfold entry_TermAt at hF
 refine NR [] [0, 1] [] [] [] .nil ?_
 refine NR [.nat (l.length : Int)] [0, 1, 12] [] [] [(12, .bool ((decide (at0 < 1)) || (decide ((l.length : Int) < at0))))] (hc (fun (_ : (!(decide (at0 < 1))) = true) => (len_ok e_Entry l)) .nil) ?_
 refine Nif hF (fun hb hF => ?_) (fun hb hF => ?_)
 ·refine NR [] [4] [] [] [(4, .i 0)] .nil ?_
  cases hF
  exact Wk_ret (hfin _ ⟨[], [], [], [], [], [], by kernel_rfl⟩)
 ·obtain ⟨h0, hF⟩ := asrt_elim hF
  refine NR [.av (e_Entry (lget l (w64 (at0 - 1))))] [4] [] [] [(4, .i ((lget l (w64 (at0 - 1))).Term))] (hc (idx_ok e_Entry h0) .nil) ?_
  cases hF
  exact Wk_ret (hfin _ ⟨[], [], [], [], [], [], by kernel_rfl⟩)

/- raft.most -/
noncomputable def raft_most (k0 : Int) (num : Int) : Bool :=
 decide (num < (w64 (2 * k0)))
theorem raft_most_ok (k0 : Int) (num : Int) (r : Bool) (hF : raft_most k0 num = r) : Pe Try.prog 63 S.none [.i k0, .i num] (.bool r) S.none := by
 refine PeN 9 [.tmp 4] [4] Ty.ok Fn.b63 Try.func63 ?_
 intro Q g hfin
 unfold raft_most at hF
 refine NR [] [0, 1] [] [] [] .nil ?_
 refine NR [] [4] [] [] [(4, .bool (decide (num < (w64 (2 * k0)))))] .nil ?_
 cases hF
 exact Wk_ret (hfin _ ⟨[], [], [], [], [], [], by kernel_rfl⟩)

/- raft.Check -/
noncomputable def raft_Check_J2 (v1 : Bool) : Option Fault :=
 if (!v1) = true then
  lt (raft_fault 5 (-3)) fun x12 =>
  some x12
 else
  some (⟨0, 0⟩ : Fault)
noncomputable def raft_Check_J4 (v4 : Bool) : Option Fault :=
 raft_Check_J2 v4
noncomputable def raft_Check_B1 (x : Node) (v5 : Bool × Int) : Option ((Bool × Int) ⊕ Fault) :=
 if (decide (v5.2 < (x.Have.length : Int))) = true then
  asrt (0 ≤ v5.2 ∧ v5.2 < (x.Have.length : Int)) <|
  lt (raft_within (lget x.Have v5.2) 0 (x.Log.length : Int)) fun x13 =>
  some (Sum.inl (v5.1 && x13, w64 (v5.2 + 1)))
 else
  inrO (raft_Check_J4 v5.1)
noncomputable def raft_Check_L1 (x : Node) (v0 : Bool × Int) : Option Fault :=
 loopO (fun y => raft_Check_B1 x y) v0
noncomputable def raft_Check_J3 (x : Node) (v3 : Bool) : Option Fault :=
 raft_Check_L1 x (v3, 0)
noncomputable def raft_Check_B2 (x : Node) (v6 : Bool × Int) : Option ((Bool × Int) ⊕ Fault) :=
 if (decide (v6.2 < (x.Next.length : Int))) = true then
  asrt (0 ≤ v6.2 ∧ v6.2 < (x.Next.length : Int)) <|
  lt (raft_within (lget x.Next v6.2) 1 (w64 ((x.Log.length : Int) + 1))) fun x14 =>
  some (Sum.inl (v6.1 && x14, w64 (v6.2 + 1)))
 else
  inrO (raft_Check_J3 x v6.1)
noncomputable def raft_Check_L2 (x : Node) (v0 : Bool × Int) : Option Fault :=
 loopO (fun y => raft_Check_B2 x y) v0
noncomputable def raft_Check_J1 (x : Node) (v : Bool) : Option Fault :=
 if (decide (x.Role = 2)) = true then
  lt ((v && (decide ((x.Next.length : Int) = x.N))) && (decide ((x.Have.length : Int) = x.N))) fun (v2 : Bool) =>
  raft_Check_L2 x (v2, 0)
 else
  lt ((v && (decide ((x.Next.length : Int) = 0))) && (decide ((x.Have.length : Int) = 0))) fun (v7 : Bool) =>
  raft_Check_J2 v7
noncomputable def raft_Check_J5 (x : Node) (v8 : Bool × (List (Int × Int))) : Option Fault :=
 lt (raft_most (x.Votes.length : Int) x.N) fun x15 =>
 raft_Check_J1 x ((v8.1 && (decide (((mget v8.2 x.ID).getD (0 : Int)) = 1))) && (!x15))
noncomputable def raft_Check_B3 (x : Node) (v9 : Bool × (List (Int × Int)) × Int) : Option ((Bool × (List (Int × Int)) × Int) ⊕ Fault) :=
 if (decide (v9.2.2 < (x.Votes.length : Int))) = true then
  asrt (0 ≤ v9.2.2 ∧ v9.2.2 < (x.Votes.length : Int)) <|
  lt (raft_within (lget x.Votes v9.2.2) 0 (w64 (x.N - 1))) fun x16 =>
  lt ((v9.1 && x16) && (decide (((mget v9.2.1 (lget x.Votes v9.2.2)).getD (0 : Int)) = 0))) fun (v10 : Bool) =>
  some (Sum.inl (v10, (mput v9.2.1 (lget x.Votes v9.2.2) (1 : Int)), w64 (v9.2.2 + 1)))
 else
  inrO (raft_Check_J5 x (v9.1, v9.2.1))
noncomputable def raft_Check_L3 (x : Node) (v0 : Bool × (List (Int × Int)) × Int) : Option Fault :=
 loopO (fun y => raft_Check_B3 x y) v0
noncomputable def raft_Check (x : Node) : Option Fault :=
 lt (raft_within x.N 1 7) fun x1 =>
 lt (raft_within x.ID 0 (w64 (x.N - 1))) fun x2 =>
 if ((!x1) || (!x2)) = true then
  lt (raft_fault 3 (-1)) fun x3 =>
  some x3
 else
  lt (raft_within x.Term 0 1000000000) fun x4 =>
  lt (raft_within x.Vote 0 x.N) fun x5 =>
  lt (raft_within x.Role 0 2) fun x6 =>
  lt (raft_within x.Commit 0 (x.Log.length : Int)) fun x7 =>
  if ((((!x4) || (!x5)) || (!x6)) || (!x7)) = true then
   lt (raft_fault 3 (-2)) fun x8 =>
   some x8
  else
   ob (entry_Check x.Log) fun x9 =>
   if (!decide (x9.Code = 0)) = true then
    some x9
   else
    ob (entry_TermAt x.Log (x.Log.length : Int)) fun x10 =>
    if (decide (x.Term < x10)) = true then
     lt (raft_fault 11 (-3)) fun x11 =>
     some x11
    else
     if (decide (x.Role = 1)) = true then
      raft_Check_L3 x (true, ([] : List (Int × Int)), 0)
     else
      raft_Check_J1 x (decide ((x.Votes.length : Int) = 0))
theorem raft_Check_ok (x : Node) (r : Fault) (hF : raft_Check x = some r) : Pe Try.prog 30 S.none [.agg (c_Node x)] (.agg (c_Fault r)) S.none := by
 refine PeN 188 [.cell 2 26] [26] Ty.ok Fn.b30 Try.func30 ?_
 intro Q g hfin
 unfold raft_Check at hF
 refine VR [] [1, 2] [1, 2] [] [] [(1, .ptr 1 0), (2, .ptr 2 0)] [(1, (c_Node x)), (2, [.i 0, .i 0])] [] [] .nil ?_
 refine NR [.nat (x.Log.length : Int)] [1, 2, 3] [1, 2] [] [(3, .i (x.Log.length : Int))] (hc (len_ok e_Entry x.Log) .nil) ?_
 refine Nblk ?_
 obtain ⟨x1, h0, hF⟩ := lt_split hF
 obtain ⟨x2, h1, hF⟩ := lt_split hF
 refine NR [.callB (.bool x1), .callB (.bool x2)] [1, 2, 3, 16] [1, 2] [] [(16, .bool ((!x1) || (!x2)))] (hc (raft_within_ok x.N 1 7 x1 h0) (hc (fun (ga0 : (!(!x1)) = true) => (raft_within_ok x.ID 0 (w64 (x.N - 1)) x2 h1)) .nil)) ?_
 refine Nif hF (fun hb hF => ?_) (fun hb hF => ?_)
 ·obtain ⟨x3, h2, hF⟩ := lt_split hF
  refine VR [.callB (.agg (c_Fault x3))] [2] [2] [] [] [] [(2, (c_Fault x3))] [] [] (hc (raft_fault_ok 3 (-1) x3 h2) .nil) ?_
  cases hF
  exact Wk_ret (hfin _ ⟨[], [], [], [], [], [], by kernel_rfl⟩)
 ·obtain ⟨x4, h3, hF⟩ := lt_split hF
  obtain ⟨x5, h4, hF⟩ := lt_split hF
  obtain ⟨x6, h5, hF⟩ := lt_split hF
  obtain ⟨x7, h6, hF⟩ := lt_split hF
  refine NR [.callB (.bool x4), .callB (.bool x5), .callB (.bool x6), .callB (.bool x7)] [1, 2, 3, 31] [1, 2] [] [(31, .bool ((((!x4) || (!x5)) || (!x6)) || (!x7)))] (hc (raft_within_ok x.Term 0 1000000000 x4 h3) (hc (fun (ga0 : (!(!x4)) = true) => (raft_within_ok x.Vote 0 x.N x5 h4)) (hc (fun (ga0 : (!((!x4) || (!x5))) = true) => (raft_within_ok x.Role 0 2 x6 h5)) (hc (fun (ga0 : (!(((!x4) || (!x5)) || (!x6))) = true) => (raft_within_ok x.Commit 0 (x.Log.length : Int) x7 h6)) .nil)))) ?_
  refine Nif hF (fun hb hF => ?_) (fun hb hF => ?_)
  ·obtain ⟨x8, h7, hF⟩ := lt_split hF
   refine VR [.callB (.agg (c_Fault x8))] [2] [2] [] [] [] [(2, (c_Fault x8))] [] [] (hc (raft_fault_ok 3 (-2) x8 h7) .nil) ?_
   cases hF
   exact Wk_ret (hfin _ ⟨[], [], [], [], [], [], by kernel_rfl⟩)
  ·obtain ⟨x9, h8, hF⟩ := ob_elim hF
   refine VR [.callB (.agg (c_Fault x9))] [1, 2, 3, 4] [1, 2, 4] [] [] [(4, .ptr 4 0)] [(4, (c_Fault x9))] [] [] (hc (entry_Check_ok x.Log x9 h8) .nil) ?_
   refine NR [] [1, 2, 3, 4, 63] [1, 2, 4] [] [(63, .bool (!decide (x9.Code = 0)))] .nil ?_
   refine Nif hF (fun hb hF => ?_) (fun hb hF => ?_)
   ·refine VR [] [2] [2] [] [] [] [(2, (c_Fault x9))] [] [] .nil ?_
    cases hF
    exact Wk_ret (hfin _ ⟨[], [], [], [], [], [], by kernel_rfl⟩)
   ·obtain ⟨x10, h9, hF⟩ := ob_elim hF
    refine ND [.callB (.i x10)] [1, 2, 3, 71] [1, 2] [] [(71, .bool (decide (x.Term < x10)))] (hc (entry_TermAt_ok x.Log (x.Log.length : Int) x10 h9) .nil) ?_
    refine Nif hF (fun hb hF => ?_) (fun hb hF => ?_)
    ·obtain ⟨x11, h10, hF⟩ := lt_split hF
     refine VR [.callB (.agg (c_Fault x11))] [2] [2] [] [] [] [(2, (c_Fault x11))] [] [] (hc (raft_fault_ok 11 (-3) x11 h10) .nil) ?_
     cases hF
     exact Wk_ret (hfin _ ⟨[], [], [], [], [], [], by kernel_rfl⟩)
    ·refine NR [] [1, 2, 3, 5] [1, 2] [] [(5, .bool true)] .nil ?_
     refine NR [] [1, 2, 3, 5, 75] [1, 2] [] [(75, .bool (decide (x.Role = 1)))] .nil ?_
     refine NmeetP (fun v : Bool => (⟨[(1, .ptr 1 0), (2, .ptr 2 0), (3, .i (x.Log.length : Int)), (5, .bool v)], [(1, (c_Node x)), (2, [.i 0, .i 0])], [], [], []⟩ : S)) (fun v => raft_Check_J1 x v = some r) ?_ ?_
     ·refine Nif hF (fun hb hF => ?_) (fun hb hF => ?_)
      ·refine VR [] [1, 2, 3, 5, 6] [1, 2] [] [76] [(6, .mp 76)] [] [] [(76, (([] : List (Int × Int)).map (fun p => (e_i64 p.1, e_i64 p.2))))] .nil ?_
       refine VR [.nat (x.Votes.length : Int)] [1, 2, 3, 5, 6, 78, 79, 80] [1, 2] [] [76] [(78, .sl 1 (x.Votes.map e_i64)), (79, .i (x.Votes.length : Int)), (80, .i 0)] [] [] [] (hc (len_ok e_i64 x.Votes) .nil) ?_
       refine NmeetP (fun v8 : Bool × (List (Int × Int)) => (⟨[(1, .ptr 1 0), (2, .ptr 2 0), (3, .i (x.Log.length : Int)), (5, .bool v8.1), (6, .mp 76)], [(1, (c_Node x)), (2, [.i 0, .i 0])], [], [(76, (v8.2.map (fun p => (e_i64 p.1, e_i64 p.2))))], []⟩ : S)) (fun v8 => raft_Check_J5 x v8 = some r) ?_ ?_
       ·refine Nblk ?_
        unfold raft_Check_L3 at hF
        refine Niter (fun v9 : Bool × (List (Int × Int)) × Int => (⟨[(1, .ptr 1 0), (2, .ptr 2 0), (3, .i (x.Log.length : Int)), (5, .bool v9.1), (6, .mp 76), (78, .sl 1 (x.Votes.map e_i64)), (79, .i (x.Votes.length : Int)), (80, .i v9.2.2)], [(1, (c_Node x)), (2, [.i 0, .i 0])], [], [(76, (v9.2.1.map (fun p => (e_i64 p.1, e_i64 p.2))))], []⟩ : S)) [] hF (by kernel_rfl) ?_
        intro n1 v9 y1 hF ih1 dn1
        unfold raft_Check_B3 at hF
        refine VR [] [1, 2, 3, 5, 6, 78, 79, 80, 81] [1, 2] [] [76] [(81, .bool (decide (v9.2.2 < (x.Votes.length : Int))))] [] [] [] .nil ?_
        refine Nif hF (fun hb hF => ?_) (fun hb hF => ?_)
        ·refine Nblk ?_
         obtain ⟨h17, hF⟩ := asrt_elim hF
         refine VR [.av (e_i64 (lget x.Votes v9.2.2))] [1, 2, 3, 5, 6, 8, 78, 79, 80] [1, 2] [] [76] [(8, .i (lget x.Votes v9.2.2))] [] [] [] (hc (idx_ok e_i64 h17) .nil) ?_
         obtain ⟨x16, h18, hF⟩ := lt_split hF
         refine NRL ((v9.1 && x16) && (decide (((mget v9.2.1 (lget x.Votes v9.2.2)).getD (0 : Int)) = 0))) (fun v10 : Bool => ([(5, .bool v10)], [], [], [])) [.callB (.bool x16), .av (e_i64 ((mget v9.2.1 (lget x.Votes v9.2.2)).getD (0 : Int))), .bo ((mget v9.2.1 (lget x.Votes v9.2.2)).isSome)] [1, 2, 3, 5, 6, 8, 78, 79, 80] [1, 2] [] [76] (hc (fun (ga0 : v9.1 = true) => (raft_within_ok (lget x.Votes v9.2.2) 0 (w64 (x.N - 1)) x16 h18)) (hc (fun (_ : (v9.1 && x16) = true) => (mkeys_ok (kenc_i64 : KEnc _ e_i64) e_i64 v9.2.1)) (hc (fun (_ : (v9.1 && x16) = true) => (mlook_ok (kenc_i64 : KEnc _ e_i64) e_i64 v9.2.1 (lget x.Votes v9.2.2) (0 : Int))) (hc (fun (_ : (v9.1 && x16) = true) => (msome_ok (kenc_i64 : KEnc _ e_i64) e_i64 v9.2.1 (lget x.Votes v9.2.2))) .nil)))) (fun v10 hv => ?_)
         have hF := lt_elim hF hv
         refine VR [.ms ((mput v9.2.1 (lget x.Votes v9.2.2) (1 : Int)).map (fun p => (e_i64 p.1, e_i64 p.2)))] [1, 2, 3, 5, 6, 78, 79, 80] [1, 2] [] [76] [] [] [] [(76, ((mput v9.2.1 (lget x.Votes v9.2.2) (1 : Int)).map (fun p => (e_i64 p.1, e_i64 p.2))))] (hc (mkeys_ok (kenc_i64 : KEnc _ e_i64) e_i64 v9.2.1) (hc (mput_ok (kenc_i64 : KEnc _ e_i64) e_i64 v9.2.1 (lget x.Votes v9.2.2) (1 : Int)) .nil)) ?_
         refine VR [] [1, 2, 3, 5, 6, 78, 79, 80] [1, 2] [] [76] [(80, .i (w64 (v9.2.2 + 1)))] [] [] [] .nil ?_
         exact Nrnd [] hF ih1 (by kernel_rfl)
        ·refine Nexit rfl ?_
         have hF := inrO_done hF dn1
         exact metP (v9.1, v9.2.1) [] hF (by kernel_rfl)
       ·intro v8 hF
        have hF : raft_Check_J5 x v8 = some r := hF
        unfold raft_Check_J5 at hF
        obtain ⟨x15, h16, hF⟩ := lt_split hF
        refine NR [.av (e_i64 ((mget v8.2 x.ID).getD (0 : Int))), .bo ((mget v8.2 x.ID).isSome), .nat (x.Votes.length : Int), .callB (.bool x15)] [1, 2, 3, 5] [1, 2] [] [(5, .bool ((v8.1 && (decide (((mget v8.2 x.ID).getD (0 : Int)) = 1))) && (!x15)))] (hc (fun (_ : v8.1 = true) => (mkeys_ok (kenc_i64 : KEnc _ e_i64) e_i64 v8.2)) (hc (fun (_ : v8.1 = true) => (mlook_ok (kenc_i64 : KEnc _ e_i64) e_i64 v8.2 x.ID (0 : Int))) (hc (fun (_ : v8.1 = true) => (msome_ok (kenc_i64 : KEnc _ e_i64) e_i64 v8.2 x.ID)) (hc (fun (_ : (v8.1 && (decide (((mget v8.2 x.ID).getD (0 : Int)) = 1))) = true) => (len_ok e_i64 x.Votes)) (hc (fun (ga0 : (v8.1 && (decide (((mget v8.2 x.ID).getD (0 : Int)) = 1))) = true) => (raft_most_ok (x.Votes.length : Int) x.N x15 h16)) .nil))))) ?_
        exact metP ((v8.1 && (decide (((mget v8.2 x.ID).getD (0 : Int)) = 1))) && (!x15)) [] hF (by kernel_rfl)
      ·refine NR [.nat (x.Votes.length : Int)] [1, 2, 3, 5] [1, 2] [] [(5, .bool (decide ((x.Votes.length : Int) = 0)))] (hc (len_ok e_i64 x.Votes) .nil) ?_
       exact metP (decide ((x.Votes.length : Int) = 0)) [] hF (by kernel_rfl)
     ·intro v hF
      have hF : raft_Check_J1 x v = some r := hF
      unfold raft_Check_J1 at hF
      refine NR [] [1, 2, 3, 5, 124] [1, 2] [] [(124, .bool (decide (x.Role = 2)))] .nil ?_
      refine NmeetP (fun v1 : Bool => (⟨[(2, .ptr 2 0), (5, .bool v1)], [(2, [.i 0, .i 0])], [], [], []⟩ : S)) (fun v1 => raft_Check_J2 v1 = some r) ?_ ?_
      ·refine Nif hF (fun hb hF => ?_) (fun hb hF => ?_)
       ·refine NRL ((v && (decide ((x.Next.length : Int) = x.N))) && (decide ((x.Have.length : Int) = x.N))) (fun v2 : Bool => ([(5, .bool v2)], [], [], [])) [.nat (x.Next.length : Int), .nat (x.Have.length : Int)] [1, 2, 3, 5] [1, 2] [] [] (hc (fun (_ : v = true) => (len_ok e_i64 x.Next)) (hc (fun (_ : (v && (decide ((x.Next.length : Int) = x.N))) = true) => (len_ok e_i64 x.Have)) .nil)) (fun v2 hv => ?_)
        have hF := lt_elim hF hv
        refine NR [.nat (x.Next.length : Int)] [1, 2, 3, 5, 143, 144, 145] [1, 2] [] [(143, .sl 1 (x.Next.map e_i64)), (144, .i (x.Next.length : Int)), (145, .i 0)] (hc (len_ok e_i64 x.Next) .nil) ?_
        refine NmeetP (fun v3 : Bool => (⟨[(1, .ptr 1 0), (2, .ptr 2 0), (3, .i (x.Log.length : Int)), (5, .bool v3)], [(1, (c_Node x)), (2, [.i 0, .i 0])], [], [], []⟩ : S)) (fun v3 => raft_Check_J3 x v3 = some r) ?_ ?_
        ·refine Nblk ?_
         unfold raft_Check_L2 at hF
         refine Niter (fun v6 : Bool × Int => (⟨[(1, .ptr 1 0), (2, .ptr 2 0), (3, .i (x.Log.length : Int)), (5, .bool v6.1), (143, .sl 1 (x.Next.map e_i64)), (144, .i (x.Next.length : Int)), (145, .i v6.2)], [(1, (c_Node x)), (2, [.i 0, .i 0])], [], [], []⟩ : S)) [] hF (by kernel_rfl) ?_
         intro n1 v6 y1 hF ih1 dn1
         unfold raft_Check_B2 at hF
         refine NR [] [1, 2, 3, 5, 143, 144, 145, 146] [1, 2] [] [(146, .bool (decide (v6.2 < (x.Next.length : Int))))] .nil ?_
         refine Nif hF (fun hb hF => ?_) (fun hb hF => ?_)
         ·refine Nblk ?_
          obtain ⟨h14, hF⟩ := asrt_elim hF
          refine NR [.av (e_i64 (lget x.Next v6.2))] [1, 2, 3, 5, 10, 143, 144, 145] [1, 2] [] [(10, .i (lget x.Next v6.2))] (hc (idx_ok e_i64 h14) .nil) ?_
          obtain ⟨x14, h15, hF⟩ := lt_split hF
          refine NR [.callB (.bool x14)] [1, 2, 3, 5, 143, 144, 145] [1, 2] [] [(5, .bool (v6.1 && x14))] (hc (fun (ga0 : v6.1 = true) => (raft_within_ok (lget x.Next v6.2) 1 (w64 ((x.Log.length : Int) + 1)) x14 h15)) .nil) ?_
          refine NR [] [1, 2, 3, 5, 143, 144, 145] [1, 2] [] [(145, .i (w64 (v6.2 + 1)))] .nil ?_
          exact Nrnd [] hF ih1 (by kernel_rfl)
         ·refine Nexit rfl ?_
          have hF := inrO_done hF dn1
          exact metP v6.1 [] hF (by kernel_rfl)
        ·intro v3 hF
         have hF : raft_Check_J3 x v3 = some r := hF
         unfold raft_Check_J3 at hF
         refine NR [.nat (x.Have.length : Int)] [2, 3, 5, 158, 159, 160] [2] [] [(158, .sl 1 (x.Have.map e_i64)), (159, .i (x.Have.length : Int)), (160, .i 0)] (hc (len_ok e_i64 x.Have) .nil) ?_
         refine NmeetP (fun v4 : Bool => (⟨[(2, .ptr 2 0), (5, .bool v4)], [(2, [.i 0, .i 0])], [], [], []⟩ : S)) (fun v4 => raft_Check_J4 v4 = some r) ?_ ?_
         ·refine Nblk ?_
          unfold raft_Check_L1 at hF
          refine Niter (fun v5 : Bool × Int => (⟨[(2, .ptr 2 0), (3, .i (x.Log.length : Int)), (5, .bool v5.1), (158, .sl 1 (x.Have.map e_i64)), (159, .i (x.Have.length : Int)), (160, .i v5.2)], [(2, [.i 0, .i 0])], [], [], []⟩ : S)) [] hF (by kernel_rfl) ?_
          intro n1 v5 y1 hF ih1 dn1
          unfold raft_Check_B1 at hF
          refine NR [] [2, 3, 5, 158, 159, 160, 161] [2] [] [(161, .bool (decide (v5.2 < (x.Have.length : Int))))] .nil ?_
          refine Nif hF (fun hb hF => ?_) (fun hb hF => ?_)
          ·refine Nblk ?_
           obtain ⟨h12, hF⟩ := asrt_elim hF
           refine NR [.av (e_i64 (lget x.Have v5.2))] [2, 3, 5, 12, 158, 159, 160] [2] [] [(12, .i (lget x.Have v5.2))] (hc (idx_ok e_i64 h12) .nil) ?_
           obtain ⟨x13, h13, hF⟩ := lt_split hF
           refine NR [.callB (.bool x13)] [2, 3, 5, 158, 159, 160] [2] [] [(5, .bool (v5.1 && x13))] (hc (fun (ga0 : v5.1 = true) => (raft_within_ok (lget x.Have v5.2) 0 (x.Log.length : Int) x13 h13)) .nil) ?_
           refine NR [] [2, 3, 5, 158, 159, 160] [2] [] [(160, .i (w64 (v5.2 + 1)))] .nil ?_
           exact Nrnd [] hF ih1 (by kernel_rfl)
          ·refine Nexit rfl ?_
           have hF := inrO_done hF dn1
           exact metP v5.1 [] hF (by kernel_rfl)
         ·intro v4 hF
          have hF : raft_Check_J4 v4 = some r := hF
          unfold raft_Check_J4 at hF
          exact metP v4 [] hF (by kernel_rfl)
       ·refine NRL ((v && (decide ((x.Next.length : Int) = 0))) && (decide ((x.Have.length : Int) = 0))) (fun v7 : Bool => ([(5, .bool v7)], [], [], [])) [.nat (x.Next.length : Int), .nat (x.Have.length : Int)] [2, 5] [2] [] [] (hc (fun (_ : v = true) => (len_ok e_i64 x.Next)) (hc (fun (_ : (v && (decide ((x.Next.length : Int) = 0))) = true) => (len_ok e_i64 x.Have)) .nil)) (fun v7 hv => ?_)
        have hF := lt_elim hF hv
        exact metP v7 [] hF (by kernel_rfl)
      ·intro v1 hF
       have hF : raft_Check_J2 v1 = some r := hF
       unfold raft_Check_J2 at hF
       refine NR [] [2, 185] [2] [] [(185, .bool (!v1))] .nil ?_
       refine Nif hF (fun hb hF => ?_) (fun hb hF => ?_)
       ·obtain ⟨x12, h11, hF⟩ := lt_split hF
        refine VR [.callB (.agg (c_Fault x12))] [2] [2] [] [] [] [(2, (c_Fault x12))] [] [] (hc (raft_fault_ok 5 (-3) x12 h11) .nil) ?_
        cases hF
        exact Wk_ret (hfin _ ⟨[], [], [], [], [], [], by kernel_rfl⟩)
       ·refine NR [] [2] [2] [] [] .nil ?_
        cases hF
        exact Wk_ret (hfin _ ⟨[], [], [], [], [], [], by kernel_rfl⟩)

/- slices.Clone[[]api.Entry,api.Entry] -/
noncomputable def slices_Clone_api_Entry_api_Entry (s0 : List Entry) : Option (List Entry) :=
 ubO (decide (s0.length = 0)) (
  some ([] : List Entry)) (
  asrt (((([] : List Entry) ++ s0).length : Int) * 24 ≤ 140737488351232) <|
  some (([] : List Entry) ++ s0))
theorem slices_Clone_api_Entry_api_Entry_ok (s0 : List Entry) (r : List Entry) (hF : slices_Clone_api_Entry_api_Entry s0 = some r) : Pe Try.prog 55 S.none [.sl 2 (s0.map e_Entry)] (.row 5 0) ⟨[], [], [(5, .o 31 2 0 (r.map e_Entry))], [], []⟩ := by
 refine PeN 8 [.tmp 2] [22] Ty.ok Fn.b55 Try.func55 ?_
 intro Q g hfin
 unfold slices_Clone_api_Entry_api_Entry at hF
 refine NR [] [0] [] [] [] .nil ?_
 refine NR [.bo (decide (s0.length = 0))] [0, 4] [] [] [(4, .ub (decide (s0.length = 0)) true)] (hc (ubn_ok e_Entry s0) .nil) ?_
 refine Wk_ub 4 rfl fun b hb1 hb2 => ?_
 refine Nsplit rfl (fun hb => ?_) (fun hb => ?_)
 ·have hb := hb1 hb
  have hF := (ubO_elim hF).1 hb
  refine NR [] [2] [] [] [(2, .nils)] .nil ?_
  cases hF
  refine Wk_nilrow 2 60000 31 2 rfl rfl rfl ?_
  refine Wk_ren' ⟨[], [(60000, 5)], [], []⟩ rfl ?_
  exact Wk_ret (hfin _ ⟨[5], [], [5], [], [], [(5, ⟨0, true, false, false⟩)], by kernel_rfl⟩)
 ·have hF := (ubO_elim hF).2
  obtain ⟨h0, hF⟩ := asrt_elim hF
  refine VR [.xs ((([] : List Entry) ++ s0).map e_Entry)] [2] [] [5] [] [(2, .row 5 1)] [] [(5, .o 31 2 1 ((([] : List Entry) ++ s0).map e_Entry))] [] (hc (app_ok e_Entry ([] : List Entry) s0) (hc (appl_ok e_Entry h0) .nil)) ?_
  cases hF
  exact Wk_ret (hfin _ ⟨[5], [], [5], [], [], [(5, ⟨0, true, true, false⟩)], by kernel_rfl⟩)

/- slices.Clone[[]int,int] -/
noncomputable def slices_Clone_int_int (s0 : List Int) : Option (List Int) :=
 ubO (decide (s0.length = 0)) (
  some ([] : List Int)) (
  asrt (((([] : List Int) ++ s0).length : Int) * 8 ≤ 140737488351232) <|
  some (([] : List Int) ++ s0))
theorem slices_Clone_int_int_ok (s0 : List Int) (r : List Int) (hF : slices_Clone_int_int s0 = some r) : Pe Try.prog 90 S.none [.sl 1 (s0.map e_i64)] (.row 5 0) ⟨[], [], [(5, .o 3 1 0 (r.map e_i64))], [], []⟩ := by
 refine PeN 8 [.tmp 2] [44] Ty.ok Fn.b90 Try.func90 ?_
 intro Q g hfin
 unfold slices_Clone_int_int at hF
 refine NR [] [0] [] [] [] .nil ?_
 refine NR [.bo (decide (s0.length = 0))] [0, 4] [] [] [(4, .ub (decide (s0.length = 0)) true)] (hc (ubn_ok e_i64 s0) .nil) ?_
 refine Wk_ub 4 rfl fun b hb1 hb2 => ?_
 refine Nsplit rfl (fun hb => ?_) (fun hb => ?_)
 ·have hb := hb1 hb
  have hF := (ubO_elim hF).1 hb
  refine NR [] [2] [] [] [(2, .nils)] .nil ?_
  cases hF
  refine Wk_nilrow 2 60000 3 1 rfl rfl rfl ?_
  refine Wk_ren' ⟨[], [(60000, 5)], [], []⟩ rfl ?_
  exact Wk_ret (hfin _ ⟨[5], [], [5], [], [], [(5, ⟨0, true, false, false⟩)], by kernel_rfl⟩)
 ·have hF := (ubO_elim hF).2
  obtain ⟨h0, hF⟩ := asrt_elim hF
  refine VR [.xs ((([] : List Int) ++ s0).map e_i64)] [2] [] [5] [] [(2, .row 5 1)] [] [(5, .o 3 1 1 ((([] : List Int) ++ s0).map e_i64))] [] (hc (app_ok e_i64 ([] : List Int) s0) (hc (appl_ok e_i64 h0) .nil)) ?_
  cases hF
  exact Wk_ret (hfin _ ⟨[5], [], [5], [], [], [(5, ⟨0, true, true, false⟩)], by kernel_rfl⟩)

/- raft.own -/
noncomputable def raft_own (x : Node) : Option (Int × Int × Int × Int × List Entry × Int × Int × List Int × List Int × List Int) :=
 ob (slices_Clone_api_Entry_api_Entry x.Log) fun x1 =>
 ob (slices_Clone_int_int x.Votes) fun x2 =>
 ob (slices_Clone_int_int x.Next) fun x3 =>
 ob (slices_Clone_int_int x.Have) fun x4 =>
 some (x.N, x.ID, x.Term, x.Vote, x1, x.Role, x.Commit, x2, x3, x4)
theorem raft_own_ok (x : Node) (r : Int × Int × Int × Int × List Entry × Int × Int × List Int × List Int × List Int) (hF : raft_own x = some r) : Pe Try.prog 64 S.none [.agg (c_Node x)] (.ptr 1 0) ⟨[], [(1, [.i r.1, .i r.2.1, .i r.2.2.1, .i r.2.2.2.1, .row 5 0, .i r.2.2.2.2.2.1, .i r.2.2.2.2.2.2.1, .row 8 0, .row 11 0, .row 14 0])], [(5, .o 31 2 0 (r.2.2.2.2.1.map e_Entry)), (8, .o 3 1 0 (r.2.2.2.2.2.2.2.1.map e_i64)), (11, .o 3 1 0 (r.2.2.2.2.2.2.2.2.1.map e_i64)), (14, .o 3 1 0 (r.2.2.2.2.2.2.2.2.2.map e_i64))], [], []⟩ := by
 refine PeN 19 [.tmp 2] [102] Ty.ok Fn.b64 Try.func64 ?_
 intro Q g hfin
 unfold raft_own at hF
 refine VR [] [1] [1] [] [] [(1, .ptr 1 0)] [(1, (c_Node x))] [] [] .nil ?_
 obtain ⟨x1, h0, hF⟩ := ob_elim hF
 obtain ⟨x2, h1, hF⟩ := ob_elim hF
 obtain ⟨x3, h2, hF⟩ := ob_elim hF
 obtain ⟨x4, h3, hF⟩ := ob_elim hF
 refine VD [.callE [] [] [] [] (.row 5 0) ⟨[], [], [(5, .o 31 2 0 (x1.map e_Entry))], [], []⟩, .callE [] [] [] [] (.row 8 0) ⟨[], [], [(8, .o 3 1 0 (x2.map e_i64))], [], []⟩, .callE [] [] [] [] (.row 11 0) ⟨[], [], [(11, .o 3 1 0 (x3.map e_i64))], [], []⟩, .callE [] [] [] [] (.row 14 0) ⟨[], [], [(14, .o 3 1 0 (x4.map e_i64))], [], []⟩] [1] [1] [5, 8, 11, 14] [] [] [(1, [.i x.N, .i x.ID, .i x.Term, .i x.Vote, .row 5 0, .i x.Role, .i x.Commit, .row 8 0, .row 11 0, .row 14 0])] [(5, .o 31 2 0 (x1.map e_Entry)), (8, .o 3 1 0 (x2.map e_i64)), (11, .o 3 1 0 (x3.map e_i64)), (14, .o 3 1 0 (x4.map e_i64))] [] (hc (Pe.ren (slices_Clone_api_Entry_api_Entry_ok x.Log x1 h0) ⟨[], [], [], []⟩) (hc (Pe.ren (slices_Clone_int_int_ok x.Votes x2 h1) ⟨[], [(5, 8)], [], []⟩) (hc (Pe.ren (slices_Clone_int_int_ok x.Next x3 h2) ⟨[], [(5, 11)], [], []⟩) (hc (Pe.ren (slices_Clone_int_int_ok x.Have x4 h3) ⟨[], [(5, 14)], [], []⟩) .nil)))) ?_
 refine NR [] [2] [1] [5, 8, 11, 14] [(2, .ptr 1 0)] .nil ?_
 cases hF
 exact Wk_ret (hfin _ ⟨[5, 8, 11, 14], [1], [5, 8, 11, 14], [], [], [], by kernel_rfl⟩)

/- raft.follow -/
noncomputable def raft_follow (box : Int) (box1 : Int) (box2 : Int) (box3 : Int) (box4 : Int) (box5 : Int) (row : List Entry) (row1 : List Int) (row2 : List Int) (row3 : List Int) : Int × Int × Int × Int × Int × Int :=
 (box, box1, box2, box3, 0, box5)
theorem raft_follow_ok (box : Int) (box1 : Int) (box2 : Int) (box3 : Int) (box4 : Int) (box5 : Int) (row : List Entry) (row1 : List Int) (row2 : List Int) (row3 : List Int) (rk : Nat) (rc : Nat) (rn : Bool) (rk1 : Nat) (rc1 : Nat) (rn1 : Bool) (rk2 : Nat) (rc2 : Nat) (rn2 : Bool) (rk3 : Nat) (rc3 : Nat) (rn3 : Bool) (r : Int × Int × Int × Int × Int × Int) (hF : raft_follow box box1 box2 box3 box4 box5 row row1 row2 row3 = r) : Pe Try.prog 65 ⟨[], [(100000, [.i box, .i box1, .i box2, .i box3, .row 100000 0, .i box4, .i box5, .row 100001 0, .row 100002 0, .row 100003 0])], [(100000, ⟨31, 2, 0, rk, rc, rn, 0, [], (row.map e_Entry)⟩), (100001, ⟨3, 1, 0, rk1, rc1, rn1, 0, [], (row1.map e_i64)⟩), (100002, ⟨3, 1, 0, rk2, rc2, rn2, 0, [], (row2.map e_i64)⟩), (100003, ⟨3, 1, 0, rk3, rc3, rn3, 0, [], (row3.map e_i64)⟩)], [], []⟩ [.ptr 100000 0] (.tup []) ⟨[], [(100000, [.i r.1, .i r.2.1, .i r.2.2.1, .i r.2.2.2.1, .row 100000 0, .i r.2.2.2.2.1, .i r.2.2.2.2.2, .nils, .nils, .nils])], [(100000, ⟨31, 2, 0, rk, rc, rn, 0, [], (row.map e_Entry)⟩), (100001, ⟨3, 1, 0, rk1, rc1, rn1, 0, [], (row1.map e_i64)⟩), (100002, ⟨3, 1, 0, rk2, rc2, rn2, 0, [], (row2.map e_i64)⟩), (100003, ⟨3, 1, 0, rk3, rc3, rn3, 0, [], (row3.map e_i64)⟩)], [], []⟩ := by
 refine PeN 14 [] [] Ty.ok Fn.b65 Try.func65 ?_
 intro Q g hfin
 unfold raft_follow at hF
 refine VR [] [] [100000] [100000, 100001, 100002, 100003] [] [] [(100000, [.i box, .i box1, .i box2, .i box3, .row 100000 0, .i 0, .i box5, .nils, .nils, .nils])] [] [] .nil ?_
 cases hF
 exact Wk_end (hfin _ ⟨[100000, 100001, 100002, 100003], [100000], [100000, 100001, 100002, 100003], [], [], [], by kernel_rfl⟩)

/- raft.Stand$1 -/
noncomputable def raft_Stand_1 (p : Int) (box : Int) (box1 : Int) (box2 : Int) (box3 : Int) (box4 : Int) (box5 : Int) (box6 : List Int) (row : List Entry) : Option (Int × Int × Int × Int × Int × Int × Int × Bool) :=
 ob (entry_TermAt row (row.length : Int)) fun x =>
 some (1, 0, 0, 0, (row.length : Int), x, 0, false)
theorem raft_Stand_1_ok (p : Int) (box : Int) (box1 : Int) (box2 : Int) (box3 : Int) (box4 : Int) (box5 : Int) (box6 : List Int) (row : List Entry) (rk : Nat) (rc : Nat) (rn : Bool) (r : Int × Int × Int × Int × Int × Int × Int × Bool) (hF : raft_Stand_1 p box box1 box2 box3 box4 box5 box6 row = some r) : Pe Try.prog 67 ⟨[], [(100000, [.ptr 100001 0]), (100001, [.i box, .i box1, .i box2, .i box3, .row 100000 0, .i box4, .i box5, .sl 1 (box6.map e_i64), .nils, .nils])], [(100000, ⟨31, 2, 0, rk, rc, rn, 0, [], (row.map e_Entry)⟩)], [], []⟩ [.i p, .ptr 100000 0] (.agg [.i r.1, .i r.2.1, .i r.2.2.1, .i r.2.2.2.1, .i r.2.2.2.2.1, .i r.2.2.2.2.2.1, .i r.2.2.2.2.2.2.1, .row 71000 0, .bool r.2.2.2.2.2.2.2]) ⟨[], [(100000, [.ptr 100001 0]), (100001, [.i box, .i box1, .i box2, .i box3, .row 100000 0, .i box4, .i box5, .sl 1 (box6.map e_i64), .nils, .nils])], [(100000, ⟨31, 2, 0, rk, rc, rn, 0, [], (row.map e_Entry)⟩), (71000, .z 31 2 0 (([] : List Entry).map e_Entry))], [], []⟩ := by
 refine PeN 20 [.cell 3 62] [62] Ty.ok Fn.b67 Try.func67 ?_
 intro Q g hfin
 unfold raft_Stand_1 at hF
 refine VR [] [1, 3] [3, 100000, 100001] [100000] [] [(3, .ptr 3 0)] [(3, [.i 0, .i 0, .i 0, .i 0, .i 0, .i 0, .i 0, .nils, .bool false])] [] [] .nil ?_
 obtain ⟨x, h0, hF⟩ := ob_elim hF
 refine VD [.nat (row.length : Int), .nat (row.length : Int), .callB (.i x)] [3] [3, 100000, 100001] [100000] [] [] [(3, [.i 1, .i 0, .i 0, .i 0, .i (row.length : Int), .i x, .i 0, .nils, .bool false])] [] [] (hc (len_ok e_Entry row) (hc (len_ok e_Entry row) (hc (entry_TermAt_ok row (row.length : Int) x h0) .nil))) ?_
 cases hF
 refine Wk_nilrowB 3 7 60000 31 2 rfl rfl rfl rfl rfl ?_
 refine Wk_ren' ⟨[], [(60000, 71000)], [], []⟩ rfl ?_
 exact Wk_ret (hfin _ ⟨[100000, 71000], [100000, 100001], [100000, 71000], [], [], [], by kernel_rfl⟩)

/- raft.others -/
noncomputable def raft_others_J1 (v : List Mail) : Option (List Mail) :=
 some v
noncomputable def raft_others_B1 (box : Int) (box1 : Int) (box2 : Int) (box3 : Int) (box4 : Int) (box5 : Int) (box6 : List Int) (row : List Entry) (v1 : List Mail × Int) : Option ((List Mail × Int) ⊕ (List Mail)) :=
 if (decide (v1.2 < box)) = true then
  ob (
   if (!decide (v1.2 = box1)) = true then
    ob (raft_Stand_1 v1.2 box box1 box2 box3 box4 box5 box6 row) fun x =>
    asrt (((v1.1 ++ [(⟨x.1, box1, v1.2, box2, x.2.2.2.2.1, x.2.2.2.2.2.1, x.2.2.2.2.2.2.1, ([] : List Entry), x.2.2.2.2.2.2.2⟩ : Mail)]).length : Int) * 88 ≤ 140737488351232) <|
    lt ((v1.1 ++ [(⟨x.1, box1, v1.2, box2, x.2.2.2.2.1, x.2.2.2.2.2.1, x.2.2.2.2.2.2.1, ([] : List Entry), x.2.2.2.2.2.2.2⟩ : Mail)])) fun (v3 : List Mail) =>
    some v3
   else
    some v1.1) fun (v2 : List Mail) =>
  some (Sum.inl (v2, w64 (v1.2 + 1)))
 else
  inrO (raft_others_J1 v1.1)
noncomputable def raft_others_L1 (box : Int) (box1 : Int) (box2 : Int) (box3 : Int) (box4 : Int) (box5 : Int) (box6 : List Int) (row : List Entry) (v0 : List Mail × Int) : Option (List Mail) :=
 loopO (fun y => raft_others_B1 box box1 box2 box3 box4 box5 box6 row y) v0
noncomputable def raft_others (box : Int) (box1 : Int) (box2 : Int) (box3 : Int) (box4 : Int) (box5 : Int) (box6 : List Int) (row : List Entry) : Option (List Mail) :=
 raft_others_L1 box box1 box2 box3 box4 box5 box6 row (([] : List Mail), 0)
theorem raft_others_ok (box : Int) (box1 : Int) (box2 : Int) (box3 : Int) (box4 : Int) (box5 : Int) (box6 : List Int) (row : List Entry) (rk : Nat) (rc : Nat) (rn : Bool) (r : List Mail) (hF : raft_others box box1 box2 box3 box4 box5 box6 row = some r) : Pe Try.prog 66 ⟨[], [(100000, [.i box, .i box1, .i box2, .i box3, .row 100000 0, .i box4, .i box5, .sl 1 (box6.map e_i64), .nils, .nils]), (100001, [.ptr 100000 0])], [(100000, ⟨31, 2, 0, rk, rc, rn, 0, [], (row.map e_Entry)⟩)], [], []⟩ [.ptr 100000 0, .fn 67 [.ptr 100001 0]] (.row 39 0) ⟨[], [(100000, [.i box, .i box1, .i box2, .i box3, .row 100000 0, .i box4, .i box5, .sl 1 (box6.map e_i64), .nils, .nils]), (100001, [.ptr 100000 0])], [(100000, ⟨31, 2, 0, rk, rc, rn, 0, [], (row.map e_Entry)⟩), (39, .z 62 9 0 (r.map e_Mail))], [], []⟩ := by
 refine PeN 42 [.tmp 4] [50] Ty.ok Fn.b66 Try.func66 ?_
 intro Q g hfin
 unfold raft_others at hF
 refine NR [] [0, 1] [100000, 100001] [100000] [] .nil ?_
 refine NR [] [0, 1, 5] [100000, 100001] [100000] [(5, .nils)] .nil ?_
 refine NR [] [0, 1, 5, 11, 12] [100000, 100001] [100000] [(11, .i box), (12, .i 0)] .nil ?_
 refine NmeetP (fun v : List Mail => (⟨[(5, .row 39 0)], [(100000, [.i box, .i box1, .i box2, .i box3, .row 100000 0, .i box4, .i box5, .sl 1 (box6.map e_i64), .nils, .nils]), (100001, [.ptr 100000 0])], [(39, .z 62 9 0 (v.map e_Mail)), (100000, ⟨31, 2, 0, rk, rc, rn, 0, [], (row.map e_Entry)⟩)], [], []⟩ : S)) (fun v => raft_others_J1 v = some r) ?_ ?_
 ·refine Nblk ?_
  unfold raft_others_L1 at hF
  refine Wk_nilrow 5 60000 62 9 rfl rfl rfl ?_
  refine Wk_trim (fs := [0, 1, 5, 11, 12]) (bs := [100000, 100001]) (rs := [60000, 100000]) (ms := []) (aa := []) (nv := []) rfl ?_
  refine Wk_ren' ⟨[], [(60000, 39)], [], []⟩ rfl ?_
  refine Niter (fun v1 : List Mail × Int => (⟨[(0, .ptr 100000 0), (1, .fn 67 [.ptr 100001 0]), (5, .row 39 0), (11, .i box), (12, .i v1.2)], [(100000, [.i box, .i box1, .i box2, .i box3, .row 100000 0, .i box4, .i box5, .sl 1 (box6.map e_i64), .nils, .nils]), (100001, [.ptr 100000 0])], [(39, .z 62 9 0 (v1.1.map e_Mail)), (100000, ⟨31, 2, 0, rk, rc, rn, 0, [], (row.map e_Entry)⟩)], [], []⟩ : S)) [] hF (by kernel_rfl) ?_
  intro n1 v1 y1 hF ih1 dn1
  unfold raft_others_B1 at hF
  refine NR [] [0, 1, 5, 11, 12, 13] [100000, 100001] [39, 100000] [(13, .bool (decide (v1.2 < box)))] .nil ?_
  refine Nif hF (fun hb hF => ?_) (fun hb hF => ?_)
  ·refine Nblk ?_
   refine NR [] [0, 1, 5, 6, 11, 12] [100000, 100001] [39, 100000] [(6, .i v1.2)] .nil ?_
   refine NR [] [0, 1, 5, 6, 11, 12, 20] [100000, 100001] [39, 100000] [(20, .bool (!decide (v1.2 = box1)))] .nil ?_
   obtain ⟨v2, hv, hF⟩ := ob_elim hF
   refine Nmeet (⟨[(0, .ptr 100000 0), (1, .fn 67 [.ptr 100001 0]), (5, .row 39 0), (11, .i box), (12, .i v1.2)], [(100000, [.i box, .i box1, .i box2, .i box3, .row 100000 0, .i box4, .i box5, .sl 1 (box6.map e_i64), .nils, .nils]), (100001, [.ptr 100000 0])], [(39, .z 62 9 0 (v2.map e_Mail)), (100000, ⟨31, 2, 0, rk, rc, rn, 0, [], (row.map e_Entry)⟩)], [], []⟩ : S) ?_ ?_
   ·have hF := hv
    refine Nif hF (fun hb hF => ?_) (fun hb hF => ?_)
    ·obtain ⟨x, h0, hF⟩ := ob_elim hF
     refine VR [.callE [100001, 100000] [100000] [] [] (.agg [.i x.1, .i x.2.1, .i x.2.2.1, .i x.2.2.2.1, .i x.2.2.2.2.1, .i x.2.2.2.2.2.1, .i x.2.2.2.2.2.2.1, .row 23 0, .bool x.2.2.2.2.2.2.2]) ⟨[], [(100001, [.ptr 100000 0]), (100000, [.i box, .i box1, .i box2, .i box3, .row 100000 0, .i box4, .i box5, .sl 1 (box6.map e_i64), .nils, .nils])], [(100000, ⟨31, 2, 0, rk, rc, rn, 0, [], (row.map e_Entry)⟩), (23, .z 31 2 0 (([] : List Entry).map e_Entry))], [], []⟩] [0, 1, 5, 6, 7, 11, 12] [7, 100000, 100001] [23, 39, 100000] [] [(7, .ptr 7 0)] [(7, [.i x.1, .i x.2.1, .i x.2.2.1, .i x.2.2.2.1, .i x.2.2.2.2.1, .i x.2.2.2.2.2.1, .i x.2.2.2.2.2.2.1, .row 23 0, .bool x.2.2.2.2.2.2.2])] [(23, .z 31 2 0 (([] : List Entry).map e_Entry))] [] (hc (Pe.ren (raft_Stand_1_ok v1.2 box box1 box2 box3 box4 box5 box6 row rk rc rn x h0) ⟨[(100000, 100001)], [(71000, 23)], [], []⟩) .nil) ?_
     refine VD [] [0, 1, 5, 7, 11, 12] [7, 100000, 100001] [23, 39, 100000] [] [] [(7, [.i x.1, .i box1, .i v1.2, .i box2, .i x.2.2.2.2.1, .i x.2.2.2.2.2.1, .i x.2.2.2.2.2.2.1, .row 23 0, .bool x.2.2.2.2.2.2.2])] [] [] .nil ?_
     obtain ⟨h1, hF⟩ := asrt_elim hF
     refine NRL ((v1.1 ++ [(⟨x.1, box1, v1.2, box2, x.2.2.2.2.1, x.2.2.2.2.2.1, x.2.2.2.2.2.2.1, ([] : List Entry), x.2.2.2.2.2.2.2⟩ : Mail)])) (fun v3 : List Mail => ([(5, .row 39 1)], [], [(39, .z 62 9 1 (v3.map e_Mail))], [])) [.sealed, .xs ((v1.1 ++ [(⟨x.1, box1, v1.2, box2, x.2.2.2.2.1, x.2.2.2.2.2.1, x.2.2.2.2.2.2.1, ([] : List Entry), x.2.2.2.2.2.2.2⟩ : Mail)]).map e_Mail)] [0, 1, 5, 11, 12] [100000, 100001] [39, 100000] [] (hc (app_ok e_Mail v1.1 [(⟨x.1, box1, v1.2, box2, x.2.2.2.2.1, x.2.2.2.2.2.1, x.2.2.2.2.2.2.1, ([] : List Entry), x.2.2.2.2.2.2.2⟩ : Mail)]) (hc (appl_ok e_Mail h1) .nil)) (fun v3 hv => ?_)
     have hF := lt_elim hF hv
     cases hF
     exact met [(39, ⟨0, true, true, false⟩)] (by kernel_rfl)
    ·cases hF
     exact met [] (by kernel_rfl)
   ·refine NR [] [0, 1, 5, 11, 12] [100000, 100001] [39, 100000] [(12, .i (w64 (v1.2 + 1)))] .nil ?_
    exact Nrnd [] hF ih1 (by kernel_rfl)
  ·refine Nexit rfl ?_
   have hF := inrO_done hF dn1
   exact metP v1.1 [] hF (by kernel_rfl)
 ·intro v hF
  have hF : raft_others_J1 v = some r := hF
  unfold raft_others_J1 at hF
  refine NR [] [4] [100000, 100001] [39, 100000] [(4, .row 39 0)] .nil ?_
  cases hF
  exact Wk_ret (hfin _ ⟨[100000, 39], [100000, 100001], [100000, 39], [], [], [], by kernel_rfl⟩)

/- raft.follow -/
noncomputable def raft_follow_v1 (box : Int) (box1 : Int) (box2 : Int) (box3 : Int) (box4 : Int) (box5 : Int) (box6 : List Int) (row : List Entry) : Int × Int × Int × Int × Int × Int :=
 (box, box1, box2, box3, 0, box5)
theorem raft_follow_v1_ok (box : Int) (box1 : Int) (box2 : Int) (box3 : Int) (box4 : Int) (box5 : Int) (box6 : List Int) (row : List Entry) (rk : Nat) (rc : Nat) (rn : Bool) (r : Int × Int × Int × Int × Int × Int) (hF : raft_follow_v1 box box1 box2 box3 box4 box5 box6 row = r) : Pe Try.prog 65 ⟨[], [(100000, [.i box, .i box1, .i box2, .i box3, .row 100000 0, .i box4, .i box5, .sl 1 (box6.map e_i64), .nils, .nils])], [(100000, ⟨31, 2, 0, rk, rc, rn, 0, [], (row.map e_Entry)⟩)], [], []⟩ [.ptr 100000 0] (.tup []) ⟨[], [(100000, [.i r.1, .i r.2.1, .i r.2.2.1, .i r.2.2.2.1, .row 100000 0, .i r.2.2.2.2.1, .i r.2.2.2.2.2, .nils, .nils, .nils])], [(100000, ⟨31, 2, 0, rk, rc, rn, 0, [], (row.map e_Entry)⟩)], [], []⟩ := by
 refine PeN 14 [] [] Ty.ok Fn.b65 Try.func65 ?_
 intro Q g hfin
 unfold raft_follow_v1 at hF
 refine VR [] [] [100000] [100000] [] [] [(100000, [.i box, .i box1, .i box2, .i box3, .row 100000 0, .i 0, .i box5, .nils, .nils, .nils])] [] [] .nil ?_
 cases hF
 exact Wk_end (hfin _ ⟨[100000], [100000], [100000], [], [], [], by kernel_rfl⟩)

/- raft.count -/
noncomputable def raft_count_J1 (box : Int) (box1 : Int) (box2 : Int) (box3 : Int) (box4 : Int) (v : Int) : Option (Int × Int × Int × Int × Int × Int) :=
 some (box, box1, box2, box3, box4, v)
noncomputable def raft_count_J2 (box : Int) (box2 : Int) (row : List Entry) (v1 : Int × Int) (v2 : Int) : Option ((Int × Int) ⊕ (Int × Int × Int × Int × Int × Int)) :=
 lt (raft_most v2 box) fun x =>
 ob (if x = true then (entry_TermAt row v1.2) else some default) fun x1 =>
 ob (
  if (x && (decide (x1 = box2))) = true then
   some v1.2
  else
   some v1.1) fun (v3 : Int) =>
 some (Sum.inl (v3, w64 (v1.2 - 1)))
noncomputable def raft_count_B2 (box : Int) (box2 : Int) (row : List Entry) (row2 : List Int) (v1 : Int × Int) (v4 : Int × Int) : Option ((Int × Int) ⊕ ((Int × Int) ⊕ (Int × Int × Int × Int × Int × Int))) :=
 if (decide (v4.2 < (row2.length : Int))) = true then
  asrt (0 ≤ v4.2 ∧ v4.2 < (row2.length : Int)) <|
  asrt (0 ≤ v4.2 ∧ v4.2 < (row2.length : Int)) <|
  ob (
   if (decide (v1.2 ≤ (lget row2 v4.2))) = true then
    some (w64 (v4.1 + 1))
   else
    some v4.1) fun (v5 : Int) =>
  some (Sum.inl (v5, w64 (v4.2 + 1)))
 else
  inrO (raft_count_J2 box box2 row v1 v4.1)
noncomputable def raft_count_L2 (box : Int) (box2 : Int) (row : List Entry) (row2 : List Int) (v1 : Int × Int) (v0 : Int × Int) : Option ((Int × Int) ⊕ (Int × Int × Int × Int × Int × Int)) :=
 loopO (fun y => raft_count_B2 box box2 row row2 v1 y) v0
noncomputable def raft_count_B1 (box : Int) (box1 : Int) (box2 : Int) (box3 : Int) (box4 : Int) (row : List Entry) (row2 : List Int) (v1 : Int × Int) : Option ((Int × Int) ⊕ (Int × Int × Int × Int × Int × Int)) :=
 if (decide (v1.1 < v1.2)) = true then
  raft_count_L2 box box2 row row2 v1 (0, 0)
 else
  inrO (raft_count_J1 box box1 box2 box3 box4 v1.1)
noncomputable def raft_count_L1 (box : Int) (box1 : Int) (box2 : Int) (box3 : Int) (box4 : Int) (row : List Entry) (row2 : List Int) (v0 : Int × Int) : Option (Int × Int × Int × Int × Int × Int) :=
 loopO (fun y => raft_count_B1 box box1 box2 box3 box4 row row2 y) v0
noncomputable def raft_count (box : Int) (box1 : Int) (box2 : Int) (box3 : Int) (box4 : Int) (box5 : Int) (row : List Entry) (row1 : List Int) (row2 : List Int) : Option (Int × Int × Int × Int × Int × Int) :=
 raft_count_L1 box box1 box2 box3 box4 row row2 (box5, (row.length : Int))
theorem raft_count_ok (box : Int) (box1 : Int) (box2 : Int) (box3 : Int) (box4 : Int) (box5 : Int) (row : List Entry) (row1 : List Int) (row2 : List Int) (rk : Nat) (rc : Nat) (rn : Bool) (rk1 : Nat) (rc1 : Nat) (rn1 : Bool) (rk2 : Nat) (rc2 : Nat) (rn2 : Bool) (r : Int × Int × Int × Int × Int × Int) (hF : raft_count box box1 box2 box3 box4 box5 row row1 row2 = some r) : Pe Try.prog 69 ⟨[], [(100000, [.i box, .i box1, .i box2, .i box3, .row 100000 0, .i box4, .i box5, .nils, .row 100001 0, .row 100002 0])], [(100000, ⟨31, 2, 0, rk, rc, rn, 0, [], (row.map e_Entry)⟩), (100001, ⟨3, 1, 0, rk1, rc1, rn1, 0, [], (row1.map e_i64)⟩), (100002, ⟨3, 1, 0, rk2, rc2, rn2, 0, [], (row2.map e_i64)⟩)], [], []⟩ [.ptr 100000 0] (.tup []) ⟨[], [(100000, [.i r.1, .i r.2.1, .i r.2.2.1, .i r.2.2.2.1, .row 100000 0, .i r.2.2.2.2.1, .i r.2.2.2.2.2, .nils, .row 100001 0, .row 100002 0])], [(100000, ⟨31, 2, 0, rk, rc, rn, 0, [], (row.map e_Entry)⟩), (100001, ⟨3, 1, 0, rk1, rc1, rn1, 0, [], (row1.map e_i64)⟩), (100002, ⟨3, 1, 0, rk2, rc2, rn2, 0, [], (row2.map e_i64)⟩)], [], []⟩ := by
 refine PeN 57 [] [] Ty.ok Fn.b69 Try.func69 ?_
 intro Q g hfin
 unfold raft_count at hF
 refine NR [.nat (row.length : Int)] [0, 2] [100000] [100000, 100001, 100002] [(2, .i (row.length : Int))] (hc (len_ok e_Entry row) .nil) ?_
 refine NmeetP (fun v : Int => (⟨[], [(100000, [.i box, .i box1, .i box2, .i box3, .row 100000 0, .i box4, .i v, .nils, .row 100001 0, .row 100002 0])], [(100000, ⟨31, 2, 0, rk, rc, rn, 0, [], (row.map e_Entry)⟩), (100001, ⟨3, 1, 0, rk1, rc1, rn1, 0, [], (row1.map e_i64)⟩), (100002, ⟨3, 1, 0, rk2, rc2, rn2, 0, [], (row2.map e_i64)⟩)], [], []⟩ : S)) (fun v => raft_count_J1 box box1 box2 box3 box4 v = some r) ?_ ?_
 ·refine Nblk ?_
  unfold raft_count_L1 at hF
  refine Niter (fun v1 : Int × Int => (⟨[(0, .ptr 100000 0), (2, .i v1.2)], [(100000, [.i box, .i box1, .i box2, .i box3, .row 100000 0, .i box4, .i v1.1, .nils, .row 100001 0, .row 100002 0])], [(100000, ⟨31, 2, 0, rk, rc, rn, 0, [], (row.map e_Entry)⟩), (100001, ⟨3, 1, 0, rk1, rc1, rn1, 0, [], (row1.map e_i64)⟩), (100002, ⟨3, 1, 0, rk2, rc2, rn2, 0, [], (row2.map e_i64)⟩)], [], []⟩ : S)) [] hF (by kernel_rfl) ?_
  intro n1 v1 y1 hF ih1 dn1
  unfold raft_count_B1 at hF
  refine NR [] [0, 2, 16] [100000] [100000, 100001, 100002] [(16, .bool (decide (v1.1 < v1.2)))] .nil ?_
  refine Nif hF (fun hb hF => ?_) (fun hb hF => ?_)
  ·refine Nblk ?_
   refine NR [] [0, 2, 3] [100000] [100000, 100001, 100002] [(3, .i 0)] .nil ?_
   refine NR [.nat (row2.length : Int)] [0, 2, 3, 22, 23, 24] [100000] [100000, 100001, 100002] [(22, .row 100002 0), (23, .i (row2.length : Int)), (24, .i 0)] (hc (len_ok e_i64 row2) .nil) ?_
   refine NmeetP (fun v2 : Int => (⟨[(0, .ptr 100000 0), (2, .i v1.2), (3, .i v2)], [(100000, [.i box, .i box1, .i box2, .i box3, .row 100000 0, .i box4, .i v1.1, .nils, .row 100001 0, .row 100002 0])], [(100000, ⟨31, 2, 0, rk, rc, rn, 0, [], (row.map e_Entry)⟩), (100001, ⟨3, 1, 0, rk1, rc1, rn1, 0, [], (row1.map e_i64)⟩), (100002, ⟨3, 1, 0, rk2, rc2, rn2, 0, [], (row2.map e_i64)⟩)], [], []⟩ : S)) (fun v2 => raft_count_J2 box box2 row v1 v2 = some y1) ?_ ?_
   ·refine Nblk ?_
    unfold raft_count_L2 at hF
    refine Niter (fun v4 : Int × Int => (⟨[(0, .ptr 100000 0), (2, .i v1.2), (3, .i v4.1), (22, .row 100002 0), (23, .i (row2.length : Int)), (24, .i v4.2)], [(100000, [.i box, .i box1, .i box2, .i box3, .row 100000 0, .i box4, .i v1.1, .nils, .row 100001 0, .row 100002 0])], [(100000, ⟨31, 2, 0, rk, rc, rn, 0, [], (row.map e_Entry)⟩), (100001, ⟨3, 1, 0, rk1, rc1, rn1, 0, [], (row1.map e_i64)⟩), (100002, ⟨3, 1, 0, rk2, rc2, rn2, 0, [], (row2.map e_i64)⟩)], [], []⟩ : S)) [] hF (by kernel_rfl) ?_
    intro n2 v4 y2 hF ih2 dn2
    unfold raft_count_B2 at hF
    refine NR [] [0, 2, 3, 22, 23, 24, 25] [100000] [100000, 100001, 100002] [(25, .bool (decide (v4.2 < (row2.length : Int))))] .nil ?_
    refine Nif hF (fun hb hF => ?_) (fun hb hF => ?_)
    ·refine Nblk ?_
     obtain ⟨h2, h3, hF⟩ := asrt2 hF
     refine NR [.av (e_i64 (lget row2 v4.2))] [0, 2, 3, 5, 22, 23, 24] [100000] [100000, 100001, 100002] [(5, .i (lget row2 v4.2))] (hc (ixr_ok e_i64 h2) (hc (ldr_ok e_i64 h3) .nil)) ?_
     refine NR [] [0, 2, 3, 22, 23, 24, 30] [100000] [100000, 100001, 100002] [(30, .bool (decide (v1.2 ≤ (lget row2 v4.2))))] .nil ?_
     obtain ⟨v5, hv, hF⟩ := ob_elim hF
     refine Nmeet (⟨[(0, .ptr 100000 0), (2, .i v1.2), (3, .i v5), (22, .row 100002 0), (23, .i (row2.length : Int)), (24, .i v4.2)], [(100000, [.i box, .i box1, .i box2, .i box3, .row 100000 0, .i box4, .i v1.1, .nils, .row 100001 0, .row 100002 0])], [(100000, ⟨31, 2, 0, rk, rc, rn, 0, [], (row.map e_Entry)⟩), (100001, ⟨3, 1, 0, rk1, rc1, rn1, 0, [], (row1.map e_i64)⟩), (100002, ⟨3, 1, 0, rk2, rc2, rn2, 0, [], (row2.map e_i64)⟩)], [], []⟩ : S) ?_ ?_
     ·have hF := hv
      refine Nif hF (fun hb hF => ?_) (fun hb hF => ?_)
      ·refine NR [] [0, 2, 3, 22, 23, 24] [100000] [100000, 100001, 100002] [(3, .i (w64 (v4.1 + 1)))] .nil ?_
       cases hF
       exact met [] (by kernel_rfl)
      ·cases hF
       exact met [] (by kernel_rfl)
     ·refine NR [] [0, 2, 3, 22, 23, 24] [100000] [100000, 100001, 100002] [(24, .i (w64 (v4.2 + 1)))] .nil ?_
      exact Nrnd [] hF ih2 (by kernel_rfl)
    ·refine Nexit rfl ?_
     have hF := inrO_done hF dn2
     exact metP v4.1 [] hF (by kernel_rfl)
   ·intro v2 hF
    have hF : raft_count_J2 box box2 row v1 v2 = some y1 := hF
    unfold raft_count_J2 at hF
    obtain ⟨x, h0, hF⟩ := lt_split hF
    obtain ⟨x1, h1, hF⟩ := ob_elim hF
    refine ND [.callB (.bool x), .callB (.i x1)] [0, 2, 52] [100000] [100000, 100001, 100002] [(52, .bool (x && (decide (x1 = box2))))] (hc (raft_most_ok v2 box x h0) (hc (fun (ga0 : x = true) => (entry_TermAt_ok row v1.2 x1 (ite_t h1 ga0))) .nil)) ?_
    obtain ⟨v3, hv, hF⟩ := ob_elim hF
    refine Nmeet (⟨[(0, .ptr 100000 0), (2, .i v1.2)], [(100000, [.i box, .i box1, .i box2, .i box3, .row 100000 0, .i box4, .i v3, .nils, .row 100001 0, .row 100002 0])], [(100000, ⟨31, 2, 0, rk, rc, rn, 0, [], (row.map e_Entry)⟩), (100001, ⟨3, 1, 0, rk1, rc1, rn1, 0, [], (row1.map e_i64)⟩), (100002, ⟨3, 1, 0, rk2, rc2, rn2, 0, [], (row2.map e_i64)⟩)], [], []⟩ : S) ?_ ?_
    ·have hF := hv
     refine Nif hF (fun hb hF => ?_) (fun hb hF => ?_)
     ·refine VR [] [0, 2] [100000] [100000, 100001, 100002] [] [] [(100000, [.i box, .i box1, .i box2, .i box3, .row 100000 0, .i box4, .i v1.2, .nils, .row 100001 0, .row 100002 0])] [] [] .nil ?_
      cases hF
      exact met [] (by kernel_rfl)
     ·cases hF
      exact met [] (by kernel_rfl)
    ·refine NR [] [0, 2] [100000] [100000, 100001, 100002] [(2, .i (w64 (v1.2 - 1)))] .nil ?_
     exact Nrnd [] hF ih1 (by kernel_rfl)
  ·refine Nexit rfl ?_
   have hF := inrO_done hF dn1
   exact metP v1.1 [] hF (by kernel_rfl)
 ·intro v hF
  have hF : raft_count_J1 box box1 box2 box3 box4 v = some r := hF
  unfold raft_count_J1 at hF
  cases hF
  exact Wk_end (hfin _ ⟨[100000, 100001, 100002], [100000], [100000, 100001, 100002], [], [], [], by kernel_rfl⟩)

/- raft.lead -/
noncomputable def raft_lead_J1 (row : List Entry) (x : Int × Int × Int × Int × Int × Int) (v : List Int) : Option (Int × Int × Int × Int × Int × Int × List Int × List Int) :=
 asrt (0 ≤ x.2.1 ∧ x.2.1 < ((List.replicate x.1.toNat (0 : Int)).length : Int)) <|
 asrt (0 ≤ x.2.1 ∧ x.2.1 < ((List.replicate x.1.toNat (0 : Int)).length : Int)) <|
 ob (raft_count x.1 x.2.1 x.2.2.1 x.2.2.2.1 2 x.2.2.2.2.2 row v (lset (List.replicate x.1.toNat (0 : Int)) x.2.1 (row.length : Int))) fun x1 =>
 some (x1.1, x1.2.1, x1.2.2.1, x1.2.2.2.1, x1.2.2.2.2.1, x1.2.2.2.2.2, v, (lset (List.replicate x.1.toNat (0 : Int)) x.2.1 (row.length : Int)))
noncomputable def raft_lead_B1 (row : List Entry) (x : Int × Int × Int × Int × Int × Int) (v1 : List Int × Int) : Option ((List Int × Int) ⊕ (Int × Int × Int × Int × Int × Int × List Int × List Int)) :=
 if (decide (v1.2 < ((List.replicate x.1.toNat (0 : Int)).length : Int))) = true then
  asrt (0 ≤ v1.2 ∧ v1.2 < (v1.1.length : Int)) <|
  asrt (0 ≤ v1.2 ∧ v1.2 < (v1.1.length : Int)) <|
  some (Sum.inl ((lset v1.1 v1.2 (w64 ((row.length : Int) + 1))), w64 (v1.2 + 1)))
 else
  inrO (raft_lead_J1 row x v1.1)
noncomputable def raft_lead_L1 (row : List Entry) (x : Int × Int × Int × Int × Int × Int) (v0 : List Int × Int) : Option (Int × Int × Int × Int × Int × Int × List Int × List Int) :=
 loopO (fun y => raft_lead_B1 row x y) v0
noncomputable def raft_lead (box : Int) (box1 : Int) (box2 : Int) (box3 : Int) (box4 : Int) (box5 : Int) (box6 : List Int) (row : List Entry) : Option (Int × Int × Int × Int × Int × Int × List Int × List Int) :=
 lt (raft_follow_v1 box box1 box2 box3 box4 box5 box6 row) fun x =>
 asrt (0 ≤ (x.1 : Int) ∧ x.1 ≤ x.1 ∧ x.1 * 8 ≤ 140737488351232) <|
 asrt (0 ≤ (x.1 : Int) ∧ x.1 ≤ x.1 ∧ x.1 * 8 ≤ 140737488351232) <|
 raft_lead_L1 row x ((List.replicate x.1.toNat (0 : Int)), 0)
theorem raft_lead_ok (box : Int) (box1 : Int) (box2 : Int) (box3 : Int) (box4 : Int) (box5 : Int) (box6 : List Int) (row : List Entry) (rk : Nat) (rc : Nat) (rn : Bool) (r : Int × Int × Int × Int × Int × Int × List Int × List Int) (hF : raft_lead box box1 box2 box3 box4 box5 box6 row = some r) : Pe Try.prog 68 ⟨[], [(100000, [.i box, .i box1, .i box2, .i box3, .row 100000 0, .i box4, .i box5, .sl 1 (box6.map e_i64), .nils, .nils])], [(100000, ⟨31, 2, 0, rk, rc, rn, 0, [], (row.map e_Entry)⟩)], [], []⟩ [.ptr 100000 0] (.tup []) ⟨[], [(100000, [.i r.1, .i r.2.1, .i r.2.2.1, .i r.2.2.2.1, .row 100000 0, .i r.2.2.2.2.1, .i r.2.2.2.2.2.1, .nils, .row 18 0, .row 23 0])], [(100000, ⟨31, 2, 0, rk, rc, rn, 0, [], (row.map e_Entry)⟩), (18, .o 3 1 0 (r.2.2.2.2.2.2.1.map e_i64)), (23, .o 3 1 0 (r.2.2.2.2.2.2.2.map e_i64))], [], []⟩ := by
 refine PeN 59 [] [] Ty.ok Fn.b68 Try.func68 ?_
 intro Q g hfin
 unfold raft_lead at hF
 refine NR [.nat (row.length : Int)] [0, 2] [100000] [100000] [(2, .i (row.length : Int))] (hc (len_ok e_Entry row) .nil) ?_
 obtain ⟨x, h0, hF⟩ := lt_split hF
 refine VR [.callE [100000] [100000] [] [] (.tup []) ⟨[], [(100000, [.i x.1, .i x.2.1, .i x.2.2.1, .i x.2.2.2.1, .row 100000 0, .i x.2.2.2.2.1, .i x.2.2.2.2.2, .nils, .nils, .nils])], [(100000, ⟨31, 2, 0, rk, rc, rn, 0, [], (row.map e_Entry)⟩)], [], []⟩] [0, 2] [100000] [100000] [] [] [(100000, [.i x.1, .i x.2.1, .i x.2.2.1, .i x.2.2.2.1, .row 100000 0, .i x.2.2.2.2.1, .i x.2.2.2.2.2, .nils, .nils, .nils])] [] [] (hc (Pe.ren (raft_follow_v1_ok box box1 box2 box3 box4 box5 box6 row rk rc rn x h0) ⟨[], [], [], []⟩) .nil) ?_
 obtain ⟨h1, h2, hF⟩ := asrt2 hF
 refine VD [.xs ((List.replicate x.1.toNat (0 : Int)).map e_i64), .xs ((List.replicate x.1.toNat (0 : Int)).map e_i64)] [0, 2] [100000] [18, 23, 100000] [] [] [(100000, [.i x.1, .i x.2.1, .i x.2.2.1, .i x.2.2.2.1, .row 100000 0, .i 2, .i x.2.2.2.2.2, .nils, .row 18 0, .row 23 0])] [(18, .o 3 1 0 ((List.replicate x.1.toNat (0 : Int)).map e_i64)), (23, .o 3 1 0 ((List.replicate x.1.toNat (0 : Int)).map e_i64))] [] (hc (mk_ok h1) (hc (rep_ok e_i64 (x.1) (0 : Int)) (hc (mk_ok h2) (hc (rep_ok e_i64 (x.1) (0 : Int)) .nil)))) ?_
 refine NR [.nat ((List.replicate x.1.toNat (0 : Int)).length : Int)] [0, 2, 34, 35] [100000] [18, 23, 100000] [(34, .i ((List.replicate x.1.toNat (0 : Int)).length : Int)), (35, .i 0)] (hc (len_ok e_i64 (List.replicate x.1.toNat (0 : Int))) .nil) ?_
 refine NmeetP (fun v : List Int => (⟨[(0, .ptr 100000 0), (2, .i (row.length : Int))], [(100000, [.i x.1, .i x.2.1, .i x.2.2.1, .i x.2.2.2.1, .row 100000 0, .i 2, .i x.2.2.2.2.2, .nils, .row 18 0, .row 23 0])], [(18, .o 3 1 0 (v.map e_i64)), (23, .o 3 1 0 ((List.replicate x.1.toNat (0 : Int)).map e_i64)), (100000, ⟨31, 2, 0, rk, rc, rn, 0, [], (row.map e_Entry)⟩)], [], []⟩ : S)) (fun v => raft_lead_J1 row x v = some r) ?_ ?_
 ·refine Nblk ?_
  unfold raft_lead_L1 at hF
  refine Niter (fun v1 : List Int × Int => (⟨[(0, .ptr 100000 0), (2, .i (row.length : Int)), (34, .i ((List.replicate x.1.toNat (0 : Int)).length : Int)), (35, .i v1.2)], [(100000, [.i x.1, .i x.2.1, .i x.2.2.1, .i x.2.2.2.1, .row 100000 0, .i 2, .i x.2.2.2.2.2, .nils, .row 18 0, .row 23 0])], [(18, .o 3 1 0 (v1.1.map e_i64)), (23, .o 3 1 0 ((List.replicate x.1.toNat (0 : Int)).map e_i64)), (100000, ⟨31, 2, 0, rk, rc, rn, 0, [], (row.map e_Entry)⟩)], [], []⟩ : S)) [] hF (by kernel_rfl) ?_
  intro n1 v1 y1 hF ih1 dn1
  unfold raft_lead_B1 at hF
  refine NR [] [0, 2, 34, 35, 36] [100000] [18, 23, 100000] [(36, .bool (decide (v1.2 < ((List.replicate x.1.toNat (0 : Int)).length : Int))))] .nil ?_
  refine Nif hF (fun hb hF => ?_) (fun hb hF => ?_)
  ·refine Nblk ?_
   refine NR [] [0, 2, 3, 34, 35] [100000] [18, 23, 100000] [(3, .i v1.2)] .nil ?_
   obtain ⟨h6, h7, hF⟩ := asrt2 hF
   refine VR [.av (e_i64 (lget v1.1 v1.2)), .xs ((lset v1.1 v1.2 (w64 ((row.length : Int) + 1))).map e_i64)] [0, 2, 34, 35] [100000] [18, 23, 100000] [] [] [] [(18, .o 3 1 0 ((lset v1.1 v1.2 (w64 ((row.length : Int) + 1))).map e_i64))] [] (hc (ixr_ok e_i64 h6) (hc (ldr_ok e_i64 h7) (hc (set_ok e_i64 v1.1 v1.2 (w64 ((row.length : Int) + 1))) (hc (Nat.zero_le v1.2.toNat) .nil)))) ?_
   refine NR [] [0, 2, 34, 35] [100000] [18, 23, 100000] [(35, .i (w64 (v1.2 + 1)))] .nil ?_
   exact Nrnd [] hF ih1 (by kernel_rfl)
  ·refine Nexit rfl ?_
   have hF := inrO_done hF dn1
   exact metP v1.1 [] hF (by kernel_rfl)
 ·intro v hF
  have hF : raft_lead_J1 row x v = some r := hF
  unfold raft_lead_J1 at hF
  obtain ⟨h3, h4, hF⟩ := asrt2 hF
  refine VD [.av (e_i64 (lget (List.replicate x.1.toNat (0 : Int)) x.2.1)), .xs ((lset (List.replicate x.1.toNat (0 : Int)) x.2.1 (row.length : Int)).map e_i64)] [0] [100000] [18, 23, 100000] [] [] [] [(23, .o 3 1 0 ((lset (List.replicate x.1.toNat (0 : Int)) x.2.1 (row.length : Int)).map e_i64))] [] (hc (ixr_ok e_i64 h3) (hc (ldr_ok e_i64 h4) (hc (set_ok e_i64 (List.replicate x.1.toNat (0 : Int)) x.2.1 (row.length : Int)) (hc (Nat.zero_le x.2.1.toNat) .nil)))) ?_
  obtain ⟨x1, h5, hF⟩ := ob_elim hF
  refine VR [.callE [100000] [100000, 18, 23] [] [] (.tup []) ⟨[], [(100000, [.i x1.1, .i x1.2.1, .i x1.2.2.1, .i x1.2.2.2.1, .row 100000 0, .i x1.2.2.2.2.1, .i x1.2.2.2.2.2, .nils, .row 18 0, .row 23 0])], [(100000, ⟨31, 2, 0, rk, rc, rn, 0, [], (row.map e_Entry)⟩), (18, .o 3 1 0 (v.map e_i64)), (23, .o 3 1 0 ((lset (List.replicate x.1.toNat (0 : Int)) x.2.1 (row.length : Int)).map e_i64))], [], []⟩] [] [100000] [18, 23, 100000] [] [] [(100000, [.i x1.1, .i x1.2.1, .i x1.2.2.1, .i x1.2.2.2.1, .row 100000 0, .i x1.2.2.2.2.1, .i x1.2.2.2.2.2, .nils, .row 18 0, .row 23 0])] [] [] (hc (Pe.ren (raft_count_ok x.1 x.2.1 x.2.2.1 x.2.2.2.1 2 x.2.2.2.2.2 row v (lset (List.replicate x.1.toNat (0 : Int)) x.2.1 (row.length : Int)) rk rc rn 0 0 false 0 0 false x1 h5) ⟨[], [(100001, 18), (100002, 23)], [], []⟩) .nil) ?_
  cases hF
  exact Wk_end (hfin _ ⟨[100000, 18, 23], [100000], [100000, 18, 23], [], [], [], by kernel_rfl⟩)

/- raft.Stand -/
noncomputable def raft_Stand (x : Node) : Option (Int × Int × Int × Int × List Entry × Int × Int × List Int × List Int × List Int × List Mail × Fault) :=
 ob (raft_Check x) fun x1 =>
 ob (
  if (!decide (x1.Code = 0)) = true then
   some x1
  else
   if (decide (x.Role = 2)) = true then
    lt (raft_fault 11 0) fun x2 =>
    some x2
   else
    if (decide (x.Term = 1000000000)) = true then
     lt (raft_fault 9 0) fun x3 =>
     some x3
    else
     some x1) fun (v : Fault) =>
 if (!decide (v.Code = 0)) = true then
  some (0, 0, 0, 0, ([] : List Entry), 0, 0, ([] : List Int), ([] : List Int), ([] : List Int), ([] : List Mail), v)
 else
  ob (raft_own x) fun x4 =>
  lt (raft_follow x4.1 x4.2.1 x4.2.2.1 x4.2.2.2.1 x4.2.2.2.2.2.1 x4.2.2.2.2.2.2.1 x4.2.2.2.2.1 x4.2.2.2.2.2.2.2.1 x4.2.2.2.2.2.2.2.2.1 x4.2.2.2.2.2.2.2.2.2) fun x5 =>
  ob (raft_others x5.1 x5.2.1 (w64 (x.Term + 1)) (w64 (x.ID + 1)) 1 x5.2.2.2.2.2 ([x.ID] : List Int) x4.2.2.2.2.1) fun x6 =>
  lt (raft_most 1 x5.1) fun x7 =>
  ob (
   if x7 = true then
    ob (raft_lead x5.1 x5.2.1 (w64 (x.Term + 1)) (w64 (x.ID + 1)) 1 x5.2.2.2.2.2 ([x.ID] : List Int) x4.2.2.2.2.1) fun x8 =>
    some (x8.1, x8.2.1, x8.2.2.1, x8.2.2.2.1, x8.2.2.2.2.1, x8.2.2.2.2.2.1, ([] : List Int), x8.2.2.2.2.2.2.1, x8.2.2.2.2.2.2.2)
   else
    some (x5.1, x5.2.1, (w64 (x.Term + 1)), (w64 (x.ID + 1)), 1, x5.2.2.2.2.2, ([x.ID] : List Int), ([] : List Int), ([] : List Int))) fun (v1 : Int × Int × Int × Int × Int × Int × List Int × List Int × List Int) =>
  some (v1.1, v1.2.1, v1.2.2.1, v1.2.2.2.1, x4.2.2.2.2.1, v1.2.2.2.2.1, v1.2.2.2.2.2.1, v1.2.2.2.2.2.2.1, v1.2.2.2.2.2.2.2.1, v1.2.2.2.2.2.2.2.2, x6, v)
theorem raft_Stand_ok (x : Node) (r : Int × Int × Int × Int × List Entry × Int × Int × List Int × List Int × List Int × List Mail × Fault) (hF : raft_Stand x = some r) : Pe Try.prog 31 S.none [.agg (c_Node x)] (.tup [.agg [.i r.1, .i r.2.1, .i r.2.2.1, .i r.2.2.2.1, .row 30 0, .i r.2.2.2.2.2.1, .i r.2.2.2.2.2.2.1, .sl 1 (r.2.2.2.2.2.2.2.1.map e_i64), .row 63 0, .row 20063 0], .row 56 0, .agg (c_Fault r.2.2.2.2.2.2.2.2.2.2.2)]) ⟨[], [], [(30, .o 31 2 0 (r.2.2.2.2.1.map e_Entry)), (56, .z 62 9 0 (r.2.2.2.2.2.2.2.2.2.2.1.map e_Mail)), (63, .o 3 1 0 (r.2.2.2.2.2.2.2.2.1.map e_i64)), (20063, .o 3 1 0 (r.2.2.2.2.2.2.2.2.2.1.map e_i64))], [], []⟩ := by
 refine PeN 69 [.cell 2 46, .tmp 3, .cell 4 26] [46, 50, 26] Ty.ok Fn.b31 Try.func31 ?_
 intro Q g hfin
 unfold raft_Stand at hF
 refine VR [] [1, 2, 4] [1, 2, 4] [] [] [(1, .ptr 1 0), (2, .ptr 2 0), (4, .ptr 4 0)] [(1, (c_Node x)), (2, [.i 0, .i 0, .i 0, .i 0, .nils, .i 0, .i 0, .nils, .nils, .nils]), (4, [.i 0, .i 0])] [] [] .nil ?_
 obtain ⟨x1, h0, hF⟩ := ob_elim hF
 refine VR [.callB (.agg (c_Fault x1))] [1, 2, 4, 5] [1, 2, 4, 5] [] [] [(5, .ptr 5 0)] [(5, (c_Fault x1))] [] [] (hc (raft_Check_ok x x1 h0) .nil) ?_
 refine Nblk ?_
 refine NR [] [1, 2, 4, 5, 10] [1, 2, 4, 5] [] [(10, .bool (!decide (x1.Code = 0)))] .nil ?_
 obtain ⟨v, hv, hF⟩ := ob_elim hF
 refine Nmeet (⟨[(1, .ptr 1 0), (2, .ptr 2 0), (4, .ptr 4 0), (5, .ptr 5 0)], [(1, (c_Node x)), (2, [.i 0, .i 0, .i 0, .i 0, .nils, .i 0, .i 0, .nils, .nils, .nils]), (4, [.i 0, .i 0]), (5, (c_Fault v))], [], [], []⟩ : S) ?_ ?_
 ·have hF := hv
  refine Nif hF (fun hb hF => ?_) (fun hb hF => ?_)
  ·cases hF
   exact met [] (by kernel_rfl)
  ·refine NR [] [1, 2, 4, 5, 14] [1, 2, 4, 5] [] [(14, .bool (decide (x.Role = 2)))] .nil ?_
   refine Nif hF (fun hb hF => ?_) (fun hb hF => ?_)
   ·obtain ⟨x2, h1, hF⟩ := lt_split hF
    refine VR [.callB (.agg (c_Fault x2))] [1, 2, 4, 5] [1, 2, 4, 5] [] [] [] [(5, (c_Fault x2))] [] [] (hc (raft_fault_ok 11 0 x2 h1) .nil) ?_
    cases hF
    exact met [] (by kernel_rfl)
   ·refine NR [] [1, 2, 4, 5, 19] [1, 2, 4, 5] [] [(19, .bool (decide (x.Term = 1000000000)))] .nil ?_
    refine Nif hF (fun hb hF => ?_) (fun hb hF => ?_)
    ·obtain ⟨x3, h2, hF⟩ := lt_split hF
     refine VR [.callB (.agg (c_Fault x3))] [1, 2, 4, 5] [1, 2, 4, 5] [] [] [] [(5, (c_Fault x3))] [] [] (hc (raft_fault_ok 9 0 x3 h2) .nil) ?_
     cases hF
     exact met [] (by kernel_rfl)
    ·cases hF
     exact met [] (by kernel_rfl)
 ·refine NR [] [1, 2, 4, 5, 26] [1, 2, 4, 5] [] [(26, .bool (!decide (v.Code = 0)))] .nil ?_
  refine Nif hF (fun hb hF => ?_) (fun hb hF => ?_)
  ·refine VD [] [2, 3, 4] [2, 4] [] [] [(3, .nils)] [(4, (c_Fault v))] [] [] .nil ?_
   cases hF
   refine Wk_nilrowB 2 4 60000 31 2 rfl rfl rfl rfl rfl ?_
   refine Wk_nilrowB 2 8 60001 3 1 rfl rfl rfl rfl rfl ?_
   refine Wk_nilrowB 2 9 60002 3 1 rfl rfl rfl rfl rfl ?_
   refine Wk_nilrow 3 60003 62 9 rfl rfl rfl ?_
   refine Wk_ren' ⟨[], [(60000, 30), (60001, 63), (60002, 20063), (60003, 56)], [], []⟩ rfl ?_
   exact Wk_ret (hfin _ ⟨[30, 56, 63, 20063], [], [30, 56, 63, 20063], [], [], [(30, ⟨0, true, false, false⟩), (63, ⟨0, true, false, false⟩), (20063, ⟨0, true, false, false⟩)], by kernel_rfl⟩)
  ·obtain ⟨x4, h3, hF⟩ := ob_elim hF
   refine VR [.callE [] [] [] [] (.ptr 30 0) ⟨[], [(30, [.i x4.1, .i x4.2.1, .i x4.2.2.1, .i x4.2.2.2.1, .row 30 0, .i x4.2.2.2.2.2.1, .i x4.2.2.2.2.2.2.1, .row 20030 0, .row 40030 0, .row 60030 0])], [(30, .o 31 2 0 (x4.2.2.2.2.1.map e_Entry)), (20030, .o 3 1 0 (x4.2.2.2.2.2.2.2.1.map e_i64)), (40030, .o 3 1 0 (x4.2.2.2.2.2.2.2.2.1.map e_i64)), (60030, .o 3 1 0 (x4.2.2.2.2.2.2.2.2.2.map e_i64))], [], []⟩] [1, 2, 4, 5, 6] [1, 2, 4, 5, 6, 30] [30, 20030, 40030, 60030] [] [(6, .ptr 6 0)] [(6, [.ptr 30 0]), (30, [.i x4.1, .i x4.2.1, .i x4.2.2.1, .i x4.2.2.2.1, .row 30 0, .i x4.2.2.2.2.2.1, .i x4.2.2.2.2.2.2.1, .row 20030 0, .row 40030 0, .row 60030 0])] [(30, .o 31 2 0 (x4.2.2.2.2.1.map e_Entry)), (20030, .o 3 1 0 (x4.2.2.2.2.2.2.2.1.map e_i64)), (40030, .o 3 1 0 (x4.2.2.2.2.2.2.2.2.1.map e_i64)), (60030, .o 3 1 0 (x4.2.2.2.2.2.2.2.2.2.map e_i64))] [] (hc (Pe.ren (raft_own_ok x x4 h3) ⟨[(1, 30)], [(5, 30), (8, 20030), (11, 40030), (14, 60030)], [], []⟩) .nil) ?_
   obtain ⟨x5, h4, hF⟩ := lt_split hF
   refine VR [.callE [30] [30, 20030, 40030, 60030] [] [] (.tup []) ⟨[], [(30, [.i x5.1, .i x5.2.1, .i x5.2.2.1, .i x5.2.2.2.1, .row 30 0, .i x5.2.2.2.2.1, .i x5.2.2.2.2.2, .nils, .nils, .nils])], [(30, .o 31 2 0 (x4.2.2.2.2.1.map e_Entry)), (20030, .o 3 1 0 (x4.2.2.2.2.2.2.2.1.map e_i64)), (40030, .o 3 1 0 (x4.2.2.2.2.2.2.2.2.1.map e_i64)), (60030, .o 3 1 0 (x4.2.2.2.2.2.2.2.2.2.map e_i64))], [], []⟩] [1, 2, 4, 5, 6] [1, 2, 4, 5, 6, 30] [30] [] [] [(30, [.i x5.1, .i x5.2.1, .i x5.2.2.1, .i x5.2.2.2.1, .row 30 0, .i x5.2.2.2.2.1, .i x5.2.2.2.2.2, .nils, .nils, .nils])] [] [] (hc (Pe.ren (raft_follow_ok x4.1 x4.2.1 x4.2.2.1 x4.2.2.2.1 x4.2.2.2.2.2.1 x4.2.2.2.2.2.2.1 x4.2.2.2.2.1 x4.2.2.2.2.2.2.2.1 x4.2.2.2.2.2.2.2.2.1 x4.2.2.2.2.2.2.2.2.2 0 0 false 0 0 false 0 0 false 0 0 false x5 h4) ⟨[(100000, 30)], [(100000, 30), (100001, 20030), (100002, 40030), (100003, 60030)], [], []⟩) .nil) ?_
   refine VD [.sealed] [2, 4, 5, 6] [2, 4, 5, 6, 30] [30] [] [] [(30, [.i x5.1, .i x5.2.1, .i (w64 (x.Term + 1)), .i (w64 (x.ID + 1)), .row 30 0, .i 1, .i x5.2.2.2.2.2, .sl 1 (([x.ID] : List Int).map e_i64), .nils, .nils])] [] [] .nil ?_
   obtain ⟨x6, h5, hF⟩ := ob_elim hF
   refine VR [.callE [30, 6] [30] [] [] (.row 56 0) ⟨[], [(30, [.i x5.1, .i x5.2.1, .i (w64 (x.Term + 1)), .i (w64 (x.ID + 1)), .row 30 0, .i 1, .i x5.2.2.2.2.2, .sl 1 (([x.ID] : List Int).map e_i64), .nils, .nils]), (6, [.ptr 30 0])], [(30, .o 31 2 0 (x4.2.2.2.2.1.map e_Entry)), (56, .z 62 9 0 (x6.map e_Mail))], [], []⟩] [2, 4, 5, 6, 7] [2, 4, 5, 6, 30] [30, 56] [] [(7, .row 56 0)] [] [(56, .z 62 9 0 (x6.map e_Mail))] [] (hc (Pe.ren (raft_others_ok x5.1 x5.2.1 (w64 (x.Term + 1)) (w64 (x.ID + 1)) 1 x5.2.2.2.2.2 ([x.ID] : List Int) x4.2.2.2.2.1 0 0 false x6 h5) ⟨[(100000, 30), (100001, 6)], [(100000, 30), (39, 56)], [], []⟩) .nil) ?_
   obtain ⟨x7, h6, hF⟩ := lt_split hF
   refine NR [.callB (.bool x7)] [2, 4, 5, 6, 7, 61] [2, 4, 5, 6, 30] [30, 56] [(61, .bool x7)] (hc (raft_most_ok 1 x5.1 x7 h6) .nil) ?_
   obtain ⟨v1, hv, hF⟩ := ob_elim hF
   refine Nmeet (⟨[(2, .ptr 2 0), (4, .ptr 4 0), (5, .ptr 5 0), (6, .ptr 6 0), (7, .row 56 0)], [(2, [.i 0, .i 0, .i 0, .i 0, .nils, .i 0, .i 0, .nils, .nils, .nils]), (4, [.i 0, .i 0]), (5, (c_Fault v)), (6, [.ptr 30 0]), (30, [.i v1.1, .i v1.2.1, .i v1.2.2.1, .i v1.2.2.2.1, .row 30 0, .i v1.2.2.2.2.1, .i v1.2.2.2.2.2.1, .sl 1 (v1.2.2.2.2.2.2.1.map e_i64), .row 63 0, .row 20063 0])], [(30, .o 31 2 0 (x4.2.2.2.2.1.map e_Entry)), (56, .z 62 9 0 (x6.map e_Mail)), (63, .o 3 1 0 (v1.2.2.2.2.2.2.2.1.map e_i64)), (20063, .o 3 1 0 (v1.2.2.2.2.2.2.2.2.map e_i64))], [], []⟩ : S) ?_ ?_
   ·have hF := hv
    refine Nif hF (fun hb hF => ?_) (fun hb hF => ?_)
    ·obtain ⟨x8, h7, hF⟩ := ob_elim hF
     refine VR [.callE [30] [30] [] [] (.tup []) ⟨[], [(30, [.i x8.1, .i x8.2.1, .i x8.2.2.1, .i x8.2.2.2.1, .row 30 0, .i x8.2.2.2.2.1, .i x8.2.2.2.2.2.1, .nils, .row 63 0, .row 20063 0])], [(30, .o 31 2 0 (x4.2.2.2.2.1.map e_Entry)), (63, .o 3 1 0 (x8.2.2.2.2.2.2.1.map e_i64)), (20063, .o 3 1 0 (x8.2.2.2.2.2.2.2.map e_i64))], [], []⟩] [2, 4, 5, 6, 7] [2, 4, 5, 6, 30] [30, 56, 63, 20063] [] [] [(30, [.i x8.1, .i x8.2.1, .i x8.2.2.1, .i x8.2.2.2.1, .row 30 0, .i x8.2.2.2.2.1, .i x8.2.2.2.2.2.1, .nils, .row 63 0, .row 20063 0])] [(63, .o 3 1 0 (x8.2.2.2.2.2.2.1.map e_i64)), (20063, .o 3 1 0 (x8.2.2.2.2.2.2.2.map e_i64))] [] (hc (Pe.ren (raft_lead_ok x5.1 x5.2.1 (w64 (x.Term + 1)) (w64 (x.ID + 1)) 1 x5.2.2.2.2.2 ([x.ID] : List Int) x4.2.2.2.2.1 0 0 false x8 h7) ⟨[(100000, 30)], [(100000, 30), (18, 63), (23, 20063)], [], []⟩) .nil) ?_
     refine Wk_coeB 30 [.i x8.1, .i x8.2.1, .i x8.2.2.1, .i x8.2.2.2.1, .row 30 0, .i x8.2.2.2.2.1, .i x8.2.2.2.2.2.1, .sl 1 (([] : List Int).map e_i64), .row 63 0, .row 20063 0] rfl (.cons (CoeS.refl _) (.cons (CoeS.refl _) (.cons (CoeS.refl _) (.cons (CoeS.refl _) (.cons (CoeS.refl _) (.cons (CoeS.refl _) (.cons (CoeS.refl _) (.cons (CoeS.nils 1) (.cons (CoeS.refl _) (.cons (CoeS.refl _) .nil)))))))))) ?_
     cases hF
     exact met [] (by kernel_rfl)
    ·refine Wk_nilrowB 30 8 60004 3 1 rfl rfl rfl rfl rfl ?_
     refine Wk_nilrowB 30 9 60005 3 1 rfl rfl rfl rfl rfl ?_
     refine Wk_trim (fs := [2, 4, 5, 6, 7]) (bs := [2, 4, 5, 6, 30]) (rs := [30, 56, 60004, 60005]) (ms := []) (aa := []) (nv := []) rfl ?_
     refine Wk_ren' ⟨[], [(60004, 63), (60005, 20063)], [], []⟩ rfl ?_
     cases hF
     exact met [(63, ⟨0, true, false, false⟩), (20063, ⟨0, true, false, false⟩)] (by kernel_rfl)
   ·refine VD [] [2, 3, 4] [2, 4] [30, 56, 63, 20063] [] [(3, .row 56 0)] [(2, [.i v1.1, .i v1.2.1, .i v1.2.2.1, .i v1.2.2.2.1, .row 30 0, .i v1.2.2.2.2.1, .i v1.2.2.2.2.2.1, .sl 1 (v1.2.2.2.2.2.2.1.map e_i64), .row 63 0, .row 20063 0]), (4, (c_Fault v))] [] [] .nil ?_
    cases hF
    exact Wk_ret (hfin _ ⟨[30, 56, 63, 20063], [], [30, 56, 63, 20063], [], [], [], by kernel_rfl⟩)

/- raft.count -/
noncomputable def raft_count_v1_J1 (box : Int) (box1 : Int) (box2 : Int) (box3 : Int) (box4 : Int) (v : Int) : Option (Int × Int × Int × Int × Int × Int) :=
 some (box, box1, box2, box3, box4, v)
noncomputable def raft_count_v1_J2 (box : Int) (box2 : Int) (row : List Entry) (v1 : Int × Int) (v2 : Int) : Option ((Int × Int) ⊕ (Int × Int × Int × Int × Int × Int)) :=
 lt (raft_most v2 box) fun x =>
 ob (if x = true then (entry_TermAt row v1.2) else some default) fun x1 =>
 ob (
  if (x && (decide (x1 = box2))) = true then
   some v1.2
  else
   some v1.1) fun (v3 : Int) =>
 some (Sum.inl (v3, w64 (v1.2 - 1)))
noncomputable def raft_count_v1_B2 (box : Int) (box2 : Int) (row : List Entry) (row3 : List Int) (v1 : Int × Int) (v4 : Int × Int) : Option ((Int × Int) ⊕ ((Int × Int) ⊕ (Int × Int × Int × Int × Int × Int))) :=
 if (decide (v4.2 < (row3.length : Int))) = true then
  asrt (0 ≤ v4.2 ∧ v4.2 < (row3.length : Int)) <|
  asrt (0 ≤ v4.2 ∧ v4.2 < (row3.length : Int)) <|
  ob (
   if (decide (v1.2 ≤ (lget row3 v4.2))) = true then
    some (w64 (v4.1 + 1))
   else
    some v4.1) fun (v5 : Int) =>
  some (Sum.inl (v5, w64 (v4.2 + 1)))
 else
  inrO (raft_count_v1_J2 box box2 row v1 v4.1)
noncomputable def raft_count_v1_L2 (box : Int) (box2 : Int) (row : List Entry) (row3 : List Int) (v1 : Int × Int) (v0 : Int × Int) : Option ((Int × Int) ⊕ (Int × Int × Int × Int × Int × Int)) :=
 loopO (fun y => raft_count_v1_B2 box box2 row row3 v1 y) v0
noncomputable def raft_count_v1_B1 (box : Int) (box1 : Int) (box2 : Int) (box3 : Int) (box4 : Int) (row : List Entry) (row3 : List Int) (v1 : Int × Int) : Option ((Int × Int) ⊕ (Int × Int × Int × Int × Int × Int)) :=
 if (decide (v1.1 < v1.2)) = true then
  raft_count_v1_L2 box box2 row row3 v1 (0, 0)
 else
  inrO (raft_count_v1_J1 box box1 box2 box3 box4 v1.1)
noncomputable def raft_count_v1_L1 (box : Int) (box1 : Int) (box2 : Int) (box3 : Int) (box4 : Int) (row : List Entry) (row3 : List Int) (v0 : Int × Int) : Option (Int × Int × Int × Int × Int × Int) :=
 loopO (fun y => raft_count_v1_B1 box box1 box2 box3 box4 row row3 y) v0
noncomputable def raft_count_v1 (box : Int) (box1 : Int) (box2 : Int) (box3 : Int) (box4 : Int) (box5 : Int) (row : List Entry) (row1 : List Int) (row2 : List Int) (row3 : List Int) : Option (Int × Int × Int × Int × Int × Int) :=
 raft_count_v1_L1 box box1 box2 box3 box4 row row3 (box5, (row.length : Int))
theorem raft_count_v1_ok (box : Int) (box1 : Int) (box2 : Int) (box3 : Int) (box4 : Int) (box5 : Int) (row : List Entry) (row1 : List Int) (row2 : List Int) (row3 : List Int) (rk : Nat) (rc : Nat) (rn : Bool) (rk1 : Nat) (rc1 : Nat) (rn1 : Bool) (rk2 : Nat) (rc2 : Nat) (rn2 : Bool) (rk3 : Nat) (rc3 : Nat) (rn3 : Bool) (r : Int × Int × Int × Int × Int × Int) (hF : raft_count_v1 box box1 box2 box3 box4 box5 row row1 row2 row3 = some r) : Pe Try.prog 69 ⟨[], [(100000, [.i box, .i box1, .i box2, .i box3, .row 100000 0, .i box4, .i box5, .row 100001 0, .row 100002 0, .row 100003 0])], [(100000, ⟨31, 2, 0, rk, rc, rn, 0, [], (row.map e_Entry)⟩), (100001, ⟨3, 1, 0, rk1, rc1, rn1, 0, [], (row1.map e_i64)⟩), (100002, ⟨3, 1, 0, rk2, rc2, rn2, 0, [], (row2.map e_i64)⟩), (100003, ⟨3, 1, 0, rk3, rc3, rn3, 0, [], (row3.map e_i64)⟩)], [], []⟩ [.ptr 100000 0] (.tup []) ⟨[], [(100000, [.i r.1, .i r.2.1, .i r.2.2.1, .i r.2.2.2.1, .row 100000 0, .i r.2.2.2.2.1, .i r.2.2.2.2.2, .row 100001 0, .row 100002 0, .row 100003 0])], [(100000, ⟨31, 2, 0, rk, rc, rn, 0, [], (row.map e_Entry)⟩), (100001, ⟨3, 1, 0, rk1, rc1, rn1, 0, [], (row1.map e_i64)⟩), (100002, ⟨3, 1, 0, rk2, rc2, rn2, 0, [], (row2.map e_i64)⟩), (100003, ⟨3, 1, 0, rk3, rc3, rn3, 0, [], (row3.map e_i64)⟩)], [], []⟩ := by
 refine PeN 57 [] [] Ty.ok Fn.b69 Try.func69 ?_
 intro Q g hfin
 unfold raft_count_v1 at hF
 refine NR [.nat (row.length : Int)] [0, 2] [100000] [100000, 100001, 100002, 100003] [(2, .i (row.length : Int))] (hc (len_ok e_Entry row) .nil) ?_
 refine NmeetP (fun v : Int => (⟨[], [(100000, [.i box, .i box1, .i box2, .i box3, .row 100000 0, .i box4, .i v, .row 100001 0, .row 100002 0, .row 100003 0])], [(100000, ⟨31, 2, 0, rk, rc, rn, 0, [], (row.map e_Entry)⟩), (100001, ⟨3, 1, 0, rk1, rc1, rn1, 0, [], (row1.map e_i64)⟩), (100002, ⟨3, 1, 0, rk2, rc2, rn2, 0, [], (row2.map e_i64)⟩), (100003, ⟨3, 1, 0, rk3, rc3, rn3, 0, [], (row3.map e_i64)⟩)], [], []⟩ : S)) (fun v => raft_count_v1_J1 box box1 box2 box3 box4 v = some r) ?_ ?_
 ·refine Nblk ?_
  unfold raft_count_v1_L1 at hF
  refine Niter (fun v1 : Int × Int => (⟨[(0, .ptr 100000 0), (2, .i v1.2)], [(100000, [.i box, .i box1, .i box2, .i box3, .row 100000 0, .i box4, .i v1.1, .row 100001 0, .row 100002 0, .row 100003 0])], [(100000, ⟨31, 2, 0, rk, rc, rn, 0, [], (row.map e_Entry)⟩), (100001, ⟨3, 1, 0, rk1, rc1, rn1, 0, [], (row1.map e_i64)⟩), (100002, ⟨3, 1, 0, rk2, rc2, rn2, 0, [], (row2.map e_i64)⟩), (100003, ⟨3, 1, 0, rk3, rc3, rn3, 0, [], (row3.map e_i64)⟩)], [], []⟩ : S)) [] hF (by kernel_rfl) ?_
  intro n1 v1 y1 hF ih1 dn1
  unfold raft_count_v1_B1 at hF
  refine NR [] [0, 2, 16] [100000] [100000, 100001, 100002, 100003] [(16, .bool (decide (v1.1 < v1.2)))] .nil ?_
  refine Nif hF (fun hb hF => ?_) (fun hb hF => ?_)
  ·refine Nblk ?_
   refine NR [] [0, 2, 3] [100000] [100000, 100001, 100002, 100003] [(3, .i 0)] .nil ?_
   refine NR [.nat (row3.length : Int)] [0, 2, 3, 22, 23, 24] [100000] [100000, 100001, 100002, 100003] [(22, .row 100003 0), (23, .i (row3.length : Int)), (24, .i 0)] (hc (len_ok e_i64 row3) .nil) ?_
   refine NmeetP (fun v2 : Int => (⟨[(0, .ptr 100000 0), (2, .i v1.2), (3, .i v2)], [(100000, [.i box, .i box1, .i box2, .i box3, .row 100000 0, .i box4, .i v1.1, .row 100001 0, .row 100002 0, .row 100003 0])], [(100000, ⟨31, 2, 0, rk, rc, rn, 0, [], (row.map e_Entry)⟩), (100001, ⟨3, 1, 0, rk1, rc1, rn1, 0, [], (row1.map e_i64)⟩), (100002, ⟨3, 1, 0, rk2, rc2, rn2, 0, [], (row2.map e_i64)⟩), (100003, ⟨3, 1, 0, rk3, rc3, rn3, 0, [], (row3.map e_i64)⟩)], [], []⟩ : S)) (fun v2 => raft_count_v1_J2 box box2 row v1 v2 = some y1) ?_ ?_
   ·refine Nblk ?_
    unfold raft_count_v1_L2 at hF
    refine Niter (fun v4 : Int × Int => (⟨[(0, .ptr 100000 0), (2, .i v1.2), (3, .i v4.1), (22, .row 100003 0), (23, .i (row3.length : Int)), (24, .i v4.2)], [(100000, [.i box, .i box1, .i box2, .i box3, .row 100000 0, .i box4, .i v1.1, .row 100001 0, .row 100002 0, .row 100003 0])], [(100000, ⟨31, 2, 0, rk, rc, rn, 0, [], (row.map e_Entry)⟩), (100001, ⟨3, 1, 0, rk1, rc1, rn1, 0, [], (row1.map e_i64)⟩), (100002, ⟨3, 1, 0, rk2, rc2, rn2, 0, [], (row2.map e_i64)⟩), (100003, ⟨3, 1, 0, rk3, rc3, rn3, 0, [], (row3.map e_i64)⟩)], [], []⟩ : S)) [] hF (by kernel_rfl) ?_
    intro n2 v4 y2 hF ih2 dn2
    unfold raft_count_v1_B2 at hF
    refine NR [] [0, 2, 3, 22, 23, 24, 25] [100000] [100000, 100001, 100002, 100003] [(25, .bool (decide (v4.2 < (row3.length : Int))))] .nil ?_
    refine Nif hF (fun hb hF => ?_) (fun hb hF => ?_)
    ·refine Nblk ?_
     obtain ⟨h2, h3, hF⟩ := asrt2 hF
     refine NR [.av (e_i64 (lget row3 v4.2))] [0, 2, 3, 5, 22, 23, 24] [100000] [100000, 100001, 100002, 100003] [(5, .i (lget row3 v4.2))] (hc (ixr_ok e_i64 h2) (hc (ldr_ok e_i64 h3) .nil)) ?_
     refine NR [] [0, 2, 3, 22, 23, 24, 30] [100000] [100000, 100001, 100002, 100003] [(30, .bool (decide (v1.2 ≤ (lget row3 v4.2))))] .nil ?_
     obtain ⟨v5, hv, hF⟩ := ob_elim hF
     refine Nmeet (⟨[(0, .ptr 100000 0), (2, .i v1.2), (3, .i v5), (22, .row 100003 0), (23, .i (row3.length : Int)), (24, .i v4.2)], [(100000, [.i box, .i box1, .i box2, .i box3, .row 100000 0, .i box4, .i v1.1, .row 100001 0, .row 100002 0, .row 100003 0])], [(100000, ⟨31, 2, 0, rk, rc, rn, 0, [], (row.map e_Entry)⟩), (100001, ⟨3, 1, 0, rk1, rc1, rn1, 0, [], (row1.map e_i64)⟩), (100002, ⟨3, 1, 0, rk2, rc2, rn2, 0, [], (row2.map e_i64)⟩), (100003, ⟨3, 1, 0, rk3, rc3, rn3, 0, [], (row3.map e_i64)⟩)], [], []⟩ : S) ?_ ?_
     ·have hF := hv
      refine Nif hF (fun hb hF => ?_) (fun hb hF => ?_)
      ·refine NR [] [0, 2, 3, 22, 23, 24] [100000] [100000, 100001, 100002, 100003] [(3, .i (w64 (v4.1 + 1)))] .nil ?_
       cases hF
       exact met [] (by kernel_rfl)
      ·cases hF
       exact met [] (by kernel_rfl)
     ·refine NR [] [0, 2, 3, 22, 23, 24] [100000] [100000, 100001, 100002, 100003] [(24, .i (w64 (v4.2 + 1)))] .nil ?_
      exact Nrnd [] hF ih2 (by kernel_rfl)
    ·refine Nexit rfl ?_
     have hF := inrO_done hF dn2
     exact metP v4.1 [] hF (by kernel_rfl)
   ·intro v2 hF
    have hF : raft_count_v1_J2 box box2 row v1 v2 = some y1 := hF
    unfold raft_count_v1_J2 at hF
    obtain ⟨x, h0, hF⟩ := lt_split hF
    obtain ⟨x1, h1, hF⟩ := ob_elim hF
    refine ND [.callB (.bool x), .callB (.i x1)] [0, 2, 52] [100000] [100000, 100001, 100002, 100003] [(52, .bool (x && (decide (x1 = box2))))] (hc (raft_most_ok v2 box x h0) (hc (fun (ga0 : x = true) => (entry_TermAt_ok row v1.2 x1 (ite_t h1 ga0))) .nil)) ?_
    obtain ⟨v3, hv, hF⟩ := ob_elim hF
    refine Nmeet (⟨[(0, .ptr 100000 0), (2, .i v1.2)], [(100000, [.i box, .i box1, .i box2, .i box3, .row 100000 0, .i box4, .i v3, .row 100001 0, .row 100002 0, .row 100003 0])], [(100000, ⟨31, 2, 0, rk, rc, rn, 0, [], (row.map e_Entry)⟩), (100001, ⟨3, 1, 0, rk1, rc1, rn1, 0, [], (row1.map e_i64)⟩), (100002, ⟨3, 1, 0, rk2, rc2, rn2, 0, [], (row2.map e_i64)⟩), (100003, ⟨3, 1, 0, rk3, rc3, rn3, 0, [], (row3.map e_i64)⟩)], [], []⟩ : S) ?_ ?_
    ·have hF := hv
     refine Nif hF (fun hb hF => ?_) (fun hb hF => ?_)
     ·refine VR [] [0, 2] [100000] [100000, 100001, 100002, 100003] [] [] [(100000, [.i box, .i box1, .i box2, .i box3, .row 100000 0, .i box4, .i v1.2, .row 100001 0, .row 100002 0, .row 100003 0])] [] [] .nil ?_
      cases hF
      exact met [] (by kernel_rfl)
     ·cases hF
      exact met [] (by kernel_rfl)
    ·refine NR [] [0, 2] [100000] [100000, 100001, 100002, 100003] [(2, .i (w64 (v1.2 - 1)))] .nil ?_
     exact Nrnd [] hF ih1 (by kernel_rfl)
  ·refine Nexit rfl ?_
   have hF := inrO_done hF dn1
   exact metP v1.1 [] hF (by kernel_rfl)
 ·intro v hF
  have hF : raft_count_v1_J1 box box1 box2 box3 box4 v = some r := hF
  unfold raft_count_v1_J1 at hF
  cases hF
  exact Wk_end (hfin _ ⟨[100000, 100001, 100002, 100003], [100000], [100000, 100001, 100002, 100003], [], [], [], by kernel_rfl⟩)

/- raft.Propose -/
noncomputable def raft_Propose (x : Node) (text : List UInt8) : Option (Int × Int × Int × Int × List Entry × Int × Int × List Int × List Int × List Int × Fault) :=
 ob (raft_Check x) fun x1 =>
 ob (
  if (!decide (x1.Code = 0)) = true then
   some x1
  else
   if (!decide (x.Role = 2)) = true then
    lt (raft_fault 11 0) fun x2 =>
    some x2
   else
    if (decide (200 < (text.length : Int))) = true then
     lt (raft_fault 8 0) fun x3 =>
     some x3
    else
     if (decide ((x.Log.length : Int) = 100)) = true then
      lt (raft_fault 2 0) fun x4 =>
      some x4
     else
      some x1) fun (v : Fault) =>
 if (!decide (v.Code = 0)) = true then
  some (0, 0, 0, 0, ([] : List Entry), 0, 0, ([] : List Int), ([] : List Int), ([] : List Int), v)
 else
  ob (raft_own x) fun x5 =>
  asrt (((x5.2.2.2.2.1 ++ [(⟨x.Term, text⟩ : Entry)]).length : Int) * 24 ≤ 140737488351232) <|
  asrt (0 ≤ x5.2.1 ∧ x5.2.1 < (x5.2.2.2.2.2.2.2.2.2.length : Int)) <|
  asrt (0 ≤ x5.2.1 ∧ x5.2.1 < (x5.2.2.2.2.2.2.2.2.2.length : Int)) <|
  lt ((lset x5.2.2.2.2.2.2.2.2.2 x5.2.1 ((x5.2.2.2.2.1 ++ [(⟨x.Term, text⟩ : Entry)]).length : Int))) fun (v1 : List Int) =>
  asrt (0 ≤ x5.2.1 ∧ x5.2.1 < (x5.2.2.2.2.2.2.2.2.1.length : Int)) <|
  asrt (0 ≤ x5.2.1 ∧ x5.2.1 < (x5.2.2.2.2.2.2.2.2.1.length : Int)) <|
  lt ((lset x5.2.2.2.2.2.2.2.2.1 x5.2.1 (w64 (((x5.2.2.2.2.1 ++ [(⟨x.Term, text⟩ : Entry)]).length : Int) + 1)))) fun (v2 : List Int) =>
  ob (raft_count_v1 x5.1 x5.2.1 x5.2.2.1 x5.2.2.2.1 x5.2.2.2.2.2.1 x5.2.2.2.2.2.2.1 (x5.2.2.2.2.1 ++ [(⟨x.Term, text⟩ : Entry)]) x5.2.2.2.2.2.2.2.1 v2 v1) fun x6 =>
  some (x6.1, x6.2.1, x6.2.2.1, x6.2.2.2.1, (x5.2.2.2.2.1 ++ [(⟨x.Term, text⟩ : Entry)]), x6.2.2.2.2.1, x6.2.2.2.2.2, x5.2.2.2.2.2.2.2.1, v2, v1, v)
theorem raft_Propose_ok (x : Node) (text : List UInt8) (r : Int × Int × Int × Int × List Entry × Int × Int × List Int × List Int × List Int × Fault) (hF : raft_Propose x text = some r) : Pe Try.prog 32 S.none [.agg (c_Node x), .str text] (.tup [.agg [.i r.1, .i r.2.1, .i r.2.2.1, .i r.2.2.2.1, .row 36 0, .i r.2.2.2.2.2.1, .i r.2.2.2.2.2.2.1, .row 20036 0, .row 40036 0, .row 60036 0], .agg (c_Fault r.2.2.2.2.2.2.2.2.2.2)]) ⟨[], [], [(36, .o 31 2 0 (r.2.2.2.2.1.map e_Entry)), (20036, .o 3 1 0 (r.2.2.2.2.2.2.2.1.map e_i64)), (40036, .o 3 1 0 (r.2.2.2.2.2.2.2.2.1.map e_i64)), (60036, .o 3 1 0 (r.2.2.2.2.2.2.2.2.2.1.map e_i64))], [], []⟩ := by
 refine PeN 85 [.cell 4 46, .cell 5 26] [46, 26] Ty.ok Fn.b32 Try.func32 ?_
 intro Q g hfin
 unfold raft_Propose at hF
 refine VR [] [1, 2, 4, 5] [2, 4, 5] [] [] [(2, .ptr 2 0), (4, .ptr 4 0), (5, .ptr 5 0)] [(2, (c_Node x)), (4, [.i 0, .i 0, .i 0, .i 0, .nils, .i 0, .i 0, .nils, .nils, .nils]), (5, [.i 0, .i 0])] [] [] .nil ?_
 obtain ⟨x1, h0, hF⟩ := ob_elim hF
 refine VR [.callB (.agg (c_Fault x1))] [1, 2, 4, 5, 6] [2, 4, 5, 6] [] [] [(6, .ptr 6 0)] [(6, (c_Fault x1))] [] [] (hc (raft_Check_ok x x1 h0) .nil) ?_
 refine Nblk ?_
 refine NR [] [1, 2, 4, 5, 6, 10] [2, 4, 5, 6] [] [(10, .bool (!decide (x1.Code = 0)))] .nil ?_
 obtain ⟨v, hv, hF⟩ := ob_elim hF
 refine Nmeet (⟨[(1, .str text), (2, .ptr 2 0), (4, .ptr 4 0), (5, .ptr 5 0), (6, .ptr 6 0)], [(2, (c_Node x)), (4, [.i 0, .i 0, .i 0, .i 0, .nils, .i 0, .i 0, .nils, .nils, .nils]), (5, [.i 0, .i 0]), (6, (c_Fault v))], [], [], []⟩ : S) ?_ ?_
 ·have hF := hv
  refine Nif hF (fun hb hF => ?_) (fun hb hF => ?_)
  ·cases hF
   exact met [] (by kernel_rfl)
  ·refine NR [] [1, 2, 4, 5, 6, 14] [2, 4, 5, 6] [] [(14, .bool (!decide (x.Role = 2)))] .nil ?_
   refine Nif hF (fun hb hF => ?_) (fun hb hF => ?_)
   ·obtain ⟨x2, h1, hF⟩ := lt_split hF
    refine VR [.callB (.agg (c_Fault x2))] [1, 2, 4, 5, 6] [2, 4, 5, 6] [] [] [] [(6, (c_Fault x2))] [] [] (hc (raft_fault_ok 11 0 x2 h1) .nil) ?_
    cases hF
    exact met [] (by kernel_rfl)
   ·refine NR [] [1, 2, 4, 5, 6, 19] [2, 4, 5, 6] [] [(19, .bool (decide (200 < (text.length : Int))))] .nil ?_
    refine Nif hF (fun hb hF => ?_) (fun hb hF => ?_)
    ·obtain ⟨x3, h2, hF⟩ := lt_split hF
     refine VR [.callB (.agg (c_Fault x3))] [1, 2, 4, 5, 6] [2, 4, 5, 6] [] [] [] [(6, (c_Fault x3))] [] [] (hc (raft_fault_ok 8 0 x3 h2) .nil) ?_
     cases hF
     exact met [] (by kernel_rfl)
    ·refine NR [.nat (x.Log.length : Int)] [1, 2, 4, 5, 6, 24] [2, 4, 5, 6] [] [(24, .bool (decide ((x.Log.length : Int) = 100)))] (hc (len_ok e_Entry x.Log) .nil) ?_
     refine Nif hF (fun hb hF => ?_) (fun hb hF => ?_)
     ·obtain ⟨x4, h3, hF⟩ := lt_split hF
      refine VR [.callB (.agg (c_Fault x4))] [1, 2, 4, 5, 6] [2, 4, 5, 6] [] [] [] [(6, (c_Fault x4))] [] [] (hc (raft_fault_ok 2 0 x4 h3) .nil) ?_
      cases hF
      exact met [] (by kernel_rfl)
     ·cases hF
      exact met [] (by kernel_rfl)
 ·refine NR [] [1, 2, 4, 5, 6, 32] [2, 4, 5, 6] [] [(32, .bool (!decide (v.Code = 0)))] .nil ?_
  refine Nif hF (fun hb hF => ?_) (fun hb hF => ?_)
  ·refine VD [] [4, 5] [4, 5] [] [] [] [(5, (c_Fault v))] [] [] .nil ?_
   cases hF
   refine Wk_nilrowB 4 4 60000 31 2 rfl rfl rfl rfl rfl ?_
   refine Wk_nilrowB 4 7 60001 3 1 rfl rfl rfl rfl rfl ?_
   refine Wk_nilrowB 4 8 60002 3 1 rfl rfl rfl rfl rfl ?_
   refine Wk_nilrowB 4 9 60003 3 1 rfl rfl rfl rfl rfl ?_
   refine Wk_ren' ⟨[], [(60000, 36), (60001, 20036), (60002, 40036), (60003, 60036)], [], []⟩ rfl ?_
   exact Wk_ret (hfin _ ⟨[36, 20036, 40036, 60036], [], [36, 20036, 40036, 60036], [], [], [(36, ⟨0, true, false, false⟩), (20036, ⟨0, true, false, false⟩), (40036, ⟨0, true, false, false⟩), (60036, ⟨0, true, false, false⟩)], by kernel_rfl⟩)
  ·obtain ⟨x5, h4, hF⟩ := ob_elim hF
   refine VR [.callE [] [] [] [] (.ptr 36 0) ⟨[], [(36, [.i x5.1, .i x5.2.1, .i x5.2.2.1, .i x5.2.2.2.1, .row 36 0, .i x5.2.2.2.2.2.1, .i x5.2.2.2.2.2.2.1, .row 20036 0, .row 40036 0, .row 60036 0])], [(36, .o 31 2 0 (x5.2.2.2.2.1.map e_Entry)), (20036, .o 3 1 0 (x5.2.2.2.2.2.2.2.1.map e_i64)), (40036, .o 3 1 0 (x5.2.2.2.2.2.2.2.2.1.map e_i64)), (60036, .o 3 1 0 (x5.2.2.2.2.2.2.2.2.2.map e_i64))], [], []⟩] [1, 2, 4, 5, 6, 7] [2, 4, 5, 6, 36] [36, 20036, 40036, 60036] [] [(7, .ptr 36 0)] [(36, [.i x5.1, .i x5.2.1, .i x5.2.2.1, .i x5.2.2.2.1, .row 36 0, .i x5.2.2.2.2.2.1, .i x5.2.2.2.2.2.2.1, .row 20036 0, .row 40036 0, .row 60036 0])] [(36, .o 31 2 0 (x5.2.2.2.2.1.map e_Entry)), (20036, .o 3 1 0 (x5.2.2.2.2.2.2.2.1.map e_i64)), (40036, .o 3 1 0 (x5.2.2.2.2.2.2.2.2.1.map e_i64)), (60036, .o 3 1 0 (x5.2.2.2.2.2.2.2.2.2.map e_i64))] [] (hc (Pe.ren (raft_own_ok x x5 h4) ⟨[(1, 36)], [(5, 36), (8, 20036), (11, 40036), (14, 60036)], [], []⟩) .nil) ?_
   obtain ⟨h5, hF⟩ := asrt_elim hF
   refine VD [.sealed, .xs ((x5.2.2.2.2.1 ++ [(⟨x.Term, text⟩ : Entry)]).map e_Entry)] [4, 5, 6, 7] [4, 5, 6, 36] [36, 20036, 40036, 60036] [] [] [(36, [.i x5.1, .i x5.2.1, .i x5.2.2.1, .i x5.2.2.2.1, .row 36 1, .i x5.2.2.2.2.2.1, .i x5.2.2.2.2.2.2.1, .row 20036 0, .row 40036 0, .row 60036 0])] [(36, ⟨31, 2, 1, 0, 0, false, 0, [], ((x5.2.2.2.2.1 ++ [(⟨x.Term, text⟩ : Entry)]).map e_Entry)⟩)] [] (hc (app_ok e_Entry x5.2.2.2.2.1 [(⟨x.Term, text⟩ : Entry)]) (hc (appl_ok e_Entry h5) .nil)) ?_
   obtain ⟨h6, h7, hF⟩ := asrt2 hF
   refine NDL ((lset x5.2.2.2.2.2.2.2.2.2 x5.2.1 ((x5.2.2.2.2.1 ++ [(⟨x.Term, text⟩ : Entry)]).length : Int))) (fun v1 : List Int => ([], [], [(60036, .o 3 1 0 (v1.map e_i64))], [])) [.nat ((x5.2.2.2.2.1 ++ [(⟨x.Term, text⟩ : Entry)]).length : Int), .av (e_i64 (lget x5.2.2.2.2.2.2.2.2.2 x5.2.1)), .xs ((lset x5.2.2.2.2.2.2.2.2.2 x5.2.1 ((x5.2.2.2.2.1 ++ [(⟨x.Term, text⟩ : Entry)]).length : Int)).map e_i64)] [4, 5, 6, 7] [4, 5, 6, 36] [36, 20036, 40036, 60036] [] (hc (len_ok e_Entry (x5.2.2.2.2.1 ++ [(⟨x.Term, text⟩ : Entry)])) (hc (ixr_ok e_i64 h6) (hc (ldr_ok e_i64 h7) (hc (set_ok e_i64 x5.2.2.2.2.2.2.2.2.2 x5.2.1 ((x5.2.2.2.2.1 ++ [(⟨x.Term, text⟩ : Entry)]).length : Int)) (hc (Nat.zero_le x5.2.1.toNat) .nil))))) (fun v1 hv => ?_)
   have hF := lt_elim hF hv
   obtain ⟨h8, h9, hF⟩ := asrt2 hF
   refine NDL ((lset x5.2.2.2.2.2.2.2.2.1 x5.2.1 (w64 (((x5.2.2.2.2.1 ++ [(⟨x.Term, text⟩ : Entry)]).length : Int) + 1)))) (fun v2 : List Int => ([], [], [(40036, .o 3 1 0 (v2.map e_i64))], [])) [.nat ((x5.2.2.2.2.1 ++ [(⟨x.Term, text⟩ : Entry)]).length : Int), .av (e_i64 (lget x5.2.2.2.2.2.2.2.2.1 x5.2.1)), .xs ((lset x5.2.2.2.2.2.2.2.2.1 x5.2.1 (w64 (((x5.2.2.2.2.1 ++ [(⟨x.Term, text⟩ : Entry)]).length : Int) + 1))).map e_i64)] [4, 5, 6, 7] [4, 5, 6, 36] [36, 20036, 40036, 60036] [] (hc (len_ok e_Entry (x5.2.2.2.2.1 ++ [(⟨x.Term, text⟩ : Entry)])) (hc (ixr_ok e_i64 h8) (hc (ldr_ok e_i64 h9) (hc (set_ok e_i64 x5.2.2.2.2.2.2.2.2.1 x5.2.1 (w64 (((x5.2.2.2.2.1 ++ [(⟨x.Term, text⟩ : Entry)]).length : Int) + 1))) (hc (Nat.zero_le x5.2.1.toNat) .nil))))) (fun v2 hv => ?_)
   have hF := lt_elim hF hv
   obtain ⟨x6, h10, hF⟩ := ob_elim hF
   refine VR [.callE [36] [36, 20036, 40036, 60036] [] [] (.tup []) ⟨[], [(36, [.i x6.1, .i x6.2.1, .i x6.2.2.1, .i x6.2.2.2.1, .row 36 1, .i x6.2.2.2.2.1, .i x6.2.2.2.2.2, .row 20036 0, .row 40036 0, .row 60036 0])], [(36, ⟨31, 2, 1, 0, 0, false, 0, [], ((x5.2.2.2.2.1 ++ [(⟨x.Term, text⟩ : Entry)]).map e_Entry)⟩), (20036, .o 3 1 0 (x5.2.2.2.2.2.2.2.1.map e_i64)), (40036, .o 3 1 0 (v2.map e_i64)), (60036, .o 3 1 0 (v1.map e_i64))], [], []⟩] [4, 5, 6, 7] [4, 5, 6, 36] [36, 20036, 40036, 60036] [] [] [(36, [.i x6.1, .i x6.2.1, .i x6.2.2.1, .i x6.2.2.2.1, .row 36 1, .i x6.2.2.2.2.1, .i x6.2.2.2.2.2, .row 20036 0, .row 40036 0, .row 60036 0])] [] [] (hc (Pe.ren (raft_count_v1_ok x5.1 x5.2.1 x5.2.2.1 x5.2.2.2.1 x5.2.2.2.2.2.1 x5.2.2.2.2.2.2.1 (x5.2.2.2.2.1 ++ [(⟨x.Term, text⟩ : Entry)]) x5.2.2.2.2.2.2.2.1 v2 v1 0 0 false 0 0 false 0 0 false 0 0 false x6 h10) ⟨[(100000, 36)], [(100000, 36), (100001, 20036), (100002, 40036), (100003, 60036)], [], [(100000, 1)]⟩) .nil) ?_
   refine VD [] [4, 5] [4, 5] [36, 20036, 40036, 60036] [] [] [(4, [.i x6.1, .i x6.2.1, .i x6.2.2.1, .i x6.2.2.2.1, .row 36 1, .i x6.2.2.2.2.1, .i x6.2.2.2.2.2, .row 20036 0, .row 40036 0, .row 60036 0]), (5, (c_Fault v))] [] [] .nil ?_
   cases hF
   exact Wk_ret (hfin _ ⟨[36, 20036, 40036, 60036], [], [36, 20036, 40036, 60036], [], [], [(36, ⟨0, true, true, false⟩)], by kernel_rfl⟩)

/- raft.beats$1 -/
noncomputable def raft_beats_1 (to0 : Int) (box : Node) : Option (Int × Int × Int × Int × Int × Int × Int × List Entry × Bool) :=
 asrt (0 ≤ to0 ∧ to0 < (box.Next.length : Int)) <|
 ob (entry_TermAt box.Log (w64 ((lget box.Next to0) - 1))) fun x =>
 asrt (0 ≤ w64 ((lget box.Next to0) - 1) ∧ w64 ((lget box.Next to0) - 1) ≤ (min (w64 ((w64 ((lget box.Next to0) - 1)) + 5)) (box.Log.length : Int)) ∧ (min (w64 ((w64 ((lget box.Next to0) - 1)) + 5)) (box.Log.length : Int)) ≤ (box.Log.length : Int)) <|
 ob (slices_Clone_api_Entry_api_Entry (ldrop (ltake box.Log (min (w64 ((w64 ((lget box.Next to0) - 1)) + 5)) (box.Log.length : Int))) (w64 ((lget box.Next to0) - 1)))) fun x1 =>
 some (3, 0, 0, 0, w64 ((lget box.Next to0) - 1), x, box.Commit, x1, false)
theorem raft_beats_1_ok (to0 : Int) (box : Node) (r : Int × Int × Int × Int × Int × Int × Int × List Entry × Bool) (hF : raft_beats_1 to0 box = some r) : Pe Try.prog 91 ⟨[], [(100000, [.ptr 100001 0]), (100001, (c_Node box))], [], [], []⟩ [.i to0, .ptr 100000 0] (.agg [.i r.1, .i r.2.1, .i r.2.2.1, .i r.2.2.2.1, .i r.2.2.2.2.1, .i r.2.2.2.2.2.1, .i r.2.2.2.2.2.2.1, .row 38 0, .bool r.2.2.2.2.2.2.2.2]) ⟨[], [(100000, [.ptr 100001 0]), (100001, (c_Node box))], [(38, .o 31 2 0 (r.2.2.2.2.2.2.2.1.map e_Entry))], [], []⟩ := by
 refine PeN 40 [.cell 3 62] [62] Ty.ok Fn.b91 Try.func91 ?_
 intro Q g hfin
 unfold raft_beats_1 at hF
 refine VR [] [0, 1, 3] [3, 100000, 100001] [] [] [(3, .ptr 3 0)] [(3, [.i 0, .i 0, .i 0, .i 0, .i 0, .i 0, .i 0, .nils, .bool false])] [] [] .nil ?_
 obtain ⟨h0, hF⟩ := asrt_elim hF
 refine NR [.av (e_i64 (lget box.Next to0))] [1, 3, 4] [3, 100000, 100001] [] [(4, .i (w64 ((lget box.Next to0) - 1)))] (hc (idx_ok e_i64 h0) .nil) ?_
 obtain ⟨x, h1, hF⟩ := ob_elim hF
 obtain ⟨h2, hF⟩ := asrt_elim hF
 obtain ⟨x1, h3, hF⟩ := ob_elim hF
 refine VD [.callB (.i x), .nat (box.Log.length : Int), .xs ((ldrop (ltake box.Log (min (w64 ((w64 ((lget box.Next to0) - 1)) + 5)) (box.Log.length : Int))) (w64 ((lget box.Next to0) - 1))).map e_Entry), .callE [] [] [] [] (.row 38 0) ⟨[], [], [(38, .o 31 2 0 (x1.map e_Entry))], [], []⟩] [3] [3, 100000, 100001] [38] [] [] [(3, [.i 3, .i 0, .i 0, .i 0, .i (w64 ((lget box.Next to0) - 1)), .i x, .i box.Commit, .row 38 0, .bool false])] [(38, .o 31 2 0 (x1.map e_Entry))] [] (hc (entry_TermAt_ok box.Log (w64 ((lget box.Next to0) - 1)) x h1) (hc (len_ok e_Entry box.Log) (hc (sl11_ok e_Entry h2) (hc (Pe.ren (slices_Clone_api_Entry_api_Entry_ok (ldrop (ltake box.Log (min (w64 ((w64 ((lget box.Next to0) - 1)) + 5)) (box.Log.length : Int))) (w64 ((lget box.Next to0) - 1))) x1 h3) ⟨[], [(5, 38)], [], []⟩) .nil)))) ?_
 cases hF
 exact Wk_ret (hfin _ ⟨[38], [100000, 100001], [38], [], [], [], by kernel_rfl⟩)

/- raft.others -/
noncomputable def raft_others_v1_J1 (v : List Mail) : Option (List Mail) :=
 some v
noncomputable def raft_others_v1_B1 (box : Node) (v1 : List Mail × Int) : Option ((List Mail × Int) ⊕ (List Mail)) :=
 if (decide (v1.2 < box.N)) = true then
  ob (
   if (!decide (v1.2 = box.ID)) = true then
    ob (raft_beats_1 v1.2 box) fun x =>
    asrt (((v1.1 ++ [(⟨x.1, box.ID, v1.2, box.Term, x.2.2.2.2.1, x.2.2.2.2.2.1, x.2.2.2.2.2.2.1, x.2.2.2.2.2.2.2.1, x.2.2.2.2.2.2.2.2⟩ : Mail)]).length : Int) * 88 ≤ 140737488351232) <|
    lt ((v1.1 ++ [(⟨x.1, box.ID, v1.2, box.Term, x.2.2.2.2.1, x.2.2.2.2.2.1, x.2.2.2.2.2.2.1, x.2.2.2.2.2.2.2.1, x.2.2.2.2.2.2.2.2⟩ : Mail)])) fun (v3 : List Mail) =>
    some v3
   else
    some v1.1) fun (v2 : List Mail) =>
  some (Sum.inl (v2, w64 (v1.2 + 1)))
 else
  inrO (raft_others_v1_J1 v1.1)
noncomputable def raft_others_v1_L1 (box : Node) (v0 : List Mail × Int) : Option (List Mail) :=
 loopO (fun y => raft_others_v1_B1 box y) v0
noncomputable def raft_others_v1 (box : Node) : Option (List Mail) :=
 raft_others_v1_L1 box (([] : List Mail), 0)
theorem raft_others_v1_ok (box : Node) (r : List Mail) (hF : raft_others_v1 box = some r) : Pe Try.prog 66 ⟨[], [(100000, (c_Node box)), (100001, [.ptr 100000 0])], [], [], []⟩ [.ptr 100000 0, .fn 91 [.ptr 100001 0]] (.row 39 0) ⟨[], [(100000, (c_Node box)), (100001, [.ptr 100000 0])], [(39, .z 62 9 0 (r.map e_Mail))], [], []⟩ := by
 refine PeN 42 [.tmp 4] [50] Ty.ok Fn.b66 Try.func66 ?_
 intro Q g hfin
 unfold raft_others_v1 at hF
 refine NR [] [0, 1] [100000, 100001] [] [] .nil ?_
 refine NR [] [0, 1, 5] [100000, 100001] [] [(5, .nils)] .nil ?_
 refine NR [] [0, 1, 5, 11, 12] [100000, 100001] [] [(11, .i box.N), (12, .i 0)] .nil ?_
 refine NmeetP (fun v : List Mail => (⟨[(5, .row 39 0)], [(100000, (c_Node box)), (100001, [.ptr 100000 0])], [(39, .z 62 9 0 (v.map e_Mail))], [], []⟩ : S)) (fun v => raft_others_v1_J1 v = some r) ?_ ?_
 ·refine Nblk ?_
  unfold raft_others_v1_L1 at hF
  refine Wk_nilrow 5 60000 62 9 rfl rfl rfl ?_
  refine Wk_trim (fs := [0, 1, 5, 11, 12]) (bs := [100000, 100001]) (rs := [60000]) (ms := []) (aa := []) (nv := []) rfl ?_
  refine Wk_ren' ⟨[], [(60000, 39)], [], []⟩ rfl ?_
  refine Niter (fun v1 : List Mail × Int => (⟨[(0, .ptr 100000 0), (1, .fn 91 [.ptr 100001 0]), (5, .row 39 0), (11, .i box.N), (12, .i v1.2)], [(100000, (c_Node box)), (100001, [.ptr 100000 0])], [(39, .z 62 9 0 (v1.1.map e_Mail))], [], []⟩ : S)) [] hF (by kernel_rfl) ?_
  intro n1 v1 y1 hF ih1 dn1
  unfold raft_others_v1_B1 at hF
  refine NR [] [0, 1, 5, 11, 12, 13] [100000, 100001] [39] [(13, .bool (decide (v1.2 < box.N)))] .nil ?_
  refine Nif hF (fun hb hF => ?_) (fun hb hF => ?_)
  ·refine Nblk ?_
   refine NR [] [0, 1, 5, 6, 11, 12] [100000, 100001] [39] [(6, .i v1.2)] .nil ?_
   refine NR [] [0, 1, 5, 6, 11, 12, 20] [100000, 100001] [39] [(20, .bool (!decide (v1.2 = box.ID)))] .nil ?_
   obtain ⟨v2, hv, hF⟩ := ob_elim hF
   refine Nmeet (⟨[(0, .ptr 100000 0), (1, .fn 91 [.ptr 100001 0]), (5, .row 39 0), (11, .i box.N), (12, .i v1.2)], [(100000, (c_Node box)), (100001, [.ptr 100000 0])], [(39, .z 62 9 0 (v2.map e_Mail))], [], []⟩ : S) ?_ ?_
   ·have hF := hv
    refine Nif hF (fun hb hF => ?_) (fun hb hF => ?_)
    ·obtain ⟨x, h0, hF⟩ := ob_elim hF
     refine VR [.callE [100001, 100000] [] [] [] (.agg [.i x.1, .i x.2.1, .i x.2.2.1, .i x.2.2.2.1, .i x.2.2.2.2.1, .i x.2.2.2.2.2.1, .i x.2.2.2.2.2.2.1, .row 23 0, .bool x.2.2.2.2.2.2.2.2]) ⟨[], [(100001, [.ptr 100000 0]), (100000, (c_Node box))], [(23, .o 31 2 0 (x.2.2.2.2.2.2.2.1.map e_Entry))], [], []⟩] [0, 1, 5, 6, 7, 11, 12] [7, 100000, 100001] [23, 39] [] [(7, .ptr 7 0)] [(7, [.i x.1, .i x.2.1, .i x.2.2.1, .i x.2.2.2.1, .i x.2.2.2.2.1, .i x.2.2.2.2.2.1, .i x.2.2.2.2.2.2.1, .row 23 0, .bool x.2.2.2.2.2.2.2.2])] [(23, .o 31 2 0 (x.2.2.2.2.2.2.2.1.map e_Entry))] [] (hc (Pe.ren (raft_beats_1_ok v1.2 box x h0) ⟨[(100000, 100001)], [(38, 23)], [], []⟩) .nil) ?_
     refine VD [] [0, 1, 5, 7, 11, 12] [7, 100000, 100001] [23, 39] [] [] [(7, [.i x.1, .i box.ID, .i v1.2, .i box.Term, .i x.2.2.2.2.1, .i x.2.2.2.2.2.1, .i x.2.2.2.2.2.2.1, .row 23 0, .bool x.2.2.2.2.2.2.2.2])] [] [] .nil ?_
     obtain ⟨h1, hF⟩ := asrt_elim hF
     refine NRL ((v1.1 ++ [(⟨x.1, box.ID, v1.2, box.Term, x.2.2.2.2.1, x.2.2.2.2.2.1, x.2.2.2.2.2.2.1, x.2.2.2.2.2.2.2.1, x.2.2.2.2.2.2.2.2⟩ : Mail)])) (fun v3 : List Mail => ([(5, .row 39 1)], [], [(39, .z 62 9 1 (v3.map e_Mail))], [])) [.sealed, .xs ((v1.1 ++ [(⟨x.1, box.ID, v1.2, box.Term, x.2.2.2.2.1, x.2.2.2.2.2.1, x.2.2.2.2.2.2.1, x.2.2.2.2.2.2.2.1, x.2.2.2.2.2.2.2.2⟩ : Mail)]).map e_Mail)] [0, 1, 5, 11, 12] [100000, 100001] [39] [] (hc (app_ok e_Mail v1.1 [(⟨x.1, box.ID, v1.2, box.Term, x.2.2.2.2.1, x.2.2.2.2.2.1, x.2.2.2.2.2.2.1, x.2.2.2.2.2.2.2.1, x.2.2.2.2.2.2.2.2⟩ : Mail)]) (hc (appl_ok e_Mail h1) .nil)) (fun v3 hv => ?_)
     have hF := lt_elim hF hv
     cases hF
     exact met [(39, ⟨0, true, true, false⟩)] (by kernel_rfl)
    ·cases hF
     exact met [] (by kernel_rfl)
   ·refine NR [] [0, 1, 5, 11, 12] [100000, 100001] [39] [(12, .i (w64 (v1.2 + 1)))] .nil ?_
    exact Nrnd [] hF ih1 (by kernel_rfl)
  ·refine Nexit rfl ?_
   have hF := inrO_done hF dn1
   exact metP v1.1 [] hF (by kernel_rfl)
 ·intro v hF
  have hF : raft_others_v1_J1 v = some r := hF
  unfold raft_others_v1_J1 at hF
  refine NR [] [4] [100000, 100001] [39] [(4, .row 39 0)] .nil ?_
  cases hF
  exact Wk_ret (hfin _ ⟨[39], [100000, 100001], [39], [], [], [], by kernel_rfl⟩)

/- raft.beats -/
noncomputable def raft_beats (box : Node) : Option (List Mail) :=
 ob (raft_others_v1 box) fun x =>
 some x
theorem raft_beats_ok (box : Node) (r : List Mail) (hF : raft_beats box = some r) : Pe Try.prog 70 ⟨[], [(100000, (c_Node box))], [], [], []⟩ [.ptr 100000 0] (.row 5 0) ⟨[], [(100000, (c_Node box))], [(5, .z 62 9 0 (r.map e_Mail))], [], []⟩ := by
 refine PeN 6 [.tmp 2] [50] Ty.ok Fn.b70 Try.func70 ?_
 intro Q g hfin
 unfold raft_beats at hF
 refine VR [] [1] [1, 100000] [] [] [(1, .ptr 1 0)] [(1, [.ptr 100000 0])] [] [] .nil ?_
 obtain ⟨x, h0, hF⟩ := ob_elim hF
 refine VR [.callE [100000, 1] [] [] [] (.row 5 0) ⟨[], [(100000, (c_Node box)), (1, [.ptr 100000 0])], [(5, .z 62 9 0 (x.map e_Mail))], [], []⟩] [2] [100000] [5] [] [(2, .row 5 0)] [] [(5, .z 62 9 0 (x.map e_Mail))] [] (hc (Pe.ren (raft_others_v1_ok box x h0) ⟨[(100001, 1)], [(39, 5)], [], []⟩) .nil) ?_
 cases hF
 exact Wk_ret (hfin _ ⟨[5], [100000], [5], [], [], [], by kernel_rfl⟩)

/- raft.Beat -/
noncomputable def raft_Beat (x : Node) : Option (List Mail × Fault) :=
 ob (raft_Check x) fun x1 =>
 ob (
  if ((decide (x1.Code = 0)) && (!decide (x.Role = 2))) = true then
   lt (raft_fault 11 0) fun x2 =>
   some x2
  else
   some x1) fun (v : Fault) =>
 if (!decide (v.Code = 0)) = true then
  some (([] : List Mail), v)
 else
  ob (raft_beats x) fun x3 =>
  some (x3, v)
theorem raft_Beat_ok (x : Node) (r : List Mail × Fault) (hF : raft_Beat x = some r) : Pe Try.prog 33 S.none [.agg (c_Node x)] (.tup [.row 20 0, .agg (c_Fault r.2)]) ⟨[], [], [(20, .z 62 9 0 (r.1.map e_Mail))], [], []⟩ := by
 refine PeN 22 [.tmp 2, .cell 3 26] [50, 26] Ty.ok Fn.b33 Try.func33 ?_
 intro Q g hfin
 unfold raft_Beat at hF
 refine VR [] [1, 3] [1, 3] [] [] [(1, .ptr 1 0), (3, .ptr 3 0)] [(1, (c_Node x)), (3, [.i 0, .i 0])] [] [] .nil ?_
 obtain ⟨x1, h0, hF⟩ := ob_elim hF
 refine VR [.callB (.agg (c_Fault x1))] [1, 3, 4] [1, 3, 4] [] [] [(4, .ptr 4 0)] [(4, (c_Fault x1))] [] [] (hc (raft_Check_ok x x1 h0) .nil) ?_
 refine NR [] [1, 3, 4, 14] [1, 3, 4] [] [(14, .bool ((decide (x1.Code = 0)) && (!decide (x.Role = 2))))] .nil ?_
 obtain ⟨v, hv, hF⟩ := ob_elim hF
 refine Nmeet (⟨[(1, .ptr 1 0), (3, .ptr 3 0), (4, .ptr 4 0)], [(1, (c_Node x)), (3, [.i 0, .i 0]), (4, (c_Fault v))], [], [], []⟩ : S) ?_ ?_
 ·have hF := hv
  refine Nif hF (fun hb hF => ?_) (fun hb hF => ?_)
  ·obtain ⟨x2, h1, hF⟩ := lt_split hF
   refine VR [.callB (.agg (c_Fault x2))] [1, 3, 4] [1, 3, 4] [] [] [] [(4, (c_Fault x2))] [] [] (hc (raft_fault_ok 11 0 x2 h1) .nil) ?_
   cases hF
   exact met [] (by kernel_rfl)
  ·cases hF
   exact met [] (by kernel_rfl)
 ·refine NR [] [1, 3, 4, 18] [1, 3, 4] [] [(18, .bool (!decide (v.Code = 0)))] .nil ?_
  refine Nif hF (fun hb hF => ?_) (fun hb hF => ?_)
  ·refine VD [] [2, 3] [3] [] [] [(2, .nils)] [(3, (c_Fault v))] [] [] .nil ?_
   cases hF
   refine Wk_nilrow 2 60000 62 9 rfl rfl rfl ?_
   refine Wk_ren' ⟨[], [(60000, 20)], [], []⟩ rfl ?_
   exact Wk_ret (hfin _ ⟨[20], [], [20], [], [], [], by kernel_rfl⟩)
  ·obtain ⟨x3, h2, hF⟩ := ob_elim hF
   refine VD [.callE [1] [] [] [] (.row 20 0) ⟨[], [(1, (c_Node x))], [(20, .z 62 9 0 (x3.map e_Mail))], [], []⟩] [2, 3] [3] [20] [] [(2, .row 20 0)] [(3, (c_Fault v))] [(20, .z 62 9 0 (x3.map e_Mail))] [] (hc (Pe.ren (raft_beats_ok x x3 h2) ⟨[(100000, 1)], [(5, 20)], [], []⟩) .nil) ?_
   cases hF
   exact Wk_ret (hfin _ ⟨[20], [], [20], [], [], [], by kernel_rfl⟩)

/- (*clan.game).does$2 -/
noncomputable def clan_game_does_2 (x : Node) : Option (Node × List Mail × Fault) :=
 ob (raft_Beat x) fun x1 =>
 some (x, x1.1, x1.2)
theorem clan_game_does_2_ok (x : Node) (r : Node × List Mail × Fault) (hF : clan_game_does_2 x = some r) : Pe Try.prog 97 S.none [.agg (c_Node x)] (.tup [.agg (c_Node r.1), .row 9 0, .agg (c_Fault r.2.2)]) ⟨[], [], [(9, .z 62 9 0 (r.2.1.map e_Mail))], [], []⟩ := by
 refine PeN 15 [.cell 2 46, .tmp 3, .cell 4 26] [46, 50, 26] Ty.ok Fn.b97 Try.func97 ?_
 intro Q g hfin
 unfold clan_game_does_2 at hF
 refine VR [] [1, 2, 4] [1, 2, 4] [] [] [(1, .ptr 1 0), (2, .ptr 2 0), (4, .ptr 4 0)] [(1, (c_Node x)), (2, [.i 0, .i 0, .i 0, .i 0, .nils, .i 0, .i 0, .nils, .nils, .nils]), (4, [.i 0, .i 0])] [] [] .nil ?_
 obtain ⟨x1, h0, hF⟩ := ob_elim hF
 refine VR [.callE [] [] [] [] (.tup [.row 9 0, .agg (c_Fault x1.2)]) ⟨[], [], [(9, .z 62 9 0 (x1.1.map e_Mail))], [], []⟩] [1, 2, 4, 5, 6] [1, 2, 4, 6] [9] [] [(5, .row 9 0), (6, .ptr 6 0)] [(6, (c_Fault x1.2))] [(9, .z 62 9 0 (x1.1.map e_Mail))] [] (hc (Pe.ren (raft_Beat_ok x x1 h0) ⟨[], [(20, 9)], [], []⟩) .nil) ?_
 refine VD [] [2, 3, 4] [2, 4] [9] [] [(3, .row 9 0)] [(2, (c_Node x)), (4, (c_Fault x1.2))] [] [] .nil ?_
 cases hF
 exact Wk_ret (hfin _ ⟨[9], [], [9], [], [], [], by kernel_rfl⟩)

/- raft.fine -/
noncomputable def raft_fine (m : Mail) (box : Node) : Option Bool :=
 lt (raft_within m.Kind 1 4) fun x =>
 lt (raft_within m.From 0 (w64 (box.N - 1))) fun x1 =>
 lt (raft_within m.Term 1 1000000000) fun x2 =>
 lt (raft_within m.A 0 1000000000) fun x3 =>
 lt (raft_within m.B 0 1000000000) fun x4 =>
 lt (raft_within m.C0 0 1000000000) fun x5 =>
 ob (if (((((((((x && (decide (m.To = box.ID))) && (!decide (m.From = box.ID))) && x1) && x2) && x3) && x4) && x5) && (decide ((m.Entries.length : Int) ≤ 5))) && ((decide ((m.Entries.length : Int) = 0)) || (decide (m.Kind = 3)))) = true then (entry_Check m.Entries) else some default) fun x6 =>
 ob (if ((((((((((x && (decide (m.To = box.ID))) && (!decide (m.From = box.ID))) && x1) && x2) && x3) && x4) && x5) && (decide ((m.Entries.length : Int) ≤ 5))) && ((decide ((m.Entries.length : Int) = 0)) || (decide (m.Kind = 3)))) && (decide (x6.Code = 0))) = true then (entry_TermAt m.Entries (m.Entries.length : Int)) else some default) fun x7 =>
 lt (((((((((((x && (decide (m.To = box.ID))) && (!decide (m.From = box.ID))) && x1) && x2) && x3) && x4) && x5) && (decide ((m.Entries.length : Int) ≤ 5))) && ((decide ((m.Entries.length : Int) = 0)) || (decide (m.Kind = 3)))) && (decide (x6.Code = 0))) && (decide (x7 ≤ m.Term))) fun (v : Bool) =>
 some v
theorem raft_fine_ok (m : Mail) (box : Node) (r : Bool) (hF : raft_fine m box = some r) : Pe Try.prog 78 ⟨[], [(100000, (c_Node box))], [], [], []⟩ [.ptr 100000 0, .agg (c_Mail m)] (.bool r) ⟨[], [(100000, (c_Node box))], [], [], []⟩ := by
 refine PeN 89 [.tmp 4] [4] Ty.ok Fn.b78 Try.func78 ?_
 intro Q g hfin
 unfold raft_fine at hF
 refine VR [] [0, 3] [3, 100000] [] [] [(3, .ptr 3 0)] [(3, (c_Mail m))] [] [] .nil ?_
 refine NR [.nat (m.Entries.length : Int)] [0, 3, 5] [3, 100000] [] [(5, .i (m.Entries.length : Int))] (hc (len_ok e_Entry m.Entries) .nil) ?_
 obtain ⟨x, h0, hF⟩ := lt_split hF
 obtain ⟨x1, h1, hF⟩ := lt_split hF
 obtain ⟨x2, h2, hF⟩ := lt_split hF
 obtain ⟨x3, h3, hF⟩ := lt_split hF
 obtain ⟨x4, h4, hF⟩ := lt_split hF
 obtain ⟨x5, h5, hF⟩ := lt_split hF
 obtain ⟨x6, h6, hF⟩ := ob_elim hF
 obtain ⟨x7, h7, hF⟩ := ob_elim hF
 refine NDL (((((((((((x && (decide (m.To = box.ID))) && (!decide (m.From = box.ID))) && x1) && x2) && x3) && x4) && x5) && (decide ((m.Entries.length : Int) ≤ 5))) && ((decide ((m.Entries.length : Int) = 0)) || (decide (m.Kind = 3)))) && (decide (x6.Code = 0))) && (decide (x7 ≤ m.Term))) (fun v : Bool => ([(4, .bool v)], [], [], [])) [.callB (.bool x), .callB (.bool x1), .callB (.bool x2), .callB (.bool x3), .callB (.bool x4), .callB (.bool x5), .callB (.agg (c_Fault x6)), .callB (.i x7)] [4] [100000] [] [] (hc (raft_within_ok m.Kind 1 4 x h0) (hc (fun (ga0 : ((x && (decide (m.To = box.ID))) && (!decide (m.From = box.ID))) = true) => (raft_within_ok m.From 0 (w64 (box.N - 1)) x1 h1)) (hc (fun (ga0 : (((x && (decide (m.To = box.ID))) && (!decide (m.From = box.ID))) && x1) = true) => (raft_within_ok m.Term 1 1000000000 x2 h2)) (hc (fun (ga0 : ((((x && (decide (m.To = box.ID))) && (!decide (m.From = box.ID))) && x1) && x2) = true) => (raft_within_ok m.A 0 1000000000 x3 h3)) (hc (fun (ga0 : (((((x && (decide (m.To = box.ID))) && (!decide (m.From = box.ID))) && x1) && x2) && x3) = true) => (raft_within_ok m.B 0 1000000000 x4 h4)) (hc (fun (ga0 : ((((((x && (decide (m.To = box.ID))) && (!decide (m.From = box.ID))) && x1) && x2) && x3) && x4) = true) => (raft_within_ok m.C0 0 1000000000 x5 h5)) (hc (fun (ga0 : (((((((((x && (decide (m.To = box.ID))) && (!decide (m.From = box.ID))) && x1) && x2) && x3) && x4) && x5) && (decide ((m.Entries.length : Int) ≤ 5))) && ((decide ((m.Entries.length : Int) = 0)) || (decide (m.Kind = 3)))) = true) => (entry_Check_ok m.Entries x6 (ite_t h6 ga0))) (hc (fun (ga0 : ((((((((((x && (decide (m.To = box.ID))) && (!decide (m.From = box.ID))) && x1) && x2) && x3) && x4) && x5) && (decide ((m.Entries.length : Int) ≤ 5))) && ((decide ((m.Entries.length : Int) = 0)) || (decide (m.Kind = 3)))) && (decide (x6.Code = 0))) = true) => (entry_TermAt_ok m.Entries (m.Entries.length : Int) x7 (ite_t h7 ga0))) .nil)))))))) (fun v hv => ?_)
 have hF := lt_elim hF hv
 cases hF
 exact Wk_ret (hfin _ ⟨[], [100000], [], [], [], [], by kernel_rfl⟩)

/- raft.answer -/
noncomputable def raft_answer (m : Mail) (kind : Int) (ok : Bool) (a0 : Int) (box : Int) (box1 : Int) (box2 : Int) (box3 : Int) (box4 : Int) (box5 : Int) (row : List Entry) (row1 : List Int) (row2 : List Int) (row3 : List Int) : List Mail :=
 [(⟨kind, box1, m.From, box2, a0, 0, 0, ([] : List Entry), ok⟩ : Mail)]
theorem raft_answer_ok (m : Mail) (kind : Int) (ok : Bool) (a0 : Int) (box : Int) (box1 : Int) (box2 : Int) (box3 : Int) (box4 : Int) (box5 : Int) (row : List Entry) (row1 : List Int) (row2 : List Int) (row3 : List Int) (rk : Nat) (rc : Nat) (rn : Bool) (rk1 : Nat) (rc1 : Nat) (rn1 : Bool) (rk2 : Nat) (rc2 : Nat) (rn2 : Bool) (rk3 : Nat) (rc3 : Nat) (rn3 : Bool) (r : List Mail) (hF : raft_answer m kind ok a0 box box1 box2 box3 box4 box5 row row1 row2 row3 = r) : Pe Try.prog 92 ⟨[], [(100000, [.i box, .i box1, .i box2, .i box3, .row 100000 0, .i box4, .i box5, .row 100001 0, .row 100002 0, .row 100003 0])], [(100000, ⟨31, 2, 0, rk, rc, rn, 0, [], (row.map e_Entry)⟩), (100001, ⟨3, 1, 0, rk1, rc1, rn1, 0, [], (row1.map e_i64)⟩), (100002, ⟨3, 1, 0, rk2, rc2, rn2, 0, [], (row2.map e_i64)⟩), (100003, ⟨3, 1, 0, rk3, rc3, rn3, 0, [], (row3.map e_i64)⟩)], [], []⟩ [.ptr 100000 0, .agg (c_Mail m), .i kind, .bool ok, .i a0] (.sl 9 (r.map e_Mail)) ⟨[], [(100000, [.i box, .i box1, .i box2, .i box3, .row 100000 0, .i box4, .i box5, .row 100001 0, .row 100002 0, .row 100003 0])], [(100000, ⟨31, 2, 0, rk, rc, rn, 0, [], (row.map e_Entry)⟩), (100001, ⟨3, 1, 0, rk1, rc1, rn1, 0, [], (row1.map e_i64)⟩), (100002, ⟨3, 1, 0, rk2, rc2, rn2, 0, [], (row2.map e_i64)⟩), (100003, ⟨3, 1, 0, rk3, rc3, rn3, 0, [], (row3.map e_i64)⟩)], [], []⟩ := by
 refine PeN 26 [.tmp 10] [50] Ty.ok Fn.b92 Try.func92 ?_
 intro Q g hfin
 unfold raft_answer at hF
 refine VR [] [0, 2, 3, 4, 6] [6, 100000] [100000, 100001, 100002, 100003] [] [(6, .ptr 6 0)] [(6, (c_Mail m))] [] [] .nil ?_
 refine ND [.sealed] [10] [100000] [100000, 100001, 100002, 100003] [(10, .sl 9 ([(⟨kind, box1, m.From, box2, a0, 0, 0, ([] : List Entry), ok⟩ : Mail)].map e_Mail))] .nil ?_
 cases hF
 exact Wk_ret (hfin _ ⟨[100000, 100001, 100002, 100003], [100000], [100000, 100001, 100002, 100003], [], [], [], by kernel_rfl⟩)

/- raft.asked -/
noncomputable def raft_asked (m : Mail) (box : Int) (box1 : Int) (box2 : Int) (box3 : Int) (box4 : Int) (box5 : Int) (row : List Entry) (row1 : List Int) (row2 : List Int) (row3 : List Int) : Option (List Mail × Int × Int × Int × Int × Int × Int) :=
 ob (entry_TermAt row (row.length : Int)) fun x =>
 lt ((decide (m.B < x)) || ((decide (m.B = x)) && (decide (m.A < (row.length : Int))))) fun (v : Bool) =>
 lt (((decide (m.Term = box2)) && ((decide (box3 = 0)) || (decide (box3 = (w64 (m.From + 1)))))) && (!v)) fun (v1 : Bool) =>
 ob (
  if v1 = true then
   some (w64 (m.From + 1))
  else
   some box3) fun (v2 : Int) =>
 lt (raft_answer m 2 v1 0 box box1 box2 v2 box4 box5 row row1 row2 row3) fun x1 =>
 some (x1, box, box1, box2, v2, box4, box5)
theorem raft_asked_ok (m : Mail) (box : Int) (box1 : Int) (box2 : Int) (box3 : Int) (box4 : Int) (box5 : Int) (row : List Entry) (row1 : List Int) (row2 : List Int) (row3 : List Int) (rk : Nat) (rc : Nat) (rn : Bool) (rk1 : Nat) (rc1 : Nat) (rn1 : Bool) (rk2 : Nat) (rc2 : Nat) (rn2 : Bool) (rk3 : Nat) (rc3 : Nat) (rn3 : Bool) (r : List Mail × Int × Int × Int × Int × Int × Int) (hF : raft_asked m box box1 box2 box3 box4 box5 row row1 row2 row3 = some r) : Pe Try.prog 79 ⟨[], [(100000, [.i box, .i box1, .i box2, .i box3, .row 100000 0, .i box4, .i box5, .row 100001 0, .row 100002 0, .row 100003 0])], [(100000, ⟨31, 2, 0, rk, rc, rn, 0, [], (row.map e_Entry)⟩), (100001, ⟨3, 1, 0, rk1, rc1, rn1, 0, [], (row1.map e_i64)⟩), (100002, ⟨3, 1, 0, rk2, rc2, rn2, 0, [], (row2.map e_i64)⟩), (100003, ⟨3, 1, 0, rk3, rc3, rn3, 0, [], (row3.map e_i64)⟩)], [], []⟩ [.ptr 100000 0, .agg (c_Mail m)] (.sl 9 (r.1.map e_Mail)) ⟨[], [(100000, [.i r.2.1, .i r.2.2.1, .i r.2.2.2.1, .i r.2.2.2.2.1, .row 100000 0, .i r.2.2.2.2.2.1, .i r.2.2.2.2.2.2, .row 100001 0, .row 100002 0, .row 100003 0])], [(100000, ⟨31, 2, 0, rk, rc, rn, 0, [], (row.map e_Entry)⟩), (100001, ⟨3, 1, 0, rk1, rc1, rn1, 0, [], (row1.map e_i64)⟩), (100002, ⟨3, 1, 0, rk2, rc2, rn2, 0, [], (row2.map e_i64)⟩), (100003, ⟨3, 1, 0, rk3, rc3, rn3, 0, [], (row3.map e_i64)⟩)], [], []⟩ := by
 refine PeN 77 [.tmp 4] [50] Ty.ok Fn.b79 Try.func79 ?_
 intro Q g hfin
 unfold raft_asked at hF
 refine VR [] [0, 3] [3, 100000] [100000, 100001, 100002, 100003] [] [(3, .ptr 3 0)] [(3, (c_Mail m))] [] [] .nil ?_
 obtain ⟨x, h0, hF⟩ := ob_elim hF
 refine ND [.nat (row.length : Int), .callB (.i x)] [0, 3, 5] [3, 100000] [100000, 100001, 100002, 100003] [(5, .i x)] (hc (len_ok e_Entry row) (hc (entry_TermAt_ok row (row.length : Int) x h0) .nil)) ?_
 refine NDL ((decide (m.B < x)) || ((decide (m.B = x)) && (decide (m.A < (row.length : Int))))) (fun v : Bool => ([(6, .bool v)], [], [], [])) [.nat (row.length : Int)] [0, 3, 6] [3, 100000] [100000, 100001, 100002, 100003] [] (hc (fun (_ : (decide (m.B = x)) = true) (_ : (!(decide (m.B < x))) = true) => (len_ok e_Entry row)) .nil) (fun v hv => ?_)
 have hF := lt_elim hF hv
 refine NDL (((decide (m.Term = box2)) && ((decide (box3 = 0)) || (decide (box3 = (w64 (m.From + 1)))))) && (!v)) (fun v1 : Bool => ([(7, .bool v1)], [], [], [])) [] [0, 3, 7] [3, 100000] [100000, 100001, 100002, 100003] [] .nil (fun v1 hv => ?_)
 have hF := lt_elim hF hv
 refine NR [] [0, 3, 7, 66] [3, 100000] [100000, 100001, 100002, 100003] [(66, .bool v1)] .nil ?_
 obtain ⟨v2, hv, hF⟩ := ob_elim hF
 refine Nmeet (⟨[(0, .ptr 100000 0), (3, .ptr 3 0), (7, .bool v1)], [(3, (c_Mail m)), (100000, [.i box, .i box1, .i box2, .i v2, .row 100000 0, .i box4, .i box5, .row 100001 0, .row 100002 0, .row 100003 0])], [(100000, ⟨31, 2, 0, rk, rc, rn, 0, [], (row.map e_Entry)⟩), (100001, ⟨3, 1, 0, rk1, rc1, rn1, 0, [], (row1.map e_i64)⟩), (100002, ⟨3, 1, 0, rk2, rc2, rn2, 0, [], (row2.map e_i64)⟩), (100003, ⟨3, 1, 0, rk3, rc3, rn3, 0, [], (row3.map e_i64)⟩)], [], []⟩ : S) ?_ ?_
 ·have hF := hv
  refine Nif hF (fun hb hF => ?_) (fun hb hF => ?_)
  ·refine VR [] [0, 3, 7] [3, 100000] [100000, 100001, 100002, 100003] [] [] [(100000, [.i box, .i box1, .i box2, .i (w64 (m.From + 1)), .row 100000 0, .i box4, .i box5, .row 100001 0, .row 100002 0, .row 100003 0])] [] [] .nil ?_
   cases hF
   exact met [] (by kernel_rfl)
  ·cases hF
   exact met [] (by kernel_rfl)
 ·obtain ⟨x1, h1, hF⟩ := lt_split hF
  refine NR [.callR [100000] [100000, 100001, 100002, 100003] [] [] (.sl 9 (x1.map e_Mail))] [4] [100000] [100000, 100001, 100002, 100003] [(4, .sl 9 (x1.map e_Mail))] (hc (Pe.ren (raft_answer_ok m 2 v1 0 box box1 box2 v2 box4 box5 row row1 row2 row3 rk rc rn rk1 rc1 rn1 rk2 rc2 rn2 rk3 rc3 rn3 x1 h1) ⟨[], [], [], []⟩) .nil) ?_
  cases hF
  exact Wk_ret (hfin _ ⟨[100000, 100001, 100002, 100003], [100000], [100000, 100001, 100002, 100003], [], [], [], by kernel_rfl⟩)

end G
end Go.Proofs.Ytcnngkigpfpalaa
