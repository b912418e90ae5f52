/- The program's functions as plain functions, and that they are these. Written by a program (dec2.py). -/
import Derived.Test.YtcnngkigpfpalaaTys
namespace Go.Proofs.Ytcnngkigpfpalaa
open Go Go.Dm
set_option linter.unusedVariables false
set_option linter.unusedSimpArgs false
set_option maxRecDepth 100000
namespace G
/- clan.fault -/
noncomputable def clan_fault (code : Int) (at0 : Int) : Fault :=
  (⟨code, at0⟩ : Fault)
theorem clan_fault_ok (code : Int) (at0 : Int) (r : Fault) (hF : clan_fault code at0 = r) : Pe Try.prog 84 S.none [.i code, .i at0] (.agg [.i r.Code, .i r.At]) S.none := by
  refine Pe_of (N := 8) (res := [.cell 4 26]) (ts := [26]) Ty.ok Fn.b84 Try.func84 rfl rfl rfl rfl rfl rfl ?_
  intro Q g hfin
  unfold clan_fault at hF
  refine URs [] [0, 1, 4] [4] [] [] [(4, .ptr 4 0)] [(4, [.i 0, .i 0])] [] [] .nil ?_
  refine URs [] [4] [4] [] [] [] [(4, [.i code, .i at0])] [] [] .nil ?_
  exact Wk_ret (hfin _ ⟨[], [], [], [], [], [], by first | (rw [← hF]; kernel_rfl) | kernel_rfl⟩)

/- raft.within -/
noncomputable def raft_within (num : Int) (from0 : Int) (to0 : Int) : Bool :=
  (decide (from0 ≤ num)) && (decide (num ≤ to0))
theorem raft_within_ok (num : Int) (from0 : Int) (to0 : Int) (r : Bool) (hF : raft_within num from0 to0 = r) : Pe Try.prog 60 S.none [.i num, .i from0, .i to0] (.bool r) S.none := by
  refine Pe_of (N := 15) (res := [.tmp 6]) (ts := [4]) Ty.ok Fn.b60 Try.func60 rfl rfl rfl rfl rfl rfl ?_
  intro Q g hfin
  unfold raft_within at hF
  refine ZRs [] [0, 1, 2] [] [] [] .nil ?_
  refine ZRs [] [6] [] [] [(6, .bool ((decide (from0 ≤ num)) && (decide (num ≤ to0))))] .nil ?_
  exact Wk_ret (hfin _ ⟨[], [], [], [], [], [], by first | (rw [← hF]; kernel_rfl) | kernel_rfl⟩)

/- raft.fault -/
noncomputable def raft_fault (code : Int) (at0 : Int) : Fault :=
  (⟨code, at0⟩ : Fault)
theorem raft_fault_ok (code : Int) (at0 : Int) (r : Fault) (hF : raft_fault code at0 = r) : Pe Try.prog 61 S.none [.i code, .i at0] (.agg [.i r.Code, .i r.At]) S.none := by
  refine Pe_of (N := 8) (res := [.cell 4 26]) (ts := [26]) Ty.ok Fn.b61 Try.func61 rfl rfl rfl rfl rfl rfl ?_
  intro Q g hfin
  unfold raft_fault at hF
  refine URs [] [0, 1, 4] [4] [] [] [(4, .ptr 4 0)] [(4, [.i 0, .i 0])] [] [] .nil ?_
  refine URs [] [4] [4] [] [] [] [(4, [.i code, .i at0])] [] [] .nil ?_
  exact Wk_ret (hfin _ ⟨[], [], [], [], [], [], by first | (rw [← hF]; kernel_rfl) | kernel_rfl⟩)

/- entry.fault -/
noncomputable def entry_fault (code : Int) (at0 : Int) : Fault :=
  (⟨code, at0⟩ : Fault)
theorem entry_fault_ok (code : Int) (at0 : Int) (r : Fault) (hF : entry_fault code at0 = r) : Pe Try.prog 57 S.none [.i code, .i at0] (.agg [.i r.Code, .i r.At]) S.none := by
  refine Pe_of (N := 8) (res := [.cell 4 26]) (ts := [26]) Ty.ok Fn.b57 Try.func57 rfl rfl rfl rfl rfl rfl ?_
  intro Q g hfin
  unfold entry_fault at hF
  refine URs [] [0, 1, 4] [4] [] [] [(4, .ptr 4 0)] [(4, [.i 0, .i 0])] [] [] .nil ?_
  refine URs [] [4] [4] [] [] [] [(4, [.i code, .i at0])] [] [] .nil ?_
  exact Wk_ret (hfin _ ⟨[], [], [], [], [], [], by first | (rw [← hF]; kernel_rfl) | kernel_rfl⟩)

/- entry.Check -/
noncomputable def entry_Check_J1 (v : Unit) : Option Fault :=
  some (⟨0, 0⟩ : Fault)
noncomputable def entry_Check_B1 (l : List Entry) (v1 : Int × Int) : Option ((Int × Int) ⊕ Fault) :=
  if (decide (v1.2 < (l.length : Int))) = true then
    asrt (0 ≤ v1.2 ∧ v1.2 < (l.length : Int)) <|
    if ((decide (((lget l v1.2).Term) < 1)) || (decide (1000000000 < ((lget l v1.2).Term)))) = true then
      lt (entry_fault 3 v1.2) fun x1 =>
      some (Sum.inr x1)
    else
      if (decide (((lget l v1.2).Term) < v1.1)) = true then
        lt (entry_fault 11 v1.2) fun x2 =>
        some (Sum.inr x2)
      else
        if (decide (200 < (((lget l v1.2).Text).length : Int))) = true then
          lt (entry_fault 8 v1.2) fun x3 =>
          some (Sum.inr x3)
        else
          some (Sum.inl ((lget l v1.2).Term, w64 (v1.2 + 1)))
  else
    inrO (entry_Check_J1 ())
noncomputable def entry_Check_L1 (l : List Entry) (v0 : Int × Int) : Option Fault :=
  loopO (fun y => entry_Check_B1 l y) v0
noncomputable def entry_Check (l : List Entry) : Option Fault :=
  if (decide (100 < (l.length : Int))) = true then
    lt (entry_fault 2 (-1)) fun x =>
    some x
  else
    entry_Check_L1 l (0, 0)
theorem entry_Check_ok (l : List Entry) (r : Fault) (hF : entry_Check l = some r) : Pe Try.prog 17 S.none [.sl 2 (l.map e_Entry)] (.agg [.i r.Code, .i r.At]) S.none := by
  refine Pe_of (N := 46) (res := [.cell 2 26]) (ts := [26]) Ty.ok Fn.b17 Try.func17 rfl rfl rfl rfl rfl rfl ?_
  intro Q g hfin
  unfold entry_Check at hF
  refine URs [] [0, 2] [2] [] [] [(2, .ptr 2 0)] [(2, [.i 0, .i 0])] [] [] .nil ?_
  refine Wk_seq ?_
  refine ZRs [.nat (l.length : Int)] [0, 2, 8] [2] [] [(8, .bool (decide (100 < (l.length : Int))))] (.cons (len_ok e_Entry l) .nil) ?_
  refine Wk_split rfl (fun hb => ?_) (fun hb => ?_)
  · have hF := ite_t hF hb
    refine Wk_seq ?_
    obtain ⟨x, h0, hF⟩ := lt_split hF
    refine UR [.callB (.agg [.i x.Code, .i x.At])] [2] [2] [] [] [] [(2, [.i x.Code, .i x.At])] [] [] (.cons (entry_fault_ok 2 (-1) x h0) .nil) ?_
    have hF := some_elim hF
    exact Wk_ret (hfin _ ⟨[], [], [], [], [], [], by first | (rw [← hF]; kernel_rfl) | kernel_rfl⟩)
  · have hF := ite_f hF hb
    refine Wk_skip ?_
    refine ZRs [] [0, 2, 3] [2] [] [(3, .i 0)] .nil ?_
    refine Wk_seq ?_
    refine ZRs [.nat (l.length : Int)] [2, 3, 10, 11, 12] [2] [] [(10, .sl 2 (l.map e_Entry)), (11, .i (l.length : Int)), (12, .i 0)] (.cons (len_ok e_Entry l) .nil) ?_
    refine Wk_meetP (fun v : Unit => (⟨[(2, .ptr 2 0)], [(2, [.i 0, .i 0])], [], [], []⟩ : S)) (fun v => entry_Check_J1 v = some r) ?_ ?_
    · refine Wk_block ?_
      unfold entry_Check_L1 at hF
      refine Wk_trim (fs := [2, 3, 10, 11, 12]) (bs := [2]) (rs := []) (ms := []) (aa := []) (nv := []) (t := (fun v1 : Int × Int => (⟨[(2, .ptr 2 0), (3, .i v1.1), (10, .sl 2 (l.map e_Entry)), (11, .i (l.length : Int)), (12, .i v1.2)], [(2, [.i 0, .i 0])], [], [], []⟩ : S)) (0, 0)) (by kernel_rfl) ?_
      refine Wk_iter (step := fun y => entry_Check_B1 l y) (r := r) (fun v1 : Int × Int => (⟨[(2, .ptr 2 0), (3, .i v1.1), (10, .sl 2 (l.map e_Entry)), (11, .i (l.length : Int)), (12, .i v1.2)], [(2, [.i 0, .i 0])], [], [], []⟩ : S)) (0, 0) hF ?_
      intro n1 v1 y1 hF ih1 dn1
      have hF : entry_Check_B1 l v1 = some y1 := hF
      unfold entry_Check_B1 at hF
      refine ZRs [] [2, 3, 10, 11, 12, 13] [2] [] [(13, .bool (decide (v1.2 < (l.length : Int))))] .nil ?_
      refine Wk_seq ?_
      refine Wk_split rfl (fun hb => ?_) (fun hb => ?_)
      · have hF := ite_t hF hb
        refine Wk_skip ?_
        refine Wk_seq ?_
        refine Wk_block ?_
        refine Wk_seq ?_
        obtain ⟨h1, hF⟩ := asrt_elim hF
        refine UR [.av (e_Entry (lget l v1.2))] [2, 3, 4, 5, 10, 11, 12] [2, 5] [] [] [(4, .i v1.2), (5, .ptr 5 0)] [(5, [.i ((lget l v1.2).Term), .str ((lget l v1.2).Text)])] [] [] (.cons (idx_ok e_Entry h1) .nil) ?_
        refine Wk_seq ?_
        refine Wk_block ?_
        refine ZRs [] [2, 3, 4, 5, 10, 11, 12, 17] [2, 5] [] [(17, .bool ((decide (((lget l v1.2).Term) < 1)) || (decide (1000000000 < ((lget l v1.2).Term)))))] .nil ?_
        refine Wk_split rfl (fun hb => ?_) (fun hb => ?_)
        · have hF := ite_t hF hb
          refine Wk_seq ?_
          obtain ⟨x1, h2, hF⟩ := lt_split hF
          refine UR [.callB (.agg [.i x1.Code, .i x1.At])] [2] [2] [] [] [] [(2, [.i x1.Code, .i x1.At])] [] [] (.cons (entry_fault_ok 3 v1.2 x1 h2) .nil) ?_
          have hF := ret_done hF dn1
          have hF := some_elim hF
          exact Wk_ret (hfin _ ⟨[], [], [], [], [], [], by first | (rw [← hF]; kernel_rfl) | kernel_rfl⟩)
        · have hF := ite_f hF hb
          refine ZRs [] [2, 4, 5, 10, 11, 12, 28] [2, 5] [] [(28, .bool (decide (((lget l v1.2).Term) < v1.1)))] .nil ?_
          refine Wk_split rfl (fun hb => ?_) (fun hb => ?_)
          · have hF := ite_t hF hb
            refine Wk_seq ?_
            obtain ⟨x2, h3, hF⟩ := lt_split hF
            refine UR [.callB (.agg [.i x2.Code, .i x2.At])] [2] [2] [] [] [] [(2, [.i x2.Code, .i x2.At])] [] [] (.cons (entry_fault_ok 11 v1.2 x2 h3) .nil) ?_
            have hF := ret_done hF dn1
            have hF := some_elim hF
            exact Wk_ret (hfin _ ⟨[], [], [], [], [], [], by first | (rw [← hF]; kernel_rfl) | kernel_rfl⟩)
          · have hF := ite_f hF hb
            refine ZRs [] [2, 4, 5, 10, 11, 12, 35] [2, 5] [] [(35, .bool (decide (200 < (((lget l v1.2).Text).length : Int))))] .nil ?_
            refine Wk_split rfl (fun hb => ?_) (fun hb => ?_)
            · have hF := ite_t hF hb
              refine Wk_seq ?_
              obtain ⟨x3, h4, hF⟩ := lt_split hF
              refine UR [.callB (.agg [.i x3.Code, .i x3.At])] [2] [2] [] [] [] [(2, [.i x3.Code, .i x3.At])] [] [] (.cons (entry_fault_ok 8 v1.2 x3 h4) .nil) ?_
              have hF := ret_done hF dn1
              have hF := some_elim hF
              exact Wk_ret (hfin _ ⟨[], [], [], [], [], [], by first | (rw [← hF]; kernel_rfl) | kernel_rfl⟩)
            · have hF := ite_f hF hb
              refine Wk_skip ?_
              refine Wk_blk ?_
              refine ZR [] [2, 3, 10, 11, 12] [2] [] [(3, .i ((lget l v1.2).Term))] .nil ?_
              refine Wk_blk ?_
              refine ZR [] [2, 3, 10, 11, 12] [2] [] [(12, .i (w64 (v1.2 + 1)))] .nil ?_
              refine Wk_trim (fs := [2, 3, 10, 11, 12]) (bs := [2]) (rs := []) (ms := []) (aa := []) (nv := []) ?_ (ih1 _ (some_elim hF).symm)
              kernel_rfl
      · have hF := ite_f hF hb
        refine Wk_exit rfl ?_
        have hF := inrO_done hF dn1
        exact Wk_metP () [2] [2] [] [] [] [] hF (by kernel_rfl)
    · intro v hF
      have hF : entry_Check_J1 v = some r := hF
      unfold entry_Check_J1 at hF
      refine ZRs [] [2] [2] [] [] .nil ?_
      have hF := some_elim hF
      exact Wk_ret (hfin _ ⟨[], [], [], [], [], [], by first | (rw [← hF]; kernel_rfl) | kernel_rfl⟩)

/- entry.TermAt -/
noncomputable def entry_TermAt (l : List Entry) (at0 : Int) : Option Int :=
  if ((decide (at0 < 1)) || (decide ((l.length : Int) < at0))) = true then
    some 0
  else
    asrt (0 ≤ w64 (at0 - 1) ∧ w64 (at0 - 1) < (l.length : Int)) <|
    some ((lget l (w64 (at0 - 1))).Term)
theorem entry_TermAt_ok (l : List Entry) (at0 : Int) (r : Int) (hF : entry_TermAt l at0 = some r) : Pe Try.prog 62 S.none [.sl 2 (l.map e_Entry), .i at0] (.i r) S.none := by
  refine Pe_of (N := 19) (res := [.tmp 4]) (ts := [3]) Ty.ok Fn.b62 Try.func62 rfl rfl rfl rfl rfl rfl ?_
  intro Q g hfin
  unfold entry_TermAt at hF
  refine ZRs [] [0, 1] [] [] [] .nil ?_
  refine Wk_seq ?_
  refine ZRs [.nat (l.length : Int)] [0, 1, 12] [] [] [(12, .bool ((decide (at0 < 1)) || (decide ((l.length : Int) < at0))))] (.cons (fun (_ : (!(decide (at0 < 1))) = true) => (len_ok e_Entry l)) .nil) ?_
  refine Wk_split rfl (fun hb => ?_) (fun hb => ?_)
  · have hF := ite_t hF hb
    refine ZRs [] [4] [] [] [(4, .i 0)] .nil ?_
    have hF := some_elim hF
    exact Wk_ret (hfin _ ⟨[], [], [], [], [], [], by first | (rw [← hF]; kernel_rfl) | kernel_rfl⟩)
  · have hF := ite_f hF hb
    refine Wk_skip ?_
    refine Wk_seq ?_
    obtain ⟨h0, hF⟩ := asrt_elim hF
    refine ZR [.av (e_Entry (lget l (w64 (at0 - 1))))] [4] [] [] [(4, .i ((lget l (w64 (at0 - 1))).Term))] (.cons (idx_ok e_Entry h0) .nil) ?_
    have hF := some_elim hF
    exact Wk_ret (hfin _ ⟨[], [], [], [], [], [], by first | (rw [← hF]; kernel_rfl) | kernel_rfl⟩)

/- raft.most -/
noncomputable def raft_most (k0 : Int) (num : Int) : Bool :=
  decide (num < (w64 (2 * k0)))
theorem raft_most_ok (k0 : Int) (num : Int) (r : Bool) (hF : raft_most k0 num = r) : Pe Try.prog 63 S.none [.i k0, .i num] (.bool r) S.none := by
  refine Pe_of (N := 9) (res := [.tmp 4]) (ts := [4]) Ty.ok Fn.b63 Try.func63 rfl rfl rfl rfl rfl rfl ?_
  intro Q g hfin
  unfold raft_most at hF
  refine ZRs [] [0, 1] [] [] [] .nil ?_
  refine ZRs [] [4] [] [] [(4, .bool (decide (num < (w64 (2 * k0)))))] .nil ?_
  exact Wk_ret (hfin _ ⟨[], [], [], [], [], [], by first | (rw [← hF]; kernel_rfl) | kernel_rfl⟩)

/- raft.Check -/
noncomputable def raft_Check_J2 (v1 : Bool) : Option Fault :=
  if (!v1) = true then
    lt (raft_fault 5 (-3)) fun x12 =>
    some x12
  else
    some (⟨0, 0⟩ : Fault)
noncomputable def raft_Check_J4 (v4 : Bool) : Option Fault :=
  raft_Check_J2 v4
noncomputable def raft_Check_B1 (x : Node) (v5 : Bool × Int) : Option ((Bool × Int) ⊕ Fault) :=
  if (decide (v5.2 < (x.Have.length : Int))) = true then
    asrt (0 ≤ v5.2 ∧ v5.2 < (x.Have.length : Int)) <|
    lt (raft_within (lget x.Have v5.2) 0 (x.Log.length : Int)) fun x13 =>
    some (Sum.inl (v5.1 && x13, w64 (v5.2 + 1)))
  else
    inrO (raft_Check_J4 v5.1)
noncomputable def raft_Check_L1 (x : Node) (v0 : Bool × Int) : Option Fault :=
  loopO (fun y => raft_Check_B1 x y) v0
noncomputable def raft_Check_J3 (x : Node) (v3 : Bool) : Option Fault :=
  raft_Check_L1 x (v3, 0)
noncomputable def raft_Check_B2 (x : Node) (v6 : Bool × Int) : Option ((Bool × Int) ⊕ Fault) :=
  if (decide (v6.2 < (x.Next.length : Int))) = true then
    asrt (0 ≤ v6.2 ∧ v6.2 < (x.Next.length : Int)) <|
    lt (raft_within (lget x.Next v6.2) 1 (w64 ((x.Log.length : Int) + 1))) fun x14 =>
    some (Sum.inl (v6.1 && x14, w64 (v6.2 + 1)))
  else
    inrO (raft_Check_J3 x v6.1)
noncomputable def raft_Check_L2 (x : Node) (v0 : Bool × Int) : Option Fault :=
  loopO (fun y => raft_Check_B2 x y) v0
noncomputable def raft_Check_J1 (x : Node) (v : Bool) : Option Fault :=
  if (decide (x.Role = 2)) = true then
    lt ((v && (decide ((x.Next.length : Int) = x.N))) && (decide ((x.Have.length : Int) = x.N))) fun (v2 : Bool) =>
    raft_Check_L2 x (v2, 0)
  else
    lt ((v && (decide ((x.Next.length : Int) = 0))) && (decide ((x.Have.length : Int) = 0))) fun (v7 : Bool) =>
    raft_Check_J2 v7
noncomputable def raft_Check_J5 (x : Node) (v8 : Bool × (List (Int × Int))) : Option Fault :=
  lt (raft_most (x.Votes.length : Int) x.N) fun x15 =>
  raft_Check_J1 x ((v8.1 && (decide (((mget v8.2 x.ID).getD (0 : Int)) = 1))) && (!x15))
noncomputable def raft_Check_B3 (x : Node) (v9 : Bool × (List (Int × Int)) × Int) : Option ((Bool × (List (Int × Int)) × Int) ⊕ Fault) :=
  if (decide (v9.2.2 < (x.Votes.length : Int))) = true then
    asrt (0 ≤ v9.2.2 ∧ v9.2.2 < (x.Votes.length : Int)) <|
    lt (raft_within (lget x.Votes v9.2.2) 0 (w64 (x.N - 1))) fun x16 =>
    lt ((v9.1 && x16) && (decide (((mget v9.2.1 (lget x.Votes v9.2.2)).getD (0 : Int)) = 0))) fun (v10 : Bool) =>
    some (Sum.inl (v10, (mput v9.2.1 (lget x.Votes v9.2.2) (1 : Int)), w64 (v9.2.2 + 1)))
  else
    inrO (raft_Check_J5 x (v9.1, v9.2.1))
noncomputable def raft_Check_L3 (x : Node) (v0 : Bool × (List (Int × Int)) × Int) : Option Fault :=
  loopO (fun y => raft_Check_B3 x y) v0
noncomputable def raft_Check (x : Node) : Option Fault :=
  lt (raft_within x.N 1 7) fun x1 =>
  lt (raft_within x.ID 0 (w64 (x.N - 1))) fun x2 =>
  if ((!x1) || (!x2)) = true then
    lt (raft_fault 3 (-1)) fun x3 =>
    some x3
  else
    lt (raft_within x.Term 0 1000000000) fun x4 =>
    lt (raft_within x.Vote 0 x.N) fun x5 =>
    lt (raft_within x.Role 0 2) fun x6 =>
    lt (raft_within x.Commit 0 (x.Log.length : Int)) fun x7 =>
    if ((((!x4) || (!x5)) || (!x6)) || (!x7)) = true then
      lt (raft_fault 3 (-2)) fun x8 =>
      some x8
    else
      ob (entry_Check x.Log) fun x9 =>
      if (!decide (x9.Code = 0)) = true then
        some x9
      else
        ob (entry_TermAt x.Log (x.Log.length : Int)) fun x10 =>
        if (decide (x.Term < x10)) = true then
          lt (raft_fault 11 (-3)) fun x11 =>
          some x11
        else
          if (decide (x.Role = 1)) = true then
            raft_Check_L3 x (true, ([] : List (Int × Int)), 0)
          else
            raft_Check_J1 x (decide ((x.Votes.length : Int) = 0))
theorem raft_Check_ok (x : Node) (r : Fault) (hF : raft_Check x = some r) : Pe Try.prog 30 S.none [.agg (c_Node x)] (.agg [.i r.Code, .i r.At]) S.none := by
  refine Pe_of (N := 188) (res := [.cell 2 26]) (ts := [26]) Ty.ok Fn.b30 Try.func30 rfl rfl rfl rfl rfl rfl ?_
  intro Q g hfin
  unfold raft_Check at hF
  refine URs [] [1, 2] [1, 2] [] [] [(1, .ptr 1 0), (2, .ptr 2 0)] [(1, (c_Node x)), (2, [.i 0, .i 0])] [] [] .nil ?_
  refine ZRs [.nat (x.Log.length : Int)] [1, 2, 3] [1, 2] [] [(3, .i (x.Log.length : Int))] (.cons (len_ok e_Entry x.Log) .nil) ?_
  refine Wk_seq ?_
  refine Wk_block ?_
  refine Wk_seq ?_
  obtain ⟨x1, h0, hF⟩ := lt_split hF
  obtain ⟨x2, h1, hF⟩ := lt_split hF
  refine ZR [.callB (.bool x1), .callB (.bool x2)] [1, 2, 3, 16] [1, 2] [] [(16, .bool ((!x1) || (!x2)))] (.cons (raft_within_ok x.N 1 7 x1 h0) (.cons (fun (ga0 : (!(!x1)) = true) => (raft_within_ok x.ID 0 (w64 (x.N - 1)) x2 h1)) .nil)) ?_
  refine Wk_split rfl (fun hb => ?_) (fun hb => ?_)
  · have hF := ite_t hF hb
    refine Wk_seq ?_
    obtain ⟨x3, h2, hF⟩ := lt_split hF
    refine UR [.callB (.agg [.i x3.Code, .i x3.At])] [2] [2] [] [] [] [(2, [.i x3.Code, .i x3.At])] [] [] (.cons (raft_fault_ok 3 (-1) x3 h2) .nil) ?_
    have hF := some_elim hF
    exact Wk_ret (hfin _ ⟨[], [], [], [], [], [], by first | (rw [← hF]; kernel_rfl) | kernel_rfl⟩)
  · have hF := ite_f hF hb
    refine Wk_seq ?_
    obtain ⟨x4, h3, hF⟩ := lt_split hF
    obtain ⟨x5, h4, hF⟩ := lt_split hF
    obtain ⟨x6, h5, hF⟩ := lt_split hF
    obtain ⟨x7, h6, hF⟩ := lt_split hF
    refine ZR [.callB (.bool x4), .callB (.bool x5), .callB (.bool x6), .callB (.bool x7)] [1, 2, 3, 31] [1, 2] [] [(31, .bool ((((!x4) || (!x5)) || (!x6)) || (!x7)))] (.cons (raft_within_ok x.Term 0 1000000000 x4 h3) (.cons (fun (ga0 : (!(!x4)) = true) => (raft_within_ok x.Vote 0 x.N x5 h4)) (.cons (fun (ga0 : (!((!x4) || (!x5))) = true) => (raft_within_ok x.Role 0 2 x6 h5)) (.cons (fun (ga0 : (!(((!x4) || (!x5)) || (!x6))) = true) => (raft_within_ok x.Commit 0 (x.Log.length : Int) x7 h6)) .nil)))) ?_
    refine Wk_split rfl (fun hb => ?_) (fun hb => ?_)
    · have hF := ite_t hF hb
      refine Wk_seq ?_
      obtain ⟨x8, h7, hF⟩ := lt_split hF
      refine UR [.callB (.agg [.i x8.Code, .i x8.At])] [2] [2] [] [] [] [(2, [.i x8.Code, .i x8.At])] [] [] (.cons (raft_fault_ok 3 (-2) x8 h7) .nil) ?_
      have hF := some_elim hF
      exact Wk_ret (hfin _ ⟨[], [], [], [], [], [], by first | (rw [← hF]; kernel_rfl) | kernel_rfl⟩)
    · have hF := ite_f hF hb
      refine Wk_skip ?_
      refine Wk_blk ?_
      refine Wk_seq ?_
      refine Wk_seq ?_
      obtain ⟨x9, h8, hF⟩ := ob_elim hF
      refine UR [.callB (.agg [.i x9.Code, .i x9.At])] [1, 2, 3, 4] [1, 2, 4] [] [] [(4, .ptr 4 0)] [(4, [.i x9.Code, .i x9.At])] [] [] (.cons (entry_Check_ok x.Log x9 h8) .nil) ?_
      refine ZRs [] [1, 2, 3, 4, 63] [1, 2, 4] [] [(63, .bool (!decide (x9.Code = 0)))] .nil ?_
      refine Wk_split rfl (fun hb => ?_) (fun hb => ?_)
      · have hF := ite_t hF hb
        refine URs [] [2] [2] [] [] [] [(2, [.i x9.Code, .i x9.At])] [] [] .nil ?_
        have hF := some_elim hF
        exact Wk_ret (hfin _ ⟨[], [], [], [], [], [], by first | (rw [← hF]; kernel_rfl) | kernel_rfl⟩)
      · have hF := ite_f hF hb
        refine Wk_skip ?_
        refine Wk_seq ?_
        refine Wk_seq ?_
        obtain ⟨x10, h9, hF⟩ := ob_elim hF
        refine ZD [.callB (.i x10)] [1, 2, 3, 71] [1, 2] [] [(71, .bool (decide (x.Term < x10)))] (.cons (entry_TermAt_ok x.Log (x.Log.length : Int) x10 h9) .nil) ?_
        refine Wk_split rfl (fun hb => ?_) (fun hb => ?_)
        · have hF := ite_t hF hb
          refine Wk_seq ?_
          obtain ⟨x11, h10, hF⟩ := lt_split hF
          refine UR [.callB (.agg [.i x11.Code, .i x11.At])] [2] [2] [] [] [] [(2, [.i x11.Code, .i x11.At])] [] [] (.cons (raft_fault_ok 11 (-3) x11 h10) .nil) ?_
          have hF := some_elim hF
          exact Wk_ret (hfin _ ⟨[], [], [], [], [], [], by first | (rw [← hF]; kernel_rfl) | kernel_rfl⟩)
        · have hF := ite_f hF hb
          refine Wk_skip ?_
          refine ZRs [] [1, 2, 3, 5] [1, 2] [] [(5, .bool true)] .nil ?_
          refine Wk_seq ?_
          refine ZRs [] [1, 2, 3, 5, 75] [1, 2] [] [(75, .bool (decide (x.Role = 1)))] .nil ?_
          refine Wk_meetP (fun v : Bool => (⟨[(1, .ptr 1 0), (2, .ptr 2 0), (3, .i (x.Log.length : Int)), (5, .bool v)], [(1, (c_Node x)), (2, [.i 0, .i 0])], [], [], []⟩ : S)) (fun v => raft_Check_J1 x v = some r) ?_ ?_
          · refine Wk_split rfl (fun hb => ?_) (fun hb => ?_)
            · have hF := ite_t hF hb
              refine URs [] [1, 2, 3, 5, 6] [1, 2] [] [76] [(6, .mp 76)] [] [] [(76, (([] : List (Int × Int)).map (fun p => (e_i64 p.1, e_i64 p.2))))] .nil ?_
              refine Wk_seq ?_
              refine URs [.nat (x.Votes.length : Int)] [1, 2, 3, 5, 6, 78, 79, 80] [1, 2] [] [76] [(78, .sl 1 (x.Votes.map e_i64)), (79, .i (x.Votes.length : Int)), (80, .i 0)] [] [] [] (.cons (len_ok e_i64 x.Votes) .nil) ?_
              refine Wk_meetP (fun v8 : Bool × (List (Int × Int)) => (⟨[(1, .ptr 1 0), (2, .ptr 2 0), (3, .i (x.Log.length : Int)), (5, .bool v8.1), (6, .mp 76)], [(1, (c_Node x)), (2, [.i 0, .i 0])], [], [(76, (v8.2.map (fun p => (e_i64 p.1, e_i64 p.2))))], []⟩ : S)) (fun v8 => raft_Check_J5 x v8 = some r) ?_ ?_
              · refine Wk_block ?_
                unfold raft_Check_L3 at hF
                refine Wk_trim (fs := [1, 2, 3, 5, 6, 78, 79, 80]) (bs := [1, 2]) (rs := []) (ms := [76]) (aa := []) (nv := []) (t := (fun v9 : Bool × (List (Int × Int)) × Int => (⟨[(1, .ptr 1 0), (2, .ptr 2 0), (3, .i (x.Log.length : Int)), (5, .bool v9.1), (6, .mp 76), (78, .sl 1 (x.Votes.map e_i64)), (79, .i (x.Votes.length : Int)), (80, .i v9.2.2)], [(1, (c_Node x)), (2, [.i 0, .i 0])], [], [(76, (v9.2.1.map (fun p => (e_i64 p.1, e_i64 p.2))))], []⟩ : S)) (true, ([] : List (Int × Int)), 0)) (by kernel_rfl) ?_
                refine Wk_iter (step := fun y => raft_Check_B3 x y) (r := r) (fun v9 : Bool × (List (Int × Int)) × Int => (⟨[(1, .ptr 1 0), (2, .ptr 2 0), (3, .i (x.Log.length : Int)), (5, .bool v9.1), (6, .mp 76), (78, .sl 1 (x.Votes.map e_i64)), (79, .i (x.Votes.length : Int)), (80, .i v9.2.2)], [(1, (c_Node x)), (2, [.i 0, .i 0])], [], [(76, (v9.2.1.map (fun p => (e_i64 p.1, e_i64 p.2))))], []⟩ : S)) (true, ([] : List (Int × Int)), 0) hF ?_
                intro n1 v9 y1 hF ih1 dn1
                have hF : raft_Check_B3 x v9 = some y1 := hF
                unfold raft_Check_B3 at hF
                refine URs [] [1, 2, 3, 5, 6, 78, 79, 80, 81] [1, 2] [] [76] [(81, .bool (decide (v9.2.2 < (x.Votes.length : Int))))] [] [] [] .nil ?_
                refine Wk_seq ?_
                refine Wk_split rfl (fun hb => ?_) (fun hb => ?_)
                · have hF := ite_t hF hb
                  refine Wk_skip ?_
                  refine Wk_seq ?_
                  refine Wk_block ?_
                  refine Wk_seq ?_
                  obtain ⟨h17, hF⟩ := asrt_elim hF
                  refine UR [.av (e_i64 (lget x.Votes v9.2.2))] [1, 2, 3, 5, 6, 8, 78, 79, 80] [1, 2] [] [76] [(8, .i (lget x.Votes v9.2.2))] [] [] [] (.cons (idx_ok e_i64 h17) .nil) ?_
                  refine Wk_seq ?_
                  obtain ⟨x16, h18, hF⟩ := lt_split hF
                  refine WRL ((v9.1 && x16) && (decide (((mget v9.2.1 (lget x.Votes v9.2.2)).getD (0 : Int)) = 0))) (fun v10 : Bool => ⟨[(1, .ptr 1 0), (2, .ptr 2 0), (3, .i (x.Log.length : Int)), (5, .bool v10), (6, .mp 76), (8, .i (lget x.Votes v9.2.2)), (78, .sl 1 (x.Votes.map e_i64)), (79, .i (x.Votes.length : Int)), (80, .i v9.2.2)], [(1, (c_Node x)), (2, [.i 0, .i 0])], [], [(76, (v9.2.1.map (fun p => (e_i64 p.1, e_i64 p.2))))], []⟩) [.callB (.bool x16), .av (e_i64 ((mget v9.2.1 (lget x.Votes v9.2.2)).getD (0 : Int))), .bo ((mget v9.2.1 (lget x.Votes v9.2.2)).isSome)] [1, 2, 3, 5, 6, 8, 78, 79, 80] [1, 2] [] [76] [] [] (.cons (fun (ga0 : v9.1 = true) => (raft_within_ok (lget x.Votes v9.2.2) 0 (w64 (x.N - 1)) x16 h18)) (.cons (fun (_ : (v9.1 && x16) = true) => (mkeys_ok (kenc_i64 : KEnc _ e_i64) e_i64 v9.2.1)) (.cons (fun (_ : (v9.1 && x16) = true) => (mlook_ok (kenc_i64 : KEnc _ e_i64) e_i64 v9.2.1 (lget x.Votes v9.2.2) (0 : Int))) (.cons (fun (_ : (v9.1 && x16) = true) => (msome_ok (kenc_i64 : KEnc _ e_i64) e_i64 v9.2.1 (lget x.Votes v9.2.2))) .nil)))) (by kernel_rfl) (fun v10 hv => ?_)
                  have hF := lt_elim hF hv
                  refine UR [.ms ((mput v9.2.1 (lget x.Votes v9.2.2) (1 : Int)).map (fun p => (e_i64 p.1, e_i64 p.2)))] [1, 2, 3, 5, 6, 78, 79, 80] [1, 2] [] [76] [] [] [] [(76, ((mput v9.2.1 (lget x.Votes v9.2.2) (1 : Int)).map (fun p => (e_i64 p.1, e_i64 p.2))))] (.cons (mkeys_ok (kenc_i64 : KEnc _ e_i64) e_i64 v9.2.1) (.cons (mput_ok (kenc_i64 : KEnc _ e_i64) e_i64 v9.2.1 (lget x.Votes v9.2.2) (1 : Int)) .nil)) ?_
                  refine Wk_blk ?_
                  refine UR [] [1, 2, 3, 5, 6, 78, 79, 80] [1, 2] [] [76] [(80, .i (w64 (v9.2.2 + 1)))] [] [] [] .nil ?_
                  refine Wk_trim (fs := [1, 2, 3, 5, 6, 78, 79, 80]) (bs := [1, 2]) (rs := []) (ms := [76]) (aa := []) (nv := []) ?_ (ih1 _ (some_elim hF).symm)
                  kernel_rfl
                · have hF := ite_f hF hb
                  refine Wk_exit rfl ?_
                  have hF := inrO_done hF dn1
                  exact Wk_metP (v9.1, v9.2.1) [1, 2, 3, 5, 6] [1, 2] [] [76] [] [] hF (by kernel_rfl)
              · intro v8 hF
                have hF : raft_Check_J5 x v8 = some r := hF
                unfold raft_Check_J5 at hF
                obtain ⟨x15, h16, hF⟩ := lt_split hF
                refine ZR [.av (e_i64 ((mget v8.2 x.ID).getD (0 : Int))), .bo ((mget v8.2 x.ID).isSome), .nat (x.Votes.length : Int), .callB (.bool x15)] [1, 2, 3, 5] [1, 2] [] [(5, .bool ((v8.1 && (decide (((mget v8.2 x.ID).getD (0 : Int)) = 1))) && (!x15)))] (.cons (fun (_ : v8.1 = true) => (mkeys_ok (kenc_i64 : KEnc _ e_i64) e_i64 v8.2)) (.cons (fun (_ : v8.1 = true) => (mlook_ok (kenc_i64 : KEnc _ e_i64) e_i64 v8.2 x.ID (0 : Int))) (.cons (fun (_ : v8.1 = true) => (msome_ok (kenc_i64 : KEnc _ e_i64) e_i64 v8.2 x.ID)) (.cons (fun (_ : (v8.1 && (decide (((mget v8.2 x.ID).getD (0 : Int)) = 1))) = true) => (len_ok e_i64 x.Votes)) (.cons (fun (ga0 : (v8.1 && (decide (((mget v8.2 x.ID).getD (0 : Int)) = 1))) = true) => (raft_most_ok (x.Votes.length : Int) x.N x15 h16)) .nil))))) ?_
                exact Wk_metP ((v8.1 && (decide (((mget v8.2 x.ID).getD (0 : Int)) = 1))) && (!x15)) [1, 2, 3, 5] [1, 2] [] [] [] [] hF (by kernel_rfl)
            · have hF := ite_f hF hb
              refine ZR [.nat (x.Votes.length : Int)] [1, 2, 3, 5] [1, 2] [] [(5, .bool (decide ((x.Votes.length : Int) = 0)))] (.cons (len_ok e_i64 x.Votes) .nil) ?_
              exact Wk_metP (decide ((x.Votes.length : Int) = 0)) [1, 2, 3, 5] [1, 2] [] [] [] [] hF (by kernel_rfl)
          · intro v hF
            have hF : raft_Check_J1 x v = some r := hF
            unfold raft_Check_J1 at hF
            refine Wk_seq ?_
            refine ZRs [] [1, 2, 3, 5, 124] [1, 2] [] [(124, .bool (decide (x.Role = 2)))] .nil ?_
            refine Wk_meetP (fun v1 : Bool => (⟨[(2, .ptr 2 0), (5, .bool v1)], [(2, [.i 0, .i 0])], [], [], []⟩ : S)) (fun v1 => raft_Check_J2 v1 = some r) ?_ ?_
            · refine Wk_split rfl (fun hb => ?_) (fun hb => ?_)
              · have hF := ite_t hF hb
                refine Wk_seq ?_
                refine WRL ((v && (decide ((x.Next.length : Int) = x.N))) && (decide ((x.Have.length : Int) = x.N))) (fun v2 : Bool => ⟨[(1, .ptr 1 0), (2, .ptr 2 0), (3, .i (x.Log.length : Int)), (5, .bool v2)], [(1, (c_Node x)), (2, [.i 0, .i 0])], [], [], []⟩) [.nat (x.Next.length : Int), .nat (x.Have.length : Int)] [1, 2, 3, 5] [1, 2] [] [] [] [] (.cons (fun (_ : v = true) => (len_ok e_i64 x.Next)) (.cons (fun (_ : (v && (decide ((x.Next.length : Int) = x.N))) = true) => (len_ok e_i64 x.Have)) .nil)) (by kernel_rfl) (fun v2 hv => ?_)
                have hF := lt_elim hF hv
                refine Wk_seq ?_
                refine ZRs [.nat (x.Next.length : Int)] [1, 2, 3, 5, 143, 144, 145] [1, 2] [] [(143, .sl 1 (x.Next.map e_i64)), (144, .i (x.Next.length : Int)), (145, .i 0)] (.cons (len_ok e_i64 x.Next) .nil) ?_
                refine Wk_meetP (fun v3 : Bool => (⟨[(1, .ptr 1 0), (2, .ptr 2 0), (3, .i (x.Log.length : Int)), (5, .bool v3)], [(1, (c_Node x)), (2, [.i 0, .i 0])], [], [], []⟩ : S)) (fun v3 => raft_Check_J3 x v3 = some r) ?_ ?_
                · refine Wk_block ?_
                  unfold raft_Check_L2 at hF
                  refine Wk_trim (fs := [1, 2, 3, 5, 143, 144, 145]) (bs := [1, 2]) (rs := []) (ms := []) (aa := []) (nv := []) (t := (fun v6 : Bool × Int => (⟨[(1, .ptr 1 0), (2, .ptr 2 0), (3, .i (x.Log.length : Int)), (5, .bool v6.1), (143, .sl 1 (x.Next.map e_i64)), (144, .i (x.Next.length : Int)), (145, .i v6.2)], [(1, (c_Node x)), (2, [.i 0, .i 0])], [], [], []⟩ : S)) (v2, 0)) (by kernel_rfl) ?_
                  refine Wk_iter (step := fun y => raft_Check_B2 x y) (r := r) (fun v6 : Bool × Int => (⟨[(1, .ptr 1 0), (2, .ptr 2 0), (3, .i (x.Log.length : Int)), (5, .bool v6.1), (143, .sl 1 (x.Next.map e_i64)), (144, .i (x.Next.length : Int)), (145, .i v6.2)], [(1, (c_Node x)), (2, [.i 0, .i 0])], [], [], []⟩ : S)) (v2, 0) hF ?_
                  intro n1 v6 y1 hF ih1 dn1
                  have hF : raft_Check_B2 x v6 = some y1 := hF
                  unfold raft_Check_B2 at hF
                  refine ZRs [] [1, 2, 3, 5, 143, 144, 145, 146] [1, 2] [] [(146, .bool (decide (v6.2 < (x.Next.length : Int))))] .nil ?_
                  refine Wk_seq ?_
                  refine Wk_split rfl (fun hb => ?_) (fun hb => ?_)
                  · have hF := ite_t hF hb
                    refine Wk_skip ?_
                    refine Wk_seq ?_
                    refine Wk_block ?_
                    refine Wk_seq ?_
                    obtain ⟨h14, hF⟩ := asrt_elim hF
                    refine ZR [.av (e_i64 (lget x.Next v6.2))] [1, 2, 3, 5, 10, 143, 144, 145] [1, 2] [] [(10, .i (lget x.Next v6.2))] (.cons (idx_ok e_i64 h14) .nil) ?_
                    obtain ⟨x14, h15, hF⟩ := lt_split hF
                    refine ZR [.callB (.bool x14)] [1, 2, 3, 5, 143, 144, 145] [1, 2] [] [(5, .bool (v6.1 && x14))] (.cons (fun (ga0 : v6.1 = true) => (raft_within_ok (lget x.Next v6.2) 1 (w64 ((x.Log.length : Int) + 1)) x14 h15)) .nil) ?_
                    refine Wk_blk ?_
                    refine ZR [] [1, 2, 3, 5, 143, 144, 145] [1, 2] [] [(145, .i (w64 (v6.2 + 1)))] .nil ?_
                    refine Wk_trim (fs := [1, 2, 3, 5, 143, 144, 145]) (bs := [1, 2]) (rs := []) (ms := []) (aa := []) (nv := []) ?_ (ih1 _ (some_elim hF).symm)
                    kernel_rfl
                  · have hF := ite_f hF hb
                    refine Wk_exit rfl ?_
                    have hF := inrO_done hF dn1
                    exact Wk_metP v6.1 [1, 2, 3, 5] [1, 2] [] [] [] [] hF (by kernel_rfl)
                · intro v3 hF
                  have hF : raft_Check_J3 x v3 = some r := hF
                  unfold raft_Check_J3 at hF
                  refine ZRs [.nat (x.Have.length : Int)] [2, 3, 5, 158, 159, 160] [2] [] [(158, .sl 1 (x.Have.map e_i64)), (159, .i (x.Have.length : Int)), (160, .i 0)] (.cons (len_ok e_i64 x.Have) .nil) ?_
                  refine Wk_meetP (fun v4 : Bool => (⟨[(2, .ptr 2 0), (5, .bool v4)], [(2, [.i 0, .i 0])], [], [], []⟩ : S)) (fun v4 => raft_Check_J4 v4 = some r) ?_ ?_
                  · refine Wk_block ?_
                    unfold raft_Check_L1 at hF
                    refine Wk_trim (fs := [2, 3, 5, 158, 159, 160]) (bs := [2]) (rs := []) (ms := []) (aa := []) (nv := []) (t := (fun v5 : Bool × Int => (⟨[(2, .ptr 2 0), (3, .i (x.Log.length : Int)), (5, .bool v5.1), (158, .sl 1 (x.Have.map e_i64)), (159, .i (x.Have.length : Int)), (160, .i v5.2)], [(2, [.i 0, .i 0])], [], [], []⟩ : S)) (v3, 0)) (by kernel_rfl) ?_
                    refine Wk_iter (step := fun y => raft_Check_B1 x y) (r := r) (fun v5 : Bool × Int => (⟨[(2, .ptr 2 0), (3, .i (x.Log.length : Int)), (5, .bool v5.1), (158, .sl 1 (x.Have.map e_i64)), (159, .i (x.Have.length : Int)), (160, .i v5.2)], [(2, [.i 0, .i 0])], [], [], []⟩ : S)) (v3, 0) hF ?_
                    intro n1 v5 y1 hF ih1 dn1
                    have hF : raft_Check_B1 x v5 = some y1 := hF
                    unfold raft_Check_B1 at hF
                    refine ZRs [] [2, 3, 5, 158, 159, 160, 161] [2] [] [(161, .bool (decide (v5.2 < (x.Have.length : Int))))] .nil ?_
                    refine Wk_seq ?_
                    refine Wk_split rfl (fun hb => ?_) (fun hb => ?_)
                    · have hF := ite_t hF hb
                      refine Wk_skip ?_
                      refine Wk_seq ?_
                      refine Wk_block ?_
                      refine Wk_seq ?_
                      obtain ⟨h12, hF⟩ := asrt_elim hF
                      refine ZR [.av (e_i64 (lget x.Have v5.2))] [2, 3, 5, 12, 158, 159, 160] [2] [] [(12, .i (lget x.Have v5.2))] (.cons (idx_ok e_i64 h12) .nil) ?_
                      obtain ⟨x13, h13, hF⟩ := lt_split hF
                      refine ZR [.callB (.bool x13)] [2, 3, 5, 158, 159, 160] [2] [] [(5, .bool (v5.1 && x13))] (.cons (fun (ga0 : v5.1 = true) => (raft_within_ok (lget x.Have v5.2) 0 (x.Log.length : Int) x13 h13)) .nil) ?_
                      refine Wk_blk ?_
                      refine ZR [] [2, 3, 5, 158, 159, 160] [2] [] [(160, .i (w64 (v5.2 + 1)))] .nil ?_
                      refine Wk_trim (fs := [2, 3, 5, 158, 159, 160]) (bs := [2]) (rs := []) (ms := []) (aa := []) (nv := []) ?_ (ih1 _ (some_elim hF).symm)
                      kernel_rfl
                    · have hF := ite_f hF hb
                      refine Wk_exit rfl ?_
                      have hF := inrO_done hF dn1
                      exact Wk_metP v5.1 [2, 5] [2] [] [] [] [] hF (by kernel_rfl)
                  · intro v4 hF
                    have hF : raft_Check_J4 v4 = some r := hF
                    unfold raft_Check_J4 at hF
                    exact Wk_metP v4 [2, 5] [2] [] [] [] [] hF (by kernel_rfl)
              · have hF := ite_f hF hb
                refine WRL ((v && (decide ((x.Next.length : Int) = 0))) && (decide ((x.Have.length : Int) = 0))) (fun v7 : Bool => ⟨[(2, .ptr 2 0), (5, .bool v7)], [(2, [.i 0, .i 0])], [], [], []⟩) [.nat (x.Next.length : Int), .nat (x.Have.length : Int)] [2, 5] [2] [] [] [] [] (.cons (fun (_ : v = true) => (len_ok e_i64 x.Next)) (.cons (fun (_ : (v && (decide ((x.Next.length : Int) = 0))) = true) => (len_ok e_i64 x.Have)) .nil)) (by kernel_rfl) (fun v7 hv => ?_)
                have hF := lt_elim hF hv
                exact Wk_metP v7 [2, 5] [2] [] [] [] [] hF (by kernel_rfl)
            · intro v1 hF
              have hF : raft_Check_J2 v1 = some r := hF
              unfold raft_Check_J2 at hF
              refine Wk_seq ?_
              refine ZRs [] [2, 185] [2] [] [(185, .bool (!v1))] .nil ?_
              refine Wk_split rfl (fun hb => ?_) (fun hb => ?_)
              · have hF := ite_t hF hb
                refine Wk_seq ?_
                obtain ⟨x12, h11, hF⟩ := lt_split hF
                refine UR [.callB (.agg [.i x12.Code, .i x12.At])] [2] [2] [] [] [] [(2, [.i x12.Code, .i x12.At])] [] [] (.cons (raft_fault_ok 5 (-3) x12 h11) .nil) ?_
                have hF := some_elim hF
                exact Wk_ret (hfin _ ⟨[], [], [], [], [], [], by first | (rw [← hF]; kernel_rfl) | kernel_rfl⟩)
              · have hF := ite_f hF hb
                refine Wk_skip ?_
                refine ZRs [] [2] [2] [] [] .nil ?_
                have hF := some_elim hF
                exact Wk_ret (hfin _ ⟨[], [], [], [], [], [], by first | (rw [← hF]; kernel_rfl) | kernel_rfl⟩)

/- slices.Clone[[]api.Entry,api.Entry] -/
noncomputable def slices_Clone_api_Entry_api_Entry (s0 : List Entry) : Option (List Entry) :=
  ubO (decide (s0.length = 0)) (
    some ([] : List Entry)) (
    asrt (((([] : List Entry) ++ s0).length : Int) * 24 ≤ 140737488351232) <|
    some (([] : List Entry) ++ s0))
theorem slices_Clone_api_Entry_api_Entry_ok (s0 : List Entry) (r : List Entry) (hF : slices_Clone_api_Entry_api_Entry s0 = some r) : Pe Try.prog 55 ⟨[], [], [], [], []⟩ [.sl 2 (s0.map e_Entry)] (.row 5 0) ⟨[], [], [(5, .o 31 2 0 (r.map e_Entry))], [], []⟩ := by
  refine Pe_of (N := 8) (res := [.tmp 2]) (ts := [22]) Ty.ok Fn.b55 Try.func55 rfl rfl rfl rfl rfl rfl ?_
  intro Q g hfin
  unfold slices_Clone_api_Entry_api_Entry at hF
  refine ZRs [] [0] [] [] [] .nil ?_
  refine Wk_seq ?_
  refine ZRs [.bo (decide (s0.length = 0))] [0, 4] [] [] [(4, .ub (decide (s0.length = 0)) true)] (.cons (ubn_ok e_Entry s0) .nil) ?_
  refine Wk_ub 4 rfl fun b hb1 hb2 => ?_
  refine Wk_split rfl (fun hb => ?_) (fun hb => ?_)
  · have hb := hb1 hb
    have hF := (ubO_elim hF).1 hb
    refine ZRs [] [2] [] [] [(2, .nils)] .nil ?_
    have hF := some_elim hF
    refine Wk_nilrow 2 60000 31 2 rfl rfl rfl ?_
    refine Wk_ren' ⟨[], [(60000, 5)], [], []⟩ rfl ?_
    exact Wk_ret (hfin _ ⟨[5], [], [5], [], [], [(5, ⟨0, true, false, false⟩)], by first | (rw [← hF]; kernel_rfl) | kernel_rfl⟩)
  · have hF := (ubO_elim hF).2
    refine Wk_skip ?_
    refine Wk_seq ?_
    obtain ⟨h0, hF⟩ := asrt_elim hF
    refine UR [.xs ((([] : List Entry) ++ s0).map e_Entry)] [2] [] [5] [] [(2, .row 5 1)] [] [(5, .o 31 2 1 ((([] : List Entry) ++ s0).map e_Entry))] [] (.cons (app_ok e_Entry ([] : List Entry) s0) (.cons (appl_ok e_Entry h0) .nil)) ?_
    have hF := some_elim hF
    exact Wk_ret (hfin _ ⟨[5], [], [5], [], [], [(5, ⟨0, true, true, false⟩)], by first | (rw [← hF]; kernel_rfl) | kernel_rfl⟩)

/- slices.Clone[[]int,int] -/
noncomputable def slices_Clone_int_int (s0 : List Int) : Option (List Int) :=
  ubO (decide (s0.length = 0)) (
    some ([] : List Int)) (
    asrt (((([] : List Int) ++ s0).length : Int) * 8 ≤ 140737488351232) <|
    some (([] : List Int) ++ s0))
theorem slices_Clone_int_int_ok (s0 : List Int) (r : List Int) (hF : slices_Clone_int_int s0 = some r) : Pe Try.prog 90 ⟨[], [], [], [], []⟩ [.sl 1 (s0.map e_i64)] (.row 5 0) ⟨[], [], [(5, .o 3 1 0 (r.map e_i64))], [], []⟩ := by
  refine Pe_of (N := 8) (res := [.tmp 2]) (ts := [44]) Ty.ok Fn.b90 Try.func90 rfl rfl rfl rfl rfl rfl ?_
  intro Q g hfin
  unfold slices_Clone_int_int at hF
  refine ZRs [] [0] [] [] [] .nil ?_
  refine Wk_seq ?_
  refine ZRs [.bo (decide (s0.length = 0))] [0, 4] [] [] [(4, .ub (decide (s0.length = 0)) true)] (.cons (ubn_ok e_i64 s0) .nil) ?_
  refine Wk_ub 4 rfl fun b hb1 hb2 => ?_
  refine Wk_split rfl (fun hb => ?_) (fun hb => ?_)
  · have hb := hb1 hb
    have hF := (ubO_elim hF).1 hb
    refine ZRs [] [2] [] [] [(2, .nils)] .nil ?_
    have hF := some_elim hF
    refine Wk_nilrow 2 60000 3 1 rfl rfl rfl ?_
    refine Wk_ren' ⟨[], [(60000, 5)], [], []⟩ rfl ?_
    exact Wk_ret (hfin _ ⟨[5], [], [5], [], [], [(5, ⟨0, true, false, false⟩)], by first | (rw [← hF]; kernel_rfl) | kernel_rfl⟩)
  · have hF := (ubO_elim hF).2
    refine Wk_skip ?_
    refine Wk_seq ?_
    obtain ⟨h0, hF⟩ := asrt_elim hF
    refine UR [.xs ((([] : List Int) ++ s0).map e_i64)] [2] [] [5] [] [(2, .row 5 1)] [] [(5, .o 3 1 1 ((([] : List Int) ++ s0).map e_i64))] [] (.cons (app_ok e_i64 ([] : List Int) s0) (.cons (appl_ok e_i64 h0) .nil)) ?_
    have hF := some_elim hF
    exact Wk_ret (hfin _ ⟨[5], [], [5], [], [], [(5, ⟨0, true, true, false⟩)], by first | (rw [← hF]; kernel_rfl) | kernel_rfl⟩)

/- raft.own -/
noncomputable def raft_own (x : Node) : Option (Int × Int × Int × Int × List Entry × Int × Int × List Int × List Int × List Int) :=
  ob (slices_Clone_api_Entry_api_Entry x.Log) fun x1 =>
  ob (slices_Clone_int_int x.Votes) fun x2 =>
  ob (slices_Clone_int_int x.Next) fun x3 =>
  ob (slices_Clone_int_int x.Have) fun x4 =>
  some (x.N, x.ID, x.Term, x.Vote, x1, x.Role, x.Commit, x2, x3, x4)
theorem raft_own_ok (x : Node) (r : Int × Int × Int × Int × List Entry × Int × Int × List Int × List Int × List Int) (hF : raft_own x = some r) : Pe Try.prog 64 ⟨[], [], [], [], []⟩ [.agg (c_Node x)] (.ptr 1 0) ⟨[], [(1, [.i r.1, .i r.2.1, .i r.2.2.1, .i r.2.2.2.1, .row 5 0, .i r.2.2.2.2.2.1, .i r.2.2.2.2.2.2.1, .row 8 0, .row 11 0, .row 14 0])], [(5, .o 31 2 0 (r.2.2.2.2.1.map e_Entry)), (8, .o 3 1 0 (r.2.2.2.2.2.2.2.1.map e_i64)), (11, .o 3 1 0 (r.2.2.2.2.2.2.2.2.1.map e_i64)), (14, .o 3 1 0 (r.2.2.2.2.2.2.2.2.2.map e_i64))], [], []⟩ := by
  refine Pe_of (N := 19) (res := [.tmp 2]) (ts := [102]) Ty.ok Fn.b64 Try.func64 rfl rfl rfl rfl rfl rfl ?_
  intro Q g hfin
  unfold raft_own at hF
  refine URs [] [1] [1] [] [] [(1, .ptr 1 0)] [(1, (c_Node x))] [] [] .nil ?_
  refine Wk_seq ?_
  obtain ⟨x1, h0, hF⟩ := ob_elim hF
  obtain ⟨x2, h1, hF⟩ := ob_elim hF
  obtain ⟨x3, h2, hF⟩ := ob_elim hF
  obtain ⟨x4, h3, hF⟩ := ob_elim hF
  refine UD [.callE [] [] [] [] (.row 5 0) ⟨[], [], [(5, .o 31 2 0 (x1.map e_Entry))], [], []⟩, .callE [] [] [] [] (.row 8 0) ⟨[], [], [(8, .o 3 1 0 (x2.map e_i64))], [], []⟩, .callE [] [] [] [] (.row 11 0) ⟨[], [], [(11, .o 3 1 0 (x3.map e_i64))], [], []⟩, .callE [] [] [] [] (.row 14 0) ⟨[], [], [(14, .o 3 1 0 (x4.map e_i64))], [], []⟩] [1] [1] [5, 8, 11, 14] [] [] [(1, [.i x.N, .i x.ID, .i x.Term, .i x.Vote, .row 5 0, .i x.Role, .i x.Commit, .row 8 0, .row 11 0, .row 14 0])] [(5, .o 31 2 0 (x1.map e_Entry)), (8, .o 3 1 0 (x2.map e_i64)), (11, .o 3 1 0 (x3.map e_i64)), (14, .o 3 1 0 (x4.map e_i64))] [] (.cons (Pe.ren (slices_Clone_api_Entry_api_Entry_ok x.Log x1 h0) ⟨[], [], [], []⟩) (.cons (Pe.ren (slices_Clone_int_int_ok x.Votes x2 h1) ⟨[], [(5, 8)], [], []⟩) (.cons (Pe.ren (slices_Clone_int_int_ok x.Next x3 h2) ⟨[], [(5, 11)], [], []⟩) (.cons (Pe.ren (slices_Clone_int_int_ok x.Have x4 h3) ⟨[], [(5, 14)], [], []⟩) .nil)))) ?_
  refine ZRs [] [2] [1] [5, 8, 11, 14] [(2, .ptr 1 0)] .nil ?_
  have hF := some_elim hF
  exact Wk_ret (hfin _ ⟨[5, 8, 11, 14], [1], [5, 8, 11, 14], [], [], [], by first | (rw [← hF]; kernel_rfl) | kernel_rfl⟩)

/- raft.follow -/
noncomputable def raft_follow (box : Int) (box1 : Int) (box2 : Int) (box3 : Int) (box4 : Int) (box5 : Int) (row : List Entry) (row1 : List Int) (row2 : List Int) (row3 : List Int) : Int × Int × Int × Int × Int × Int :=
  (box, box1, box2, box3, 0, box5)
theorem raft_follow_ok (box : Int) (box1 : Int) (box2 : Int) (box3 : Int) (box4 : Int) (box5 : Int) (row : List Entry) (row1 : List Int) (row2 : List Int) (row3 : List Int) (rk : Nat) (rc : Nat) (rn : Bool) (rk1 : Nat) (rc1 : Nat) (rn1 : Bool) (rk2 : Nat) (rc2 : Nat) (rn2 : Bool) (rk3 : Nat) (rc3 : Nat) (rn3 : Bool) (r : Int × Int × Int × Int × Int × Int) (hF : raft_follow box box1 box2 box3 box4 box5 row row1 row2 row3 = r) : Pe Try.prog 65 ⟨[], [(100000, [.i box, .i box1, .i box2, .i box3, .row 100000 0, .i box4, .i box5, .row 100001 0, .row 100002 0, .row 100003 0])], [(100000, ⟨31, 2, 0, rk, rc, rn, 0, [], (row.map e_Entry)⟩), (100001, ⟨3, 1, 0, rk1, rc1, rn1, 0, [], (row1.map e_i64)⟩), (100002, ⟨3, 1, 0, rk2, rc2, rn2, 0, [], (row2.map e_i64)⟩), (100003, ⟨3, 1, 0, rk3, rc3, rn3, 0, [], (row3.map e_i64)⟩)], [], []⟩ [.ptr 100000 0] (.tup []) ⟨[], [(100000, [.i r.1, .i r.2.1, .i r.2.2.1, .i r.2.2.2.1, .row 100000 0, .i r.2.2.2.2.1, .i r.2.2.2.2.2, .nils, .nils, .nils])], [(100000, ⟨31, 2, 0, rk, rc, rn, 0, [], (row.map e_Entry)⟩), (100001, ⟨3, 1, 0, rk1, rc1, rn1, 0, [], (row1.map e_i64)⟩), (100002, ⟨3, 1, 0, rk2, rc2, rn2, 0, [], (row2.map e_i64)⟩), (100003, ⟨3, 1, 0, rk3, rc3, rn3, 0, [], (row3.map e_i64)⟩)], [], []⟩ := by
  refine Pe_of (N := 14) (res := []) (ts := []) Ty.ok Fn.b65 Try.func65 rfl rfl rfl rfl rfl rfl ?_
  intro Q g hfin
  unfold raft_follow at hF
  refine UR [] [] [100000] [100000, 100001, 100002, 100003] [] [] [(100000, [.i box, .i box1, .i box2, .i box3, .row 100000 0, .i 0, .i box5, .nils, .nils, .nils])] [] [] .nil ?_
  exact Wk_end (hfin _ ⟨[100000, 100001, 100002, 100003], [100000], [100000, 100001, 100002, 100003], [], [], [], by first | (rw [← hF]; kernel_rfl) | kernel_rfl⟩)

/- raft.Stand$1 -/
noncomputable def raft_Stand_1 (p : Int) (box : Int) (box1 : Int) (box2 : Int) (box3 : Int) (box4 : Int) (box5 : Int) (box6 : List Int) (row : List Entry) : Option (Int × Int × Int × Int × Int × Int × Int × Bool) :=
  ob (entry_TermAt row (row.length : Int)) fun x =>
  some (1, 0, 0, 0, (row.length : Int), x, 0, false)
theorem raft_Stand_1_ok (p : Int) (box : Int) (box1 : Int) (box2 : Int) (box3 : Int) (box4 : Int) (box5 : Int) (box6 : List Int) (row : List Entry) (rk : Nat) (rc : Nat) (rn : Bool) (r : Int × Int × Int × Int × Int × Int × Int × Bool) (hF : raft_Stand_1 p box box1 box2 box3 box4 box5 box6 row = some r) : Pe Try.prog 67 ⟨[], [(100000, [.ptr 100001 0]), (100001, [.i box, .i box1, .i box2, .i box3, .row 100000 0, .i box4, .i box5, .sl 1 (box6.map e_i64), .nils, .nils])], [(100000, ⟨31, 2, 0, rk, rc, rn, 0, [], (row.map e_Entry)⟩)], [], []⟩ [.i p, .ptr 100000 0] (.agg [.i r.1, .i r.2.1, .i r.2.2.1, .i r.2.2.2.1, .i r.2.2.2.2.1, .i r.2.2.2.2.2.1, .i r.2.2.2.2.2.2.1, .row 71000 0, .bool r.2.2.2.2.2.2.2]) ⟨[], [(100000, [.ptr 100001 0]), (100001, [.i box, .i box1, .i box2, .i box3, .row 100000 0, .i box4, .i box5, .sl 1 (box6.map e_i64), .nils, .nils])], [(100000, ⟨31, 2, 0, rk, rc, rn, 0, [], (row.map e_Entry)⟩), (71000, .z 31 2 0 (([] : List Entry).map e_Entry))], [], []⟩ := by
  refine Pe_of (N := 20) (res := [.cell 3 62]) (ts := [62]) Ty.ok Fn.b67 Try.func67 rfl rfl rfl rfl rfl rfl ?_
  intro Q g hfin
  unfold raft_Stand_1 at hF
  refine URs [] [1, 3] [3, 100000, 100001] [100000] [] [(3, .ptr 3 0)] [(3, [.i 0, .i 0, .i 0, .i 0, .i 0, .i 0, .i 0, .nils, .bool false])] [] [] .nil ?_
  refine Wk_seq ?_
  obtain ⟨x, h0, hF⟩ := ob_elim hF
  refine UD [.nat (row.length : Int), .nat (row.length : Int), .callB (.i x)] [3] [3, 100000, 100001] [100000] [] [] [(3, [.i 1, .i 0, .i 0, .i 0, .i (row.length : Int), .i x, .i 0, .nils, .bool false])] [] [] (.cons (len_ok e_Entry row) (.cons (len_ok e_Entry row) (.cons (entry_TermAt_ok row (row.length : Int) x h0) .nil))) ?_
  have hF := some_elim hF
  refine Wk_nilrowB 3 7 60000 31 2 rfl rfl rfl rfl rfl ?_
  refine Wk_ren' ⟨[], [(60000, 71000)], [], []⟩ rfl ?_
  exact Wk_ret (hfin _ ⟨[100000, 71000], [100000, 100001], [100000, 71000], [], [], [], by first | (rw [← hF]; kernel_rfl) | kernel_rfl⟩)

/- raft.others -/
noncomputable def raft_others_J1 (v : List Mail) : Option (List Mail) :=
  some v
noncomputable def raft_others_B1 (box : Int) (box1 : Int) (box2 : Int) (box3 : Int) (box4 : Int) (box5 : Int) (box6 : List Int) (row : List Entry) (v1 : List Mail × Int) : Option ((List Mail × Int) ⊕ (List Mail)) :=
  if (decide (v1.2 < box)) = true then
    ob (
      if (!decide (v1.2 = box1)) = true then
        ob (raft_Stand_1 v1.2 box box1 box2 box3 box4 box5 box6 row) fun x =>
        asrt (((v1.1 ++ [(⟨x.1, box1, v1.2, box2, x.2.2.2.2.1, x.2.2.2.2.2.1, x.2.2.2.2.2.2.1, ([] : List Entry), x.2.2.2.2.2.2.2⟩ : Mail)]).length : Int) * 88 ≤ 140737488351232) <|
        lt ((v1.1 ++ [(⟨x.1, box1, v1.2, box2, x.2.2.2.2.1, x.2.2.2.2.2.1, x.2.2.2.2.2.2.1, ([] : List Entry), x.2.2.2.2.2.2.2⟩ : Mail)])) fun (v3 : List Mail) =>
        some v3
      else
        some v1.1) fun (v2 : List Mail) =>
    some (Sum.inl (v2, w64 (v1.2 + 1)))
  else
    inrO (raft_others_J1 v1.1)
noncomputable def raft_others_L1 (box : Int) (box1 : Int) (box2 : Int) (box3 : Int) (box4 : Int) (box5 : Int) (box6 : List Int) (row : List Entry) (v0 : List Mail × Int) : Option (List Mail) :=
  loopO (fun y => raft_others_B1 box box1 box2 box3 box4 box5 box6 row y) v0
noncomputable def raft_others (box : Int) (box1 : Int) (box2 : Int) (box3 : Int) (box4 : Int) (box5 : Int) (box6 : List Int) (row : List Entry) : Option (List Mail) :=
  raft_others_L1 box box1 box2 box3 box4 box5 box6 row (([] : List Mail), 0)
theorem raft_others_ok (box : Int) (box1 : Int) (box2 : Int) (box3 : Int) (box4 : Int) (box5 : Int) (box6 : List Int) (row : List Entry) (rk : Nat) (rc : Nat) (rn : Bool) (r : List Mail) (hF : raft_others box box1 box2 box3 box4 box5 box6 row = some r) : Pe Try.prog 66 ⟨[], [(100000, [.i box, .i box1, .i box2, .i box3, .row 100000 0, .i box4, .i box5, .sl 1 (box6.map e_i64), .nils, .nils]), (100001, [.ptr 100000 0])], [(100000, ⟨31, 2, 0, rk, rc, rn, 0, [], (row.map e_Entry)⟩)], [], []⟩ [.ptr 100000 0, .fn 67 [.ptr 100001 0]] (.row 39 0) ⟨[], [(100000, [.i box, .i box1, .i box2, .i box3, .row 100000 0, .i box4, .i box5, .sl 1 (box6.map e_i64), .nils, .nils]), (100001, [.ptr 100000 0])], [(100000, ⟨31, 2, 0, rk, rc, rn, 0, [], (row.map e_Entry)⟩), (39, .z 62 9 0 (r.map e_Mail))], [], []⟩ := by
  refine Pe_of (N := 42) (res := [.tmp 4]) (ts := [50]) Ty.ok Fn.b66 Try.func66 rfl rfl rfl rfl rfl rfl ?_
  intro Q g hfin
  unfold raft_others at hF
  refine ZRs [] [0, 1] [100000, 100001] [100000] [] .nil ?_
  refine ZRs [] [0, 1, 5] [100000, 100001] [100000] [(5, .nils)] .nil ?_
  refine Wk_seq ?_
  refine ZRs [] [0, 1, 5, 11, 12] [100000, 100001] [100000] [(11, .i box), (12, .i 0)] .nil ?_
  refine Wk_meetP (fun v : List Mail => (⟨[(5, .row 39 0)], [(100000, [.i box, .i box1, .i box2, .i box3, .row 100000 0, .i box4, .i box5, .sl 1 (box6.map e_i64), .nils, .nils]), (100001, [.ptr 100000 0])], [(39, .z 62 9 0 (v.map e_Mail)), (100000, ⟨31, 2, 0, rk, rc, rn, 0, [], (row.map e_Entry)⟩)], [], []⟩ : S)) (fun v => raft_others_J1 v = some r) ?_ ?_
  · refine Wk_block ?_
    unfold raft_others_L1 at hF
    refine Wk_nilrow 5 60000 62 9 rfl rfl rfl ?_
    refine Wk_trim (fs := [0, 1, 5, 11, 12]) (bs := [100000, 100001]) (rs := [60000, 100000]) (ms := []) (aa := []) (nv := []) rfl ?_
    refine Wk_ren' ⟨[], [(60000, 39)], [], []⟩ rfl ?_
    refine Wk_trim (fs := [0, 1, 5, 11, 12]) (bs := [100000, 100001]) (rs := [39, 100000]) (ms := []) (aa := []) (nv := []) (t := (fun v1 : List Mail × Int => (⟨[(0, .ptr 100000 0), (1, .fn 67 [.ptr 100001 0]), (5, .row 39 0), (11, .i box), (12, .i v1.2)], [(100000, [.i box, .i box1, .i box2, .i box3, .row 100000 0, .i box4, .i box5, .sl 1 (box6.map e_i64), .nils, .nils]), (100001, [.ptr 100000 0])], [(39, .z 62 9 0 (v1.1.map e_Mail)), (100000, ⟨31, 2, 0, rk, rc, rn, 0, [], (row.map e_Entry)⟩)], [], []⟩ : S)) (([] : List Mail), 0)) (by kernel_rfl) ?_
    refine Wk_iter (step := fun y => raft_others_B1 box box1 box2 box3 box4 box5 box6 row y) (r := r) (fun v1 : List Mail × Int => (⟨[(0, .ptr 100000 0), (1, .fn 67 [.ptr 100001 0]), (5, .row 39 0), (11, .i box), (12, .i v1.2)], [(100000, [.i box, .i box1, .i box2, .i box3, .row 100000 0, .i box4, .i box5, .sl 1 (box6.map e_i64), .nils, .nils]), (100001, [.ptr 100000 0])], [(39, .z 62 9 0 (v1.1.map e_Mail)), (100000, ⟨31, 2, 0, rk, rc, rn, 0, [], (row.map e_Entry)⟩)], [], []⟩ : S)) (([] : List Mail), 0) hF ?_
    intro n1 v1 y1 hF ih1 dn1
    have hF : raft_others_B1 box box1 box2 box3 box4 box5 box6 row v1 = some y1 := hF
    unfold raft_others_B1 at hF
    refine ZRs [] [0, 1, 5, 11, 12, 13] [100000, 100001] [39, 100000] [(13, .bool (decide (v1.2 < box)))] .nil ?_
    refine Wk_seq ?_
    refine Wk_split rfl (fun hb => ?_) (fun hb => ?_)
    · have hF := ite_t hF hb
      refine Wk_skip ?_
      refine Wk_seq ?_
      refine Wk_block ?_
      refine ZRs [] [0, 1, 5, 6, 11, 12] [100000, 100001] [39, 100000] [(6, .i v1.2)] .nil ?_
      refine ZRs [] [0, 1, 5, 6, 11, 12, 20] [100000, 100001] [39, 100000] [(20, .bool (!decide (v1.2 = box1)))] .nil ?_
      obtain ⟨v2, hv, hF⟩ := ob_elim hF
      refine Wk_meet (⟨[(0, .ptr 100000 0), (1, .fn 67 [.ptr 100001 0]), (5, .row 39 0), (11, .i box), (12, .i v1.2)], [(100000, [.i box, .i box1, .i box2, .i box3, .row 100000 0, .i box4, .i box5, .sl 1 (box6.map e_i64), .nils, .nils]), (100001, [.ptr 100000 0])], [(39, .z 62 9 0 (v2.map e_Mail)), (100000, ⟨31, 2, 0, rk, rc, rn, 0, [], (row.map e_Entry)⟩)], [], []⟩ : S) ?_ ?_
      · have hF := hv
        refine Wk_split rfl (fun hb => ?_) (fun hb => ?_)
        · have hF := ite_t hF hb
          refine Wk_seq ?_
          obtain ⟨x, h0, hF⟩ := ob_elim hF
          refine UR [.callE [100001, 100000] [100000] [] [] (.agg [.i x.1, .i x.2.1, .i x.2.2.1, .i x.2.2.2.1, .i x.2.2.2.2.1, .i x.2.2.2.2.2.1, .i x.2.2.2.2.2.2.1, .row 23 0, .bool x.2.2.2.2.2.2.2]) ⟨[], [(100001, [.ptr 100000 0]), (100000, [.i box, .i box1, .i box2, .i box3, .row 100000 0, .i box4, .i box5, .sl 1 (box6.map e_i64), .nils, .nils])], [(100000, ⟨31, 2, 0, rk, rc, rn, 0, [], (row.map e_Entry)⟩), (23, .z 31 2 0 (([] : List Entry).map e_Entry))], [], []⟩] [0, 1, 5, 6, 7, 11, 12] [7, 100000, 100001] [23, 39, 100000] [] [(7, .ptr 7 0)] [(7, [.i x.1, .i x.2.1, .i x.2.2.1, .i x.2.2.2.1, .i x.2.2.2.2.1, .i x.2.2.2.2.2.1, .i x.2.2.2.2.2.2.1, .row 23 0, .bool x.2.2.2.2.2.2.2])] [(23, .z 31 2 0 (([] : List Entry).map e_Entry))] [] (.cons (Pe.ren (raft_Stand_1_ok v1.2 box box1 box2 box3 box4 box5 box6 row rk rc rn x h0) ⟨[(100000, 100001)], [(71000, 23)], [], []⟩) .nil) ?_
          refine UDs [] [0, 1, 5, 7, 11, 12] [7, 100000, 100001] [23, 39, 100000] [] [] [(7, [.i x.1, .i box1, .i v1.2, .i box2, .i x.2.2.2.2.1, .i x.2.2.2.2.2.1, .i x.2.2.2.2.2.2.1, .row 23 0, .bool x.2.2.2.2.2.2.2])] [] [] .nil ?_
          obtain ⟨h1, hF⟩ := asrt_elim hF
          refine WRL ((v1.1 ++ [(⟨x.1, box1, v1.2, box2, x.2.2.2.2.1, x.2.2.2.2.2.1, x.2.2.2.2.2.2.1, ([] : List Entry), x.2.2.2.2.2.2.2⟩ : Mail)])) (fun v3 : List Mail => ⟨[(0, .ptr 100000 0), (1, .fn 67 [.ptr 100001 0]), (5, .row 39 1), (11, .i box), (12, .i v1.2)], [(100000, [.i box, .i box1, .i box2, .i box3, .row 100000 0, .i box4, .i box5, .sl 1 (box6.map e_i64), .nils, .nils]), (100001, [.ptr 100000 0])], [(39, .z 62 9 1 (v3.map e_Mail)), (100000, ⟨31, 2, 0, rk, rc, rn, 0, [], (row.map e_Entry)⟩)], [], []⟩) [.sealed, .xs ((v1.1 ++ [(⟨x.1, box1, v1.2, box2, x.2.2.2.2.1, x.2.2.2.2.2.1, x.2.2.2.2.2.2.1, ([] : List Entry), x.2.2.2.2.2.2.2⟩ : Mail)]).map e_Mail)] [0, 1, 5, 11, 12] [100000, 100001] [39, 100000] [] [] [] (.cons (app_ok e_Mail v1.1 [(⟨x.1, box1, v1.2, box2, x.2.2.2.2.1, x.2.2.2.2.2.1, x.2.2.2.2.2.2.1, ([] : List Entry), x.2.2.2.2.2.2.2⟩ : Mail)]) (.cons (appl_ok e_Mail h1) .nil)) (by kernel_rfl) (fun v3 hv => ?_)
          have hF := lt_elim hF hv
          exact Wk_met (fs := [0, 1, 5, 11, 12]) (bs := [100000, 100001]) (rs := [39, 100000]) (ms := []) (aa := []) (nv := [(39, ⟨0, true, true, false⟩)]) (by first | (rw [← some_elim hF]; kernel_rfl) | kernel_rfl)
        · have hF := ite_f hF hb
          refine Wk_skip ?_
          exact Wk_met (fs := [0, 1, 5, 11, 12]) (bs := [100000, 100001]) (rs := [39, 100000]) (ms := []) (aa := []) (nv := []) (by first | (rw [← some_elim hF]; kernel_rfl) | kernel_rfl)
      · refine Wk_blk ?_
        refine ZR [] [0, 1, 5, 11, 12] [100000, 100001] [39, 100000] [(12, .i (w64 (v1.2 + 1)))] .nil ?_
        refine Wk_trim (fs := [0, 1, 5, 11, 12]) (bs := [100000, 100001]) (rs := [39, 100000]) (ms := []) (aa := []) (nv := []) ?_ (ih1 _ (some_elim hF).symm)
        kernel_rfl
    · have hF := ite_f hF hb
      refine Wk_exit rfl ?_
      have hF := inrO_done hF dn1
      exact Wk_metP v1.1 [5] [100000, 100001] [39, 100000] [] [] [] hF (by kernel_rfl)
  · intro v hF
    have hF : raft_others_J1 v = some r := hF
    unfold raft_others_J1 at hF
    refine ZRs [] [4] [100000, 100001] [39, 100000] [(4, .row 39 0)] .nil ?_
    have hF := some_elim hF
    exact Wk_ret (hfin _ ⟨[100000, 39], [100000, 100001], [100000, 39], [], [], [], by first | (rw [← hF]; kernel_rfl) | kernel_rfl⟩)

/- raft.follow -/
noncomputable def raft_follow_v1 (box : Int) (box1 : Int) (box2 : Int) (box3 : Int) (box4 : Int) (box5 : Int) (box6 : List Int) (row : List Entry) : Int × Int × Int × Int × Int × Int :=
  (box, box1, box2, box3, 0, box5)
theorem raft_follow_v1_ok (box : Int) (box1 : Int) (box2 : Int) (box3 : Int) (box4 : Int) (box5 : Int) (box6 : List Int) (row : List Entry) (rk : Nat) (rc : Nat) (rn : Bool) (r : Int × Int × Int × Int × Int × Int) (hF : raft_follow_v1 box box1 box2 box3 box4 box5 box6 row = r) : Pe Try.prog 65 ⟨[], [(100000, [.i box, .i box1, .i box2, .i box3, .row 100000 0, .i box4, .i box5, .sl 1 (box6.map e_i64), .nils, .nils])], [(100000, ⟨31, 2, 0, rk, rc, rn, 0, [], (row.map e_Entry)⟩)], [], []⟩ [.ptr 100000 0] (.tup []) ⟨[], [(100000, [.i r.1, .i r.2.1, .i r.2.2.1, .i r.2.2.2.1, .row 100000 0, .i r.2.2.2.2.1, .i r.2.2.2.2.2, .nils, .nils, .nils])], [(100000, ⟨31, 2, 0, rk, rc, rn, 0, [], (row.map e_Entry)⟩)], [], []⟩ := by
  refine Pe_of (N := 14) (res := []) (ts := []) Ty.ok Fn.b65 Try.func65 rfl rfl rfl rfl rfl rfl ?_
  intro Q g hfin
  unfold raft_follow_v1 at hF
  refine UR [] [] [100000] [100000] [] [] [(100000, [.i box, .i box1, .i box2, .i box3, .row 100000 0, .i 0, .i box5, .nils, .nils, .nils])] [] [] .nil ?_
  exact Wk_end (hfin _ ⟨[100000], [100000], [100000], [], [], [], by first | (rw [← hF]; kernel_rfl) | kernel_rfl⟩)

/- raft.count -/
noncomputable def raft_count_J1 (box : Int) (box1 : Int) (box2 : Int) (box3 : Int) (box4 : Int) (v : Int) : Option (Int × Int × Int × Int × Int × Int) :=
  some (box, box1, box2, box3, box4, v)
noncomputable def raft_count_J2 (box : Int) (box2 : Int) (row : List Entry) (v1 : Int × Int) (v2 : Int) : Option ((Int × Int) ⊕ (Int × Int × Int × Int × Int × Int)) :=
  lt (raft_most v2 box) fun x =>
  ob (if x = true then (entry_TermAt row v1.2) else some default) fun x1 =>
  ob (
    if (x && (decide (x1 = box2))) = true then
      some v1.2
    else
      some v1.1) fun (v3 : Int) =>
  some (Sum.inl (v3, w64 (v1.2 - 1)))
noncomputable def raft_count_B2 (box : Int) (box2 : Int) (row : List Entry) (row2 : List Int) (v1 : Int × Int) (v4 : Int × Int) : Option ((Int × Int) ⊕ ((Int × Int) ⊕ (Int × Int × Int × Int × Int × Int))) :=
  if (decide (v4.2 < (row2.length : Int))) = true then
    asrt (0 ≤ v4.2 ∧ v4.2 < (row2.length : Int)) <|
    asrt (0 ≤ v4.2 ∧ v4.2 < (row2.length : Int)) <|
    ob (
      if (decide (v1.2 ≤ (lget row2 v4.2))) = true then
        some (w64 (v4.1 + 1))
      else
        some v4.1) fun (v5 : Int) =>
    some (Sum.inl (v5, w64 (v4.2 + 1)))
  else
    inrO (raft_count_J2 box box2 row v1 v4.1)
noncomputable def raft_count_L2 (box : Int) (box2 : Int) (row : List Entry) (row2 : List Int) (v1 : Int × Int) (v0 : Int × Int) : Option ((Int × Int) ⊕ (Int × Int × Int × Int × Int × Int)) :=
  loopO (fun y => raft_count_B2 box box2 row row2 v1 y) v0
noncomputable def raft_count_B1 (box : Int) (box1 : Int) (box2 : Int) (box3 : Int) (box4 : Int) (row : List Entry) (row2 : List Int) (v1 : Int × Int) : Option ((Int × Int) ⊕ (Int × Int × Int × Int × Int × Int)) :=
  if (decide (v1.1 < v1.2)) = true then
    raft_count_L2 box box2 row row2 v1 (0, 0)
  else
    inrO (raft_count_J1 box box1 box2 box3 box4 v1.1)
noncomputable def raft_count_L1 (box : Int) (box1 : Int) (box2 : Int) (box3 : Int) (box4 : Int) (row : List Entry) (row2 : List Int) (v0 : Int × Int) : Option (Int × Int × Int × Int × Int × Int) :=
  loopO (fun y => raft_count_B1 box box1 box2 box3 box4 row row2 y) v0
noncomputable def raft_count (box : Int) (box1 : Int) (box2 : Int) (box3 : Int) (box4 : Int) (box5 : Int) (row : List Entry) (row1 : List Int) (row2 : List Int) : Option (Int × Int × Int × Int × Int × Int) :=
  raft_count_L1 box box1 box2 box3 box4 row row2 (box5, (row.length : Int))
theorem raft_count_ok (box : Int) (box1 : Int) (box2 : Int) (box3 : Int) (box4 : Int) (box5 : Int) (row : List Entry) (row1 : List Int) (row2 : List Int) (rk : Nat) (rc : Nat) (rn : Bool) (rk1 : Nat) (rc1 : Nat) (rn1 : Bool) (rk2 : Nat) (rc2 : Nat) (rn2 : Bool) (r : Int × Int × Int × Int × Int × Int) (hF : raft_count box box1 box2 box3 box4 box5 row row1 row2 = some r) : Pe Try.prog 69 ⟨[], [(100000, [.i box, .i box1, .i box2, .i box3, .row 100000 0, .i box4, .i box5, .nils, .row 100001 0, .row 100002 0])], [(100000, ⟨31, 2, 0, rk, rc, rn, 0, [], (row.map e_Entry)⟩), (100001, ⟨3, 1, 0, rk1, rc1, rn1, 0, [], (row1.map e_i64)⟩), (100002, ⟨3, 1, 0, rk2, rc2, rn2, 0, [], (row2.map e_i64)⟩)], [], []⟩ [.ptr 100000 0] (.tup []) ⟨[], [(100000, [.i r.1, .i r.2.1, .i r.2.2.1, .i r.2.2.2.1, .row 100000 0, .i r.2.2.2.2.1, .i r.2.2.2.2.2, .nils, .row 100001 0, .row 100002 0])], [(100000, ⟨31, 2, 0, rk, rc, rn, 0, [], (row.map e_Entry)⟩), (100001, ⟨3, 1, 0, rk1, rc1, rn1, 0, [], (row1.map e_i64)⟩), (100002, ⟨3, 1, 0, rk2, rc2, rn2, 0, [], (row2.map e_i64)⟩)], [], []⟩ := by
  refine Pe_of (N := 57) (res := []) (ts := []) Ty.ok Fn.b69 Try.func69 rfl rfl rfl rfl rfl rfl ?_
  intro Q g hfin
  unfold raft_count at hF
  refine ZRs [.nat (row.length : Int)] [0, 2] [100000] [100000, 100001, 100002] [(2, .i (row.length : Int))] (.cons (len_ok e_Entry row) .nil) ?_
  refine Wk_meetP (fun v : Int => (⟨[], [(100000, [.i box, .i box1, .i box2, .i box3, .row 100000 0, .i box4, .i v, .nils, .row 100001 0, .row 100002 0])], [(100000, ⟨31, 2, 0, rk, rc, rn, 0, [], (row.map e_Entry)⟩), (100001, ⟨3, 1, 0, rk1, rc1, rn1, 0, [], (row1.map e_i64)⟩), (100002, ⟨3, 1, 0, rk2, rc2, rn2, 0, [], (row2.map e_i64)⟩)], [], []⟩ : S)) (fun v => raft_count_J1 box box1 box2 box3 box4 v = some r) ?_ ?_
  · refine Wk_block ?_
    unfold raft_count_L1 at hF
    refine Wk_trim (fs := [0, 2]) (bs := [100000]) (rs := [100000, 100001, 100002]) (ms := []) (aa := []) (nv := []) (t := (fun v1 : Int × Int => (⟨[(0, .ptr 100000 0), (2, .i v1.2)], [(100000, [.i box, .i box1, .i box2, .i box3, .row 100000 0, .i box4, .i v1.1, .nils, .row 100001 0, .row 100002 0])], [(100000, ⟨31, 2, 0, rk, rc, rn, 0, [], (row.map e_Entry)⟩), (100001, ⟨3, 1, 0, rk1, rc1, rn1, 0, [], (row1.map e_i64)⟩), (100002, ⟨3, 1, 0, rk2, rc2, rn2, 0, [], (row2.map e_i64)⟩)], [], []⟩ : S)) (box5, (row.length : Int))) (by kernel_rfl) ?_
    refine Wk_iter (step := fun y => raft_count_B1 box box1 box2 box3 box4 row row2 y) (r := r) (fun v1 : Int × Int => (⟨[(0, .ptr 100000 0), (2, .i v1.2)], [(100000, [.i box, .i box1, .i box2, .i box3, .row 100000 0, .i box4, .i v1.1, .nils, .row 100001 0, .row 100002 0])], [(100000, ⟨31, 2, 0, rk, rc, rn, 0, [], (row.map e_Entry)⟩), (100001, ⟨3, 1, 0, rk1, rc1, rn1, 0, [], (row1.map e_i64)⟩), (100002, ⟨3, 1, 0, rk2, rc2, rn2, 0, [], (row2.map e_i64)⟩)], [], []⟩ : S)) (box5, (row.length : Int)) hF ?_
    intro n1 v1 y1 hF ih1 dn1
    have hF : raft_count_B1 box box1 box2 box3 box4 row row2 v1 = some y1 := hF
    unfold raft_count_B1 at hF
    refine Wk_seq ?_
    refine ZRs [] [0, 2, 16] [100000] [100000, 100001, 100002] [(16, .bool (decide (v1.1 < v1.2)))] .nil ?_
    refine Wk_split rfl (fun hb => ?_) (fun hb => ?_)
    · have hF := ite_t hF hb
      refine Wk_skip ?_
      refine Wk_seq ?_
      refine Wk_block ?_
      refine ZRs [] [0, 2, 3] [100000] [100000, 100001, 100002] [(3, .i 0)] .nil ?_
      refine Wk_seq ?_
      refine ZRs [.nat (row2.length : Int)] [0, 2, 3, 22, 23, 24] [100000] [100000, 100001, 100002] [(22, .row 100002 0), (23, .i (row2.length : Int)), (24, .i 0)] (.cons (len_ok e_i64 row2) .nil) ?_
      refine Wk_meetP (fun v2 : Int => (⟨[(0, .ptr 100000 0), (2, .i v1.2), (3, .i v2)], [(100000, [.i box, .i box1, .i box2, .i box3, .row 100000 0, .i box4, .i v1.1, .nils, .row 100001 0, .row 100002 0])], [(100000, ⟨31, 2, 0, rk, rc, rn, 0, [], (row.map e_Entry)⟩), (100001, ⟨3, 1, 0, rk1, rc1, rn1, 0, [], (row1.map e_i64)⟩), (100002, ⟨3, 1, 0, rk2, rc2, rn2, 0, [], (row2.map e_i64)⟩)], [], []⟩ : S)) (fun v2 => raft_count_J2 box box2 row v1 v2 = some y1) ?_ ?_
      · refine Wk_block ?_
        unfold raft_count_L2 at hF
        refine Wk_trim (fs := [0, 2, 3, 22, 23, 24]) (bs := [100000]) (rs := [100000, 100001, 100002]) (ms := []) (aa := []) (nv := []) (t := (fun v4 : Int × Int => (⟨[(0, .ptr 100000 0), (2, .i v1.2), (3, .i v4.1), (22, .row 100002 0), (23, .i (row2.length : Int)), (24, .i v4.2)], [(100000, [.i box, .i box1, .i box2, .i box3, .row 100000 0, .i box4, .i v1.1, .nils, .row 100001 0, .row 100002 0])], [(100000, ⟨31, 2, 0, rk, rc, rn, 0, [], (row.map e_Entry)⟩), (100001, ⟨3, 1, 0, rk1, rc1, rn1, 0, [], (row1.map e_i64)⟩), (100002, ⟨3, 1, 0, rk2, rc2, rn2, 0, [], (row2.map e_i64)⟩)], [], []⟩ : S)) (0, 0)) (by kernel_rfl) ?_
        refine Wk_iter (step := fun y => raft_count_B2 box box2 row row2 v1 y) (r := y1) (fun v4 : Int × Int => (⟨[(0, .ptr 100000 0), (2, .i v1.2), (3, .i v4.1), (22, .row 100002 0), (23, .i (row2.length : Int)), (24, .i v4.2)], [(100000, [.i box, .i box1, .i box2, .i box3, .row 100000 0, .i box4, .i v1.1, .nils, .row 100001 0, .row 100002 0])], [(100000, ⟨31, 2, 0, rk, rc, rn, 0, [], (row.map e_Entry)⟩), (100001, ⟨3, 1, 0, rk1, rc1, rn1, 0, [], (row1.map e_i64)⟩), (100002, ⟨3, 1, 0, rk2, rc2, rn2, 0, [], (row2.map e_i64)⟩)], [], []⟩ : S)) (0, 0) hF ?_
        intro n2 v4 y2 hF ih2 dn2
        have hF : raft_count_B2 box box2 row row2 v1 v4 = some y2 := hF
        unfold raft_count_B2 at hF
        refine ZRs [] [0, 2, 3, 22, 23, 24, 25] [100000] [100000, 100001, 100002] [(25, .bool (decide (v4.2 < (row2.length : Int))))] .nil ?_
        refine Wk_seq ?_
        refine Wk_split rfl (fun hb => ?_) (fun hb => ?_)
        · have hF := ite_t hF hb
          refine Wk_skip ?_
          refine Wk_seq ?_
          refine Wk_block ?_
          refine Wk_seq ?_
          obtain ⟨h2, hF⟩ := asrt_elim hF
          obtain ⟨h3, hF⟩ := asrt_elim hF
          refine ZR [.av (e_i64 (lget row2 v4.2))] [0, 2, 3, 5, 22, 23, 24] [100000] [100000, 100001, 100002] [(5, .i (lget row2 v4.2))] (.cons (ixr_ok e_i64 h2) (.cons (ldr_ok e_i64 h3) .nil)) ?_
          refine ZRs [] [0, 2, 3, 22, 23, 24, 30] [100000] [100000, 100001, 100002] [(30, .bool (decide (v1.2 ≤ (lget row2 v4.2))))] .nil ?_
          obtain ⟨v5, hv, hF⟩ := ob_elim hF
          refine Wk_meet (⟨[(0, .ptr 100000 0), (2, .i v1.2), (3, .i v5), (22, .row 100002 0), (23, .i (row2.length : Int)), (24, .i v4.2)], [(100000, [.i box, .i box1, .i box2, .i box3, .row 100000 0, .i box4, .i v1.1, .nils, .row 100001 0, .row 100002 0])], [(100000, ⟨31, 2, 0, rk, rc, rn, 0, [], (row.map e_Entry)⟩), (100001, ⟨3, 1, 0, rk1, rc1, rn1, 0, [], (row1.map e_i64)⟩), (100002, ⟨3, 1, 0, rk2, rc2, rn2, 0, [], (row2.map e_i64)⟩)], [], []⟩ : S) ?_ ?_
          · have hF := hv
            refine Wk_split rfl (fun hb => ?_) (fun hb => ?_)
            · have hF := ite_t hF hb
              refine ZR [] [0, 2, 3, 22, 23, 24] [100000] [100000, 100001, 100002] [(3, .i (w64 (v4.1 + 1)))] .nil ?_
              exact Wk_met (fs := [0, 2, 3, 22, 23, 24]) (bs := [100000]) (rs := [100000, 100001, 100002]) (ms := []) (aa := []) (nv := []) (by first | (rw [← some_elim hF]; kernel_rfl) | kernel_rfl)
            · have hF := ite_f hF hb
              refine Wk_skip ?_
              exact Wk_met (fs := [0, 2, 3, 22, 23, 24]) (bs := [100000]) (rs := [100000, 100001, 100002]) (ms := []) (aa := []) (nv := []) (by first | (rw [← some_elim hF]; kernel_rfl) | kernel_rfl)
          · refine Wk_blk ?_
            refine ZR [] [0, 2, 3, 22, 23, 24] [100000] [100000, 100001, 100002] [(24, .i (w64 (v4.2 + 1)))] .nil ?_
            refine Wk_trim (fs := [0, 2, 3, 22, 23, 24]) (bs := [100000]) (rs := [100000, 100001, 100002]) (ms := []) (aa := []) (nv := []) ?_ (ih2 _ (some_elim hF).symm)
            kernel_rfl
        · have hF := ite_f hF hb
          refine Wk_exit rfl ?_
          have hF := inrO_done hF dn2
          exact Wk_metP v4.1 [0, 2, 3] [100000] [100000, 100001, 100002] [] [] [] hF (by kernel_rfl)
      · intro v2 hF
        have hF : raft_count_J2 box box2 row v1 v2 = some y1 := hF
        unfold raft_count_J2 at hF
        refine Wk_seq ?_
        obtain ⟨x, h0, hF⟩ := lt_split hF
        obtain ⟨x1, h1, hF⟩ := ob_elim hF
        refine ZD [.callB (.bool x), .callB (.i x1)] [0, 2, 52] [100000] [100000, 100001, 100002] [(52, .bool (x && (decide (x1 = box2))))] (.cons (raft_most_ok v2 box x h0) (.cons (fun (ga0 : x = true) => (entry_TermAt_ok row v1.2 x1 (ite_t h1 ga0))) .nil)) ?_
        obtain ⟨v3, hv, hF⟩ := ob_elim hF
        refine Wk_meet (⟨[(0, .ptr 100000 0), (2, .i v1.2)], [(100000, [.i box, .i box1, .i box2, .i box3, .row 100000 0, .i box4, .i v3, .nils, .row 100001 0, .row 100002 0])], [(100000, ⟨31, 2, 0, rk, rc, rn, 0, [], (row.map e_Entry)⟩), (100001, ⟨3, 1, 0, rk1, rc1, rn1, 0, [], (row1.map e_i64)⟩), (100002, ⟨3, 1, 0, rk2, rc2, rn2, 0, [], (row2.map e_i64)⟩)], [], []⟩ : S) ?_ ?_
        · have hF := hv
          refine Wk_split rfl (fun hb => ?_) (fun hb => ?_)
          · have hF := ite_t hF hb
            refine UR [] [0, 2] [100000] [100000, 100001, 100002] [] [] [(100000, [.i box, .i box1, .i box2, .i box3, .row 100000 0, .i box4, .i v1.2, .nils, .row 100001 0, .row 100002 0])] [] [] .nil ?_
            exact Wk_met (fs := [0, 2]) (bs := [100000]) (rs := [100000, 100001, 100002]) (ms := []) (aa := []) (nv := []) (by first | (rw [← some_elim hF]; kernel_rfl) | kernel_rfl)
          · have hF := ite_f hF hb
            refine Wk_skip ?_
            exact Wk_met (fs := [0, 2]) (bs := [100000]) (rs := [100000, 100001, 100002]) (ms := []) (aa := []) (nv := []) (by first | (rw [← some_elim hF]; kernel_rfl) | kernel_rfl)
        · refine Wk_blk ?_
          refine ZR [] [0, 2] [100000] [100000, 100001, 100002] [(2, .i (w64 (v1.2 - 1)))] .nil ?_
          refine Wk_trim (fs := [0, 2]) (bs := [100000]) (rs := [100000, 100001, 100002]) (ms := []) (aa := []) (nv := []) ?_ (ih1 _ (some_elim hF).symm)
          kernel_rfl
    · have hF := ite_f hF hb
      refine Wk_exit rfl ?_
      have hF := inrO_done hF dn1
      exact Wk_metP v1.1 [] [100000] [100000, 100001, 100002] [] [] [] hF (by kernel_rfl)
  · intro v hF
    have hF : raft_count_J1 box box1 box2 box3 box4 v = some r := hF
    unfold raft_count_J1 at hF
    have hF := some_elim hF
    exact Wk_end (hfin _ ⟨[100000, 100001, 100002], [100000], [100000, 100001, 100002], [], [], [], by first | (rw [← hF]; kernel_rfl) | kernel_rfl⟩)

/- raft.lead -/
noncomputable def raft_lead_J1 (row : List Entry) (x : Int × Int × Int × Int × Int × Int) (v : List Int) : Option (Int × Int × Int × Int × Int × Int × List Int × List Int) :=
  asrt (0 ≤ x.2.1 ∧ x.2.1 < ((List.replicate x.1.toNat (0 : Int)).length : Int)) <|
  asrt (0 ≤ x.2.1 ∧ x.2.1 < ((List.replicate x.1.toNat (0 : Int)).length : Int)) <|
  ob (raft_count x.1 x.2.1 x.2.2.1 x.2.2.2.1 2 x.2.2.2.2.2 row v (lset (List.replicate x.1.toNat (0 : Int)) x.2.1 (row.length : Int))) fun x1 =>
  some (x1.1, x1.2.1, x1.2.2.1, x1.2.2.2.1, x1.2.2.2.2.1, x1.2.2.2.2.2, v, (lset (List.replicate x.1.toNat (0 : Int)) x.2.1 (row.length : Int)))
noncomputable def raft_lead_B1 (row : List Entry) (x : Int × Int × Int × Int × Int × Int) (v1 : List Int × Int) : Option ((List Int × Int) ⊕ (Int × Int × Int × Int × Int × Int × List Int × List Int)) :=
  if (decide (v1.2 < ((List.replicate x.1.toNat (0 : Int)).length : Int))) = true then
    asrt (0 ≤ v1.2 ∧ v1.2 < (v1.1.length : Int)) <|
    asrt (0 ≤ v1.2 ∧ v1.2 < (v1.1.length : Int)) <|
    some (Sum.inl ((lset v1.1 v1.2 (w64 ((row.length : Int) + 1))), w64 (v1.2 + 1)))
  else
    inrO (raft_lead_J1 row x v1.1)
noncomputable def raft_lead_L1 (row : List Entry) (x : Int × Int × Int × Int × Int × Int) (v0 : List Int × Int) : Option (Int × Int × Int × Int × Int × Int × List Int × List Int) :=
  loopO (fun y => raft_lead_B1 row x y) v0
noncomputable def raft_lead (box : Int) (box1 : Int) (box2 : Int) (box3 : Int) (box4 : Int) (box5 : Int) (box6 : List Int) (row : List Entry) : Option (Int × Int × Int × Int × Int × Int × List Int × List Int) :=
  lt (raft_follow_v1 box box1 box2 box3 box4 box5 box6 row) fun x =>
  asrt (0 ≤ (x.1 : Int) ∧ x.1 ≤ x.1 ∧ x.1 * 8 ≤ 140737488351232) <|
  asrt (0 ≤ (x.1 : Int) ∧ x.1 ≤ x.1 ∧ x.1 * 8 ≤ 140737488351232) <|
  raft_lead_L1 row x ((List.replicate x.1.toNat (0 : Int)), 0)
theorem raft_lead_ok (box : Int) (box1 : Int) (box2 : Int) (box3 : Int) (box4 : Int) (box5 : Int) (box6 : List Int) (row : List Entry) (rk : Nat) (rc : Nat) (rn : Bool) (r : Int × Int × Int × Int × Int × Int × List Int × List Int) (hF : raft_lead box box1 box2 box3 box4 box5 box6 row = some r) : Pe Try.prog 68 ⟨[], [(100000, [.i box, .i box1, .i box2, .i box3, .row 100000 0, .i box4, .i box5, .sl 1 (box6.map e_i64), .nils, .nils])], [(100000, ⟨31, 2, 0, rk, rc, rn, 0, [], (row.map e_Entry)⟩)], [], []⟩ [.ptr 100000 0] (.tup []) ⟨[], [(100000, [.i r.1, .i r.2.1, .i r.2.2.1, .i r.2.2.2.1, .row 100000 0, .i r.2.2.2.2.1, .i r.2.2.2.2.2.1, .nils, .row 18 0, .row 23 0])], [(100000, ⟨31, 2, 0, rk, rc, rn, 0, [], (row.map e_Entry)⟩), (18, .o 3 1 0 (r.2.2.2.2.2.2.1.map e_i64)), (23, .o 3 1 0 (r.2.2.2.2.2.2.2.map e_i64))], [], []⟩ := by
  refine Pe_of (N := 59) (res := []) (ts := []) Ty.ok Fn.b68 Try.func68 rfl rfl rfl rfl rfl rfl ?_
  intro Q g hfin
  unfold raft_lead at hF
  refine ZRs [.nat (row.length : Int)] [0, 2] [100000] [100000] [(2, .i (row.length : Int))] (.cons (len_ok e_Entry row) .nil) ?_
  refine Wk_seq ?_
  obtain ⟨x, h0, hF⟩ := lt_split hF
  refine UR [.callE [100000] [100000] [] [] (.tup []) ⟨[], [(100000, [.i x.1, .i x.2.1, .i x.2.2.1, .i x.2.2.2.1, .row 100000 0, .i x.2.2.2.2.1, .i x.2.2.2.2.2, .nils, .nils, .nils])], [(100000, ⟨31, 2, 0, rk, rc, rn, 0, [], (row.map e_Entry)⟩)], [], []⟩] [0, 2] [100000] [100000] [] [] [(100000, [.i x.1, .i x.2.1, .i x.2.2.1, .i x.2.2.2.1, .row 100000 0, .i x.2.2.2.2.1, .i x.2.2.2.2.2, .nils, .nils, .nils])] [] [] (.cons (Pe.ren (raft_follow_v1_ok box box1 box2 box3 box4 box5 box6 row rk rc rn x h0) ⟨[], [], [], []⟩) .nil) ?_
  refine Wk_seq ?_
  obtain ⟨h1, hF⟩ := asrt_elim hF
  obtain ⟨h2, hF⟩ := asrt_elim hF
  refine UD [.xs ((List.replicate x.1.toNat (0 : Int)).map e_i64), .xs ((List.replicate x.1.toNat (0 : Int)).map e_i64)] [0, 2] [100000] [18, 23, 100000] [] [] [(100000, [.i x.1, .i x.2.1, .i x.2.2.1, .i x.2.2.2.1, .row 100000 0, .i 2, .i x.2.2.2.2.2, .nils, .row 18 0, .row 23 0])] [(18, .o 3 1 0 ((List.replicate x.1.toNat (0 : Int)).map e_i64)), (23, .o 3 1 0 ((List.replicate x.1.toNat (0 : Int)).map e_i64))] [] (.cons (mk_ok h1) (.cons (rep_ok e_i64 (x.1) (0 : Int)) (.cons (mk_ok h2) (.cons (rep_ok e_i64 (x.1) (0 : Int)) .nil)))) ?_
  refine Wk_seq ?_
  refine ZRs [.nat ((List.replicate x.1.toNat (0 : Int)).length : Int)] [0, 2, 34, 35] [100000] [18, 23, 100000] [(34, .i ((List.replicate x.1.toNat (0 : Int)).length : Int)), (35, .i 0)] (.cons (len_ok e_i64 (List.replicate x.1.toNat (0 : Int))) .nil) ?_
  refine Wk_meetP (fun v : List Int => (⟨[(0, .ptr 100000 0), (2, .i (row.length : Int))], [(100000, [.i x.1, .i x.2.1, .i x.2.2.1, .i x.2.2.2.1, .row 100000 0, .i 2, .i x.2.2.2.2.2, .nils, .row 18 0, .row 23 0])], [(18, .o 3 1 0 (v.map e_i64)), (23, .o 3 1 0 ((List.replicate x.1.toNat (0 : Int)).map e_i64)), (100000, ⟨31, 2, 0, rk, rc, rn, 0, [], (row.map e_Entry)⟩)], [], []⟩ : S)) (fun v => raft_lead_J1 row x v = some r) ?_ ?_
  · refine Wk_block ?_
    unfold raft_lead_L1 at hF
    refine Wk_trim (fs := [0, 2, 34, 35]) (bs := [100000]) (rs := [18, 23, 100000]) (ms := []) (aa := []) (nv := []) (t := (fun v1 : List Int × Int => (⟨[(0, .ptr 100000 0), (2, .i (row.length : Int)), (34, .i ((List.replicate x.1.toNat (0 : Int)).length : Int)), (35, .i v1.2)], [(100000, [.i x.1, .i x.2.1, .i x.2.2.1, .i x.2.2.2.1, .row 100000 0, .i 2, .i x.2.2.2.2.2, .nils, .row 18 0, .row 23 0])], [(18, .o 3 1 0 (v1.1.map e_i64)), (23, .o 3 1 0 ((List.replicate x.1.toNat (0 : Int)).map e_i64)), (100000, ⟨31, 2, 0, rk, rc, rn, 0, [], (row.map e_Entry)⟩)], [], []⟩ : S)) ((List.replicate x.1.toNat (0 : Int)), 0)) (by kernel_rfl) ?_
    refine Wk_iter (step := fun y => raft_lead_B1 row x y) (r := r) (fun v1 : List Int × Int => (⟨[(0, .ptr 100000 0), (2, .i (row.length : Int)), (34, .i ((List.replicate x.1.toNat (0 : Int)).length : Int)), (35, .i v1.2)], [(100000, [.i x.1, .i x.2.1, .i x.2.2.1, .i x.2.2.2.1, .row 100000 0, .i 2, .i x.2.2.2.2.2, .nils, .row 18 0, .row 23 0])], [(18, .o 3 1 0 (v1.1.map e_i64)), (23, .o 3 1 0 ((List.replicate x.1.toNat (0 : Int)).map e_i64)), (100000, ⟨31, 2, 0, rk, rc, rn, 0, [], (row.map e_Entry)⟩)], [], []⟩ : S)) ((List.replicate x.1.toNat (0 : Int)), 0) hF ?_
    intro n1 v1 y1 hF ih1 dn1
    have hF : raft_lead_B1 row x v1 = some y1 := hF
    unfold raft_lead_B1 at hF
    refine ZRs [] [0, 2, 34, 35, 36] [100000] [18, 23, 100000] [(36, .bool (decide (v1.2 < ((List.replicate x.1.toNat (0 : Int)).length : Int))))] .nil ?_
    refine Wk_seq ?_
    refine Wk_split rfl (fun hb => ?_) (fun hb => ?_)
    · have hF := ite_t hF hb
      refine Wk_skip ?_
      refine Wk_seq ?_
      refine Wk_block ?_
      refine ZRs [] [0, 2, 3, 34, 35] [100000] [18, 23, 100000] [(3, .i v1.2)] .nil ?_
      obtain ⟨h6, hF⟩ := asrt_elim hF
      obtain ⟨h7, hF⟩ := asrt_elim hF
      refine UR [.av (e_i64 (lget v1.1 v1.2)), .xs ((lset v1.1 v1.2 (w64 ((row.length : Int) + 1))).map e_i64)] [0, 2, 34, 35] [100000] [18, 23, 100000] [] [] [] [(18, .o 3 1 0 ((lset v1.1 v1.2 (w64 ((row.length : Int) + 1))).map e_i64))] [] (.cons (ixr_ok e_i64 h6) (.cons (ldr_ok e_i64 h7) (.cons (set_ok e_i64 v1.1 v1.2 (w64 ((row.length : Int) + 1))) (.cons (Nat.zero_le v1.2.toNat) .nil)))) ?_
      refine Wk_blk ?_
      refine ZR [] [0, 2, 34, 35] [100000] [18, 23, 100000] [(35, .i (w64 (v1.2 + 1)))] .nil ?_
      refine Wk_trim (fs := [0, 2, 34, 35]) (bs := [100000]) (rs := [18, 23, 100000]) (ms := []) (aa := []) (nv := []) ?_ (ih1 _ (some_elim hF).symm)
      kernel_rfl
    · have hF := ite_f hF hb
      refine Wk_exit rfl ?_
      have hF := inrO_done hF dn1
      exact Wk_metP v1.1 [0, 2] [100000] [18, 23, 100000] [] [] [] hF (by kernel_rfl)
  · intro v hF
    have hF : raft_lead_J1 row x v = some r := hF
    unfold raft_lead_J1 at hF
    refine Wk_seq ?_
    obtain ⟨h3, hF⟩ := asrt_elim hF
    obtain ⟨h4, hF⟩ := asrt_elim hF
    refine UD [.av (e_i64 (lget (List.replicate x.1.toNat (0 : Int)) x.2.1)), .xs ((lset (List.replicate x.1.toNat (0 : Int)) x.2.1 (row.length : Int)).map e_i64)] [0] [100000] [18, 23, 100000] [] [] [] [(23, .o 3 1 0 ((lset (List.replicate x.1.toNat (0 : Int)) x.2.1 (row.length : Int)).map e_i64))] [] (.cons (ixr_ok e_i64 h3) (.cons (ldr_ok e_i64 h4) (.cons (set_ok e_i64 (List.replicate x.1.toNat (0 : Int)) x.2.1 (row.length : Int)) (.cons (Nat.zero_le x.2.1.toNat) .nil)))) ?_
    obtain ⟨x1, h5, hF⟩ := ob_elim hF
    refine UR [.callE [100000] [100000, 18, 23] [] [] (.tup []) ⟨[], [(100000, [.i x1.1, .i x1.2.1, .i x1.2.2.1, .i x1.2.2.2.1, .row 100000 0, .i x1.2.2.2.2.1, .i x1.2.2.2.2.2, .nils, .row 18 0, .row 23 0])], [(100000, ⟨31, 2, 0, rk, rc, rn, 0, [], (row.map e_Entry)⟩), (18, .o 3 1 0 (v.map e_i64)), (23, .o 3 1 0 ((lset (List.replicate x.1.toNat (0 : Int)) x.2.1 (row.length : Int)).map e_i64))], [], []⟩] [] [100000] [18, 23, 100000] [] [] [(100000, [.i x1.1, .i x1.2.1, .i x1.2.2.1, .i x1.2.2.2.1, .row 100000 0, .i x1.2.2.2.2.1, .i x1.2.2.2.2.2, .nils, .row 18 0, .row 23 0])] [] [] (.cons (Pe.ren (raft_count_ok x.1 x.2.1 x.2.2.1 x.2.2.2.1 2 x.2.2.2.2.2 row v (lset (List.replicate x.1.toNat (0 : Int)) x.2.1 (row.length : Int)) rk rc rn 0 0 false 0 0 false x1 h5) ⟨[], [(100001, 18), (100002, 23)], [], []⟩) .nil) ?_
    have hF := some_elim hF
    exact Wk_end (hfin _ ⟨[100000, 18, 23], [100000], [100000, 18, 23], [], [], [], by first | (rw [← hF]; kernel_rfl) | kernel_rfl⟩)

/- raft.Stand -/
noncomputable def raft_Stand (x : Node) : Option (Int × Int × Int × Int × List Entry × Int × Int × List Int × List Int × List Int × List Mail × Fault) :=
  ob (raft_Check x) fun x1 =>
  ob (
    if (!decide (x1.Code = 0)) = true then
      some x1
    else
      if (decide (x.Role = 2)) = true then
        lt (raft_fault 11 0) fun x2 =>
        some x2
      else
        if (decide (x.Term = 1000000000)) = true then
          lt (raft_fault 9 0) fun x3 =>
          some x3
        else
          some x1) fun (v : Fault) =>
  if (!decide (v.Code = 0)) = true then
    some (0, 0, 0, 0, ([] : List Entry), 0, 0, ([] : List Int), ([] : List Int), ([] : List Int), ([] : List Mail), v)
  else
    ob (raft_own x) fun x4 =>
    lt (raft_follow x4.1 x4.2.1 x4.2.2.1 x4.2.2.2.1 x4.2.2.2.2.2.1 x4.2.2.2.2.2.2.1 x4.2.2.2.2.1 x4.2.2.2.2.2.2.2.1 x4.2.2.2.2.2.2.2.2.1 x4.2.2.2.2.2.2.2.2.2) fun x5 =>
    ob (raft_others x5.1 x5.2.1 (w64 (x.Term + 1)) (w64 (x.ID + 1)) 1 x5.2.2.2.2.2 ([x.ID] : List Int) x4.2.2.2.2.1) fun x6 =>
    lt (raft_most 1 x5.1) fun x7 =>
    ob (
      if x7 = true then
        ob (raft_lead x5.1 x5.2.1 (w64 (x.Term + 1)) (w64 (x.ID + 1)) 1 x5.2.2.2.2.2 ([x.ID] : List Int) x4.2.2.2.2.1) fun x8 =>
        some (x8.1, x8.2.1, x8.2.2.1, x8.2.2.2.1, x8.2.2.2.2.1, x8.2.2.2.2.2.1, ([] : List Int), x8.2.2.2.2.2.2.1, x8.2.2.2.2.2.2.2)
      else
        some (x5.1, x5.2.1, (w64 (x.Term + 1)), (w64 (x.ID + 1)), 1, x5.2.2.2.2.2, ([x.ID] : List Int), ([] : List Int), ([] : List Int))) fun (v1 : Int × Int × Int × Int × Int × Int × List Int × List Int × List Int) =>
    some (v1.1, v1.2.1, v1.2.2.1, v1.2.2.2.1, x4.2.2.2.2.1, v1.2.2.2.2.1, v1.2.2.2.2.2.1, v1.2.2.2.2.2.2.1, v1.2.2.2.2.2.2.2.1, v1.2.2.2.2.2.2.2.2, x6, v)
theorem raft_Stand_ok (x : Node) (r : Int × Int × Int × Int × List Entry × Int × Int × List Int × List Int × List Int × List Mail × Fault) (hF : raft_Stand x = some r) : Pe Try.prog 31 ⟨[], [], [], [], []⟩ [.agg (c_Node x)] (.tup [.agg [.i r.1, .i r.2.1, .i r.2.2.1, .i r.2.2.2.1, .row 30 0, .i r.2.2.2.2.2.1, .i r.2.2.2.2.2.2.1, .sl 1 (r.2.2.2.2.2.2.2.1.map e_i64), .row 63 0, .row 20063 0], .row 56 0, .agg [.i r.2.2.2.2.2.2.2.2.2.2.2.Code, .i r.2.2.2.2.2.2.2.2.2.2.2.At]]) ⟨[], [], [(30, .o 31 2 0 (r.2.2.2.2.1.map e_Entry)), (56, .z 62 9 0 (r.2.2.2.2.2.2.2.2.2.2.1.map e_Mail)), (63, .o 3 1 0 (r.2.2.2.2.2.2.2.2.1.map e_i64)), (20063, .o 3 1 0 (r.2.2.2.2.2.2.2.2.2.1.map e_i64))], [], []⟩ := by
  refine Pe_of (N := 69) (res := [.cell 2 46, .tmp 3, .cell 4 26]) (ts := [46, 50, 26]) Ty.ok Fn.b31 Try.func31 rfl rfl rfl rfl rfl rfl ?_
  intro Q g hfin
  unfold raft_Stand at hF
  refine URs [] [1, 2, 4] [1, 2, 4] [] [] [(1, .ptr 1 0), (2, .ptr 2 0), (4, .ptr 4 0)] [(1, (c_Node x)), (2, [.i 0, .i 0, .i 0, .i 0, .nils, .i 0, .i 0, .nils, .nils, .nils]), (4, [.i 0, .i 0])] [] [] .nil ?_
  refine Wk_seq ?_
  obtain ⟨x1, h0, hF⟩ := ob_elim hF
  refine UR [.callB (.agg [.i x1.Code, .i x1.At])] [1, 2, 4, 5] [1, 2, 4, 5] [] [] [(5, .ptr 5 0)] [(5, [.i x1.Code, .i x1.At])] [] [] (.cons (raft_Check_ok x x1 h0) .nil) ?_
  refine Wk_seq ?_
  refine Wk_block ?_
  refine ZRs [] [1, 2, 4, 5, 10] [1, 2, 4, 5] [] [(10, .bool (!decide (x1.Code = 0)))] .nil ?_
  obtain ⟨v, hv, hF⟩ := ob_elim hF
  refine Wk_meet (⟨[(1, .ptr 1 0), (2, .ptr 2 0), (4, .ptr 4 0), (5, .ptr 5 0)], [(1, (c_Node x)), (2, [.i 0, .i 0, .i 0, .i 0, .nils, .i 0, .i 0, .nils, .nils, .nils]), (4, [.i 0, .i 0]), (5, [.i v.Code, .i v.At])], [], [], []⟩ : S) ?_ ?_
  · have hF := hv
    refine Wk_split rfl (fun hb => ?_) (fun hb => ?_)
    · have hF := ite_t hF hb
      refine Wk_skip ?_
      exact Wk_met (fs := [1, 2, 4, 5]) (bs := [1, 2, 4, 5]) (rs := []) (ms := []) (aa := []) (nv := []) (by first | (rw [← some_elim hF]; kernel_rfl) | kernel_rfl)
    · have hF := ite_f hF hb
      refine ZRs [] [1, 2, 4, 5, 14] [1, 2, 4, 5] [] [(14, .bool (decide (x.Role = 2)))] .nil ?_
      refine Wk_split rfl (fun hb => ?_) (fun hb => ?_)
      · have hF := ite_t hF hb
        obtain ⟨x2, h1, hF⟩ := lt_split hF
        refine UR [.callB (.agg [.i x2.Code, .i x2.At])] [1, 2, 4, 5] [1, 2, 4, 5] [] [] [] [(5, [.i x2.Code, .i x2.At])] [] [] (.cons (raft_fault_ok 11 0 x2 h1) .nil) ?_
        exact Wk_met (fs := [1, 2, 4, 5]) (bs := [1, 2, 4, 5]) (rs := []) (ms := []) (aa := []) (nv := []) (by first | (rw [← some_elim hF]; kernel_rfl) | kernel_rfl)
      · have hF := ite_f hF hb
        refine ZRs [] [1, 2, 4, 5, 19] [1, 2, 4, 5] [] [(19, .bool (decide (x.Term = 1000000000)))] .nil ?_
        refine Wk_split rfl (fun hb => ?_) (fun hb => ?_)
        · have hF := ite_t hF hb
          obtain ⟨x3, h2, hF⟩ := lt_split hF
          refine UR [.callB (.agg [.i x3.Code, .i x3.At])] [1, 2, 4, 5] [1, 2, 4, 5] [] [] [] [(5, [.i x3.Code, .i x3.At])] [] [] (.cons (raft_fault_ok 9 0 x3 h2) .nil) ?_
          exact Wk_met (fs := [1, 2, 4, 5]) (bs := [1, 2, 4, 5]) (rs := []) (ms := []) (aa := []) (nv := []) (by first | (rw [← some_elim hF]; kernel_rfl) | kernel_rfl)
        · have hF := ite_f hF hb
          refine Wk_skip ?_
          exact Wk_met (fs := [1, 2, 4, 5]) (bs := [1, 2, 4, 5]) (rs := []) (ms := []) (aa := []) (nv := []) (by first | (rw [← some_elim hF]; kernel_rfl) | kernel_rfl)
  · refine Wk_blk ?_
    refine Wk_seq ?_
    refine ZRs [] [1, 2, 4, 5, 26] [1, 2, 4, 5] [] [(26, .bool (!decide (v.Code = 0)))] .nil ?_
    refine Wk_split rfl (fun hb => ?_) (fun hb => ?_)
    · have hF := ite_t hF hb
      refine UDs [] [2, 3, 4] [2, 4] [] [] [(3, .nils)] [(4, [.i v.Code, .i v.At])] [] [] .nil ?_
      have hF := some_elim hF
      refine Wk_nilrowB 2 4 60000 31 2 rfl rfl rfl rfl rfl ?_
      refine Wk_nilrowB 2 8 60001 3 1 rfl rfl rfl rfl rfl ?_
      refine Wk_nilrowB 2 9 60002 3 1 rfl rfl rfl rfl rfl ?_
      refine Wk_nilrow 3 60003 62 9 rfl rfl rfl ?_
      refine Wk_ren' ⟨[], [(60000, 30), (60001, 63), (60002, 20063), (60003, 56)], [], []⟩ rfl ?_
      exact Wk_ret (hfin _ ⟨[30, 56, 63, 20063], [], [30, 56, 63, 20063], [], [], [(30, ⟨0, true, false, false⟩), (63, ⟨0, true, false, false⟩), (20063, ⟨0, true, false, false⟩)], by first | (rw [← hF]; kernel_rfl) | kernel_rfl⟩)
    · have hF := ite_f hF hb
      refine Wk_skip ?_
      refine Wk_seq ?_
      obtain ⟨x4, h3, hF⟩ := ob_elim hF
      refine UR [.callE [] [] [] [] (.ptr 30 0) ⟨[], [(30, [.i x4.1, .i x4.2.1, .i x4.2.2.1, .i x4.2.2.2.1, .row 30 0, .i x4.2.2.2.2.2.1, .i x4.2.2.2.2.2.2.1, .row 20030 0, .row 40030 0, .row 60030 0])], [(30, .o 31 2 0 (x4.2.2.2.2.1.map e_Entry)), (20030, .o 3 1 0 (x4.2.2.2.2.2.2.2.1.map e_i64)), (40030, .o 3 1 0 (x4.2.2.2.2.2.2.2.2.1.map e_i64)), (60030, .o 3 1 0 (x4.2.2.2.2.2.2.2.2.2.map e_i64))], [], []⟩] [1, 2, 4, 5, 6] [1, 2, 4, 5, 6, 30] [30, 20030, 40030, 60030] [] [(6, .ptr 6 0)] [(6, [.ptr 30 0]), (30, [.i x4.1, .i x4.2.1, .i x4.2.2.1, .i x4.2.2.2.1, .row 30 0, .i x4.2.2.2.2.2.1, .i x4.2.2.2.2.2.2.1, .row 20030 0, .row 40030 0, .row 60030 0])] [(30, .o 31 2 0 (x4.2.2.2.2.1.map e_Entry)), (20030, .o 3 1 0 (x4.2.2.2.2.2.2.2.1.map e_i64)), (40030, .o 3 1 0 (x4.2.2.2.2.2.2.2.2.1.map e_i64)), (60030, .o 3 1 0 (x4.2.2.2.2.2.2.2.2.2.map e_i64))] [] (.cons (Pe.ren (raft_own_ok x x4 h3) ⟨[(1, 30)], [(5, 30), (8, 20030), (11, 40030), (14, 60030)], [], []⟩) .nil) ?_
      refine Wk_seq ?_
      obtain ⟨x5, h4, hF⟩ := lt_split hF
      refine UR [.callE [30] [30, 20030, 40030, 60030] [] [] (.tup []) ⟨[], [(30, [.i x5.1, .i x5.2.1, .i x5.2.2.1, .i x5.2.2.2.1, .row 30 0, .i x5.2.2.2.2.1, .i x5.2.2.2.2.2, .nils, .nils, .nils])], [(30, .o 31 2 0 (x4.2.2.2.2.1.map e_Entry)), (20030, .o 3 1 0 (x4.2.2.2.2.2.2.2.1.map e_i64)), (40030, .o 3 1 0 (x4.2.2.2.2.2.2.2.2.1.map e_i64)), (60030, .o 3 1 0 (x4.2.2.2.2.2.2.2.2.2.map e_i64))], [], []⟩] [1, 2, 4, 5, 6] [1, 2, 4, 5, 6, 30] [30] [] [] [(30, [.i x5.1, .i x5.2.1, .i x5.2.2.1, .i x5.2.2.2.1, .row 30 0, .i x5.2.2.2.2.1, .i x5.2.2.2.2.2, .nils, .nils, .nils])] [] [] (.cons (Pe.ren (raft_follow_ok x4.1 x4.2.1 x4.2.2.1 x4.2.2.2.1 x4.2.2.2.2.2.1 x4.2.2.2.2.2.2.1 x4.2.2.2.2.1 x4.2.2.2.2.2.2.2.1 x4.2.2.2.2.2.2.2.2.1 x4.2.2.2.2.2.2.2.2.2 0 0 false 0 0 false 0 0 false 0 0 false x5 h4) ⟨[(100000, 30)], [(100000, 30), (100001, 20030), (100002, 40030), (100003, 60030)], [], []⟩) .nil) ?_
      refine UDs [.sealed] [2, 4, 5, 6] [2, 4, 5, 6, 30] [30] [] [] [(30, [.i x5.1, .i x5.2.1, .i (w64 (x.Term + 1)), .i (w64 (x.ID + 1)), .row 30 0, .i 1, .i x5.2.2.2.2.2, .sl 1 (([x.ID] : List Int).map e_i64), .nils, .nils])] [] [] .nil ?_
      refine Wk_seq ?_
      obtain ⟨x6, h5, hF⟩ := ob_elim hF
      refine UR [.callE [30, 6] [30] [] [] (.row 56 0) ⟨[], [(30, [.i x5.1, .i x5.2.1, .i (w64 (x.Term + 1)), .i (w64 (x.ID + 1)), .row 30 0, .i 1, .i x5.2.2.2.2.2, .sl 1 (([x.ID] : List Int).map e_i64), .nils, .nils]), (6, [.ptr 30 0])], [(30, .o 31 2 0 (x4.2.2.2.2.1.map e_Entry)), (56, .z 62 9 0 (x6.map e_Mail))], [], []⟩] [2, 4, 5, 6, 7] [2, 4, 5, 6, 30] [30, 56] [] [(7, .row 56 0)] [] [(56, .z 62 9 0 (x6.map e_Mail))] [] (.cons (Pe.ren (raft_others_ok x5.1 x5.2.1 (w64 (x.Term + 1)) (w64 (x.ID + 1)) 1 x5.2.2.2.2.2 ([x.ID] : List Int) x4.2.2.2.2.1 0 0 false x6 h5) ⟨[(100000, 30), (100001, 6)], [(100000, 30), (39, 56)], [], []⟩) .nil) ?_
      refine Wk_seq ?_
      refine Wk_seq ?_
      obtain ⟨x7, h6, hF⟩ := lt_split hF
      refine ZR [.callB (.bool x7)] [2, 4, 5, 6, 7, 61] [2, 4, 5, 6, 30] [30, 56] [(61, .bool x7)] (.cons (raft_most_ok 1 x5.1 x7 h6) .nil) ?_
      obtain ⟨v1, hv, hF⟩ := ob_elim hF
      refine Wk_meet (⟨[(2, .ptr 2 0), (4, .ptr 4 0), (5, .ptr 5 0), (6, .ptr 6 0), (7, .row 56 0)], [(2, [.i 0, .i 0, .i 0, .i 0, .nils, .i 0, .i 0, .nils, .nils, .nils]), (4, [.i 0, .i 0]), (5, [.i v.Code, .i v.At]), (6, [.ptr 30 0]), (30, [.i v1.1, .i v1.2.1, .i v1.2.2.1, .i v1.2.2.2.1, .row 30 0, .i v1.2.2.2.2.1, .i v1.2.2.2.2.2.1, .sl 1 (v1.2.2.2.2.2.2.1.map e_i64), .row 63 0, .row 20063 0])], [(30, .o 31 2 0 (x4.2.2.2.2.1.map e_Entry)), (56, .z 62 9 0 (x6.map e_Mail)), (63, .o 3 1 0 (v1.2.2.2.2.2.2.2.1.map e_i64)), (20063, .o 3 1 0 (v1.2.2.2.2.2.2.2.2.map e_i64))], [], []⟩ : S) ?_ ?_
      · have hF := hv
        refine Wk_split rfl (fun hb => ?_) (fun hb => ?_)
        · have hF := ite_t hF hb
          obtain ⟨x8, h7, hF⟩ := ob_elim hF
          refine UR [.callE [30] [30] [] [] (.tup []) ⟨[], [(30, [.i x8.1, .i x8.2.1, .i x8.2.2.1, .i x8.2.2.2.1, .row 30 0, .i x8.2.2.2.2.1, .i x8.2.2.2.2.2.1, .nils, .row 63 0, .row 20063 0])], [(30, .o 31 2 0 (x4.2.2.2.2.1.map e_Entry)), (63, .o 3 1 0 (x8.2.2.2.2.2.2.1.map e_i64)), (20063, .o 3 1 0 (x8.2.2.2.2.2.2.2.map e_i64))], [], []⟩] [2, 4, 5, 6, 7] [2, 4, 5, 6, 30] [30, 56, 63, 20063] [] [] [(30, [.i x8.1, .i x8.2.1, .i x8.2.2.1, .i x8.2.2.2.1, .row 30 0, .i x8.2.2.2.2.1, .i x8.2.2.2.2.2.1, .nils, .row 63 0, .row 20063 0])] [(63, .o 3 1 0 (x8.2.2.2.2.2.2.1.map e_i64)), (20063, .o 3 1 0 (x8.2.2.2.2.2.2.2.map e_i64))] [] (.cons (Pe.ren (raft_lead_ok x5.1 x5.2.1 (w64 (x.Term + 1)) (w64 (x.ID + 1)) 1 x5.2.2.2.2.2 ([x.ID] : List Int) x4.2.2.2.2.1 0 0 false x8 h7) ⟨[(100000, 30)], [(100000, 30), (18, 63), (23, 20063)], [], []⟩) .nil) ?_
          refine Wk_coeB 30 [.i x8.1, .i x8.2.1, .i x8.2.2.1, .i x8.2.2.2.1, .row 30 0, .i x8.2.2.2.2.1, .i x8.2.2.2.2.2.1, .sl 1 (([] : List Int).map e_i64), .row 63 0, .row 20063 0] rfl (.cons (CoeS.refl _) (.cons (CoeS.refl _) (.cons (CoeS.refl _) (.cons (CoeS.refl _) (.cons (CoeS.refl _) (.cons (CoeS.refl _) (.cons (CoeS.refl _) (.cons (CoeS.nils 1) (.cons (CoeS.refl _) (.cons (CoeS.refl _) .nil)))))))))) ?_
          exact Wk_met (fs := [2, 4, 5, 6, 7]) (bs := [2, 4, 5, 6, 30]) (rs := [30, 56, 63, 20063]) (ms := []) (aa := []) (nv := []) (by first | (rw [← some_elim hF]; kernel_rfl) | kernel_rfl)
        · have hF := ite_f hF hb
          refine Wk_skip ?_
          refine Wk_nilrowB 30 8 60004 3 1 rfl rfl rfl rfl rfl ?_
          refine Wk_nilrowB 30 9 60005 3 1 rfl rfl rfl rfl rfl ?_
          refine Wk_trim (fs := [2, 4, 5, 6, 7]) (bs := [2, 4, 5, 6, 30]) (rs := [30, 56, 60004, 60005]) (ms := []) (aa := []) (nv := []) rfl ?_
          refine Wk_ren' ⟨[], [(60004, 63), (60005, 20063)], [], []⟩ rfl ?_
          exact Wk_met (fs := [2, 4, 5, 6, 7]) (bs := [2, 4, 5, 6, 30]) (rs := [30, 56, 63, 20063]) (ms := []) (aa := []) (nv := [(63, ⟨0, true, false, false⟩), (20063, ⟨0, true, false, false⟩)]) (by first | (rw [← some_elim hF]; kernel_rfl) | kernel_rfl)
      · refine UDs [] [2, 3, 4] [2, 4] [30, 56, 63, 20063] [] [(3, .row 56 0)] [(2, [.i v1.1, .i v1.2.1, .i v1.2.2.1, .i v1.2.2.2.1, .row 30 0, .i v1.2.2.2.2.1, .i v1.2.2.2.2.2.1, .sl 1 (v1.2.2.2.2.2.2.1.map e_i64), .row 63 0, .row 20063 0]), (4, [.i v.Code, .i v.At])] [] [] .nil ?_
        have hF := some_elim hF
        exact Wk_ret (hfin _ ⟨[30, 56, 63, 20063], [], [30, 56, 63, 20063], [], [], [], by first | (rw [← hF]; kernel_rfl) | kernel_rfl⟩)

/- raft.count -/
noncomputable def raft_count_v1_J1 (box : Int) (box1 : Int) (box2 : Int) (box3 : Int) (box4 : Int) (v : Int) : Option (Int × Int × Int × Int × Int × Int) :=
  some (box, box1, box2, box3, box4, v)
noncomputable def raft_count_v1_J2 (box : Int) (box2 : Int) (row : List Entry) (v1 : Int × Int) (v2 : Int) : Option ((Int × Int) ⊕ (Int × Int × Int × Int × Int × Int)) :=
  lt (raft_most v2 box) fun x =>
  ob (if x = true then (entry_TermAt row v1.2) else some default) fun x1 =>
  ob (
    if (x && (decide (x1 = box2))) = true then
      some v1.2
    else
      some v1.1) fun (v3 : Int) =>
  some (Sum.inl (v3, w64 (v1.2 - 1)))
noncomputable def raft_count_v1_B2 (box : Int) (box2 : Int) (row : List Entry) (row3 : List Int) (v1 : Int × Int) (v4 : Int × Int) : Option ((Int × Int) ⊕ ((Int × Int) ⊕ (Int × Int × Int × Int × Int × Int))) :=
  if (decide (v4.2 < (row3.length : Int))) = true then
    asrt (0 ≤ v4.2 ∧ v4.2 < (row3.length : Int)) <|
    asrt (0 ≤ v4.2 ∧ v4.2 < (row3.length : Int)) <|
    ob (
      if (decide (v1.2 ≤ (lget row3 v4.2))) = true then
        some (w64 (v4.1 + 1))
      else
        some v4.1) fun (v5 : Int) =>
    some (Sum.inl (v5, w64 (v4.2 + 1)))
  else
    inrO (raft_count_v1_J2 box box2 row v1 v4.1)
noncomputable def raft_count_v1_L2 (box : Int) (box2 : Int) (row : List Entry) (row3 : List Int) (v1 : Int × Int) (v0 : Int × Int) : Option ((Int × Int) ⊕ (Int × Int × Int × Int × Int × Int)) :=
  loopO (fun y => raft_count_v1_B2 box box2 row row3 v1 y) v0
noncomputable def raft_count_v1_B1 (box : Int) (box1 : Int) (box2 : Int) (box3 : Int) (box4 : Int) (row : List Entry) (row3 : List Int) (v1 : Int × Int) : Option ((Int × Int) ⊕ (Int × Int × Int × Int × Int × Int)) :=
  if (decide (v1.1 < v1.2)) = true then
    raft_count_v1_L2 box box2 row row3 v1 (0, 0)
  else
    inrO (raft_count_v1_J1 box box1 box2 box3 box4 v1.1)
noncomputable def raft_count_v1_L1 (box : Int) (box1 : Int) (box2 : Int) (box3 : Int) (box4 : Int) (row : List Entry) (row3 : List Int) (v0 : Int × Int) : Option (Int × Int × Int × Int × Int × Int) :=
  loopO (fun y => raft_count_v1_B1 box box1 box2 box3 box4 row row3 y) v0
noncomputable def raft_count_v1 (box : Int) (box1 : Int) (box2 : Int) (box3 : Int) (box4 : Int) (box5 : Int) (row : List Entry) (row1 : List Int) (row2 : List Int) (row3 : List Int) : Option (Int × Int × Int × Int × Int × Int) :=
  raft_count_v1_L1 box box1 box2 box3 box4 row row3 (box5, (row.length : Int))
theorem raft_count_v1_ok (box : Int) (box1 : Int) (box2 : Int) (box3 : Int) (box4 : Int) (box5 : Int) (row : List Entry) (row1 : List Int) (row2 : List Int) (row3 : List Int) (rk : Nat) (rc : Nat) (rn : Bool) (rk1 : Nat) (rc1 : Nat) (rn1 : Bool) (rk2 : Nat) (rc2 : Nat) (rn2 : Bool) (rk3 : Nat) (rc3 : Nat) (rn3 : Bool) (r : Int × Int × Int × Int × Int × Int) (hF : raft_count_v1 box box1 box2 box3 box4 box5 row row1 row2 row3 = some r) : Pe Try.prog 69 ⟨[], [(100000, [.i box, .i box1, .i box2, .i box3, .row 100000 0, .i box4, .i box5, .row 100001 0, .row 100002 0, .row 100003 0])], [(100000, ⟨31, 2, 0, rk, rc, rn, 0, [], (row.map e_Entry)⟩), (100001, ⟨3, 1, 0, rk1, rc1, rn1, 0, [], (row1.map e_i64)⟩), (100002, ⟨3, 1, 0, rk2, rc2, rn2, 0, [], (row2.map e_i64)⟩), (100003, ⟨3, 1, 0, rk3, rc3, rn3, 0, [], (row3.map e_i64)⟩)], [], []⟩ [.ptr 100000 0] (.tup []) ⟨[], [(100000, [.i r.1, .i r.2.1, .i r.2.2.1, .i r.2.2.2.1, .row 100000 0, .i r.2.2.2.2.1, .i r.2.2.2.2.2, .row 100001 0, .row 100002 0, .row 100003 0])], [(100000, ⟨31, 2, 0, rk, rc, rn, 0, [], (row.map e_Entry)⟩), (100001, ⟨3, 1, 0, rk1, rc1, rn1, 0, [], (row1.map e_i64)⟩), (100002, ⟨3, 1, 0, rk2, rc2, rn2, 0, [], (row2.map e_i64)⟩), (100003, ⟨3, 1, 0, rk3, rc3, rn3, 0, [], (row3.map e_i64)⟩)], [], []⟩ := by
  refine Pe_of (N := 57) (res := []) (ts := []) Ty.ok Fn.b69 Try.func69 rfl rfl rfl rfl rfl rfl ?_
  intro Q g hfin
  unfold raft_count_v1 at hF
  refine ZRs [.nat (row.length : Int)] [0, 2] [100000] [100000, 100001, 100002, 100003] [(2, .i (row.length : Int))] (.cons (len_ok e_Entry row) .nil) ?_
  refine Wk_meetP (fun v : Int => (⟨[], [(100000, [.i box, .i box1, .i box2, .i box3, .row 100000 0, .i box4, .i v, .row 100001 0, .row 100002 0, .row 100003 0])], [(100000, ⟨31, 2, 0, rk, rc, rn, 0, [], (row.map e_Entry)⟩), (100001, ⟨3, 1, 0, rk1, rc1, rn1, 0, [], (row1.map e_i64)⟩), (100002, ⟨3, 1, 0, rk2, rc2, rn2, 0, [], (row2.map e_i64)⟩), (100003, ⟨3, 1, 0, rk3, rc3, rn3, 0, [], (row3.map e_i64)⟩)], [], []⟩ : S)) (fun v => raft_count_v1_J1 box box1 box2 box3 box4 v = some r) ?_ ?_
  · refine Wk_block ?_
    unfold raft_count_v1_L1 at hF
    refine Wk_trim (fs := [0, 2]) (bs := [100000]) (rs := [100000, 100001, 100002, 100003]) (ms := []) (aa := []) (nv := []) (t := (fun v1 : Int × Int => (⟨[(0, .ptr 100000 0), (2, .i v1.2)], [(100000, [.i box, .i box1, .i box2, .i box3, .row 100000 0, .i box4, .i v1.1, .row 100001 0, .row 100002 0, .row 100003 0])], [(100000, ⟨31, 2, 0, rk, rc, rn, 0, [], (row.map e_Entry)⟩), (100001, ⟨3, 1, 0, rk1, rc1, rn1, 0, [], (row1.map e_i64)⟩), (100002, ⟨3, 1, 0, rk2, rc2, rn2, 0, [], (row2.map e_i64)⟩), (100003, ⟨3, 1, 0, rk3, rc3, rn3, 0, [], (row3.map e_i64)⟩)], [], []⟩ : S)) (box5, (row.length : Int))) (by kernel_rfl) ?_
    refine Wk_iter (step := fun y => raft_count_v1_B1 box box1 box2 box3 box4 row row3 y) (r := r) (fun v1 : Int × Int => (⟨[(0, .ptr 100000 0), (2, .i v1.2)], [(100000, [.i box, .i box1, .i box2, .i box3, .row 100000 0, .i box4, .i v1.1, .row 100001 0, .row 100002 0, .row 100003 0])], [(100000, ⟨31, 2, 0, rk, rc, rn, 0, [], (row.map e_Entry)⟩), (100001, ⟨3, 1, 0, rk1, rc1, rn1, 0, [], (row1.map e_i64)⟩), (100002, ⟨3, 1, 0, rk2, rc2, rn2, 0, [], (row2.map e_i64)⟩), (100003, ⟨3, 1, 0, rk3, rc3, rn3, 0, [], (row3.map e_i64)⟩)], [], []⟩ : S)) (box5, (row.length : Int)) hF ?_
    intro n1 v1 y1 hF ih1 dn1
    have hF : raft_count_v1_B1 box box1 box2 box3 box4 row row3 v1 = some y1 := hF
    unfold raft_count_v1_B1 at hF
    refine Wk_seq ?_
    refine ZRs [] [0, 2, 16] [100000] [100000, 100001, 100002, 100003] [(16, .bool (decide (v1.1 < v1.2)))] .nil ?_
    refine Wk_split rfl (fun hb => ?_) (fun hb => ?_)
    · have hF := ite_t hF hb
      refine Wk_skip ?_
      refine Wk_seq ?_
      refine Wk_block ?_
      refine ZRs [] [0, 2, 3] [100000] [100000, 100001, 100002, 100003] [(3, .i 0)] .nil ?_
      refine Wk_seq ?_
      refine ZRs [.nat (row3.length : Int)] [0, 2, 3, 22, 23, 24] [100000] [100000, 100001, 100002, 100003] [(22, .row 100003 0), (23, .i (row3.length : Int)), (24, .i 0)] (.cons (len_ok e_i64 row3) .nil) ?_
      refine Wk_meetP (fun v2 : Int => (⟨[(0, .ptr 100000 0), (2, .i v1.2), (3, .i v2)], [(100000, [.i box, .i box1, .i box2, .i box3, .row 100000 0, .i box4, .i v1.1, .row 100001 0, .row 100002 0, .row 100003 0])], [(100000, ⟨31, 2, 0, rk, rc, rn, 0, [], (row.map e_Entry)⟩), (100001, ⟨3, 1, 0, rk1, rc1, rn1, 0, [], (row1.map e_i64)⟩), (100002, ⟨3, 1, 0, rk2, rc2, rn2, 0, [], (row2.map e_i64)⟩), (100003, ⟨3, 1, 0, rk3, rc3, rn3, 0, [], (row3.map e_i64)⟩)], [], []⟩ : S)) (fun v2 => raft_count_v1_J2 box box2 row v1 v2 = some y1) ?_ ?_
      · refine Wk_block ?_
        unfold raft_count_v1_L2 at hF
        refine Wk_trim (fs := [0, 2, 3, 22, 23, 24]) (bs := [100000]) (rs := [100000, 100001, 100002, 100003]) (ms := []) (aa := []) (nv := []) (t := (fun v4 : Int × Int => (⟨[(0, .ptr 100000 0), (2, .i v1.2), (3, .i v4.1), (22, .row 100003 0), (23, .i (row3.length : Int)), (24, .i v4.2)], [(100000, [.i box, .i box1, .i box2, .i box3, .row 100000 0, .i box4, .i v1.1, .row 100001 0, .row 100002 0, .row 100003 0])], [(100000, ⟨31, 2, 0, rk, rc, rn, 0, [], (row.map e_Entry)⟩), (100001, ⟨3, 1, 0, rk1, rc1, rn1, 0, [], (row1.map e_i64)⟩), (100002, ⟨3, 1, 0, rk2, rc2, rn2, 0, [], (row2.map e_i64)⟩), (100003, ⟨3, 1, 0, rk3, rc3, rn3, 0, [], (row3.map e_i64)⟩)], [], []⟩ : S)) (0, 0)) (by kernel_rfl) ?_
        refine Wk_iter (step := fun y => raft_count_v1_B2 box box2 row row3 v1 y) (r := y1) (fun v4 : Int × Int => (⟨[(0, .ptr 100000 0), (2, .i v1.2), (3, .i v4.1), (22, .row 100003 0), (23, .i (row3.length : Int)), (24, .i v4.2)], [(100000, [.i box, .i box1, .i box2, .i box3, .row 100000 0, .i box4, .i v1.1, .row 100001 0, .row 100002 0, .row 100003 0])], [(100000, ⟨31, 2, 0, rk, rc, rn, 0, [], (row.map e_Entry)⟩), (100001, ⟨3, 1, 0, rk1, rc1, rn1, 0, [], (row1.map e_i64)⟩), (100002, ⟨3, 1, 0, rk2, rc2, rn2, 0, [], (row2.map e_i64)⟩), (100003, ⟨3, 1, 0, rk3, rc3, rn3, 0, [], (row3.map e_i64)⟩)], [], []⟩ : S)) (0, 0) hF ?_
        intro n2 v4 y2 hF ih2 dn2
        have hF : raft_count_v1_B2 box box2 row row3 v1 v4 = some y2 := hF
        unfold raft_count_v1_B2 at hF
        refine ZRs [] [0, 2, 3, 22, 23, 24, 25] [100000] [100000, 100001, 100002, 100003] [(25, .bool (decide (v4.2 < (row3.length : Int))))] .nil ?_
        refine Wk_seq ?_
        refine Wk_split rfl (fun hb => ?_) (fun hb => ?_)
        · have hF := ite_t hF hb
          refine Wk_skip ?_
          refine Wk_seq ?_
          refine Wk_block ?_
          refine Wk_seq ?_
          obtain ⟨h2, hF⟩ := asrt_elim hF
          obtain ⟨h3, hF⟩ := asrt_elim hF
          refine ZR [.av (e_i64 (lget row3 v4.2))] [0, 2, 3, 5, 22, 23, 24] [100000] [100000, 100001, 100002, 100003] [(5, .i (lget row3 v4.2))] (.cons (ixr_ok e_i64 h2) (.cons (ldr_ok e_i64 h3) .nil)) ?_
          refine ZRs [] [0, 2, 3, 22, 23, 24, 30] [100000] [100000, 100001, 100002, 100003] [(30, .bool (decide (v1.2 ≤ (lget row3 v4.2))))] .nil ?_
          obtain ⟨v5, hv, hF⟩ := ob_elim hF
          refine Wk_meet (⟨[(0, .ptr 100000 0), (2, .i v1.2), (3, .i v5), (22, .row 100003 0), (23, .i (row3.length : Int)), (24, .i v4.2)], [(100000, [.i box, .i box1, .i box2, .i box3, .row 100000 0, .i box4, .i v1.1, .row 100001 0, .row 100002 0, .row 100003 0])], [(100000, ⟨31, 2, 0, rk, rc, rn, 0, [], (row.map e_Entry)⟩), (100001, ⟨3, 1, 0, rk1, rc1, rn1, 0, [], (row1.map e_i64)⟩), (100002, ⟨3, 1, 0, rk2, rc2, rn2, 0, [], (row2.map e_i64)⟩), (100003, ⟨3, 1, 0, rk3, rc3, rn3, 0, [], (row3.map e_i64)⟩)], [], []⟩ : S) ?_ ?_
          · have hF := hv
            refine Wk_split rfl (fun hb => ?_) (fun hb => ?_)
            · have hF := ite_t hF hb
              refine ZR [] [0, 2, 3, 22, 23, 24] [100000] [100000, 100001, 100002, 100003] [(3, .i (w64 (v4.1 + 1)))] .nil ?_
              exact Wk_met (fs := [0, 2, 3, 22, 23, 24]) (bs := [100000]) (rs := [100000, 100001, 100002, 100003]) (ms := []) (aa := []) (nv := []) (by first | (rw [← some_elim hF]; kernel_rfl) | kernel_rfl)
            · have hF := ite_f hF hb
              refine Wk_skip ?_
              exact Wk_met (fs := [0, 2, 3, 22, 23, 24]) (bs := [100000]) (rs := [100000, 100001, 100002, 100003]) (ms := []) (aa := []) (nv := []) (by first | (rw [← some_elim hF]; kernel_rfl) | kernel_rfl)
          · refine Wk_blk ?_
            refine ZR [] [0, 2, 3, 22, 23, 24] [100000] [100000, 100001, 100002, 100003] [(24, .i (w64 (v4.2 + 1)))] .nil ?_
            refine Wk_trim (fs := [0, 2, 3, 22, 23, 24]) (bs := [100000]) (rs := [100000, 100001, 100002, 100003]) (ms := []) (aa := []) (nv := []) ?_ (ih2 _ (some_elim hF).symm)
            kernel_rfl
        · have hF := ite_f hF hb
          refine Wk_exit rfl ?_
          have hF := inrO_done hF dn2
          exact Wk_metP v4.1 [0, 2, 3] [100000] [100000, 100001, 100002, 100003] [] [] [] hF (by kernel_rfl)
      · intro v2 hF
        have hF : raft_count_v1_J2 box box2 row v1 v2 = some y1 := hF
        unfold raft_count_v1_J2 at hF
        refine Wk_seq ?_
        obtain ⟨x, h0, hF⟩ := lt_split hF
        obtain ⟨x1, h1, hF⟩ := ob_elim hF
        refine ZD [.callB (.bool x), .callB (.i x1)] [0, 2, 52] [100000] [100000, 100001, 100002, 100003] [(52, .bool (x && (decide (x1 = box2))))] (.cons (raft_most_ok v2 box x h0) (.cons (fun (ga0 : x = true) => (entry_TermAt_ok row v1.2 x1 (ite_t h1 ga0))) .nil)) ?_
        obtain ⟨v3, hv, hF⟩ := ob_elim hF
        refine Wk_meet (⟨[(0, .ptr 100000 0), (2, .i v1.2)], [(100000, [.i box, .i box1, .i box2, .i box3, .row 100000 0, .i box4, .i v3, .row 100001 0, .row 100002 0, .row 100003 0])], [(100000, ⟨31, 2, 0, rk, rc, rn, 0, [], (row.map e_Entry)⟩), (100001, ⟨3, 1, 0, rk1, rc1, rn1, 0, [], (row1.map e_i64)⟩), (100002, ⟨3, 1, 0, rk2, rc2, rn2, 0, [], (row2.map e_i64)⟩), (100003, ⟨3, 1, 0, rk3, rc3, rn3, 0, [], (row3.map e_i64)⟩)], [], []⟩ : S) ?_ ?_
        · have hF := hv
          refine Wk_split rfl (fun hb => ?_) (fun hb => ?_)
          · have hF := ite_t hF hb
            refine UR [] [0, 2] [100000] [100000, 100001, 100002, 100003] [] [] [(100000, [.i box, .i box1, .i box2, .i box3, .row 100000 0, .i box4, .i v1.2, .row 100001 0, .row 100002 0, .row 100003 0])] [] [] .nil ?_
            exact Wk_met (fs := [0, 2]) (bs := [100000]) (rs := [100000, 100001, 100002, 100003]) (ms := []) (aa := []) (nv := []) (by first | (rw [← some_elim hF]; kernel_rfl) | kernel_rfl)
          · have hF := ite_f hF hb
            refine Wk_skip ?_
            exact Wk_met (fs := [0, 2]) (bs := [100000]) (rs := [100000, 100001, 100002, 100003]) (ms := []) (aa := []) (nv := []) (by first | (rw [← some_elim hF]; kernel_rfl) | kernel_rfl)
        · refine Wk_blk ?_
          refine ZR [] [0, 2] [100000] [100000, 100001, 100002, 100003] [(2, .i (w64 (v1.2 - 1)))] .nil ?_
          refine Wk_trim (fs := [0, 2]) (bs := [100000]) (rs := [100000, 100001, 100002, 100003]) (ms := []) (aa := []) (nv := []) ?_ (ih1 _ (some_elim hF).symm)
          kernel_rfl
    · have hF := ite_f hF hb
      refine Wk_exit rfl ?_
      have hF := inrO_done hF dn1
      exact Wk_metP v1.1 [] [100000] [100000, 100001, 100002, 100003] [] [] [] hF (by kernel_rfl)
  · intro v hF
    have hF : raft_count_v1_J1 box box1 box2 box3 box4 v = some r := hF
    unfold raft_count_v1_J1 at hF
    have hF := some_elim hF
    exact Wk_end (hfin _ ⟨[100000, 100001, 100002, 100003], [100000], [100000, 100001, 100002, 100003], [], [], [], by first | (rw [← hF]; kernel_rfl) | kernel_rfl⟩)

end G
end Go.Proofs.Ytcnngkigpfpalaa
