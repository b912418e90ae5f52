/- The program's functions as plain functions, and that they are these. Written by a program (dec2.py). -/
import Derived.Test.YtcnngkigpfpalaaGf2
namespace Go.Proofs.Ytcnngkigpfpalaa
open Go Go.Dm
set_option linter.unusedVariables false
set_option linter.unusedSimpArgs false
set_option maxRecDepth 100000
namespace G
/- tabularyref.Beats -/
noncomputable def R_Beats_J1 (v : List Mail) : Option (List Mail) :=
  some v
noncomputable def R_Beats_B1 (x : Node) (v1 : List Mail × Int) : Option ((List Mail × Int) ⊕ (List Mail)) :=
  if (decide (v1.2 < x.N)) = true then
    ob (
      if (decide (v1.2 = x.ID)) = true then
        some v1.1
      else
        asrt (0 ≤ v1.2 ∧ v1.2 < (x.Next.length : Int)) <|
        ob (
          if (decide ((x.Log.length : Int) < (w64 ((w64 ((lget x.Next v1.2) - 1)) + 5)))) = true then
            some (x.Log.length : Int)
          else
            some (w64 ((w64 ((lget x.Next v1.2) - 1)) + 5))) fun (v3 : Int) =>
        asrt (0 ≤ w64 ((lget x.Next v1.2) - 1) ∧ w64 ((lget x.Next v1.2) - 1) ≤ (x.Log.length : Int)) <|
        ob (R_LastTerm (ltake x.Log (w64 ((lget x.Next v1.2) - 1)))) fun x1 =>
        asrt (0 ≤ w64 ((lget x.Next v1.2) - 1) ∧ w64 ((lget x.Next v1.2) - 1) ≤ v3 ∧ v3 ≤ (x.Log.length : Int)) <|
        ob (R_CopyLog (ldrop (ltake x.Log v3) (w64 ((lget x.Next v1.2) - 1)))) fun x2 =>
        asrt (((v1.1 ++ [(⟨3, x.ID, v1.2, x.Term, w64 ((lget x.Next v1.2) - 1), x1, x.Commit, x2, false⟩ : Mail)]).length : Int) * 88 ≤ 140737488351232) <|
        lt ((v1.1 ++ [(⟨3, x.ID, v1.2, x.Term, w64 ((lget x.Next v1.2) - 1), x1, x.Commit, x2, false⟩ : Mail)])) fun (v4 : List Mail) =>
        some v4) fun (v2 : List Mail) =>
    some (Sum.inl (v2, w64 (v1.2 + 1)))
  else
    inrO (R_Beats_J1 v1.1)
noncomputable def R_Beats_L1 (x : Node) (v0 : List Mail × Int) : Option (List Mail) :=
  loopO (fun y => R_Beats_B1 x y) v0
noncomputable def R_Beats (x : Node) : Option (List Mail) :=
  R_Beats_L1 x (([] : List Mail), 0)
theorem R_Beats_ok (x : Node) (r : List Mail) (hF : R_Beats x = some r) : Pe Try.prog 77 ⟨[], [], [], [], []⟩ [.agg (c_Node x)] (.row 55 0) ⟨[], [], [(55, ⟨62, 9, 0, 0, 0, true, 0, [], (r.map e_Mail)⟩)], [], []⟩ := by
  refine Pe_of (N := 57) (res := [.tmp 2]) (ts := [50]) Ty.ok Fn.b77 Try.func77 rfl rfl rfl rfl rfl rfl ?_
  intro Q g hfin
  unfold R_Beats at hF
  refine Wk_seq ?_
  refine WR [] [1] [1] [] [] [] [] ⟨[(1, .ptr 1 0)], [(1, (c_Node x))], [], [], []⟩ .nil (by kernel_rfl) ?_
  refine Wk_seq ?_
  refine WR [] [1, 3] [1] [] [] [] [] ⟨[(1, .ptr 1 0), (3, .nils)], [(1, (c_Node x))], [], [], []⟩ .nil (by kernel_rfl) ?_
  refine Wk_seq ?_
  refine Wk_seq ?_
  refine WR [] [1, 3, 4] [1] [] [] [] [] ⟨[(1, .ptr 1 0), (3, .nils), (4, .int .i64 0)], [(1, (c_Node x))], [], [], []⟩ .nil (by kernel_rfl) ?_
  refine Wk_meetP (fun v : List Mail => (⟨[(3, .row 55 0)], [], [(55, ⟨62, 9, 0, 0, 0, true, 0, [], (v.map e_Mail)⟩)], [], []⟩ : S)) (fun v => R_Beats_J1 v = some r) ?_ ?_
  · refine Wk_block ?_
    unfold R_Beats_L1 at hF
    refine Wk_nilrow 3 60000 62 9 rfl rfl rfl ?_
    refine Wk_trim (fs := [1, 3, 4]) (bs := [1]) (rs := [60000]) (ms := []) (aa := []) (nv := []) rfl ?_
    refine Wk_ren' ⟨[], [(60000, 55)], [], []⟩ rfl ?_
    refine Wk_trim (fs := [1, 3, 4]) (bs := [1]) (rs := [55]) (ms := []) (aa := []) (nv := []) (t := (fun v1 : List Mail × Int => (⟨[(1, .ptr 1 0), (3, .row 55 0), (4, .int .i64 v1.2)], [(1, (c_Node x))], [(55, ⟨62, 9, 0, 0, 0, true, 0, [], (v1.1.map e_Mail)⟩)], [], []⟩ : S)) (([] : List Mail), 0)) (by kernel_rfl) ?_
    refine Wk_iter (step := fun y => R_Beats_B1 x y) (r := r) (fun v1 : List Mail × Int => (⟨[(1, .ptr 1 0), (3, .row 55 0), (4, .int .i64 v1.2)], [(1, (c_Node x))], [(55, ⟨62, 9, 0, 0, 0, true, 0, [], (v1.1.map e_Mail)⟩)], [], []⟩ : S)) (([] : List Mail), 0) hF ?_
    intro n1 v1 y1 hF ih1 dn1
    have hF : R_Beats_B1 x v1 = some y1 := hF
    unfold R_Beats_B1 at hF
    refine Wk_seq ?_
    refine Wk_seq ?_
    refine WR [] [1, 3, 4, 10] [1] [55] [] [] [] ⟨[(1, .ptr 1 0), (3, .row 55 0), (4, .int .i64 v1.2), (10, .bool (decide (v1.2 < x.N)))], [(1, (c_Node x))], [(55, ⟨62, 9, 0, 0, 0, true, 0, [], (v1.1.map e_Mail)⟩)], [], []⟩ .nil (by kernel_rfl) ?_
    refine Wk_split rfl (fun hb => ?_) (fun hb => ?_)
    · have hF := ite_t hF hb
      refine Wk_skip ?_
      refine Wk_seq ?_
      obtain ⟨v2, hv, hF⟩ := ob_elim hF
      refine Wk_meet (⟨[(1, .ptr 1 0), (3, .row 55 0), (4, .int .i64 v1.2)], [(1, (c_Node x))], [(55, ⟨62, 9, 0, 0, 0, true, 0, [], (v2.map e_Mail)⟩)], [], []⟩ : S) ?_ ?_
      · have hF := hv
        refine Wk_block ?_
        refine Wk_seq ?_
        refine Wk_seq ?_
        refine WR [] [1, 3, 4, 16] [1] [55] [] [] [] ⟨[(1, .ptr 1 0), (3, .row 55 0), (4, .int .i64 v1.2), (16, .bool (decide (v1.2 = x.ID)))], [(1, (c_Node x))], [(55, ⟨62, 9, 0, 0, 0, true, 0, [], (v1.1.map e_Mail)⟩)], [], []⟩ .nil (by kernel_rfl) ?_
        refine Wk_split rfl (fun hb => ?_) (fun hb => ?_)
        · have hF := ite_t hF hb
          refine Wk_exit rfl ?_
          exact Wk_met (fs := [1, 3, 4]) (bs := [1]) (rs := [55]) (ms := []) (aa := []) (nv := []) (by first | (rw [← some_elim hF]; kernel_rfl) | kernel_rfl)
        · have hF := ite_f hF hb
          refine Wk_skip ?_
          refine Wk_seq ?_
          obtain ⟨h0, hF⟩ := asrt_elim hF
          refine WR [.av (e_i64 (lget x.Next v1.2))] [1, 3, 4, 5] [1] [55] [] [] [] ⟨[(1, .ptr 1 0), (3, .row 55 0), (4, .int .i64 v1.2), (5, .int .i64 (w64 ((lget x.Next v1.2) - 1)))], [(1, (c_Node x))], [(55, ⟨62, 9, 0, 0, 0, true, 0, [], (v1.1.map e_Mail)⟩)], [], []⟩ (.cons (idx_ok e_i64 h0) .nil) (by kernel_rfl) ?_
          refine Wk_seq ?_
          refine WR [] [1, 3, 4, 5, 6] [1] [55] [] [] [] ⟨[(1, .ptr 1 0), (3, .row 55 0), (4, .int .i64 v1.2), (5, .int .i64 (w64 ((lget x.Next v1.2) - 1))), (6, .int .i64 (w64 ((w64 ((lget x.Next v1.2) - 1)) + 5)))], [(1, (c_Node x))], [(55, ⟨62, 9, 0, 0, 0, true, 0, [], (v1.1.map e_Mail)⟩)], [], []⟩ .nil (by kernel_rfl) ?_
          refine Wk_seq ?_
          refine Wk_seq ?_
          refine WR [.nat (x.Log.length : Int)] [1, 3, 4, 5, 6, 29] [1] [55] [] [] [] ⟨[(1, .ptr 1 0), (3, .row 55 0), (4, .int .i64 v1.2), (5, .int .i64 (w64 ((lget x.Next v1.2) - 1))), (6, .int .i64 (w64 ((w64 ((lget x.Next v1.2) - 1)) + 5))), (29, .bool (decide ((x.Log.length : Int) < (w64 ((w64 ((lget x.Next v1.2) - 1)) + 5)))))], [(1, (c_Node x))], [(55, ⟨62, 9, 0, 0, 0, true, 0, [], (v1.1.map e_Mail)⟩)], [], []⟩ (.cons (len_ok e_Entry x.Log) .nil) (by kernel_rfl) ?_
          obtain ⟨v3, hv, hF⟩ := ob_elim hF
          refine Wk_meet (⟨[(1, .ptr 1 0), (3, .row 55 0), (4, .int .i64 v1.2), (5, .int .i64 (w64 ((lget x.Next v1.2) - 1))), (6, .int .i64 v3)], [(1, (c_Node x))], [(55, ⟨62, 9, 0, 0, 0, true, 0, [], (v1.1.map e_Mail)⟩)], [], []⟩ : S) ?_ ?_
          · have hF := hv
            refine Wk_split rfl (fun hb => ?_) (fun hb => ?_)
            · have hF := ite_t hF hb
              refine WR [.nat (x.Log.length : Int)] [1, 3, 4, 5, 6] [1] [55] [] [] [] ⟨[(1, .ptr 1 0), (3, .row 55 0), (4, .int .i64 v1.2), (5, .int .i64 (w64 ((lget x.Next v1.2) - 1))), (6, .int .i64 (x.Log.length : Int))], [(1, (c_Node x))], [(55, ⟨62, 9, 0, 0, 0, true, 0, [], (v1.1.map e_Mail)⟩)], [], []⟩ (.cons (len_ok e_Entry x.Log) .nil) (by kernel_rfl) ?_
              exact Wk_met (fs := [1, 3, 4, 5, 6]) (bs := [1]) (rs := [55]) (ms := []) (aa := []) (nv := []) (by first | (rw [← some_elim hF]; kernel_rfl) | kernel_rfl)
            · have hF := ite_f hF hb
              refine Wk_skip ?_
              exact Wk_met (fs := [1, 3, 4, 5, 6]) (bs := [1]) (rs := [55]) (ms := []) (aa := []) (nv := []) (by first | (rw [← some_elim hF]; kernel_rfl) | kernel_rfl)
          · obtain ⟨h1, hF⟩ := asrt_elim hF
            obtain ⟨x1, h2, hF⟩ := ob_elim hF
            obtain ⟨h3, hF⟩ := asrt_elim hF
            obtain ⟨x2, h4, hF⟩ := ob_elim hF
            obtain ⟨h5, hF⟩ := asrt_elim hF
            refine WDL ((v1.1 ++ [(⟨3, x.ID, v1.2, x.Term, w64 ((lget x.Next v1.2) - 1), x1, x.Commit, x2, false⟩ : Mail)])) (fun v4 : List Mail => ⟨[(1, .ptr 1 0), (3, .row 55 1), (4, .int .i64 v1.2)], [(1, (c_Node x))], [(55, ⟨62, 9, 1, 0, 0, true, 0, [], (v4.map e_Mail)⟩)], [], []⟩) [.xs ((ltake x.Log (w64 ((lget x.Next v1.2) - 1))).map e_Entry), .callB (.int .i64 x1), .xs ((ldrop (ltake x.Log v3) (w64 ((lget x.Next v1.2) - 1))).map e_Entry), .callE [] [] [] [] (.row 52 1) ⟨[], [], [(52, ⟨31, 2, 1, 0, 0, true, 0, [], (x2.map e_Entry)⟩)], [], []⟩, .sealed, .xs ((v1.1 ++ [(⟨3, x.ID, v1.2, x.Term, w64 ((lget x.Next v1.2) - 1), x1, x.Commit, x2, false⟩ : Mail)]).map e_Mail)] [1, 3, 4] [1] [55] [] [] [] (.cons (sl01_ok e_Entry h1) (.cons (R_LastTerm_ok (ltake x.Log (w64 ((lget x.Next v1.2) - 1))) x1 h2) (.cons (sl11_ok e_Entry h3) (.cons (Pe.ren (R_CopyLog_ok (ldrop (ltake x.Log v3) (w64 ((lget x.Next v1.2) - 1))) x2 h4) ⟨[], [(4, 52)], [], []⟩) (.cons (app_ok e_Mail v1.1 [(⟨3, x.ID, v1.2, x.Term, w64 ((lget x.Next v1.2) - 1), x1, x.Commit, x2, false⟩ : Mail)]) (.cons (appl_ok e_Mail h5) .nil)))))) (by kernel_rfl) (fun v4 hv => ?_)
            have hF := lt_elim hF hv
            refine Wk_blk ?_
            exact Wk_met (fs := [1, 3, 4]) (bs := [1]) (rs := [55]) (ms := []) (aa := []) (nv := [(55, ⟨0, true, true, false⟩)]) (by first | (rw [← some_elim hF]; kernel_rfl) | kernel_rfl)
      · refine WR [] [1, 3, 4] [1] [55] [] [] [] ⟨[(1, .ptr 1 0), (3, .row 55 0), (4, .int .i64 (w64 (v1.2 + 1)))], [(1, (c_Node x))], [(55, ⟨62, 9, 0, 0, 0, true, 0, [], (v2.map e_Mail)⟩)], [], []⟩ .nil (by kernel_rfl) ?_
        refine Wk_trim (fs := [1, 3, 4]) (bs := [1]) (rs := [55]) (ms := []) (aa := []) (nv := []) ?_ (ih1 _ (some_elim hF).symm)
        kernel_rfl
    · have hF := ite_f hF hb
      refine Wk_exit rfl ?_
      have hF := inrO_done hF dn1
      exact Wk_metP v1.1 [3] [] [55] [] [] [] hF (by kernel_rfl)
  · intro v hF
    have hF : R_Beats_J1 v = some r := hF
    unfold R_Beats_J1 at hF
    refine Wk_seq ?_
    refine WR [] [2] [] [55] [] [] [] ⟨[(2, .row 55 0)], [], [(55, ⟨62, 9, 0, 0, 0, true, 0, [], (v.map e_Mail)⟩)], [], []⟩ .nil (by kernel_rfl) ?_
    have hF := some_elim hF
    exact Wk_ret (hfin _ ⟨[55], [], [55], [], [], [], by first | (rw [← hF]; kernel_rfl) | kernel_rfl⟩)

/- tabularyref.BeatNode -/
noncomputable def R_BeatNode_v1 (x : Node) : Option (List Mail × Fault) :=
  ob (R_NodeFault x) fun x1 =>
  ob (
    if ((decide (x1.Code = 0)) && (!decide (x.Role = 2))) = true then
      lt (R_F 11 0) fun x2 =>
      some x2
    else
      some x1) fun (v : Fault) =>
  if (!decide (v.Code = 0)) = true then
    some (([] : List Mail), v)
  else
    ob (R_Beats x) fun x3 =>
    some (x3, v)
theorem R_BeatNode_v1_ok (x : Node) (r : List Mail × Fault) (hF : R_BeatNode_v1 x = some r) : Pe Try.prog 39 S.none [.agg (c_Node x)] (.tup [.sl 9 (r.1.map e_Mail), .agg [.int .i64 r.2.Code, .int .i64 r.2.At]]) S.none := by
  refine Pe_of (N := 23) (res := [.tmp 2, .cell 3 26]) (ts := [50, 26]) Ty.ok Fn.b39 Try.func39 rfl rfl rfl rfl rfl rfl ?_
  intro Q g hfin
  unfold R_BeatNode_v1 at hF
  refine Wk_seq ?_
  refine WR [] [1, 3] [1, 3] [] [] [] [] ⟨[(1, .ptr 1 0), (3, .ptr 3 0)], [(1, (c_Node x)), (3, [.int .i64 0, .int .i64 0])], [], [], []⟩ .nil (by kernel_rfl) ?_
  refine Wk_seq ?_
  obtain ⟨x1, h0, hF⟩ := ob_elim hF
  refine WR [.callB (.agg [.int .i64 x1.Code, .int .i64 x1.At])] [1, 3, 4] [1, 3, 4] [] [] [] [] ⟨[(1, .ptr 1 0), (3, .ptr 3 0), (4, .ptr 4 0)], [(1, (c_Node x)), (3, [.int .i64 0, .int .i64 0]), (4, [.int .i64 x1.Code, .int .i64 x1.At])], [], [], []⟩ (.cons (R_NodeFault_ok x x1 h0) .nil) (by kernel_rfl) ?_
  refine Wk_seq ?_
  refine Wk_seq ?_
  refine WR [] [1, 3, 4, 14] [1, 3, 4] [] [] [] [] ⟨[(1, .ptr 1 0), (3, .ptr 3 0), (4, .ptr 4 0), (14, .bool ((decide (x1.Code = 0)) && (!decide (x.Role = 2))))], [(1, (c_Node x)), (3, [.int .i64 0, .int .i64 0]), (4, [.int .i64 x1.Code, .int .i64 x1.At])], [], [], []⟩ .nil (by kernel_rfl) ?_
  obtain ⟨v, hv, hF⟩ := ob_elim hF
  refine Wk_meet (⟨[(1, .ptr 1 0), (3, .ptr 3 0), (4, .ptr 4 0)], [(1, (c_Node x)), (3, [.int .i64 0, .int .i64 0]), (4, [.int .i64 v.Code, .int .i64 v.At])], [], [], []⟩ : S) ?_ ?_
  · have hF := hv
    refine Wk_split rfl (fun hb => ?_) (fun hb => ?_)
    · have hF := ite_t hF hb
      obtain ⟨x2, h1, hF⟩ := lt_split hF
      refine WR [.callB (.agg [.int .i64 x2.Code, .int .i64 x2.At])] [1, 3, 4] [1, 3, 4] [] [] [] [] ⟨[(1, .ptr 1 0), (3, .ptr 3 0), (4, .ptr 4 0)], [(1, (c_Node x)), (3, [.int .i64 0, .int .i64 0]), (4, [.int .i64 x2.Code, .int .i64 x2.At])], [], [], []⟩ (.cons (R_F_ok 11 0 x2 h1) .nil) (by kernel_rfl) ?_
      exact Wk_met (fs := [1, 3, 4]) (bs := [1, 3, 4]) (rs := []) (ms := []) (aa := []) (nv := []) (by first | (rw [← some_elim hF]; kernel_rfl) | kernel_rfl)
    · have hF := ite_f hF hb
      refine Wk_skip ?_
      exact Wk_met (fs := [1, 3, 4]) (bs := [1, 3, 4]) (rs := []) (ms := []) (aa := []) (nv := []) (by first | (rw [← some_elim hF]; kernel_rfl) | kernel_rfl)
  · refine Wk_seq ?_
    refine Wk_seq ?_
    refine WR [] [1, 3, 4, 18] [1, 3, 4] [] [] [] [] ⟨[(1, .ptr 1 0), (3, .ptr 3 0), (4, .ptr 4 0), (18, .bool (!decide (v.Code = 0)))], [(1, (c_Node x)), (3, [.int .i64 0, .int .i64 0]), (4, [.int .i64 v.Code, .int .i64 v.At])], [], [], []⟩ .nil (by kernel_rfl) ?_
    refine Wk_split rfl (fun hb => ?_) (fun hb => ?_)
    · have hF := ite_t hF hb
      refine Wk_seq ?_
      refine WD [] [2, 3] [3] [] [] [] [] ⟨[(2, .nils), (3, .ptr 3 0)], [(3, [.int .i64 v.Code, .int .i64 v.At])], [], [], []⟩ .nil (by kernel_rfl) ?_
      have hF := some_elim hF
      exact Wk_ret (hfin _ ⟨[], [], [], [], [], [], by first | (rw [← hF]; kernel_rfl) | kernel_rfl⟩)
    · have hF := ite_f hF hb
      refine Wk_skip ?_
      refine Wk_seq ?_
      obtain ⟨x3, h2, hF⟩ := ob_elim hF
      refine WD [.callE [] [] [] [] (.row 21 0) ⟨[], [], [(21, ⟨62, 9, 0, 0, 0, true, 0, [], (x3.map e_Mail)⟩)], [], []⟩] [2, 3] [3] [21] [] [] [] ⟨[(2, .row 21 0), (3, .ptr 3 0)], [(3, [.int .i64 v.Code, .int .i64 v.At])], [(21, ⟨62, 9, 0, 0, 0, true, 0, [], (x3.map e_Mail)⟩)], [], []⟩ (.cons (Pe.ren (R_Beats_ok x x3 h2) ⟨[], [(55, 21)], [], []⟩) .nil) (by kernel_rfl) ?_
      have hF := some_elim hF
      exact Wk_ret (hfin _ ⟨[], [], [], [], [], [], by first | (rw [← hF]; kernel_rfl) | kernel_rfl⟩)

/- tabularyref.RestartNode -/
noncomputable def R_RestartNode_v1 (x : Node) : Option (Node × Fault) :=
  ob (R_NodeFault x) fun x1 =>
  if (!decide (x1.Code = 0)) = true then
    some ((⟨0, 0, 0, 0, ([] : List Entry), 0, 0, ([] : List Int), ([] : List Int), ([] : List Int)⟩ : Node), x1)
  else
    ob (R_Follower x) fun x2 =>
    some ((⟨x2.1, x2.2.1, x2.2.2.1, x2.2.2.2.1, x2.2.2.2.2.1, x2.2.2.2.2.2.1, 0, ([] : List Int), ([] : List Int), ([] : List Int)⟩ : Node), x1)
theorem R_RestartNode_v1_ok (x : Node) (r : Node × Fault) (hF : R_RestartNode_v1 x = some r) : Pe Try.prog 40 S.none [.agg (c_Node x)] (.tup [.agg (c_Node r.1), .agg [.int .i64 r.2.Code, .int .i64 r.2.At]]) S.none := by
  refine Pe_of (N := 18) (res := [.cell 2 46, .cell 3 26]) (ts := [46, 26]) Ty.ok Fn.b40 Try.func40 rfl rfl rfl rfl rfl rfl ?_
  intro Q g hfin
  unfold R_RestartNode_v1 at hF
  refine Wk_seq ?_
  refine WR [] [1, 2, 3] [1, 2, 3] [] [] [] [] ⟨[(1, .ptr 1 0), (2, .ptr 2 0), (3, .ptr 3 0)], [(1, (c_Node x)), (2, [.int .i64 0, .int .i64 0, .int .i64 0, .int .i64 0, .nils, .int .i64 0, .int .i64 0, .nils, .nils, .nils]), (3, [.int .i64 0, .int .i64 0])], [], [], []⟩ .nil (by kernel_rfl) ?_
  refine Wk_seq ?_
  obtain ⟨x1, h0, hF⟩ := ob_elim hF
  refine WR [.callB (.agg [.int .i64 x1.Code, .int .i64 x1.At])] [1, 2, 3, 4] [1, 2, 3, 4] [] [] [] [] ⟨[(1, .ptr 1 0), (2, .ptr 2 0), (3, .ptr 3 0), (4, .ptr 4 0)], [(1, (c_Node x)), (2, [.int .i64 0, .int .i64 0, .int .i64 0, .int .i64 0, .nils, .int .i64 0, .int .i64 0, .nils, .nils, .nils]), (3, [.int .i64 0, .int .i64 0]), (4, [.int .i64 x1.Code, .int .i64 x1.At])], [], [], []⟩ (.cons (R_NodeFault_ok x x1 h0) .nil) (by kernel_rfl) ?_
  refine Wk_seq ?_
  refine Wk_seq ?_
  refine WR [] [1, 2, 3, 4, 10] [1, 2, 3, 4] [] [] [] [] ⟨[(1, .ptr 1 0), (2, .ptr 2 0), (3, .ptr 3 0), (4, .ptr 4 0), (10, .bool (!decide (x1.Code = 0)))], [(1, (c_Node x)), (2, [.int .i64 0, .int .i64 0, .int .i64 0, .int .i64 0, .nils, .int .i64 0, .int .i64 0, .nils, .nils, .nils]), (3, [.int .i64 0, .int .i64 0]), (4, [.int .i64 x1.Code, .int .i64 x1.At])], [], [], []⟩ .nil (by kernel_rfl) ?_
  refine Wk_split rfl (fun hb => ?_) (fun hb => ?_)
  · have hF := ite_t hF hb
    refine Wk_seq ?_
    refine WD [] [2, 3] [2, 3] [] [] [] [] ⟨[(2, .ptr 2 0), (3, .ptr 3 0)], [(2, [.int .i64 0, .int .i64 0, .int .i64 0, .int .i64 0, .nils, .int .i64 0, .int .i64 0, .nils, .nils, .nils]), (3, [.int .i64 x1.Code, .int .i64 x1.At])], [], [], []⟩ .nil (by kernel_rfl) ?_
    have hF := some_elim hF
    exact Wk_ret (hfin _ ⟨[], [], [], [], [], [], by first | (rw [← hF]; kernel_rfl) | kernel_rfl⟩)
  · have hF := ite_f hF hb
    refine Wk_skip ?_
    refine Wk_seq ?_
    obtain ⟨x2, h1, hF⟩ := ob_elim hF
    refine WR [.callE [] [] [] [] (.agg [.int .i64 x2.1, .int .i64 x2.2.1, .int .i64 x2.2.2.1, .int .i64 x2.2.2.2.1, .row 14 1, .int .i64 x2.2.2.2.2.2.1, .int .i64 x2.2.2.2.2.2.2, .row 20014 0, .row 40014 0, .row 60014 0]) ⟨[], [], [(14, ⟨31, 2, 1, 0, 0, true, 0, [], (x2.2.2.2.2.1.map e_Entry)⟩), (20014, ⟨3, 1, 0, 0, 0, true, 0, [], (([] : List Int).map e_i64)⟩), (40014, ⟨3, 1, 0, 0, 0, true, 0, [], (([] : List Int).map e_i64)⟩), (60014, ⟨3, 1, 0, 0, 0, true, 0, [], (([] : List Int).map e_i64)⟩)], [], []⟩] [2, 3, 4, 5] [2, 3, 4, 5] [14, 20014, 40014, 60014] [] [] [] ⟨[(2, .ptr 2 0), (3, .ptr 3 0), (4, .ptr 4 0), (5, .ptr 5 0)], [(2, [.int .i64 0, .int .i64 0, .int .i64 0, .int .i64 0, .nils, .int .i64 0, .int .i64 0, .nils, .nils, .nils]), (3, [.int .i64 0, .int .i64 0]), (4, [.int .i64 x1.Code, .int .i64 x1.At]), (5, [.int .i64 x2.1, .int .i64 x2.2.1, .int .i64 x2.2.2.1, .int .i64 x2.2.2.2.1, .row 14 1, .int .i64 x2.2.2.2.2.2.1, .int .i64 x2.2.2.2.2.2.2, .row 20014 0, .row 40014 0, .row 60014 0])], [(14, ⟨31, 2, 1, 0, 0, true, 0, [], (x2.2.2.2.2.1.map e_Entry)⟩), (20014, ⟨3, 1, 0, 0, 0, true, 0, [], (([] : List Int).map e_i64)⟩), (40014, ⟨3, 1, 0, 0, 0, true, 0, [], (([] : List Int).map e_i64)⟩), (60014, ⟨3, 1, 0, 0, 0, true, 0, [], (([] : List Int).map e_i64)⟩)], [], []⟩ (.cons (Pe.ren (R_Follower_ok x x2 h1) ⟨[], [(13, 14), (71001, 20014), (71002, 40014), (71003, 60014)], [], []⟩) .nil) (by kernel_rfl) ?_
    refine Wk_seq ?_
    refine WR [] [2, 3, 4, 5] [2, 3, 4, 5] [14, 20014, 40014, 60014] [] [] [] ⟨[(2, .ptr 2 0), (3, .ptr 3 0), (4, .ptr 4 0), (5, .ptr 5 0)], [(2, [.int .i64 0, .int .i64 0, .int .i64 0, .int .i64 0, .nils, .int .i64 0, .int .i64 0, .nils, .nils, .nils]), (3, [.int .i64 0, .int .i64 0]), (4, [.int .i64 x1.Code, .int .i64 x1.At]), (5, [.int .i64 x2.1, .int .i64 x2.2.1, .int .i64 x2.2.2.1, .int .i64 x2.2.2.2.1, .row 14 1, .int .i64 x2.2.2.2.2.2.1, .int .i64 0, .row 20014 0, .row 40014 0, .row 60014 0])], [(14, ⟨31, 2, 1, 0, 0, true, 0, [], (x2.2.2.2.2.1.map e_Entry)⟩), (20014, ⟨3, 1, 0, 0, 0, true, 0, [], (([] : List Int).map e_i64)⟩), (40014, ⟨3, 1, 0, 0, 0, true, 0, [], (([] : List Int).map e_i64)⟩), (60014, ⟨3, 1, 0, 0, 0, true, 0, [], (([] : List Int).map e_i64)⟩)], [], []⟩ .nil (by kernel_rfl) ?_
    refine Wk_seq ?_
    refine WD [] [2, 3] [2, 3] [14, 20014, 40014, 60014] [] [] [] ⟨[(2, .ptr 2 0), (3, .ptr 3 0)], [(2, [.int .i64 x2.1, .int .i64 x2.2.1, .int .i64 x2.2.2.1, .int .i64 x2.2.2.2.1, .row 14 1, .int .i64 x2.2.2.2.2.2.1, .int .i64 0, .row 20014 0, .row 40014 0, .row 60014 0]), (3, [.int .i64 x1.Code, .int .i64 x1.At])], [(14, ⟨31, 2, 1, 0, 0, true, 0, [], (x2.2.2.2.2.1.map e_Entry)⟩), (20014, ⟨3, 1, 0, 0, 0, true, 0, [], (([] : List Int).map e_i64)⟩), (40014, ⟨3, 1, 0, 0, 0, true, 0, [], (([] : List Int).map e_i64)⟩), (60014, ⟨3, 1, 0, 0, 0, true, 0, [], (([] : List Int).map e_i64)⟩)], [], []⟩ .nil (by kernel_rfl) ?_
    have hF := some_elim hF
    exact Wk_ret (hfin _ ⟨[], [], [], [], [], [], by first | (rw [← hF]; kernel_rfl) | kernel_rfl⟩)

/- tabularyref.SameMails -/
noncomputable def R_SameMails_J1 (v : Unit) : Option Bool :=
  some true
noncomputable def R_SameMails_B1 (a0 : List Mail) (b : List Mail) (v1 : Int) : Option (Int ⊕ Bool) :=
  if (decide (v1 < (a0.length : Int))) = true then
    asrt (0 ≤ v1 ∧ v1 < (a0.length : Int)) <|
    asrt (0 ≤ v1 ∧ v1 < (b.length : Int)) <|
    ob (if (!((((((((!decide (((lget a0 v1).Kind) = ((lget b v1).Kind))) || (!decide (((lget a0 v1).From) = ((lget b v1).From)))) || (!decide (((lget a0 v1).To) = ((lget b v1).To)))) || (!decide (((lget a0 v1).Term) = ((lget b v1).Term)))) || (!decide (((lget a0 v1).A) = ((lget b v1).A)))) || (!decide (((lget a0 v1).B) = ((lget b v1).B)))) || (!decide (((lget a0 v1).C0) = ((lget b v1).C0)))) || (!(((lget a0 v1).Ok) == ((lget b v1).Ok))))) = true then (R_SameLog ((lget a0 v1).Entries) ((lget b v1).Entries)) else some default) fun x =>
    if (((((((((!decide (((lget a0 v1).Kind) = ((lget b v1).Kind))) || (!decide (((lget a0 v1).From) = ((lget b v1).From)))) || (!decide (((lget a0 v1).To) = ((lget b v1).To)))) || (!decide (((lget a0 v1).Term) = ((lget b v1).Term)))) || (!decide (((lget a0 v1).A) = ((lget b v1).A)))) || (!decide (((lget a0 v1).B) = ((lget b v1).B)))) || (!decide (((lget a0 v1).C0) = ((lget b v1).C0)))) || (!(((lget a0 v1).Ok) == ((lget b v1).Ok)))) || (!x)) = true then
      some (Sum.inr false)
    else
      some (Sum.inl (w64 (v1 + 1)))
  else
    inrO (R_SameMails_J1 ())
noncomputable def R_SameMails_L1 (a0 : List Mail) (b : List Mail) (v0 : Int) : Option Bool :=
  loopO (fun y => R_SameMails_B1 a0 b y) v0
noncomputable def R_SameMails (a0 : List Mail) (b : List Mail) : Option Bool :=
  if (!decide ((a0.length : Int) = (b.length : Int))) = true then
    some false
  else
    R_SameMails_L1 a0 b 0
theorem R_SameMails_ok (a0 : List Mail) (b : List Mail) (r : Bool) (hF : R_SameMails a0 b = some r) : Pe Try.prog 41 S.none [.sl 9 (a0.map e_Mail), .sl 9 (b.map e_Mail)] (.bool r) S.none := by
  refine Pe_of (N := 89) (res := [.tmp 4]) (ts := [4]) Ty.ok Fn.b41 Try.func41 rfl rfl rfl rfl rfl rfl ?_
  intro Q g hfin
  unfold R_SameMails at hF
  refine Wk_seq ?_
  refine WR [] [0, 1] [] [] [] [] [] ⟨[(0, .sl 9 (a0.map e_Mail)), (1, .sl 9 (b.map e_Mail))], [], [], [], []⟩ .nil (by kernel_rfl) ?_
  refine Wk_seq ?_
  refine Wk_seq ?_
  refine WR [.nat (a0.length : Int), .nat (b.length : Int)] [0, 1, 12] [] [] [] [] [] ⟨[(0, .sl 9 (a0.map e_Mail)), (1, .sl 9 (b.map e_Mail)), (12, .bool (!decide ((a0.length : Int) = (b.length : Int))))], [], [], [], []⟩ (.cons (len_ok e_Mail a0) (.cons (len_ok e_Mail b) .nil)) (by kernel_rfl) ?_
  refine Wk_split rfl (fun hb => ?_) (fun hb => ?_)
  · have hF := ite_t hF hb
    refine Wk_seq ?_
    refine WR [] [4] [] [] [] [] [] ⟨[(4, .bool false)], [], [], [], []⟩ .nil (by kernel_rfl) ?_
    have hF := some_elim hF
    exact Wk_ret (hfin _ ⟨[], [], [], [], [], [], by first | (rw [← hF]; kernel_rfl) | kernel_rfl⟩)
  · have hF := ite_f hF hb
    refine Wk_skip ?_
    refine Wk_seq ?_
    refine Wk_seq ?_
    refine WR [] [0, 1, 5] [] [] [] [] [] ⟨[(0, .sl 9 (a0.map e_Mail)), (1, .sl 9 (b.map e_Mail)), (5, .int .i64 0)], [], [], [], []⟩ .nil (by kernel_rfl) ?_
    refine Wk_meetP (fun v : Unit => (⟨[], [], [], [], []⟩ : S)) (fun v => R_SameMails_J1 v = some r) ?_ ?_
    · refine Wk_block ?_
      unfold R_SameMails_L1 at hF
      refine Wk_trim (fs := [0, 1, 5]) (bs := []) (rs := []) (ms := []) (aa := []) (nv := []) (t := (fun v1 : Int => (⟨[(0, .sl 9 (a0.map e_Mail)), (1, .sl 9 (b.map e_Mail)), (5, .int .i64 v1)], [], [], [], []⟩ : S)) 0) (by kernel_rfl) ?_
      refine Wk_iter (step := fun y => R_SameMails_B1 a0 b y) (r := r) (fun v1 : Int => (⟨[(0, .sl 9 (a0.map e_Mail)), (1, .sl 9 (b.map e_Mail)), (5, .int .i64 v1)], [], [], [], []⟩ : S)) 0 hF ?_
      intro n1 v1 y1 hF ih1 dn1
      have hF : R_SameMails_B1 a0 b v1 = some y1 := hF
      unfold R_SameMails_B1 at hF
      refine Wk_seq ?_
      refine Wk_seq ?_
      refine WR [.nat (a0.length : Int)] [0, 1, 5, 16] [] [] [] [] [] ⟨[(0, .sl 9 (a0.map e_Mail)), (1, .sl 9 (b.map e_Mail)), (5, .int .i64 v1), (16, .bool (decide (v1 < (a0.length : Int))))], [], [], [], []⟩ (.cons (len_ok e_Mail a0) .nil) (by kernel_rfl) ?_
      refine Wk_split rfl (fun hb => ?_) (fun hb => ?_)
      · have hF := ite_t hF hb
        refine Wk_skip ?_
        refine Wk_seq ?_
        refine Wk_block ?_
        refine Wk_seq ?_
        obtain ⟨h0, hF⟩ := asrt_elim hF
        obtain ⟨h1, hF⟩ := asrt_elim hF
        refine WD [.av (e_Mail (lget a0 v1)), .av (e_Mail (lget b v1))] [0, 1, 5, 6, 7] [6, 7] [] [] [] [] ⟨[(0, .sl 9 (a0.map e_Mail)), (1, .sl 9 (b.map e_Mail)), (5, .int .i64 v1), (6, .ptr 6 0), (7, .ptr 7 0)], [(6, (c_Mail (lget a0 v1))), (7, (c_Mail (lget b v1)))], [], [], []⟩ (.cons (idx_ok e_Mail h0) (.cons (idx_ok e_Mail h1) .nil)) (by kernel_rfl) ?_
        refine Wk_seq ?_
        obtain ⟨x, h2, hF⟩ := ob_elim hF
        refine WR [.callB (.bool x)] [0, 1, 5, 88] [] [] [] [] [] ⟨[(0, .sl 9 (a0.map e_Mail)), (1, .sl 9 (b.map e_Mail)), (5, .int .i64 v1), (88, .bool (((((((((!decide (((lget a0 v1).Kind) = ((lget b v1).Kind))) || (!decide (((lget a0 v1).From) = ((lget b v1).From)))) || (!decide (((lget a0 v1).To) = ((lget b v1).To)))) || (!decide (((lget a0 v1).Term) = ((lget b v1).Term)))) || (!decide (((lget a0 v1).A) = ((lget b v1).A)))) || (!decide (((lget a0 v1).B) = ((lget b v1).B)))) || (!decide (((lget a0 v1).C0) = ((lget b v1).C0)))) || (!(((lget a0 v1).Ok) == ((lget b v1).Ok)))) || (!x)))], [], [], [], []⟩ (.cons (fun (ga0 : (!((((((((!decide (((lget a0 v1).Kind) = ((lget b v1).Kind))) || (!decide (((lget a0 v1).From) = ((lget b v1).From)))) || (!decide (((lget a0 v1).To) = ((lget b v1).To)))) || (!decide (((lget a0 v1).Term) = ((lget b v1).Term)))) || (!decide (((lget a0 v1).A) = ((lget b v1).A)))) || (!decide (((lget a0 v1).B) = ((lget b v1).B)))) || (!decide (((lget a0 v1).C0) = ((lget b v1).C0)))) || (!(((lget a0 v1).Ok) == ((lget b v1).Ok))))) = true) => (R_SameLog_ok ((lget a0 v1).Entries) ((lget b v1).Entries) x (ite_t h2 ga0))) .nil) (by kernel_rfl) ?_
        refine Wk_split rfl (fun hb => ?_) (fun hb => ?_)
        · have hF := ite_t hF hb
          refine Wk_seq ?_
          refine WR [] [4] [] [] [] [] [] ⟨[(4, .bool false)], [], [], [], []⟩ .nil (by kernel_rfl) ?_
          have hF := ret_done hF dn1
          have hF := some_elim hF
          exact Wk_ret (hfin _ ⟨[], [], [], [], [], [], by first | (rw [← hF]; kernel_rfl) | kernel_rfl⟩)
        · have hF := ite_f hF hb
          refine Wk_skip ?_
          refine Wk_blk ?_
          refine WR [] [0, 1, 5] [] [] [] [] [] ⟨[(0, .sl 9 (a0.map e_Mail)), (1, .sl 9 (b.map e_Mail)), (5, .int .i64 (w64 (v1 + 1)))], [], [], [], []⟩ .nil (by kernel_rfl) ?_
          refine Wk_trim (fs := [0, 1, 5]) (bs := []) (rs := []) (ms := []) (aa := []) (nv := []) ?_ (ih1 _ (some_elim hF).symm)
          kernel_rfl
      · have hF := ite_f hF hb
        refine Wk_exit rfl ?_
        have hF := inrO_done hF dn1
        exact Wk_metP () [] [] [] [] [] [] hF (by kernel_rfl)
    · intro v hF
      have hF : R_SameMails_J1 v = some r := hF
      unfold R_SameMails_J1 at hF
      refine Wk_seq ?_
      refine WR [] [4] [] [] [] [] [] ⟨[(4, .bool true)], [], [], [], []⟩ .nil (by kernel_rfl) ?_
      have hF := some_elim hF
      exact Wk_ret (hfin _ ⟨[], [], [], [], [], [], by first | (rw [← hF]; kernel_rfl) | kernel_rfl⟩)

/- tabularylaw.RaftDoes -/
noncomputable def law_RaftDoes (x : Node) (text : List UInt8) : Option Bool :=
  ob (law_raftBegun) fun x1 =>
  if (!x1) = true then
    some false
  else
    lt (law_vastNode x) fun x2 =>
    if x2 = true then
      some true
    else
      ob (R_CopyNode_v1 x) fun x3 =>
      ob (raft_Check x3) fun x4 =>
      ob (raft_Stand_v1 x3) fun x5 =>
      ob (raft_Propose_v1 x3 text) fun x6 =>
      ob (raft_Beat_v1 x3) fun x7 =>
      ob (raft_Restart_v1 x3) fun x8 =>
      ob (R_SameNode x3 x) fun x9 =>
      ob (if (!(!x9)) = true then (R_NodeFault x) else some default) fun x10 =>
      if ((!x9) || (!(decide (x4.Code = x10.Code) && (decide (x4.At = x10.At) && true)))) = true then
        some false
      else
        ob (R_StandNode_v1 x) fun x11 =>
        ob (R_ProposeNode x text) fun x12 =>
        ob (R_BeatNode_v1 x) fun x13 =>
        ob (R_RestartNode_v1 x) fun x14 =>
        ob (if ((((decide (x5.2.2.Code = x11.2.2.Code) && (decide (x5.2.2.At = x11.2.2.At) && true)) && (decide (x6.2.Code = x12.2.Code) && (decide (x6.2.At = x12.2.At) && true))) && (decide (x7.2.Code = x13.2.Code) && (decide (x7.2.At = x13.2.At) && true))) && (decide (x8.2.Code = x14.2.Code) && (decide (x8.2.At = x14.2.At) && true))) = true then (R_SameNode x5.1 x11.1) else some default) fun x15 =>
        ob (if (((((decide (x5.2.2.Code = x11.2.2.Code) && (decide (x5.2.2.At = x11.2.2.At) && true)) && (decide (x6.2.Code = x12.2.Code) && (decide (x6.2.At = x12.2.At) && true))) && (decide (x7.2.Code = x13.2.Code) && (decide (x7.2.At = x13.2.At) && true))) && (decide (x8.2.Code = x14.2.Code) && (decide (x8.2.At = x14.2.At) && true))) && x15) = true then (R_SameMails x5.2.1 x11.2.1) else some default) fun x16 =>
        ob (if ((((((decide (x5.2.2.Code = x11.2.2.Code) && (decide (x5.2.2.At = x11.2.2.At) && true)) && (decide (x6.2.Code = x12.2.Code) && (decide (x6.2.At = x12.2.At) && true))) && (decide (x7.2.Code = x13.2.Code) && (decide (x7.2.At = x13.2.At) && true))) && (decide (x8.2.Code = x14.2.Code) && (decide (x8.2.At = x14.2.At) && true))) && x15) && x16) = true then (R_SameNode x6.1 x12.1) else some default) fun x17 =>
        ob (if (((((((decide (x5.2.2.Code = x11.2.2.Code) && (decide (x5.2.2.At = x11.2.2.At) && true)) && (decide (x6.2.Code = x12.2.Code) && (decide (x6.2.At = x12.2.At) && true))) && (decide (x7.2.Code = x13.2.Code) && (decide (x7.2.At = x13.2.At) && true))) && (decide (x8.2.Code = x14.2.Code) && (decide (x8.2.At = x14.2.At) && true))) && x15) && x16) && x17) = true then (R_SameMails x7.1 x13.1) else some default) fun x18 =>
        ob (if ((((((((decide (x5.2.2.Code = x11.2.2.Code) && (decide (x5.2.2.At = x11.2.2.At) && true)) && (decide (x6.2.Code = x12.2.Code) && (decide (x6.2.At = x12.2.At) && true))) && (decide (x7.2.Code = x13.2.Code) && (decide (x7.2.At = x13.2.At) && true))) && (decide (x8.2.Code = x14.2.Code) && (decide (x8.2.At = x14.2.At) && true))) && x15) && x16) && x17) && x18) = true then (R_SameNode x8.1 x14.1) else some default) fun x19 =>
        lt (((((((((decide (x5.2.2.Code = x11.2.2.Code) && (decide (x5.2.2.At = x11.2.2.At) && true)) && (decide (x6.2.Code = x12.2.Code) && (decide (x6.2.At = x12.2.At) && true))) && (decide (x7.2.Code = x13.2.Code) && (decide (x7.2.At = x13.2.At) && true))) && (decide (x8.2.Code = x14.2.Code) && (decide (x8.2.At = x14.2.At) && true))) && x15) && x16) && x17) && x18) && x19) fun (v : Bool) =>
        some v
theorem law_RaftDoes_ok (x : Node) (text : List UInt8) (r : Bool) (hF : law_RaftDoes x text = some r) : Pe Try.prog 6 S.none [.agg (c_Node x), .str text] (.bool r) S.none := by
  refine Pe_of (N := 130) (res := [.tmp 4]) (ts := [4]) Ty.ok Fn.b6 Try.func6 rfl rfl rfl rfl rfl rfl ?_
  intro Q g hfin
  unfold law_RaftDoes at hF
  refine Wk_seq ?_
  refine WR [] [1, 2] [2] [] [] [] [] ⟨[(1, .str text), (2, .ptr 2 0)], [(2, (c_Node x))], [], [], []⟩ .nil (by kernel_rfl) ?_
  refine Wk_seq ?_
  refine Wk_seq ?_
  obtain ⟨x1, h0, hF⟩ := ob_elim hF
  refine WR [.callB (.bool x1)] [1, 2, 26] [2] [] [] [] [] ⟨[(1, .str text), (2, .ptr 2 0), (26, .bool (!x1))], [(2, (c_Node x))], [], [], []⟩ (.cons (law_raftBegun_ok  x1 h0) .nil) (by kernel_rfl) ?_
  refine Wk_split rfl (fun hb => ?_) (fun hb => ?_)
  · have hF := ite_t hF hb
    refine Wk_seq ?_
    refine WR [] [4] [] [] [] [] [] ⟨[(4, .bool false)], [], [], [], []⟩ .nil (by kernel_rfl) ?_
    have hF := some_elim hF
    exact Wk_ret (hfin _ ⟨[], [], [], [], [], [], by first | (rw [← hF]; kernel_rfl) | kernel_rfl⟩)
  · have hF := ite_f hF hb
    refine Wk_skip ?_
    refine Wk_seq ?_
    refine Wk_seq ?_
    obtain ⟨x2, h1, hF⟩ := lt_split hF
    refine WR [.callB (.bool x2)] [1, 2, 28] [2] [] [] [] [] ⟨[(1, .str text), (2, .ptr 2 0), (28, .bool x2)], [(2, (c_Node x))], [], [], []⟩ (.cons (law_vastNode_ok x x2 h1) .nil) (by kernel_rfl) ?_
    refine Wk_split rfl (fun hb => ?_) (fun hb => ?_)
    · have hF := ite_t hF hb
      refine Wk_seq ?_
      refine WR [] [4] [] [] [] [] [] ⟨[(4, .bool true)], [], [], [], []⟩ .nil (by kernel_rfl) ?_
      have hF := some_elim hF
      exact Wk_ret (hfin _ ⟨[], [], [], [], [], [], by first | (rw [← hF]; kernel_rfl) | kernel_rfl⟩)
    · have hF := ite_f hF hb
      refine Wk_skip ?_
      refine Wk_seq ?_
      obtain ⟨x3, h2, hF⟩ := ob_elim hF
      refine WR [.call (.agg (c_Node x3))] [1, 2, 5] [2, 5] [] [] [] [] ⟨[(1, .str text), (2, .ptr 2 0), (5, .ptr 5 0)], [(2, (c_Node x)), (5, (c_Node x3))], [], [], []⟩ (.cons (R_CopyNode_v1_ok x x3 h2) .nil) (by kernel_rfl) ?_
      refine Wk_seq ?_
      obtain ⟨x4, h3, hF⟩ := ob_elim hF
      refine WR [.callB (.agg [.int .i64 x4.Code, .int .i64 x4.At])] [1, 2, 5, 6] [2, 5, 6] [] [] [] [] ⟨[(1, .str text), (2, .ptr 2 0), (5, .ptr 5 0), (6, .ptr 6 0)], [(2, (c_Node x)), (5, (c_Node x3)), (6, [.int .i64 x4.Code, .int .i64 x4.At])], [], [], []⟩ (.cons (raft_Check_ok x3 x4 h3) .nil) (by kernel_rfl) ?_
      refine Wk_seq ?_
      obtain ⟨x5, h4, hF⟩ := ob_elim hF
      refine WR [.call (.tup [.agg (c_Node x5.1), .sl 9 (x5.2.1.map e_Mail), .agg [.int .i64 x5.2.2.Code, .int .i64 x5.2.2.At]])] [1, 2, 5, 6, 7, 8, 9] [2, 5, 6, 7, 9] [] [] [] [] ⟨[(1, .str text), (2, .ptr 2 0), (5, .ptr 5 0), (6, .ptr 6 0), (7, .ptr 7 0), (8, .sl 9 (x5.2.1.map e_Mail)), (9, .ptr 9 0)], [(2, (c_Node x)), (5, (c_Node x3)), (6, [.int .i64 x4.Code, .int .i64 x4.At]), (7, (c_Node x5.1)), (9, [.int .i64 x5.2.2.Code, .int .i64 x5.2.2.At])], [], [], []⟩ (.cons (raft_Stand_v1_ok x3 x5 h4) .nil) (by kernel_rfl) ?_
      refine Wk_seq ?_
      obtain ⟨x6, h5, hF⟩ := ob_elim hF
      refine WR [.call (.tup [.agg (c_Node x6.1), .agg [.int .i64 x6.2.Code, .int .i64 x6.2.At]])] [1, 2, 5, 6, 7, 8, 9, 10, 11] [2, 5, 6, 7, 9, 10, 11] [] [] [] [] ⟨[(1, .str text), (2, .ptr 2 0), (5, .ptr 5 0), (6, .ptr 6 0), (7, .ptr 7 0), (8, .sl 9 (x5.2.1.map e_Mail)), (9, .ptr 9 0), (10, .ptr 10 0), (11, .ptr 11 0)], [(2, (c_Node x)), (5, (c_Node x3)), (6, [.int .i64 x4.Code, .int .i64 x4.At]), (7, (c_Node x5.1)), (9, [.int .i64 x5.2.2.Code, .int .i64 x5.2.2.At]), (10, (c_Node x6.1)), (11, [.int .i64 x6.2.Code, .int .i64 x6.2.At])], [], [], []⟩ (.cons (raft_Propose_v1_ok x3 text x6 h5) .nil) (by kernel_rfl) ?_
      refine Wk_seq ?_
      obtain ⟨x7, h6, hF⟩ := ob_elim hF
      refine WR [.call (.tup [.sl 9 (x7.1.map e_Mail), .agg [.int .i64 x7.2.Code, .int .i64 x7.2.At]])] [1, 2, 5, 6, 7, 8, 9, 10, 11, 12, 13] [2, 5, 6, 7, 9, 10, 11, 13] [] [] [] [] ⟨[(1, .str text), (2, .ptr 2 0), (5, .ptr 5 0), (6, .ptr 6 0), (7, .ptr 7 0), (8, .sl 9 (x5.2.1.map e_Mail)), (9, .ptr 9 0), (10, .ptr 10 0), (11, .ptr 11 0), (12, .sl 9 (x7.1.map e_Mail)), (13, .ptr 13 0)], [(2, (c_Node x)), (5, (c_Node x3)), (6, [.int .i64 x4.Code, .int .i64 x4.At]), (7, (c_Node x5.1)), (9, [.int .i64 x5.2.2.Code, .int .i64 x5.2.2.At]), (10, (c_Node x6.1)), (11, [.int .i64 x6.2.Code, .int .i64 x6.2.At]), (13, [.int .i64 x7.2.Code, .int .i64 x7.2.At])], [], [], []⟩ (.cons (raft_Beat_v1_ok x3 x7 h6) .nil) (by kernel_rfl) ?_
      refine Wk_seq ?_
      obtain ⟨x8, h7, hF⟩ := ob_elim hF
      refine WR [.call (.tup [.agg (c_Node x8.1), .agg [.int .i64 x8.2.Code, .int .i64 x8.2.At]])] [1, 2, 5, 6, 7, 8, 9, 10, 11, 12, 13, 14, 15] [2, 5, 6, 7, 9, 10, 11, 13, 14, 15] [] [] [] [] ⟨[(1, .str text), (2, .ptr 2 0), (5, .ptr 5 0), (6, .ptr 6 0), (7, .ptr 7 0), (8, .sl 9 (x5.2.1.map e_Mail)), (9, .ptr 9 0), (10, .ptr 10 0), (11, .ptr 11 0), (12, .sl 9 (x7.1.map e_Mail)), (13, .ptr 13 0), (14, .ptr 14 0), (15, .ptr 15 0)], [(2, (c_Node x)), (5, (c_Node x3)), (6, [.int .i64 x4.Code, .int .i64 x4.At]), (7, (c_Node x5.1)), (9, [.int .i64 x5.2.2.Code, .int .i64 x5.2.2.At]), (10, (c_Node x6.1)), (11, [.int .i64 x6.2.Code, .int .i64 x6.2.At]), (13, [.int .i64 x7.2.Code, .int .i64 x7.2.At]), (14, (c_Node x8.1)), (15, [.int .i64 x8.2.Code, .int .i64 x8.2.At])], [], [], []⟩ (.cons (raft_Restart_v1_ok x3 x8 h7) .nil) (by kernel_rfl) ?_
      refine Wk_seq ?_
      refine Wk_seq ?_
      obtain ⟨x9, h8, hF⟩ := ob_elim hF
      obtain ⟨x10, h9, hF⟩ := ob_elim hF
      refine WD [.callB (.bool x9), .callB (.agg [.int .i64 x10.Code, .int .i64 x10.At])] [1, 2, 7, 8, 9, 10, 11, 12, 13, 14, 15, 64] [2, 7, 9, 10, 11, 13, 14, 15] [] [] [] [] ⟨[(1, .str text), (2, .ptr 2 0), (7, .ptr 7 0), (8, .sl 9 (x5.2.1.map e_Mail)), (9, .ptr 9 0), (10, .ptr 10 0), (11, .ptr 11 0), (12, .sl 9 (x7.1.map e_Mail)), (13, .ptr 13 0), (14, .ptr 14 0), (15, .ptr 15 0), (64, .bool ((!x9) || (!(decide (x4.Code = x10.Code) && (decide (x4.At = x10.At) && true)))))], [(2, (c_Node x)), (7, (c_Node x5.1)), (9, [.int .i64 x5.2.2.Code, .int .i64 x5.2.2.At]), (10, (c_Node x6.1)), (11, [.int .i64 x6.2.Code, .int .i64 x6.2.At]), (13, [.int .i64 x7.2.Code, .int .i64 x7.2.At]), (14, (c_Node x8.1)), (15, [.int .i64 x8.2.Code, .int .i64 x8.2.At])], [], [], []⟩ (.cons (R_SameNode_ok x3 x x9 h8) (.cons (fun (ga0 : (!(!x9)) = true) => (R_NodeFault_ok x x10 (ite_t h9 ga0))) .nil)) (by kernel_rfl) ?_
      refine Wk_split rfl (fun hb => ?_) (fun hb => ?_)
      · have hF := ite_t hF hb
        refine Wk_seq ?_
        refine WR [] [4] [] [] [] [] [] ⟨[(4, .bool false)], [], [], [], []⟩ .nil (by kernel_rfl) ?_
        have hF := some_elim hF
        exact Wk_ret (hfin _ ⟨[], [], [], [], [], [], by first | (rw [← hF]; kernel_rfl) | kernel_rfl⟩)
      · have hF := ite_f hF hb
        refine Wk_skip ?_
        refine Wk_seq ?_
        obtain ⟨x11, h10, hF⟩ := ob_elim hF
        refine WR [.call (.tup [.agg (c_Node x11.1), .sl 9 (x11.2.1.map e_Mail), .agg [.int .i64 x11.2.2.Code, .int .i64 x11.2.2.At]])] [1, 2, 7, 8, 9, 10, 11, 12, 13, 14, 15, 16, 17, 18] [2, 7, 9, 10, 11, 13, 14, 15, 16, 18] [] [] [] [] ⟨[(1, .str text), (2, .ptr 2 0), (7, .ptr 7 0), (8, .sl 9 (x5.2.1.map e_Mail)), (9, .ptr 9 0), (10, .ptr 10 0), (11, .ptr 11 0), (12, .sl 9 (x7.1.map e_Mail)), (13, .ptr 13 0), (14, .ptr 14 0), (15, .ptr 15 0), (16, .ptr 16 0), (17, .sl 9 (x11.2.1.map e_Mail)), (18, .ptr 18 0)], [(2, (c_Node x)), (7, (c_Node x5.1)), (9, [.int .i64 x5.2.2.Code, .int .i64 x5.2.2.At]), (10, (c_Node x6.1)), (11, [.int .i64 x6.2.Code, .int .i64 x6.2.At]), (13, [.int .i64 x7.2.Code, .int .i64 x7.2.At]), (14, (c_Node x8.1)), (15, [.int .i64 x8.2.Code, .int .i64 x8.2.At]), (16, (c_Node x11.1)), (18, [.int .i64 x11.2.2.Code, .int .i64 x11.2.2.At])], [], [], []⟩ (.cons (R_StandNode_v1_ok x x11 h10) .nil) (by kernel_rfl) ?_
        refine Wk_seq ?_
        obtain ⟨x12, h11, hF⟩ := ob_elim hF
        refine WR [.call (.tup [.agg (c_Node x12.1), .agg [.int .i64 x12.2.Code, .int .i64 x12.2.At]])] [2, 7, 8, 9, 10, 11, 12, 13, 14, 15, 16, 17, 18, 19, 20] [2, 7, 9, 10, 11, 13, 14, 15, 16, 18, 19, 20] [] [] [] [] ⟨[(2, .ptr 2 0), (7, .ptr 7 0), (8, .sl 9 (x5.2.1.map e_Mail)), (9, .ptr 9 0), (10, .ptr 10 0), (11, .ptr 11 0), (12, .sl 9 (x7.1.map e_Mail)), (13, .ptr 13 0), (14, .ptr 14 0), (15, .ptr 15 0), (16, .ptr 16 0), (17, .sl 9 (x11.2.1.map e_Mail)), (18, .ptr 18 0), (19, .ptr 19 0), (20, .ptr 20 0)], [(2, (c_Node x)), (7, (c_Node x5.1)), (9, [.int .i64 x5.2.2.Code, .int .i64 x5.2.2.At]), (10, (c_Node x6.1)), (11, [.int .i64 x6.2.Code, .int .i64 x6.2.At]), (13, [.int .i64 x7.2.Code, .int .i64 x7.2.At]), (14, (c_Node x8.1)), (15, [.int .i64 x8.2.Code, .int .i64 x8.2.At]), (16, (c_Node x11.1)), (18, [.int .i64 x11.2.2.Code, .int .i64 x11.2.2.At]), (19, (c_Node x12.1)), (20, [.int .i64 x12.2.Code, .int .i64 x12.2.At])], [], [], []⟩ (.cons (R_ProposeNode_ok x text x12 h11) .nil) (by kernel_rfl) ?_
        refine Wk_seq ?_
        obtain ⟨x13, h12, hF⟩ := ob_elim hF
        refine WR [.call (.tup [.sl 9 (x13.1.map e_Mail), .agg [.int .i64 x13.2.Code, .int .i64 x13.2.At]])] [2, 7, 8, 9, 10, 11, 12, 13, 14, 15, 16, 17, 18, 19, 20, 21, 22] [2, 7, 9, 10, 11, 13, 14, 15, 16, 18, 19, 20, 22] [] [] [] [] ⟨[(2, .ptr 2 0), (7, .ptr 7 0), (8, .sl 9 (x5.2.1.map e_Mail)), (9, .ptr 9 0), (10, .ptr 10 0), (11, .ptr 11 0), (12, .sl 9 (x7.1.map e_Mail)), (13, .ptr 13 0), (14, .ptr 14 0), (15, .ptr 15 0), (16, .ptr 16 0), (17, .sl 9 (x11.2.1.map e_Mail)), (18, .ptr 18 0), (19, .ptr 19 0), (20, .ptr 20 0), (21, .sl 9 (x13.1.map e_Mail)), (22, .ptr 22 0)], [(2, (c_Node x)), (7, (c_Node x5.1)), (9, [.int .i64 x5.2.2.Code, .int .i64 x5.2.2.At]), (10, (c_Node x6.1)), (11, [.int .i64 x6.2.Code, .int .i64 x6.2.At]), (13, [.int .i64 x7.2.Code, .int .i64 x7.2.At]), (14, (c_Node x8.1)), (15, [.int .i64 x8.2.Code, .int .i64 x8.2.At]), (16, (c_Node x11.1)), (18, [.int .i64 x11.2.2.Code, .int .i64 x11.2.2.At]), (19, (c_Node x12.1)), (20, [.int .i64 x12.2.Code, .int .i64 x12.2.At]), (22, [.int .i64 x13.2.Code, .int .i64 x13.2.At])], [], [], []⟩ (.cons (R_BeatNode_v1_ok x x13 h12) .nil) (by kernel_rfl) ?_
        refine Wk_seq ?_
        obtain ⟨x14, h13, hF⟩ := ob_elim hF
        refine WR [.call (.tup [.agg (c_Node x14.1), .agg [.int .i64 x14.2.Code, .int .i64 x14.2.At]])] [7, 8, 9, 10, 11, 12, 13, 14, 15, 16, 17, 18, 19, 20, 21, 22, 23, 24] [7, 9, 10, 11, 13, 14, 15, 16, 18, 19, 20, 22, 23, 24] [] [] [] [] ⟨[(7, .ptr 7 0), (8, .sl 9 (x5.2.1.map e_Mail)), (9, .ptr 9 0), (10, .ptr 10 0), (11, .ptr 11 0), (12, .sl 9 (x7.1.map e_Mail)), (13, .ptr 13 0), (14, .ptr 14 0), (15, .ptr 15 0), (16, .ptr 16 0), (17, .sl 9 (x11.2.1.map e_Mail)), (18, .ptr 18 0), (19, .ptr 19 0), (20, .ptr 20 0), (21, .sl 9 (x13.1.map e_Mail)), (22, .ptr 22 0), (23, .ptr 23 0), (24, .ptr 24 0)], [(7, (c_Node x5.1)), (9, [.int .i64 x5.2.2.Code, .int .i64 x5.2.2.At]), (10, (c_Node x6.1)), (11, [.int .i64 x6.2.Code, .int .i64 x6.2.At]), (13, [.int .i64 x7.2.Code, .int .i64 x7.2.At]), (14, (c_Node x8.1)), (15, [.int .i64 x8.2.Code, .int .i64 x8.2.At]), (16, (c_Node x11.1)), (18, [.int .i64 x11.2.2.Code, .int .i64 x11.2.2.At]), (19, (c_Node x12.1)), (20, [.int .i64 x12.2.Code, .int .i64 x12.2.At]), (22, [.int .i64 x13.2.Code, .int .i64 x13.2.At]), (23, (c_Node x14.1)), (24, [.int .i64 x14.2.Code, .int .i64 x14.2.At])], [], [], []⟩ (.cons (R_RestartNode_v1_ok x x14 h13) .nil) (by kernel_rfl) ?_
        refine Wk_seq ?_
        obtain ⟨x15, h14, hF⟩ := ob_elim hF
        obtain ⟨x16, h15, hF⟩ := ob_elim hF
        obtain ⟨x17, h16, hF⟩ := ob_elim hF
        obtain ⟨x18, h17, hF⟩ := ob_elim hF
        obtain ⟨x19, h18, hF⟩ := ob_elim hF
        refine WRL (((((((((decide (x5.2.2.Code = x11.2.2.Code) && (decide (x5.2.2.At = x11.2.2.At) && true)) && (decide (x6.2.Code = x12.2.Code) && (decide (x6.2.At = x12.2.At) && true))) && (decide (x7.2.Code = x13.2.Code) && (decide (x7.2.At = x13.2.At) && true))) && (decide (x8.2.Code = x14.2.Code) && (decide (x8.2.At = x14.2.At) && true))) && x15) && x16) && x17) && x18) && x19) (fun v : Bool => ⟨[(4, .bool v)], [], [], [], []⟩) [.callB (.bool x15), .callB (.bool x16), .callB (.bool x17), .callB (.bool x18), .callB (.bool x19)] [4] [] [] [] [] [] (.cons (fun (ga0 : ((((decide (x5.2.2.Code = x11.2.2.Code) && (decide (x5.2.2.At = x11.2.2.At) && true)) && (decide (x6.2.Code = x12.2.Code) && (decide (x6.2.At = x12.2.At) && true))) && (decide (x7.2.Code = x13.2.Code) && (decide (x7.2.At = x13.2.At) && true))) && (decide (x8.2.Code = x14.2.Code) && (decide (x8.2.At = x14.2.At) && true))) = true) => (R_SameNode_ok x5.1 x11.1 x15 (ite_t h14 ga0))) (.cons (fun (ga0 : (((((decide (x5.2.2.Code = x11.2.2.Code) && (decide (x5.2.2.At = x11.2.2.At) && true)) && (decide (x6.2.Code = x12.2.Code) && (decide (x6.2.At = x12.2.At) && true))) && (decide (x7.2.Code = x13.2.Code) && (decide (x7.2.At = x13.2.At) && true))) && (decide (x8.2.Code = x14.2.Code) && (decide (x8.2.At = x14.2.At) && true))) && x15) = true) => (R_SameMails_ok x5.2.1 x11.2.1 x16 (ite_t h15 ga0))) (.cons (fun (ga0 : ((((((decide (x5.2.2.Code = x11.2.2.Code) && (decide (x5.2.2.At = x11.2.2.At) && true)) && (decide (x6.2.Code = x12.2.Code) && (decide (x6.2.At = x12.2.At) && true))) && (decide (x7.2.Code = x13.2.Code) && (decide (x7.2.At = x13.2.At) && true))) && (decide (x8.2.Code = x14.2.Code) && (decide (x8.2.At = x14.2.At) && true))) && x15) && x16) = true) => (R_SameNode_ok x6.1 x12.1 x17 (ite_t h16 ga0))) (.cons (fun (ga0 : (((((((decide (x5.2.2.Code = x11.2.2.Code) && (decide (x5.2.2.At = x11.2.2.At) && true)) && (decide (x6.2.Code = x12.2.Code) && (decide (x6.2.At = x12.2.At) && true))) && (decide (x7.2.Code = x13.2.Code) && (decide (x7.2.At = x13.2.At) && true))) && (decide (x8.2.Code = x14.2.Code) && (decide (x8.2.At = x14.2.At) && true))) && x15) && x16) && x17) = true) => (R_SameMails_ok x7.1 x13.1 x18 (ite_t h17 ga0))) (.cons (fun (ga0 : ((((((((decide (x5.2.2.Code = x11.2.2.Code) && (decide (x5.2.2.At = x11.2.2.At) && true)) && (decide (x6.2.Code = x12.2.Code) && (decide (x6.2.At = x12.2.At) && true))) && (decide (x7.2.Code = x13.2.Code) && (decide (x7.2.At = x13.2.At) && true))) && (decide (x8.2.Code = x14.2.Code) && (decide (x8.2.At = x14.2.At) && true))) && x15) && x16) && x17) && x18) = true) => (R_SameNode_ok x8.1 x14.1 x19 (ite_t h18 ga0))) .nil))))) (by kernel_rfl) (fun v hv => ?_)
        have hF := lt_elim hF hv
        have hF := some_elim hF
        exact Wk_ret (hfin _ ⟨[], [], [], [], [], [], by first | (rw [← hF]; kernel_rfl) | kernel_rfl⟩)

end G
end Go.Proofs.Ytcnngkigpfpalaa
