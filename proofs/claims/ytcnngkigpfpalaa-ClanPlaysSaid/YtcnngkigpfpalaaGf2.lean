/- The program's functions as plain functions, and that they are these. Written by a program (dec2.py). -/
import Derived.Test.YtcnngkigpfpalaaGf1
namespace Go.Proofs.Ytcnngkigpfpalaa
open Go Go.Dm
set_option linter.unusedVariables false
set_option linter.unusedSimpArgs false
set_option maxRecDepth 100000
namespace G
/- (*clan.game).does$1 -/
noncomputable def clan_game_does_1_v1 (x : Node) (box : List (List UInt8)) (row : List Node) (row1 : List Mail) : Option (Int × Int × Int × Int × List Entry × Int × Int × List Int × List Int × List Int × List Mail × Fault) :=
 asrt (0 ≤ (0 : Int) ∧ 0 < (box.length : Int)) <|
 ob (raft_Propose x (lget box 0)) fun x1 =>
 some (x1.1, x1.2.1, x1.2.2.1, x1.2.2.2.1, x1.2.2.2.2.1, x1.2.2.2.2.2.1, x1.2.2.2.2.2.2.1, x1.2.2.2.2.2.2.2.1, x1.2.2.2.2.2.2.2.2.1, x1.2.2.2.2.2.2.2.2.2.1, ([] : List Mail), x1.2.2.2.2.2.2.2.2.2.2)
theorem clan_game_does_1_v1_ok (x : Node) (box : List (List UInt8)) (row : List Node) (row1 : List Mail) (rk : Nat) (rc : Nat) (rn : Bool) (rk1 : Nat) (rc1 : Nat) (rn1 : Bool) (r : Int × Int × Int × Int × List Entry × Int × Int × List Int × List Int × List Int × List Mail × Fault) (hF : clan_game_does_1_v1 x box row row1 = some r) : Pe Try.prog 96 ⟨[], [(100000, [.ptr 100001 0]), (100001, [.row 100000 0, .row 100001 0, .sl 1 (box.map e_str)])], [(100000, ⟨46, 10, 0, rk, rc, rn, 0, [], (row.map e_Node)⟩), (100001, ⟨62, 9, 0, rk1, rc1, rn1, 0, [], (row1.map e_Mail)⟩)], [], []⟩ [.agg (c_Node x), .ptr 100000 0] (.tup [.agg [.i r.1, .i r.2.1, .i r.2.2.1, .i r.2.2.2.1, .row 16 0, .i r.2.2.2.2.2.1, .i r.2.2.2.2.2.2.1, .row 20016 0, .row 40016 0, .row 60016 0], .sl 9 (r.2.2.2.2.2.2.2.2.2.2.1.map e_Mail), .agg (c_Fault r.2.2.2.2.2.2.2.2.2.2.2)]) ⟨[], [(100000, [.ptr 100001 0]), (100001, [.row 100000 0, .row 100001 0, .sl 1 (box.map e_str)])], [(100000, ⟨46, 10, 0, rk, rc, rn, 0, [], (row.map e_Node)⟩), (100001, ⟨62, 9, 0, rk1, rc1, rn1, 0, [], (row1.map e_Mail)⟩), (16, .o 31 2 0 (r.2.2.2.2.1.map e_Entry)), (20016, .o 3 1 0 (r.2.2.2.2.2.2.2.1.map e_i64)), (40016, .o 3 1 0 (r.2.2.2.2.2.2.2.2.1.map e_i64)), (60016, .o 3 1 0 (r.2.2.2.2.2.2.2.2.2.1.map e_i64))], [], []⟩ := by
 refine PeN 21 [.cell 3 46, .tmp 4, .cell 5 26] [46, 50, 26] Ty.ok Fn.b96 Try.func96 ?_
 intro Q g hfin
 unfold clan_game_does_1_v1 at hF
 refine VR [] [1, 2, 3, 5] [2, 3, 5, 100000, 100001] [100000, 100001] [] [(2, .ptr 2 0), (3, .ptr 3 0), (5, .ptr 5 0)] [(2, (c_Node x)), (3, [.i 0, .i 0, .i 0, .i 0, .nils, .i 0, .i 0, .nils, .nils, .nils]), (5, [.i 0, .i 0])] [] [] .nil ?_
 obtain ⟨h0, hF⟩ := asrt_elim hF
 obtain ⟨x1, h1, hF⟩ := ob_elim hF
 refine VD [.av (e_str (lget box 0)), .callE [] [] [] [] (.tup [.agg [.i x1.1, .i x1.2.1, .i x1.2.2.1, .i x1.2.2.2.1, .row 16 0, .i x1.2.2.2.2.2.1, .i x1.2.2.2.2.2.2.1, .row 20016 0, .row 40016 0, .row 60016 0], .agg (c_Fault x1.2.2.2.2.2.2.2.2.2.2)]) ⟨[], [], [(16, .o 31 2 0 (x1.2.2.2.2.1.map e_Entry)), (20016, .o 3 1 0 (x1.2.2.2.2.2.2.2.1.map e_i64)), (40016, .o 3 1 0 (x1.2.2.2.2.2.2.2.2.1.map e_i64)), (60016, .o 3 1 0 (x1.2.2.2.2.2.2.2.2.2.1.map e_i64))], [], []⟩] [3, 5, 6, 7] [3, 5, 6, 7, 100000, 100001] [16, 20016, 40016, 60016, 100000, 100001] [] [(6, .ptr 6 0), (7, .ptr 7 0)] [(6, [.i x1.1, .i x1.2.1, .i x1.2.2.1, .i x1.2.2.2.1, .row 16 0, .i x1.2.2.2.2.2.1, .i x1.2.2.2.2.2.2.1, .row 20016 0, .row 40016 0, .row 60016 0]), (7, (c_Fault x1.2.2.2.2.2.2.2.2.2.2))] [(16, .o 31 2 0 (x1.2.2.2.2.1.map e_Entry)), (20016, .o 3 1 0 (x1.2.2.2.2.2.2.2.1.map e_i64)), (40016, .o 3 1 0 (x1.2.2.2.2.2.2.2.2.1.map e_i64)), (60016, .o 3 1 0 (x1.2.2.2.2.2.2.2.2.2.1.map e_i64))] [] (hc (idx_ok e_str h0) (hc (Pe.ren (raft_Propose_ok x (lget box 0) x1 h1) ⟨[], [(36, 16), (20036, 20016), (40036, 40016), (60036, 60016)], [], []⟩) .nil)) ?_
 refine VD [] [3, 4, 5] [3, 5, 100000, 100001] [16, 20016, 40016, 60016, 100000, 100001] [] [(4, .nils)] [(3, [.i x1.1, .i x1.2.1, .i x1.2.2.1, .i x1.2.2.2.1, .row 16 0, .i x1.2.2.2.2.2.1, .i x1.2.2.2.2.2.2.1, .row 20016 0, .row 40016 0, .row 60016 0]), (5, (c_Fault x1.2.2.2.2.2.2.2.2.2.2))] [] [] .nil ?_
 cases hF
 exact Wk_ret (hfin _ ⟨[100000, 100001, 16, 20016, 40016, 60016], [100000, 100001], [100000, 100001, 16, 20016, 40016, 60016], [], [], [], by kernel_rfl⟩)

/- (*clan.game).node -/
noncomputable def clan_game_node_v6 (who : Int) (box : List (List UInt8)) (row : List Node) (row1 : List Mail) : Option (Bool × List Node × List Mail × List (List UInt8)) :=
 asrt (0 ≤ who ∧ who < (row.length : Int)) <|
 asrt (0 ≤ who ∧ who < (row.length : Int)) <|
 ob (clan_game_does_1_v1 (⟨(lget row who).N, (lget row who).ID, (lget row who).Term, (lget row who).Vote, (lget row who).Log, (lget row who).Role, (lget row who).Commit, (lget row who).Votes, (lget row who).Next, (lget row who).Have⟩ : Node) box row row1) fun x =>
 if (!decide (x.2.2.2.2.2.2.2.2.2.2.2.Code = 0)) = true then
  some (false, row, row1, box)
 else
  asrt (((row1 ++ x.2.2.2.2.2.2.2.2.2.2.1).length : Int) * 88 ≤ 140737488351232) <|
  asrt (0 ≤ who ∧ who < (row.length : Int)) <|
  asrt (0 ≤ who ∧ who < (row.length : Int)) <|
  lt ((lset row who (⟨x.1, x.2.1, x.2.2.1, x.2.2.2.1, x.2.2.2.2.1, x.2.2.2.2.2.1, x.2.2.2.2.2.2.1, x.2.2.2.2.2.2.2.1, x.2.2.2.2.2.2.2.2.1, x.2.2.2.2.2.2.2.2.2.1⟩ : Node))) fun (v : List Node) =>
  some (true, v, (row1 ++ x.2.2.2.2.2.2.2.2.2.2.1), box)
theorem clan_game_node_v6_ok (who : Int) (box : List (List UInt8)) (row : List Node) (row1 : List Mail) (rk : Nat) (rc : Nat) (rn : Bool) (rk1 : Nat) (rc1 : Nat) (rn1 : Bool) (r : Bool × List Node × List Mail × List (List UInt8)) (hF : clan_game_node_v6 who box row row1 = some r) : Pe Try.prog 95 ⟨[], [(100000, [.row 100000 0, .row 100001 0, .sl 1 (box.map e_str)]), (100001, [.ptr 100000 0])], [(100000, ⟨46, 10, 0, 0, rc, rn, 0, [], (row.map e_Node)⟩), (100001, ⟨62, 9, 0, rk1, rc1, rn1, 0, [], (row1.map e_Mail)⟩)], [], []⟩ [.ptr 100000 0, .i who, .fn 96 [.ptr 100001 0]] (.bool r.1) ⟨[], [(100000, [.row 100000 0, .row 100001 1, .sl 1 (r.2.2.2.map e_str)]), (100001, [.ptr 100000 0])], [(100000, ⟨46, 10, 0, 0, rc, rn, 0, [], (r.2.1.map e_Node)⟩), (100001, ⟨62, 9, 1, rk1, rc1, rn1, 0, [], (r.2.2.1.map e_Mail)⟩)], [], []⟩ := by
 refine PeN 46 [.tmp 6] [4] Ty.ok Fn.b95 Try.func95 ?_
 intro Q g hfin
 unfold clan_game_node_v6 at hF
 refine NR [] [0, 1, 2] [100000, 100001] [100000, 100001] [] .nil ?_
 obtain ⟨h0, h1, hF⟩ := asrt2 hF
 obtain ⟨x, h2, hF⟩ := ob_elim hF
 refine VR [.av (e_Node (lget row who)), .callE [100001, 100000] [100000, 100001] [] [] (.tup [.agg [.i x.1, .i x.2.1, .i x.2.2.1, .i x.2.2.2.1, .row 20 0, .i x.2.2.2.2.2.1, .i x.2.2.2.2.2.2.1, .row 20020 0, .row 40020 0, .row 60020 0], .sl 9 (x.2.2.2.2.2.2.2.2.2.2.1.map e_Mail), .agg (c_Fault x.2.2.2.2.2.2.2.2.2.2.2)]) ⟨[], [(100001, [.ptr 100000 0]), (100000, [.row 100000 0, .row 100001 0, .sl 1 (box.map e_str)])], [(100000, ⟨46, 10, 0, 0, rc, rn, 0, [], (row.map e_Node)⟩), (100001, ⟨62, 9, 0, rk1, rc1, rn1, 0, [], (row1.map e_Mail)⟩), (20, .o 31 2 0 (x.2.2.2.2.1.map e_Entry)), (20020, .o 3 1 0 (x.2.2.2.2.2.2.2.1.map e_i64)), (40020, .o 3 1 0 (x.2.2.2.2.2.2.2.2.1.map e_i64)), (60020, .o 3 1 0 (x.2.2.2.2.2.2.2.2.2.1.map e_i64))], [], []⟩] [0, 1, 7, 8, 9] [7, 9, 100000, 100001] [20, 20020, 40020, 60020, 100000, 100001] [] [(7, .ptr 7 0), (8, .sl 9 (x.2.2.2.2.2.2.2.2.2.2.1.map e_Mail)), (9, .ptr 9 0)] [(7, [.i x.1, .i x.2.1, .i x.2.2.1, .i x.2.2.2.1, .row 20 0, .i x.2.2.2.2.2.1, .i x.2.2.2.2.2.2.1, .row 20020 0, .row 40020 0, .row 60020 0]), (9, (c_Fault x.2.2.2.2.2.2.2.2.2.2.2))] [(20, .o 31 2 0 (x.2.2.2.2.1.map e_Entry)), (20020, .o 3 1 0 (x.2.2.2.2.2.2.2.1.map e_i64)), (40020, .o 3 1 0 (x.2.2.2.2.2.2.2.2.1.map e_i64)), (60020, .o 3 1 0 (x.2.2.2.2.2.2.2.2.2.1.map e_i64))] [] (hc (ixr_ok e_Node h0) (hc (ldr_ok e_Node h1) (hc (Pe.ren (clan_game_does_1_v1_ok (⟨(lget row who).N, (lget row who).ID, (lget row who).Term, (lget row who).Vote, (lget row who).Log, (lget row who).Role, (lget row who).Commit, (lget row who).Votes, (lget row who).Next, (lget row who).Have⟩ : Node) box row row1 0 rc rn rk1 rc1 rn1 x h2) ⟨[(100000, 100001)], [(16, 20), (20016, 20020), (40016, 40020), (60016, 60020)], [], []⟩) .nil))) ?_
 refine NR [] [0, 1, 7, 8, 26] [7, 100000, 100001] [20, 20020, 40020, 60020, 100000, 100001] [(26, .bool (!decide (x.2.2.2.2.2.2.2.2.2.2.2.Code = 0)))] .nil ?_
 refine Nif hF (fun hb hF => ?_) (fun hb hF => ?_)
 ·refine NR [] [6] [100000, 100001] [100000, 100001] [(6, .bool false)] .nil ?_
  cases hF
  exact Wk_ret (hfin _ ⟨[100000, 100001], [100000, 100001], [100000, 100001], [], [], [(100001, ⟨1, true, true, false⟩)], by kernel_rfl⟩)
 ·obtain ⟨h3, hF⟩ := asrt_elim hF
  obtain ⟨h4, h5, hF⟩ := asrt2 hF
  refine NDL ((lset row who (⟨x.1, x.2.1, x.2.2.1, x.2.2.2.1, x.2.2.2.2.1, x.2.2.2.2.2.1, x.2.2.2.2.2.2.1, x.2.2.2.2.2.2.2.1, x.2.2.2.2.2.2.2.2.1, x.2.2.2.2.2.2.2.2.2.1⟩ : Node))) (fun v : List Node => ([], [(100000, [.row 100000 0, .row 100001 1, .sl 1 (box.map e_str)])], [(100000, ⟨46, 10, 0, 0, rc, rn, 0, [], (v.map e_Node)⟩), (100001, ⟨62, 9, 1, rk1, rc1, rn1, 0, [], ((row1 ++ x.2.2.2.2.2.2.2.2.2.2.1).map e_Mail)⟩)], [])) [.xs ((row1 ++ x.2.2.2.2.2.2.2.2.2.2.1).map e_Mail), .av (e_Node (lget row who)), .xs ((lset row who (⟨x.1, x.2.1, x.2.2.1, x.2.2.2.1, x.2.2.2.2.1, x.2.2.2.2.2.1, x.2.2.2.2.2.2.1, x.2.2.2.2.2.2.2.1, x.2.2.2.2.2.2.2.2.1, x.2.2.2.2.2.2.2.2.2.1⟩ : Node)).map e_Node)] [] [100000, 100001] [100000, 100001] [] (hc (app_ok e_Mail row1 x.2.2.2.2.2.2.2.2.2.2.1) (hc (appl_ok e_Mail h3) (hc (ixr_ok e_Node h4) (hc (ldr_ok e_Node h5) (hc (set_ok e_Node row who (⟨x.1, x.2.1, x.2.2.1, x.2.2.2.1, x.2.2.2.2.1, x.2.2.2.2.2.1, x.2.2.2.2.2.2.1, x.2.2.2.2.2.2.2.1, x.2.2.2.2.2.2.2.2.1, x.2.2.2.2.2.2.2.2.2.1⟩ : Node)) (hc (Nat.zero_le who.toNat) .nil)))))) (fun v hv => ?_)
  have hF := lt_elim hF hv
  refine NR [] [6] [100000, 100001] [100000, 100001] [(6, .bool true)] .nil ?_
  cases hF
  exact Wk_ret (hfin _ ⟨[100000, 100001], [100000, 100001], [100000, 100001], [], [], [], by kernel_rfl⟩)

/- (*clan.game).node -/
noncomputable def clan_game_node_v7 (who : Int) (box : List (List UInt8)) (row : List Node) (row1 : List Mail) : Option (Bool × List Node × List Mail × List (List UInt8)) :=
 asrt (0 ≤ who ∧ who < (row.length : Int)) <|
 asrt (0 ≤ who ∧ who < (row.length : Int)) <|
 ob (clan_game_does_2 (⟨(lget row who).N, (lget row who).ID, (lget row who).Term, (lget row who).Vote, (lget row who).Log, (lget row who).Role, (lget row who).Commit, (lget row who).Votes, (lget row who).Next, (lget row who).Have⟩ : Node)) fun x =>
 if (!decide (x.2.2.Code = 0)) = true then
  some (false, row, row1, box)
 else
  asrt (((row1 ++ x.2.1).length : Int) * 88 ≤ 140737488351232) <|
  asrt (0 ≤ who ∧ who < (row.length : Int)) <|
  asrt (0 ≤ who ∧ who < (row.length : Int)) <|
  some (true, (lset row who x.1), (row1 ++ x.2.1), box)
theorem clan_game_node_v7_ok (who : Int) (box : List (List UInt8)) (row : List Node) (row1 : List Mail) (rk : Nat) (rc : Nat) (rn : Bool) (rk1 : Nat) (rc1 : Nat) (rn1 : Bool) (r : Bool × List Node × List Mail × List (List UInt8)) (hF : clan_game_node_v7 who box row row1 = some r) : Pe Try.prog 95 ⟨[], [(100000, [.row 100000 0, .row 100001 0, .sl 1 (box.map e_str)])], [(100000, ⟨46, 10, 0, 0, rc, rn, 0, [], (row.map e_Node)⟩), (100001, ⟨62, 9, 0, rk1, rc1, rn1, 0, [], (row1.map e_Mail)⟩)], [], []⟩ [.ptr 100000 0, .i who, .fn 97 []] (.bool r.1) ⟨[], [(100000, [.row 100000 0, .row 100001 1, .sl 1 (r.2.2.2.map e_str)])], [(100000, ⟨46, 10, 0, 0, rc, rn, 0, [], (r.2.1.map e_Node)⟩), (100001, ⟨62, 9, 1, rk1, rc1, rn1, 0, [], (r.2.2.1.map e_Mail)⟩)], [], []⟩ := by
 refine PeN 46 [.tmp 6] [4] Ty.ok Fn.b95 Try.func95 ?_
 intro Q g hfin
 unfold clan_game_node_v7 at hF
 refine NR [] [0, 1, 2] [100000] [100000, 100001] [] .nil ?_
 obtain ⟨h0, h1, hF⟩ := asrt2 hF
 obtain ⟨x, h2, hF⟩ := ob_elim hF
 refine VR [.av (e_Node (lget row who)), .callE [] [] [] [] (.tup [.agg (c_Node x.1), .row 20 0, .agg (c_Fault x.2.2)]) ⟨[], [], [(20, .z 62 9 0 (x.2.1.map e_Mail))], [], []⟩] [0, 1, 7, 8, 9] [7, 9, 100000] [20, 100000, 100001] [] [(7, .ptr 7 0), (8, .row 20 0), (9, .ptr 9 0)] [(7, (c_Node x.1)), (9, (c_Fault x.2.2))] [(20, .z 62 9 0 (x.2.1.map e_Mail))] [] (hc (ixr_ok e_Node h0) (hc (ldr_ok e_Node h1) (hc (Pe.ren (clan_game_does_2_ok (⟨(lget row who).N, (lget row who).ID, (lget row who).Term, (lget row who).Vote, (lget row who).Log, (lget row who).Role, (lget row who).Commit, (lget row who).Votes, (lget row who).Next, (lget row who).Have⟩ : Node) x h2) ⟨[], [(9, 20)], [], []⟩) .nil))) ?_
 refine NR [] [0, 1, 7, 8, 26] [7, 100000] [20, 100000, 100001] [(26, .bool (!decide (x.2.2.Code = 0)))] .nil ?_
 refine Nif hF (fun hb hF => ?_) (fun hb hF => ?_)
 ·refine NR [] [6] [100000] [100000, 100001] [(6, .bool false)] .nil ?_
  cases hF
  exact Wk_ret (hfin _ ⟨[100000, 100001], [100000], [100000, 100001], [], [], [(100001, ⟨1, true, true, false⟩)], by kernel_rfl⟩)
 ·obtain ⟨h3, hF⟩ := asrt_elim hF
  obtain ⟨h4, h5, hF⟩ := asrt2 hF
  refine VD [.xs ((row1 ++ x.2.1).map e_Mail), .av (e_Node (lget row who)), .xs ((lset row who x.1).map e_Node)] [] [100000] [100000, 100001] [] [] [(100000, [.row 100000 0, .row 100001 1, .sl 1 (box.map e_str)])] [(100000, ⟨46, 10, 0, 0, rc, rn, 0, [], ((lset row who x.1).map e_Node)⟩), (100001, ⟨62, 9, 1, rk1, rc1, rn1, 0, [], ((row1 ++ x.2.1).map e_Mail)⟩)] [] (hc (app_ok e_Mail row1 x.2.1) (hc (appl_ok e_Mail h3) (hc (ixr_ok e_Node h4) (hc (ldr_ok e_Node h5) (hc (set_ok e_Node row who x.1) (hc (Nat.zero_le who.toNat) .nil)))))) ?_
  refine NR [] [6] [100000] [100000, 100001] [(6, .bool true)] .nil ?_
  cases hF
  exact Wk_ret (hfin _ ⟨[100000, 100001], [100000], [100000, 100001], [], [], [], by kernel_rfl⟩)

/- slices.Delete[[]api.Mail,api.Mail] -/
noncomputable def slices_Delete_api_Mail_api_Mail_v2 (i : Int) (j : Int) (row : List Mail) : Option (List Mail) :=
 asrt ((0 : Int) ≤ i ∧ i ≤ j ∧ j ≤ (row.length : Int) ∧ (row.length : Int) ≤ (row.length : Int)) <|
 if (decide (i = j)) = true then
  some row
 else
  asrt (0 ≤ i ∧ i ≤ (row.length : Int)) <|
  asrt (0 ≤ j ∧ j ≤ (row.length : Int)) <|
  asrt (((row.take i.toNat ++ ((row.drop j.toNat).take (row.length - j.toNat))).length : Int) * 88 ≤ 140737488351232) <|
  asrt (i.toNat ≤ row.length) <|
  asrt (j.toNat + (row.length - j.toNat) ≤ row.length) <|
  asrt (0 ≤ ((row.take i.toNat ++ ((row.drop j.toNat).take (row.length - j.toNat))).length : Int) ∧ ((row.take i.toNat ++ ((row.drop j.toNat).take (row.length - j.toNat))).length : Int) ≤ (row.length : Int) ∧ ((row.length : Int).toNat ≤ (row.take i.toNat ++ ((row.drop j.toNat).take (row.length - j.toNat))).length ∨ (row.length : Int).toNat ≤ ((row.map e_Mail).length))) <|
  lt ((lclear (row.take i.toNat ++ ((row.drop j.toNat).take (row.length - j.toNat))) (((row.take i.toNat ++ ((row.drop j.toNat).take (row.length - j.toNat))).length : Int).toNat) ((row.length : Int).toNat - ((row.take i.toNat ++ ((row.drop j.toNat).take (row.length - j.toNat))).length : Int).toNat) ((⟨0, 0, 0, 0, 0, 0, 0, ([] : List Entry), false⟩ : Mail) : Mail))) fun (v : List Mail) =>
  some v
theorem slices_Delete_api_Mail_api_Mail_v2_ok (i : Int) (j : Int) (row : List Mail) (rk : Nat) (rc : Nat) (rn : Bool) (r : List Mail) (hF : slices_Delete_api_Mail_api_Mail_v2 i j row = some r) : Pe Try.prog 98 ⟨[], [], [(100000, ⟨62, 9, 0, 0, rc, rn, 0, [], (row.map e_Mail)⟩)], [], []⟩ [.row 100000 0, .i i, .i j] (.row 100000 1) ⟨[], [], [(100000, .o 62 9 1 (r.map e_Mail))], [], []⟩ := by
 refine PeN 33 [.tmp 6] [50] Ty.ok Fn.b98 Try.func98 ?_
 intro Q g hfin
 unfold slices_Delete_api_Mail_api_Mail_v2 at hF
 refine NR [] [0, 1, 2] [] [100000] [] .nil ?_
 obtain ⟨h0, hF⟩ := asrt_elim hF
 refine NR [.nat (row.length : Int)] [0, 1, 2] [] [100000] [] (hc (len_ok e_Mail row) (hc (s3_ok e_Mail h0) .nil)) ?_
 refine NR [] [0, 1, 2, 16] [] [100000] [(16, .bool (decide (i = j)))] .nil ?_
 refine Nif hF (fun hb hF => ?_) (fun hb hF => ?_)
 ·refine NR [] [6] [] [100000] [(6, .row 100000 0)] .nil ?_
  cases hF
  exact Wk_ret (hfin _ ⟨[100000], [], [100000], [], [], [(100000, ⟨1, false, false, false⟩)], by kernel_rfl⟩)
 ·refine NR [.nat (row.length : Int)] [0, 1, 2, 7] [] [100000] [(7, .i (row.length : Int))] (hc (len_ok e_Mail row) .nil) ?_
  obtain ⟨h1, h2, h3, h4, hF⟩ := asrt4 hF
  obtain ⟨h5, hF⟩ := asrt_elim hF
  refine VD [.vw i.toNat, .vw (row.length - j.toNat), .xs ((row.take i.toNat ++ ((row.drop j.toNat).take (row.length - j.toNat))).map e_Mail)] [0, 7] [] [100000] [] [(0, .row 100000 1)] [] [(100000, ⟨62, 9, 1, 0, (row.map e_Mail).length, false, 0, [], ((row.take i.toNat ++ ((row.drop j.toNat).take (row.length - j.toNat))).map e_Mail)⟩)] [] (hc (vw01_ok (cm := rc) e_Mail h1) (hc (vw10_ok e_Mail h2) (hc (tapv_ok e_Mail row i.toNat row j.toNat (row.length - j.toNat)) (hc (appl_ok e_Mail h3) (hc (tk_ok e_Mail h4) (hc (srcv_ok e_Mail h5) .nil)))))) ?_
  obtain ⟨h7, hF⟩ := asrt_elim hF
  refine NRL ((lclear (row.take i.toNat ++ ((row.drop j.toNat).take (row.length - j.toNat))) (((row.take i.toNat ++ ((row.drop j.toNat).take (row.length - j.toNat))).length : Int).toNat) ((row.length : Int).toNat - ((row.take i.toNat ++ ((row.drop j.toNat).take (row.length - j.toNat))).length : Int).toNat) ((⟨0, 0, 0, 0, 0, 0, 0, ([] : List Entry), false⟩ : Mail) : Mail))) (fun v : List Mail => ([], [], [(100000, ⟨62, 9, 1, 0, (row.map e_Mail).length, false, 0, [], (v.map e_Mail)⟩)], [])) [.nat ((row.take i.toNat ++ ((row.drop j.toNat).take (row.length - j.toNat))).length : Int), .vw ((row.length : Int).toNat - ((row.take i.toNat ++ ((row.drop j.toNat).take (row.length - j.toNat))).length : Int).toNat), .xs ((lclear (row.take i.toNat ++ ((row.drop j.toNat).take (row.length - j.toNat))) (((row.take i.toNat ++ ((row.drop j.toNat).take (row.length - j.toNat))).length : Int).toNat) ((row.length : Int).toNat - ((row.take i.toNat ++ ((row.drop j.toNat).take (row.length - j.toNat))).length : Int).toNat) ((⟨0, 0, 0, 0, 0, 0, 0, ([] : List Entry), false⟩ : Mail) : Mail)).map e_Mail)] [0] [] [100000] [] (hc (len_ok e_Mail (row.take i.toNat ++ ((row.drop j.toNat).take (row.length - j.toNat)))) (hc (vw11c_ok e_Mail h7) (hc (clr_ok e_Mail (row.take i.toNat ++ ((row.drop j.toNat).take (row.length - j.toNat))) (((row.take i.toNat ++ ((row.drop j.toNat).take (row.length - j.toNat))).length : Int).toNat) ((row.length : Int).toNat - ((row.take i.toNat ++ ((row.drop j.toNat).take (row.length - j.toNat))).length : Int).toNat) ((⟨0, 0, 0, 0, 0, 0, 0, ([] : List Entry), false⟩ : Mail) : Mail)) (hc (Nat.zero_le (((row.take i.toNat ++ ((row.drop j.toNat).take (row.length - j.toNat))).length : Int).toNat)) .nil)))) (fun v hv => ?_)
  have hF := lt_elim hF hv
  refine NR [] [6] [] [100000] [(6, .row 100000 1)] .nil ?_
  cases hF
  exact Wk_ret (hfin _ ⟨[100000], [], [100000], [], [], [(100000, ⟨1, false, true, false⟩)], by kernel_rfl⟩)

/- (*clan.game).node -/
noncomputable def clan_game_node_v8 (who : Int) (box : List (List UInt8)) (row : List Node) (row1 : List Mail) : Option (Bool × List Node × List Mail × List (List UInt8)) :=
 asrt (0 ≤ who ∧ who < (row.length : Int)) <|
 asrt (0 ≤ who ∧ who < (row.length : Int)) <|
 ob (clan_game_does_4 (⟨(lget row who).N, (lget row who).ID, (lget row who).Term, (lget row who).Vote, (lget row who).Log, (lget row who).Role, (lget row who).Commit, (lget row who).Votes, (lget row who).Next, (lget row who).Have⟩ : Node)) fun x =>
 if (!decide (x.2.2.2.2.2.2.2.2.2.2.2.Code = 0)) = true then
  some (false, row, row1, box)
 else
  asrt (((row1 ++ x.2.2.2.2.2.2.2.2.2.2.1).length : Int) * 88 ≤ 140737488351232) <|
  asrt (0 ≤ who ∧ who < (row.length : Int)) <|
  asrt (0 ≤ who ∧ who < (row.length : Int)) <|
  lt ((lset row who (⟨x.1, x.2.1, x.2.2.1, x.2.2.2.1, x.2.2.2.2.1, x.2.2.2.2.2.1, x.2.2.2.2.2.2.1, x.2.2.2.2.2.2.2.1, x.2.2.2.2.2.2.2.2.1, x.2.2.2.2.2.2.2.2.2.1⟩ : Node))) fun (v : List Node) =>
  some (true, v, (row1 ++ x.2.2.2.2.2.2.2.2.2.2.1), box)
theorem clan_game_node_v8_ok (who : Int) (box : List (List UInt8)) (row : List Node) (row1 : List Mail) (rk : Nat) (rc : Nat) (rn : Bool) (rk1 : Nat) (rc1 : Nat) (rn1 : Bool) (r : Bool × List Node × List Mail × List (List UInt8)) (hF : clan_game_node_v8 who box row row1 = some r) : Pe Try.prog 95 ⟨[], [(100000, [.row 100000 0, .row 100001 0, .sl 1 (box.map e_str)])], [(100000, ⟨46, 10, 0, 0, rc, rn, 0, [], (row.map e_Node)⟩), (100001, ⟨62, 9, 0, rk1, rc1, rn1, 0, [], (row1.map e_Mail)⟩)], [], []⟩ [.ptr 100000 0, .i who, .fn 100 []] (.bool r.1) ⟨[], [(100000, [.row 100000 0, .row 100001 1, .sl 1 (r.2.2.2.map e_str)])], [(100000, ⟨46, 10, 0, 0, rc, rn, 0, [], (r.2.1.map e_Node)⟩), (100001, ⟨62, 9, 1, rk1, rc1, rn1, 0, [], (r.2.2.1.map e_Mail)⟩)], [], []⟩ := by
 refine PeN 46 [.tmp 6] [4] Ty.ok Fn.b95 Try.func95 ?_
 intro Q g hfin
 unfold clan_game_node_v8 at hF
 refine NR [] [0, 1, 2] [100000] [100000, 100001] [] .nil ?_
 obtain ⟨h0, h1, hF⟩ := asrt2 hF
 obtain ⟨x, h2, hF⟩ := ob_elim hF
 refine VR [.av (e_Node (lget row who)), .callE [] [] [] [] (.tup [.agg [.i x.1, .i x.2.1, .i x.2.2.1, .i x.2.2.2.1, .row 20 0, .i x.2.2.2.2.2.1, .i x.2.2.2.2.2.2.1, .row 20020 0, .row 40020 0, .row 60020 0], .sl 9 (x.2.2.2.2.2.2.2.2.2.2.1.map e_Mail), .agg (c_Fault x.2.2.2.2.2.2.2.2.2.2.2)]) ⟨[], [], [(20, .o 31 2 0 (x.2.2.2.2.1.map e_Entry)), (20020, .z 3 1 0 (x.2.2.2.2.2.2.2.1.map e_i64)), (40020, .z 3 1 0 (x.2.2.2.2.2.2.2.2.1.map e_i64)), (60020, .z 3 1 0 (x.2.2.2.2.2.2.2.2.2.1.map e_i64))], [], []⟩] [0, 1, 7, 8, 9] [7, 9, 100000] [20, 20020, 40020, 60020, 100000, 100001] [] [(7, .ptr 7 0), (8, .sl 9 (x.2.2.2.2.2.2.2.2.2.2.1.map e_Mail)), (9, .ptr 9 0)] [(7, [.i x.1, .i x.2.1, .i x.2.2.1, .i x.2.2.2.1, .row 20 0, .i x.2.2.2.2.2.1, .i x.2.2.2.2.2.2.1, .row 20020 0, .row 40020 0, .row 60020 0]), (9, (c_Fault x.2.2.2.2.2.2.2.2.2.2.2))] [(20, .o 31 2 0 (x.2.2.2.2.1.map e_Entry)), (20020, .z 3 1 0 (x.2.2.2.2.2.2.2.1.map e_i64)), (40020, .z 3 1 0 (x.2.2.2.2.2.2.2.2.1.map e_i64)), (60020, .z 3 1 0 (x.2.2.2.2.2.2.2.2.2.1.map e_i64))] [] (hc (ixr_ok e_Node h0) (hc (ldr_ok e_Node h1) (hc (Pe.ren (clan_game_does_4_ok (⟨(lget row who).N, (lget row who).ID, (lget row who).Term, (lget row who).Vote, (lget row who).Log, (lget row who).Role, (lget row who).Commit, (lget row who).Votes, (lget row who).Next, (lget row who).Have⟩ : Node) x h2) ⟨[], [(9, 20), (20009, 20020), (40009, 40020), (60009, 60020)], [], []⟩) .nil))) ?_
 refine NR [] [0, 1, 7, 8, 26] [7, 100000] [20, 20020, 40020, 60020, 100000, 100001] [(26, .bool (!decide (x.2.2.2.2.2.2.2.2.2.2.2.Code = 0)))] .nil ?_
 refine Nif hF (fun hb hF => ?_) (fun hb hF => ?_)
 ·refine NR [] [6] [100000] [100000, 100001] [(6, .bool false)] .nil ?_
  cases hF
  exact Wk_ret (hfin _ ⟨[100000, 100001], [100000], [100000, 100001], [], [], [(100001, ⟨1, true, true, false⟩)], by kernel_rfl⟩)
 ·obtain ⟨h3, hF⟩ := asrt_elim hF
  obtain ⟨h4, h5, hF⟩ := asrt2 hF
  refine NDL ((lset row who (⟨x.1, x.2.1, x.2.2.1, x.2.2.2.1, x.2.2.2.2.1, x.2.2.2.2.2.1, x.2.2.2.2.2.2.1, x.2.2.2.2.2.2.2.1, x.2.2.2.2.2.2.2.2.1, x.2.2.2.2.2.2.2.2.2.1⟩ : Node))) (fun v : List Node => ([], [(100000, [.row 100000 0, .row 100001 1, .sl 1 (box.map e_str)])], [(100000, ⟨46, 10, 0, 0, rc, rn, 0, [], (v.map e_Node)⟩), (100001, ⟨62, 9, 1, rk1, rc1, rn1, 0, [], ((row1 ++ x.2.2.2.2.2.2.2.2.2.2.1).map e_Mail)⟩)], [])) [.xs ((row1 ++ x.2.2.2.2.2.2.2.2.2.2.1).map e_Mail), .av (e_Node (lget row who)), .xs ((lset row who (⟨x.1, x.2.1, x.2.2.1, x.2.2.2.1, x.2.2.2.2.1, x.2.2.2.2.2.1, x.2.2.2.2.2.2.1, x.2.2.2.2.2.2.2.1, x.2.2.2.2.2.2.2.2.1, x.2.2.2.2.2.2.2.2.2.1⟩ : Node)).map e_Node)] [] [100000] [100000, 100001] [] (hc (app_ok e_Mail row1 x.2.2.2.2.2.2.2.2.2.2.1) (hc (appl_ok e_Mail h3) (hc (ixr_ok e_Node h4) (hc (ldr_ok e_Node h5) (hc (set_ok e_Node row who (⟨x.1, x.2.1, x.2.2.1, x.2.2.2.1, x.2.2.2.2.1, x.2.2.2.2.2.1, x.2.2.2.2.2.2.1, x.2.2.2.2.2.2.2.1, x.2.2.2.2.2.2.2.2.1, x.2.2.2.2.2.2.2.2.2.1⟩ : Node)) (hc (Nat.zero_le who.toNat) .nil)))))) (fun v hv => ?_)
  have hF := lt_elim hF hv
  refine NR [] [6] [100000] [100000, 100001] [(6, .bool true)] .nil ?_
  cases hF
  exact Wk_ret (hfin _ ⟨[100000, 100001], [100000], [100000, 100001], [], [], [], by kernel_rfl⟩)

/- (*clan.game).does -/
noncomputable def clan_game_does_v1_J2 (v2 : List Node × List Mail × List (List UInt8)) : Option (Int × List Node × List Mail × List (List UInt8)) :=
 if (decide (200 < (v2.2.1.length : Int))) = true then
  some (9, v2.1, v2.2.1, v2.2.2)
 else
  some (0, v2.1, v2.2.1, v2.2.2)
noncomputable def clan_game_does_v1_J1 (d : Deed) (box : List (List UInt8)) (row : List Node) (row1 : List Mail) (v1 : Unit) : Option (Int × List Node × List Mail × List (List UInt8)) :=
 if (decide (d.Kind = 0)) = true then
  ob (clan_game_node_v5 d.Who box row row1) fun x =>
  clan_game_does_v1_J2 (x.2.1, x.2.2.1, x.2.2.2)
 else
  if (decide (d.Kind = 1)) = true then
   if (decide ((box.length : Int) = 0)) = true then
    some (6, row, row1, box)
   else
    ob (clan_game_node_v6 d.Who box row row1) fun x1 =>
    if x1.1 = true then
     asrt (0 ≤ (1 : Int) ∧ (1 : Int) ≤ (x1.2.2.2.length : Int)) <|
     clan_game_does_v1_J2 (x1.2.1, x1.2.2.1, (ldrop x1.2.2.2 1))
    else
     clan_game_does_v1_J2 (x1.2.1, x1.2.2.1, x1.2.2.2)
  else
   if (decide (d.Kind = 2)) = true then
    ob (clan_game_node_v7 d.Who box row row1) fun x2 =>
    clan_game_does_v1_J2 (x2.2.1, x2.2.2.1, x2.2.2.2)
   else
    if (decide (d.Kind = 3)) = true then
     asrt (0 ≤ d.N ∧ d.N < (row1.length : Int)) <|
     asrt (0 ≤ d.N ∧ d.N < (row1.length : Int)) <|
     ob (slices_Delete_api_Mail_api_Mail_v2 d.N (w64 (d.N + 1)) row1) fun x3 =>
     ob (clan_game_node_v3 ((lget row1 d.N).To) box (⟨(lget row1 d.N).Kind, (lget row1 d.N).From, (lget row1 d.N).To, (lget row1 d.N).Term, (lget row1 d.N).A, (lget row1 d.N).B, (lget row1 d.N).C0, (lget row1 d.N).Entries, (lget row1 d.N).Ok⟩ : Mail) row x3) fun x4 =>
     clan_game_does_v1_J2 (x4.2.1, x4.2.2.1, x4.2.2.2)
    else
     if (decide (d.Kind = 4)) = true then
      asrt (0 ≤ d.N ∧ d.N < (row1.length : Int)) <|
      asrt (0 ≤ d.N ∧ d.N < (row1.length : Int)) <|
      asrt (((row1 ++ [(⟨(lget row1 d.N).Kind, (lget row1 d.N).From, (lget row1 d.N).To, (lget row1 d.N).Term, (lget row1 d.N).A, (lget row1 d.N).B, (lget row1 d.N).C0, (lget row1 d.N).Entries, (lget row1 d.N).Ok⟩ : Mail)]).length : Int) * 88 ≤ 140737488351232) <|
      lt ((row1 ++ [(⟨(lget row1 d.N).Kind, (lget row1 d.N).From, (lget row1 d.N).To, (lget row1 d.N).Term, (lget row1 d.N).A, (lget row1 d.N).B, (lget row1 d.N).C0, (lget row1 d.N).Entries, (lget row1 d.N).Ok⟩ : Mail)])) fun (v3 : List Mail) =>
      clan_game_does_v1_J2 (row, v3, box)
     else
      if (decide (d.Kind = 5)) = true then
       ob (slices_Delete_api_Mail_api_Mail_v2 d.N (w64 (d.N + 1)) row1) fun x5 =>
       clan_game_does_v1_J2 (row, x5, box)
      else
       if (decide (d.Kind = 6)) = true then
        ob (clan_game_node_v8 d.Who box row row1) fun x6 =>
        clan_game_does_v1_J2 (x6.2.1, x6.2.2.1, x6.2.2.2)
       else
        clan_game_does_v1_J2 (row, row1, box)
noncomputable def clan_game_does_v1 (d : Deed) (box : List (List UInt8)) (row : List Node) (row1 : List Mail) : Option (Int × List Node × List Mail × List (List UInt8)) :=
 ob (
  if (decide (d.Kind = 0)) = true then
   some (decide (d.Kind = 0))
  else
   if (decide (d.Kind = 1)) = true then
    some (decide (d.Kind = 1))
   else
    if (decide (d.Kind = 2)) = true then
     some (decide (d.Kind = 2))
    else
     some (decide (d.Kind = 6))) fun (v : Bool) =>
 if v = true then
  if ((decide (d.Who < 0)) || (decide ((row.length : Int) ≤ d.Who))) = true then
   some (3, row, row1, box)
  else
   clan_game_does_v1_J1 d box row row1 ()
 else
  ob (
   if (decide (d.Kind = 3)) = true then
    some (decide (d.Kind = 3))
   else
    if (decide (d.Kind = 4)) = true then
     some (decide (d.Kind = 4))
    else
     some (decide (d.Kind = 5))) fun (v4 : Bool) =>
  if v4 = true then
   if ((decide (d.N < 0)) || (decide ((row1.length : Int) ≤ d.N))) = true then
    some (3, row, row1, box)
   else
    clan_game_does_v1_J1 d box row row1 ()
  else
   some (4, row, row1, box)
theorem clan_game_does_v1_ok (d : Deed) (box : List (List UInt8)) (row : List Node) (row1 : List Mail) (rk : Nat) (rc : Nat) (rn : Bool) (rk1 : Nat) (rc1 : Nat) (rn1 : Bool) (r : Int × List Node × List Mail × List (List UInt8)) (hF : clan_game_does_v1 d box row row1 = some r) : Pe Try.prog 85 ⟨[], [(100000, [.row 100000 0, .row 100001 0, .sl 1 (box.map e_str)])], [(100000, ⟨46, 10, 0, 0, rc, rn, 0, [], (row.map e_Node)⟩), (100001, ⟨62, 9, 0, 0, rc1, rn1, 0, [], (row1.map e_Mail)⟩)], [], []⟩ [.ptr 100000 0, .agg (c_Deed d)] (.i r.1) ⟨[], [(100000, [.row 100000 0, .row 100001 1, .sl 1 (r.2.2.2.map e_str)])], [(100000, ⟨46, 10, 0, 0, rc, rn, 0, [], (r.2.1.map e_Node)⟩), (100001, .o 62 9 1 (r.2.2.1.map e_Mail))], [], []⟩ := by
 refine PeN 163 [.tmp 4] [3] Ty.ok Fn.b85 Try.func85 ?_
 intro Q g hfin
 unfold clan_game_does_v1 at hF
 refine VR [] [2, 3] [2, 3, 100000] [100000, 100001] [] [(2, .ptr 2 0), (3, .ptr 3 0)] [(2, [.ptr 100000 0]), (3, (c_Deed d))] [] [] .nil ?_
 refine NR [] [2, 3, 7] [2, 3, 100000] [100000, 100001] [(7, .i d.Kind)] .nil ?_
 refine Nblk ?_
 refine NR [] [2, 3, 7, 8] [2, 3, 100000] [100000, 100001] [(8, .bool (decide (d.Kind = 0)))] .nil ?_
 obtain ⟨v, hv, hF⟩ := ob_elim hF
 refine Nmeet (⟨[(2, .ptr 2 0), (3, .ptr 3 0), (7, .i d.Kind), (8, .bool v)], [(2, [.ptr 100000 0]), (3, (c_Deed d)), (100000, [.row 100000 0, .row 100001 0, .sl 1 (box.map e_str)])], [(100000, ⟨46, 10, 0, 0, rc, rn, 0, [], (row.map e_Node)⟩), (100001, ⟨62, 9, 0, 0, rc1, rn1, 0, [], (row1.map e_Mail)⟩)], [], []⟩ : S) ?_ ?_
 ·have hF := hv
  refine Nif hF (fun hb hF => ?_) (fun hb hF => ?_)
  ·cases hF
   exact met [] (by kernel_rfl)
  ·refine NR [] [2, 3, 7, 8] [2, 3, 100000] [100000, 100001] [(8, .bool (decide (d.Kind = 1)))] .nil ?_
   refine Nif hF (fun hb hF => ?_) (fun hb hF => ?_)
   ·cases hF
    exact met [] (by kernel_rfl)
   ·refine NR [] [2, 3, 7, 8] [2, 3, 100000] [100000, 100001] [(8, .bool (decide (d.Kind = 2)))] .nil ?_
    refine Nif hF (fun hb hF => ?_) (fun hb hF => ?_)
    ·cases hF
     exact met [] (by kernel_rfl)
    ·refine NR [] [2, 3, 7, 8] [2, 3, 100000] [100000, 100001] [(8, .bool (decide (d.Kind = 6)))] .nil ?_
     cases hF
     exact met [] (by kernel_rfl)
 ·refine NmeetP (fun v1 : Unit => (⟨[(2, .ptr 2 0), (3, .ptr 3 0)], [(2, [.ptr 100000 0]), (3, (c_Deed d)), (100000, [.row 100000 0, .row 100001 0, .sl 1 (box.map e_str)])], [(100000, ⟨46, 10, 0, 0, rc, rn, 0, [], (row.map e_Node)⟩), (100001, ⟨62, 9, 0, 0, rc1, rn1, 0, [], (row1.map e_Mail)⟩)], [], []⟩ : S)) (fun v1 => clan_game_does_v1_J1 d box row row1 v1 = some r) ?_ ?_
  ·refine Nif hF (fun hb hF => ?_) (fun hb hF => ?_)
   ·refine ND [.nat (row.length : Int)] [2, 3, 26] [2, 3, 100000] [100000, 100001] [(26, .bool ((decide (d.Who < 0)) || (decide ((row.length : Int) ≤ d.Who))))] (hc (fun (_ : (!(decide (d.Who < 0))) = true) => (len_ok e_Node row)) .nil) ?_
    refine Nif hF (fun hb hF => ?_) (fun hb hF => ?_)
    ·refine NR [] [4] [100000] [100000, 100001] [(4, .i 3)] .nil ?_
     cases hF
     exact Wk_ret (hfin _ ⟨[100000, 100001], [100000], [100000, 100001], [], [], [(100001, ⟨1, false, false, false⟩)], by kernel_rfl⟩)
    ·exact metP () [] hF (by kernel_rfl)
   ·refine NR [] [2, 3, 7, 27] [2, 3, 100000] [100000, 100001] [(27, .bool (decide (d.Kind = 3)))] .nil ?_
    obtain ⟨v4, hv, hF⟩ := ob_elim hF
    refine Nmeet (⟨[(2, .ptr 2 0), (3, .ptr 3 0), (27, .bool v4)], [(2, [.ptr 100000 0]), (3, (c_Deed d)), (100000, [.row 100000 0, .row 100001 0, .sl 1 (box.map e_str)])], [(100000, ⟨46, 10, 0, 0, rc, rn, 0, [], (row.map e_Node)⟩), (100001, ⟨62, 9, 0, 0, rc1, rn1, 0, [], (row1.map e_Mail)⟩)], [], []⟩ : S) ?_ ?_
    ·have hF := hv
     refine Nif hF (fun hb hF => ?_) (fun hb hF => ?_)
     ·cases hF
      exact met [] (by kernel_rfl)
     ·refine NR [] [2, 3, 7, 27] [2, 3, 100000] [100000, 100001] [(27, .bool (decide (d.Kind = 4)))] .nil ?_
      refine Nif hF (fun hb hF => ?_) (fun hb hF => ?_)
      ·cases hF
       exact met [] (by kernel_rfl)
      ·refine NR [] [2, 3, 27] [2, 3, 100000] [100000, 100001] [(27, .bool (decide (d.Kind = 5)))] .nil ?_
       cases hF
       exact met [] (by kernel_rfl)
    ·refine Nif hF (fun hb hF => ?_) (fun hb hF => ?_)
     ·refine ND [.nat (row1.length : Int)] [2, 3, 44] [2, 3, 100000] [100000, 100001] [(44, .bool ((decide (d.N < 0)) || (decide ((row1.length : Int) ≤ d.N))))] (hc (fun (_ : (!(decide (d.N < 0))) = true) => (len_ok e_Mail row1)) .nil) ?_
      refine Nif hF (fun hb hF => ?_) (fun hb hF => ?_)
      ·refine NR [] [4] [100000] [100000, 100001] [(4, .i 3)] .nil ?_
       cases hF
       exact Wk_ret (hfin _ ⟨[100000, 100001], [100000], [100000, 100001], [], [], [(100001, ⟨1, false, false, false⟩)], by kernel_rfl⟩)
      ·exact metP () [] hF (by kernel_rfl)
     ·refine NR [] [4] [100000] [100000, 100001] [(4, .i 4)] .nil ?_
      cases hF
      exact Wk_ret (hfin _ ⟨[100000, 100001], [100000], [100000, 100001], [], [], [(100001, ⟨1, false, false, false⟩)], by kernel_rfl⟩)
  ·intro v1 hF
   have hF : clan_game_does_v1_J1 d box row row1 v1 = some r := hF
   unfold clan_game_does_v1_J1 at hF
   refine NR [] [2, 3, 46] [2, 3, 100000] [100000, 100001] [(46, .i d.Kind)] .nil ?_
   refine Nblk ?_
   refine NR [] [2, 3, 46, 47] [2, 3, 100000] [100000, 100001] [(47, .bool (decide (d.Kind = 0)))] .nil ?_
   refine NmeetP (fun v2 : List Node × List Mail × List (List UInt8) => (⟨[(2, .ptr 2 0)], [(2, [.ptr 100000 0]), (100000, [.row 100000 0, .row 100001 1, .sl 1 (v2.2.2.map e_str)])], [(100000, ⟨46, 10, 0, 0, rc, rn, 0, [], (v2.1.map e_Node)⟩), (100001, .o 62 9 1 (v2.2.1.map e_Mail))], [], []⟩ : S)) (fun v2 => clan_game_does_v1_J2 v2 = some r) ?_ ?_
   ·refine Nif hF (fun hb hF => ?_) (fun hb hF => ?_)
    ·obtain ⟨x, h0, hF⟩ := ob_elim hF
     refine VR [.callE [100000] [100000, 100001] [] [] (.bool x.1) ⟨[], [(100000, [.row 100000 0, .row 100001 1, .sl 1 (x.2.2.2.map e_str)])], [(100000, ⟨46, 10, 0, 0, rc, rn, 0, [], (x.2.1.map e_Node)⟩), (100001, ⟨62, 9, 1, 0, rc1, rn1, 0, [], (x.2.2.1.map e_Mail)⟩)], [], []⟩] [2] [2, 100000] [100000, 100001] [] [] [(100000, [.row 100000 0, .row 100001 1, .sl 1 (x.2.2.2.map e_str)])] [(100000, ⟨46, 10, 0, 0, rc, rn, 0, [], (x.2.1.map e_Node)⟩), (100001, ⟨62, 9, 1, 0, rc1, rn1, 0, [], (x.2.2.1.map e_Mail)⟩)] [] (hc (Pe.ren (clan_game_node_v5_ok d.Who box row row1 0 rc rn 0 rc1 rn1 x h0) ⟨[], [], [], []⟩) .nil) ?_
     exact metP (x.2.1, x.2.2.1, x.2.2.2) [(100001, ⟨1, false, false, false⟩)] hF (by kernel_rfl)
    ·refine NR [] [2, 3, 46, 53] [2, 3, 100000] [100000, 100001] [(53, .bool (decide (d.Kind = 1)))] .nil ?_
     refine Nif hF (fun hb hF => ?_) (fun hb hF => ?_)
     ·refine NR [.nat (box.length : Int)] [2, 3, 60] [2, 3, 100000] [100000, 100001] [(60, .bool (decide ((box.length : Int) = 0)))] (hc (len_ok e_str box) .nil) ?_
      refine Nif hF (fun hb hF => ?_) (fun hb hF => ?_)
      ·refine NR [] [4] [100000] [100000, 100001] [(4, .i 6)] .nil ?_
       cases hF
       exact Wk_ret (hfin _ ⟨[100000, 100001], [100000], [100000, 100001], [], [], [(100001, ⟨1, false, false, false⟩)], by kernel_rfl⟩)
      ·obtain ⟨x1, h1, hF⟩ := ob_elim hF
       refine VR [.callE [100000, 2] [100000, 100001] [] [] (.bool x1.1) ⟨[], [(100000, [.row 100000 0, .row 100001 1, .sl 1 (x1.2.2.2.map e_str)]), (2, [.ptr 100000 0])], [(100000, ⟨46, 10, 0, 0, rc, rn, 0, [], (x1.2.1.map e_Node)⟩), (100001, ⟨62, 9, 1, 0, rc1, rn1, 0, [], (x1.2.2.1.map e_Mail)⟩)], [], []⟩] [2, 65] [2, 100000] [100000, 100001] [] [(65, .bool x1.1)] [(100000, [.row 100000 0, .row 100001 1, .sl 1 (x1.2.2.2.map e_str)])] [(100000, ⟨46, 10, 0, 0, rc, rn, 0, [], (x1.2.1.map e_Node)⟩), (100001, ⟨62, 9, 1, 0, rc1, rn1, 0, [], (x1.2.2.1.map e_Mail)⟩)] [] (hc (Pe.ren (clan_game_node_v6_ok d.Who box row row1 0 rc rn 0 rc1 rn1 x1 h1) ⟨[(100001, 2)], [], [], []⟩) .nil) ?_
       refine Nif hF (fun hb hF => ?_) (fun hb hF => ?_)
       ·obtain ⟨h2, hF⟩ := asrt_elim hF
        refine VD [.xs ((ldrop x1.2.2.2 1).map e_str)] [2] [2, 100000] [100000, 100001] [] [] [(100000, [.row 100000 0, .row 100001 1, .sl 1 ((ldrop x1.2.2.2 1).map e_str)])] [] [] (hc (sl10_ok e_str h2) .nil) ?_
        exact metP (x1.2.1, x1.2.2.1, (ldrop x1.2.2.2 1)) [(100001, ⟨1, false, false, false⟩)] hF (by kernel_rfl)
       ·exact metP (x1.2.1, x1.2.2.1, x1.2.2.2) [(100001, ⟨1, false, false, false⟩)] hF (by kernel_rfl)
     ·refine NR [] [2, 3, 46, 74] [2, 3, 100000] [100000, 100001] [(74, .bool (decide (d.Kind = 2)))] .nil ?_
      refine Nif hF (fun hb hF => ?_) (fun hb hF => ?_)
      ·obtain ⟨x2, h3, hF⟩ := ob_elim hF
       refine VR [.callE [100000] [100000, 100001] [] [] (.bool x2.1) ⟨[], [(100000, [.row 100000 0, .row 100001 1, .sl 1 (x2.2.2.2.map e_str)])], [(100000, ⟨46, 10, 0, 0, rc, rn, 0, [], (x2.2.1.map e_Node)⟩), (100001, ⟨62, 9, 1, 0, rc1, rn1, 0, [], (x2.2.2.1.map e_Mail)⟩)], [], []⟩] [2] [2, 100000] [100000, 100001] [] [] [(100000, [.row 100000 0, .row 100001 1, .sl 1 (x2.2.2.2.map e_str)])] [(100000, ⟨46, 10, 0, 0, rc, rn, 0, [], (x2.2.1.map e_Node)⟩), (100001, ⟨62, 9, 1, 0, rc1, rn1, 0, [], (x2.2.2.1.map e_Mail)⟩)] [] (hc (Pe.ren (clan_game_node_v7_ok d.Who box row row1 0 rc rn 0 rc1 rn1 x2 h3) ⟨[], [], [], []⟩) .nil) ?_
       exact metP (x2.2.1, x2.2.2.1, x2.2.2.2) [(100001, ⟨1, false, false, false⟩)] hF (by kernel_rfl)
      ·refine NR [] [2, 3, 46, 80] [2, 3, 100000] [100000, 100001] [(80, .bool (decide (d.Kind = 3)))] .nil ?_
       refine Nif hF (fun hb hF => ?_) (fun hb hF => ?_)
       ·obtain ⟨h4, hF⟩ := asrt_elim hF
        obtain ⟨h5, hF⟩ := asrt_elim hF
        refine VD [.av (e_Mail (lget row1 d.N))] [2, 3, 5] [2, 3, 5, 100000] [100000, 100001] [] [(5, .ptr 5 0)] [(5, (c_Mail (lget row1 d.N)))] [] [] (hc (ixr_ok e_Mail h4) (hc (ldr_ok e_Mail h5) .nil)) ?_
        obtain ⟨x3, h6, hF⟩ := ob_elim hF
        refine VD [.callE [] [100001] [] [] (.row 100001 1) ⟨[], [], [(100001, .o 62 9 1 (x3.map e_Mail))], [], []⟩] [2, 5] [2, 5, 100000] [100000, 100001] [] [] [(100000, [.row 100000 0, .row 100001 1, .sl 1 (box.map e_str)])] [(100001, .o 62 9 1 (x3.map e_Mail))] [] (hc (Pe.ren (slices_Delete_api_Mail_api_Mail_v2_ok d.N (w64 (d.N + 1)) row1 0 rc1 rn1 x3 h6) ⟨[], [(100000, 100001)], [], []⟩) .nil) ?_
        obtain ⟨x4, h7, hF⟩ := ob_elim hF
        refine VR [.callE [100000, 5] [100000, 100001] [] [] (.bool x4.1) ⟨[], [(100000, [.row 100000 0, .row 100001 2, .sl 1 (x4.2.2.2.map e_str)]), (5, (c_Mail (⟨(lget row1 d.N).Kind, (lget row1 d.N).From, (lget row1 d.N).To, (lget row1 d.N).Term, (lget row1 d.N).A, (lget row1 d.N).B, (lget row1 d.N).C0, (lget row1 d.N).Entries, (lget row1 d.N).Ok⟩ : Mail)))], [(100000, ⟨46, 10, 0, 0, rc, rn, 0, [], (x4.2.1.map e_Node)⟩), (100001, .o 62 9 2 (x4.2.2.1.map e_Mail))], [], []⟩] [2] [2, 100000] [100000, 100001] [] [] [(100000, [.row 100000 0, .row 100001 2, .sl 1 (x4.2.2.2.map e_str)])] [(100000, ⟨46, 10, 0, 0, rc, rn, 0, [], (x4.2.1.map e_Node)⟩), (100001, .o 62 9 2 (x4.2.2.1.map e_Mail))] [] (hc (Pe.ren (clan_game_node_v3_ok ((lget row1 d.N).To) box (⟨(lget row1 d.N).Kind, (lget row1 d.N).From, (lget row1 d.N).To, (lget row1 d.N).Term, (lget row1 d.N).A, (lget row1 d.N).B, (lget row1 d.N).C0, (lget row1 d.N).Entries, (lget row1 d.N).Ok⟩ : Mail) row x3 0 rc rn 0 0 false x4 h7) ⟨[(100001, 5)], [], [], [(100001, 1)]⟩) .nil) ?_
        exact metP (x4.2.1, x4.2.2.1, x4.2.2.2) [(100001, ⟨1, true, true, false⟩)] hF (by kernel_rfl)
       ·refine NR [] [2, 3, 46, 111] [2, 3, 100000] [100000, 100001] [(111, .bool (decide (d.Kind = 4)))] .nil ?_
        refine Nif hF (fun hb hF => ?_) (fun hb hF => ?_)
        ·obtain ⟨h8, hF⟩ := asrt_elim hF
         obtain ⟨h9, h10, hF⟩ := asrt2 hF
         refine NDL ((row1 ++ [(⟨(lget row1 d.N).Kind, (lget row1 d.N).From, (lget row1 d.N).To, (lget row1 d.N).Term, (lget row1 d.N).A, (lget row1 d.N).B, (lget row1 d.N).C0, (lget row1 d.N).Entries, (lget row1 d.N).Ok⟩ : Mail)])) (fun v3 : List Mail => ([], [(100000, [.row 100000 0, .row 100001 1, .sl 1 (box.map e_str)])], [(100001, ⟨62, 9, 1, 0, rc1, rn1, 0, [], (v3.map e_Mail)⟩)], [])) [.av (e_Mail (lget row1 d.N)), .sealed, .xs ((row1 ++ [(⟨(lget row1 d.N).Kind, (lget row1 d.N).From, (lget row1 d.N).To, (lget row1 d.N).Term, (lget row1 d.N).A, (lget row1 d.N).B, (lget row1 d.N).C0, (lget row1 d.N).Entries, (lget row1 d.N).Ok⟩ : Mail)]).map e_Mail)] [2] [2, 100000] [100000, 100001] [] (hc (ixr_ok e_Mail h8) (hc (ldr_ok e_Mail h9) (hc (app_ok e_Mail row1 [(⟨(lget row1 d.N).Kind, (lget row1 d.N).From, (lget row1 d.N).To, (lget row1 d.N).Term, (lget row1 d.N).A, (lget row1 d.N).B, (lget row1 d.N).C0, (lget row1 d.N).Entries, (lget row1 d.N).Ok⟩ : Mail)]) (hc (appl_ok e_Mail h10) .nil)))) (fun v3 hv => ?_)
         have hF := lt_elim hF hv
         exact metP (row, v3, box) [(100001, ⟨1, false, false, false⟩)] hF (by kernel_rfl)
        ·refine NR [] [2, 3, 46, 133] [2, 3, 100000] [100000, 100001] [(133, .bool (decide (d.Kind = 5)))] .nil ?_
         refine Nif hF (fun hb hF => ?_) (fun hb hF => ?_)
         ·obtain ⟨x5, h11, hF⟩ := ob_elim hF
          refine VD [.callE [] [100001] [] [] (.row 100001 1) ⟨[], [], [(100001, .o 62 9 1 (x5.map e_Mail))], [], []⟩] [2] [2, 100000] [100000, 100001] [] [] [(100000, [.row 100000 0, .row 100001 1, .sl 1 (box.map e_str)])] [(100001, .o 62 9 1 (x5.map e_Mail))] [] (hc (Pe.ren (slices_Delete_api_Mail_api_Mail_v2_ok d.N (w64 (d.N + 1)) row1 0 rc1 rn1 x5 h11) ⟨[], [(100000, 100001)], [], []⟩) .nil) ?_
          exact metP (row, x5, box) [] hF (by kernel_rfl)
         ·refine NR [] [2, 3, 150] [2, 3, 100000] [100000, 100001] [(150, .bool (decide (d.Kind = 6)))] .nil ?_
          refine Nif hF (fun hb hF => ?_) (fun hb hF => ?_)
          ·obtain ⟨x6, h12, hF⟩ := ob_elim hF
           refine VR [.callE [100000] [100000, 100001] [] [] (.bool x6.1) ⟨[], [(100000, [.row 100000 0, .row 100001 1, .sl 1 (x6.2.2.2.map e_str)])], [(100000, ⟨46, 10, 0, 0, rc, rn, 0, [], (x6.2.1.map e_Node)⟩), (100001, ⟨62, 9, 1, 0, rc1, rn1, 0, [], (x6.2.2.1.map e_Mail)⟩)], [], []⟩] [2] [2, 100000] [100000, 100001] [] [] [(100000, [.row 100000 0, .row 100001 1, .sl 1 (x6.2.2.2.map e_str)])] [(100000, ⟨46, 10, 0, 0, rc, rn, 0, [], (x6.2.1.map e_Node)⟩), (100001, ⟨62, 9, 1, 0, rc1, rn1, 0, [], (x6.2.2.1.map e_Mail)⟩)] [] (hc (Pe.ren (clan_game_node_v8_ok d.Who box row row1 0 rc rn 0 rc1 rn1 x6 h12) ⟨[], [], [], []⟩) .nil) ?_
           exact metP (x6.2.1, x6.2.2.1, x6.2.2.2) [(100001, ⟨1, false, false, false⟩)] hF (by kernel_rfl)
          ·exact metP (row, row1, box) [(100001, ⟨1, false, false, false⟩)] hF (by kernel_rfl)
   ·intro v2 hF
    have hF : clan_game_does_v1_J2 v2 = some r := hF
    unfold clan_game_does_v1_J2 at hF
    refine NR [.nat (v2.2.1.length : Int)] [162] [100000] [100000, 100001] [(162, .bool (decide (200 < (v2.2.1.length : Int))))] (hc (len_ok e_Mail v2.2.1) .nil) ?_
    refine Nif hF (fun hb hF => ?_) (fun hb hF => ?_)
    ·refine NR [] [4] [100000] [100000, 100001] [(4, .i 9)] .nil ?_
     cases hF
     exact Wk_ret (hfin _ ⟨[100000, 100001], [100000], [100000, 100001], [], [], [], by kernel_rfl⟩)
    ·refine NR [] [4] [100000] [100000, 100001] [(4, .i 0)] .nil ?_
     cases hF
     exact Wk_ret (hfin _ ⟨[100000, 100001], [100000], [100000, 100001], [], [], [], by kernel_rfl⟩)

/- slices.Clone[[]api.Mail,api.Mail] -/
noncomputable def slices_Clone_api_Mail_api_Mail (s0 : List Mail) : Option (List Mail) :=
 ubO (decide (s0.length = 0)) (
  some ([] : List Mail)) (
  asrt (((([] : List Mail) ++ s0).length : Int) * 88 ≤ 140737488351232) <|
  some (([] : List Mail) ++ s0))
theorem slices_Clone_api_Mail_api_Mail_ok (s0 : List Mail) (r : List Mail) (hF : slices_Clone_api_Mail_api_Mail s0 = some r) : Pe Try.prog 101 S.none [.sl 9 (s0.map e_Mail)] (.row 5 0) ⟨[], [], [(5, .o 62 9 0 (r.map e_Mail))], [], []⟩ := by
 refine PeN 8 [.tmp 2] [50] Ty.ok Fn.b101 Try.func101 ?_
 intro Q g hfin
 unfold slices_Clone_api_Mail_api_Mail at hF
 refine NR [] [0] [] [] [] .nil ?_
 refine NR [.bo (decide (s0.length = 0))] [0, 4] [] [] [(4, .ub (decide (s0.length = 0)) true)] (hc (ubn_ok e_Mail s0) .nil) ?_
 refine Wk_ub 4 rfl fun b hb1 hb2 => ?_
 refine Nsplit rfl (fun hb => ?_) (fun hb => ?_)
 ·have hb := hb1 hb
  have hF := (ubO_elim hF).1 hb
  refine NR [] [2] [] [] [(2, .nils)] .nil ?_
  cases hF
  refine Wk_nilrow 2 60000 62 9 rfl rfl rfl ?_
  refine Wk_ren' ⟨[], [(60000, 5)], [], []⟩ rfl ?_
  exact Wk_ret (hfin _ ⟨[5], [], [5], [], [], [(5, ⟨0, true, false, false⟩)], by kernel_rfl⟩)
 ·have hF := (ubO_elim hF).2
  obtain ⟨h0, hF⟩ := asrt_elim hF
  refine VR [.xs ((([] : List Mail) ++ s0).map e_Mail)] [2] [] [5] [] [(2, .row 5 1)] [] [(5, .o 62 9 1 ((([] : List Mail) ++ s0).map e_Mail))] [] (hc (app_ok e_Mail ([] : List Mail) s0) (hc (appl_ok e_Mail h0) .nil)) ?_
  cases hF
  exact Wk_ret (hfin _ ⟨[5], [], [5], [], [], [(5, ⟨0, true, true, false⟩)], by kernel_rfl⟩)

/- clan.own -/
noncomputable def clan_own_J1 (v : List Mail) : Option (List Mail) :=
 some v
noncomputable def clan_own_B1 (x : List Mail) (v1 : List Mail × Int) : Option ((List Mail × Int) ⊕ (List Mail)) :=
 if (decide (v1.2 < (x.length : Int))) = true then
  asrt (0 ≤ v1.2 ∧ v1.2 < (v1.1.length : Int)) <|
  asrt (0 ≤ v1.2 ∧ v1.2 < (v1.1.length : Int)) <|
  ob (slices_Clone_api_Entry_api_Entry ((lget v1.1 v1.2).Entries)) fun x1 =>
  asrt (0 ≤ v1.2 ∧ v1.2 < (v1.1.length : Int)) <|
  asrt (0 ≤ v1.2 ∧ v1.2 < (v1.1.length : Int)) <|
  lt ((lset v1.1 v1.2 (⟨(lget v1.1 v1.2).Kind, (lget v1.1 v1.2).From, (lget v1.1 v1.2).To, (lget v1.1 v1.2).Term, (lget v1.1 v1.2).A, (lget v1.1 v1.2).B, (lget v1.1 v1.2).C0, x1, (lget v1.1 v1.2).Ok⟩ : Mail))) fun (v2 : List Mail) =>
  some (Sum.inl (v2, w64 (v1.2 + 1)))
 else
  inrO (clan_own_J1 v1.1)
noncomputable def clan_own_L1 (x : List Mail) (v0 : List Mail × Int) : Option (List Mail) :=
 loopO (fun y => clan_own_B1 x y) v0
noncomputable def clan_own (l : List Mail) : Option (List Mail) :=
 ob (slices_Clone_api_Mail_api_Mail l) fun x =>
 clan_own_L1 x (x, 0)
theorem clan_own_ok (l : List Mail) (r : List Mail) (hF : clan_own l = some r) : Pe Try.prog 86 S.none [.sl 9 (l.map e_Mail)] (.row 6 0) ⟨[], [], [(6, .o 62 9 0 (r.map e_Mail))], [], []⟩ := by
 refine PeN 24 [.tmp 2] [50] Ty.ok Fn.b86 Try.func86 ?_
 intro Q g hfin
 unfold clan_own at hF
 refine NR [] [0] [] [] [] .nil ?_
 obtain ⟨x, h0, hF⟩ := ob_elim hF
 refine VR [.callE [] [] [] [] (.row 6 0) ⟨[], [], [(6, .o 62 9 0 (x.map e_Mail))], [], []⟩] [3] [] [6] [] [(3, .row 6 0)] [] [(6, .o 62 9 0 (x.map e_Mail))] [] (hc (Pe.ren (slices_Clone_api_Mail_api_Mail_ok l x h0) ⟨[], [(5, 6)], [], []⟩) .nil) ?_
 refine NR [.nat (x.length : Int)] [3, 8, 9] [] [6] [(8, .i (x.length : Int)), (9, .i 0)] (hc (len_ok e_Mail x) .nil) ?_
 refine NmeetP (fun v : List Mail => (⟨[(3, .row 6 0)], [], [(6, .o 62 9 0 (v.map e_Mail))], [], []⟩ : S)) (fun v => clan_own_J1 v = some r) ?_ ?_
 ·refine Nblk ?_
  unfold clan_own_L1 at hF
  refine Niter (fun v1 : List Mail × Int => (⟨[(3, .row 6 0), (8, .i (x.length : Int)), (9, .i v1.2)], [], [(6, .o 62 9 0 (v1.1.map e_Mail))], [], []⟩ : S)) [] hF (by kernel_rfl) ?_
  intro n1 v1 y1 hF ih1 dn1
  unfold clan_own_B1 at hF
  refine NR [] [3, 8, 9, 10] [] [6] [(10, .bool (decide (v1.2 < (x.length : Int))))] .nil ?_
  refine Nif hF (fun hb hF => ?_) (fun hb hF => ?_)
  ·refine Nblk ?_
   refine NR [] [3, 4, 8, 9] [] [6] [(4, .i v1.2)] .nil ?_
   obtain ⟨h1, h2, hF⟩ := asrt2 hF
   obtain ⟨x1, h3, hF⟩ := ob_elim hF
   obtain ⟨h4, h5, hF⟩ := asrt2 hF
   refine NRL ((lset v1.1 v1.2 (⟨(lget v1.1 v1.2).Kind, (lget v1.1 v1.2).From, (lget v1.1 v1.2).To, (lget v1.1 v1.2).Term, (lget v1.1 v1.2).A, (lget v1.1 v1.2).B, (lget v1.1 v1.2).C0, x1, (lget v1.1 v1.2).Ok⟩ : Mail))) (fun v2 : List Mail => ([], [], [(6, .o 62 9 0 (v2.map e_Mail))], [])) [.av (e_Mail (lget v1.1 v1.2)), .callE [] [] [] [] (.row 19 0) ⟨[], [], [(19, .o 31 2 0 (x1.map e_Entry))], [], []⟩, .av (e_Mail (lget v1.1 v1.2)), .xs ((lset v1.1 v1.2 (⟨(lget v1.1 v1.2).Kind, (lget v1.1 v1.2).From, (lget v1.1 v1.2).To, (lget v1.1 v1.2).Term, (lget v1.1 v1.2).A, (lget v1.1 v1.2).B, (lget v1.1 v1.2).C0, x1, (lget v1.1 v1.2).Ok⟩ : Mail)).map e_Mail)] [3, 8, 9] [] [6] [] (hc (ixr_ok e_Mail h1) (hc (ldr_ok e_Mail h2) (hc (Pe.ren (slices_Clone_api_Entry_api_Entry_ok ((lget v1.1 v1.2).Entries) x1 h3) ⟨[], [(5, 19)], [], []⟩) (hc (ixr_ok e_Mail h4) (hc (ldr_ok e_Mail h5) (hc (set_ok e_Mail v1.1 v1.2 (⟨(lget v1.1 v1.2).Kind, (lget v1.1 v1.2).From, (lget v1.1 v1.2).To, (lget v1.1 v1.2).Term, (lget v1.1 v1.2).A, (lget v1.1 v1.2).B, (lget v1.1 v1.2).C0, x1, (lget v1.1 v1.2).Ok⟩ : Mail)) (hc (Nat.zero_le v1.2.toNat) .nil))))))) (fun v2 hv => ?_)
   have hF := lt_elim hF hv
   refine NR [] [3, 8, 9] [] [6] [(9, .i (w64 (v1.2 + 1)))] .nil ?_
   exact Nrnd [] hF ih1 (by kernel_rfl)
  ·refine Nexit rfl ?_
   have hF := inrO_done hF dn1
   exact metP v1.1 [] hF (by kernel_rfl)
 ·intro v hF
  have hF : clan_own_J1 v = some r := hF
  unfold clan_own_J1 at hF
  refine NR [] [2] [] [6] [(2, .row 6 0)] .nil ?_
  cases hF
  exact Wk_ret (hfin _ ⟨[6], [], [6], [], [], [], by kernel_rfl⟩)

/- clan.Play -/
noncomputable def clan_Play_v1_J2 (v1 : List Node × List Mail × List (List UInt8)) : Option (Clan × Fault) :=
 ob (clan_own v1.2.1) fun x3 =>
 some ((⟨v1.1, x3⟩ : Clan), (⟨0, 0⟩ : Fault))
noncomputable def clan_Play_v1_B1 (deeds : List Deed) (v2 : List Node × List Mail × List (List UInt8) × Int) : Option ((List Node × List Mail × List (List UInt8) × Int) ⊕ (Clan × Fault)) :=
 if (decide (v2.2.2.2 < (deeds.length : Int))) = true then
  asrt (0 ≤ v2.2.2.2 ∧ v2.2.2.2 < (deeds.length : Int)) <|
  ob (clan_game_does_v1 (⟨(lget deeds v2.2.2.2).Kind, (lget deeds v2.2.2.2).Who, (lget deeds v2.2.2.2).N⟩ : Deed) v2.2.2.1 v2.1 v2.2.1) fun x4 =>
  if (!decide (x4.1 = 0)) = true then
   lt (clan_fault x4.1 v2.2.2.2) fun x5 =>
   some (Sum.inr ((⟨([] : List Node), ([] : List Mail)⟩ : Clan), x5))
  else
   some (Sum.inl (x4.2.1, x4.2.2.1, x4.2.2.2, w64 (v2.2.2.2 + 1)))
 else
  inrO (clan_Play_v1_J2 (v2.1, v2.2.1, v2.2.2.1))
noncomputable def clan_Play_v1_L1 (deeds : List Deed) (v0 : List Node × List Mail × List (List UInt8) × Int) : Option (Clan × Fault) :=
 loopO (fun y => clan_Play_v1_B1 deeds y) v0
noncomputable def clan_Play_v1_J1 (texts : List (List UInt8)) (deeds : List Deed) (v : List Node) : Option (Clan × Fault) :=
 clan_Play_v1_L1 deeds (v, ([] : List Mail), texts, 0)
noncomputable def clan_Play_v1_B2 (num : Int) (texts : List (List UInt8)) (deeds : List Deed) (v3 : List Node × Int) : Option ((List Node × Int) ⊕ (Clan × Fault)) :=
 if (decide (v3.2 < num)) = true then
  asrt (((v3.1 ++ [(⟨num, v3.2, 0, 0, ([] : List Entry), 0, 0, ([] : List Int), ([] : List Int), ([] : List Int)⟩ : Node)]).length : Int) * 144 ≤ 140737488351232) <|
  lt ((v3.1 ++ [(⟨num, v3.2, 0, 0, ([] : List Entry), 0, 0, ([] : List Int), ([] : List Int), ([] : List Int)⟩ : Node)])) fun (v4 : List Node) =>
  some (Sum.inl (v4, w64 (v3.2 + 1)))
 else
  inrO (clan_Play_v1_J1 texts deeds v3.1)
noncomputable def clan_Play_v1_L2 (num : Int) (texts : List (List UInt8)) (deeds : List Deed) (v0 : List Node × Int) : Option (Clan × Fault) :=
 loopO (fun y => clan_Play_v1_B2 num texts deeds y) v0
noncomputable def clan_Play_v1 (num : Int) (texts : List (List UInt8)) (deeds : List Deed) : Option (Clan × Fault) :=
 if ((decide (num < 1)) || (decide (7 < num))) = true then
  lt (clan_fault 3 (-1)) fun x =>
  some ((⟨([] : List Node), ([] : List Mail)⟩ : Clan), x)
 else
  if (decide (2000 < (deeds.length : Int))) = true then
   lt (clan_fault 2 (-1)) fun x1 =>
   some ((⟨([] : List Node), ([] : List Mail)⟩ : Clan), x1)
  else
   if (decide (100 < (texts.length : Int))) = true then
    lt (clan_fault 2 (-2)) fun x2 =>
    some ((⟨([] : List Node), ([] : List Mail)⟩ : Clan), x2)
   else
    clan_Play_v1_L2 num texts deeds (([] : List Node), 0)
theorem clan_Play_v1_ok (num : Int) (texts : List (List UInt8)) (deeds : List Deed) (r : Clan × Fault) (hF : clan_Play_v1 num texts deeds = some r) : Pe Try.prog 46 S.none [.i num, .sl 1 (texts.map e_str), .sl 3 (deeds.map e_Deed)] (.tup [.agg (c_Clan r.1), .agg (c_Fault r.2)]) S.none := by
 refine PeN 76 [.cell 6 71, .cell 7 26] [71, 26] Ty.ok Fn.b46 Try.func46 ?_
 intro Q g hfin
 unfold clan_Play_v1 at hF
 refine VR [] [0, 1, 2, 6, 7] [6, 7] [] [] [(6, .ptr 6 0), (7, .ptr 7 0)] [(6, [.nils, .nils]), (7, [.i 0, .i 0])] [] [] .nil ?_
 refine Nblk ?_
 refine NR [] [0, 1, 2, 6, 7, 13] [6, 7] [] [(13, .bool ((decide (num < 1)) || (decide (7 < num))))] .nil ?_
 refine Nif hF (fun hb hF => ?_) (fun hb hF => ?_)
 ·obtain ⟨x, h0, hF⟩ := lt_split hF
  refine VR [.callB (.agg (c_Fault x))] [6, 7] [6, 7] [] [] [] [(7, (c_Fault x))] [] [] (hc (clan_fault_ok 3 (-1) x h0) .nil) ?_
  cases hF
  exact Wk_ret (hfin _ ⟨[], [], [], [], [], [], by kernel_rfl⟩)
 ·refine NR [.nat (deeds.length : Int)] [0, 1, 2, 6, 7, 22] [6, 7] [] [(22, .bool (decide (2000 < (deeds.length : Int))))] (hc (len_ok e_Deed deeds) .nil) ?_
  refine Nif hF (fun hb hF => ?_) (fun hb hF => ?_)
  ·obtain ⟨x1, h1, hF⟩ := lt_split hF
   refine VR [.callB (.agg (c_Fault x1))] [6, 7] [6, 7] [] [] [] [(7, (c_Fault x1))] [] [] (hc (clan_fault_ok 2 (-1) x1 h1) .nil) ?_
   cases hF
   exact Wk_ret (hfin _ ⟨[], [], [], [], [], [], by kernel_rfl⟩)
  ·refine NR [.nat (texts.length : Int)] [0, 1, 2, 6, 7, 28] [6, 7] [] [(28, .bool (decide (100 < (texts.length : Int))))] (hc (len_ok e_str texts) .nil) ?_
   refine Nif hF (fun hb hF => ?_) (fun hb hF => ?_)
   ·obtain ⟨x2, h2, hF⟩ := lt_split hF
    refine VR [.callB (.agg (c_Fault x2))] [6, 7] [6, 7] [] [] [] [(7, (c_Fault x2))] [] [] (hc (clan_fault_ok 2 (-2) x2 h2) .nil) ?_
    cases hF
    exact Wk_ret (hfin _ ⟨[], [], [], [], [], [], by kernel_rfl⟩)
   ·refine VR [] [0, 2, 6, 7, 8] [6, 7, 8] [] [] [(8, .ptr 8 0)] [(8, [.nils, .nils, .sl 1 (texts.map e_str)])] [] [] .nil ?_
    refine NR [] [0, 2, 6, 7, 8, 36, 37] [6, 7, 8] [] [(36, .i num), (37, .i 0)] .nil ?_
    refine NmeetP (fun v : List Node => (⟨[(2, .sl 3 (deeds.map e_Deed)), (6, .ptr 6 0), (7, .ptr 7 0), (8, .ptr 8 0)], [(6, [.nils, .nils]), (7, [.i 0, .i 0]), (8, [.row 47 0, .nils, .sl 1 (texts.map e_str)])], [(47, .z 46 10 0 (v.map e_Node))], [], []⟩ : S)) (fun v => clan_Play_v1_J1 texts deeds v = some r) ?_ ?_
    ·refine Nblk ?_
     unfold clan_Play_v1_L2 at hF
     refine Wk_nilrowB 8 0 60001 46 10 rfl rfl rfl rfl rfl ?_
     refine Wk_trim (fs := [0, 2, 6, 7, 8, 36, 37]) (bs := [6, 7, 8]) (rs := [60001]) (ms := []) (aa := []) (nv := []) rfl ?_
     refine Wk_ren' ⟨[], [(60001, 47)], [], []⟩ rfl ?_
     refine Niter (fun v3 : List Node × Int => (⟨[(0, .i num), (2, .sl 3 (deeds.map e_Deed)), (6, .ptr 6 0), (7, .ptr 7 0), (8, .ptr 8 0), (36, .i num), (37, .i v3.2)], [(6, [.nils, .nils]), (7, [.i 0, .i 0]), (8, [.row 47 0, .nils, .sl 1 (texts.map e_str)])], [(47, .z 46 10 0 (v3.1.map e_Node))], [], []⟩ : S)) [] hF (by kernel_rfl) ?_
     intro n1 v3 y1 hF ih1 dn1
     unfold clan_Play_v1_B2 at hF
     refine NR [] [0, 2, 6, 7, 8, 36, 37, 38] [6, 7, 8] [47] [(38, .bool (decide (v3.2 < num)))] .nil ?_
     refine Nif hF (fun hb hF => ?_) (fun hb hF => ?_)
     ·refine Nblk ?_
      refine NR [] [0, 2, 6, 7, 8, 9, 36, 37] [6, 7, 8] [47] [(9, .i v3.2)] .nil ?_
      obtain ⟨h7, hF⟩ := asrt_elim hF
      refine NRL ((v3.1 ++ [(⟨num, v3.2, 0, 0, ([] : List Entry), 0, 0, ([] : List Int), ([] : List Int), ([] : List Int)⟩ : Node)])) (fun v4 : List Node => ([], [(8, [.row 47 1, .nils, .sl 1 (texts.map e_str)])], [(47, .z 46 10 1 (v4.map e_Node))], [])) [.sealed, .xs ((v3.1 ++ [(⟨num, v3.2, 0, 0, ([] : List Entry), 0, 0, ([] : List Int), ([] : List Int), ([] : List Int)⟩ : Node)]).map e_Node)] [0, 2, 6, 7, 8, 36, 37] [6, 7, 8] [47] [] (hc (app_ok e_Node v3.1 [(⟨num, v3.2, 0, 0, ([] : List Entry), 0, 0, ([] : List Int), ([] : List Int), ([] : List Int)⟩ : Node)]) (hc (appl_ok e_Node h7) .nil)) (fun v4 hv => ?_)
      have hF := lt_elim hF hv
      refine NR [] [0, 2, 6, 7, 8, 36, 37] [6, 7, 8] [47] [(37, .i (w64 (v3.2 + 1)))] .nil ?_
      exact Nrnd [(47, ⟨0, true, true, false⟩)] hF ih1 (by kernel_rfl)
     ·refine Nexit rfl ?_
      have hF := inrO_done hF dn1
      exact metP v3.1 [] hF (by kernel_rfl)
    ·intro v hF
     have hF : clan_Play_v1_J1 texts deeds v = some r := hF
     unfold clan_Play_v1_J1 at hF
     refine NR [.nat (deeds.length : Int)] [6, 7, 8, 51, 52, 53] [6, 7, 8] [47] [(51, .sl 3 (deeds.map e_Deed)), (52, .i (deeds.length : Int)), (53, .i 0)] (hc (len_ok e_Deed deeds) .nil) ?_
     refine NmeetP (fun v1 : List Node × List Mail × List (List UInt8) => (⟨[(6, .ptr 6 0), (7, .ptr 7 0), (8, .ptr 8 0)], [(6, [.nils, .nils]), (7, [.i 0, .i 0]), (8, [.row 47 0, .row 59 0, .sl 1 (v1.2.2.map e_str)])], [(47, .z 46 10 0 (v1.1.map e_Node)), (59, .o 62 9 0 (v1.2.1.map e_Mail))], [], []⟩ : S)) (fun v1 => clan_Play_v1_J2 v1 = some r) ?_ ?_
     ·refine Nblk ?_
      unfold clan_Play_v1_L1 at hF
      refine Wk_nilrowB 8 1 60000 62 9 rfl rfl rfl rfl rfl ?_
      refine Wk_trim (fs := [6, 7, 8, 51, 52, 53]) (bs := [6, 7, 8]) (rs := [47, 60000]) (ms := []) (aa := []) (nv := []) rfl ?_
      refine Wk_ren' ⟨[], [(60000, 59)], [], []⟩ rfl ?_
      refine Niter (fun v2 : List Node × List Mail × List (List UInt8) × Int => (⟨[(6, .ptr 6 0), (7, .ptr 7 0), (8, .ptr 8 0), (51, .sl 3 (deeds.map e_Deed)), (52, .i (deeds.length : Int)), (53, .i v2.2.2.2)], [(6, [.nils, .nils]), (7, [.i 0, .i 0]), (8, [.row 47 0, .row 59 0, .sl 1 (v2.2.2.1.map e_str)])], [(47, .z 46 10 0 (v2.1.map e_Node)), (59, .o 62 9 0 (v2.2.1.map e_Mail))], [], []⟩ : S)) [(59, ⟨0, true, false, false⟩)] hF (by kernel_rfl) ?_
      intro n1 v2 y1 hF ih1 dn1
      unfold clan_Play_v1_B1 at hF
      refine NR [] [6, 7, 8, 51, 52, 53, 54] [6, 7, 8] [47, 59] [(54, .bool (decide (v2.2.2.2 < (deeds.length : Int))))] .nil ?_
      refine Nif hF (fun hb hF => ?_) (fun hb hF => ?_)
      ·refine Nblk ?_
       obtain ⟨h4, hF⟩ := asrt_elim hF
       refine VR [.av (e_Deed (lget deeds v2.2.2.2))] [6, 7, 8, 10, 11, 51, 52, 53] [6, 7, 8, 11] [47, 59] [] [(10, .i v2.2.2.2), (11, .ptr 11 0)] [(11, (c_Deed (lget deeds v2.2.2.2)))] [] [] (hc (idx_ok e_Deed h4) .nil) ?_
       obtain ⟨x4, h5, hF⟩ := ob_elim hF
       refine VR [.callE [8] [47, 59] [] [] (.i x4.1) ⟨[], [(8, [.row 47 0, .row 59 1, .sl 1 (x4.2.2.2.map e_str)])], [(47, .z 46 10 0 (x4.2.1.map e_Node)), (59, .o 62 9 1 (x4.2.2.1.map e_Mail))], [], []⟩] [6, 7, 8, 10, 12, 51, 52, 53] [6, 7, 8] [47, 59] [] [(12, .i x4.1)] [(8, [.row 47 0, .row 59 1, .sl 1 (x4.2.2.2.map e_str)])] [(47, .z 46 10 0 (x4.2.1.map e_Node)), (59, .o 62 9 1 (x4.2.2.1.map e_Mail))] [] (hc (Pe.ren (clan_game_does_v1_ok (⟨(lget deeds v2.2.2.2).Kind, (lget deeds v2.2.2.2).Who, (lget deeds v2.2.2.2).N⟩ : Deed) v2.2.2.1 v2.1 v2.2.1 0 0 true 0 0 false x4 h5) ⟨[(100000, 8)], [(100000, 47), (100001, 59)], [], []⟩) .nil) ?_
       refine NR [] [6, 7, 8, 10, 12, 51, 52, 53, 61] [6, 7, 8] [47, 59] [(61, .bool (!decide (x4.1 = 0)))] .nil ?_
       refine Nif hF (fun hb hF => ?_) (fun hb hF => ?_)
       ·obtain ⟨x5, h6, hF⟩ := lt_split hF
        refine VR [.callB (.agg (c_Fault x5))] [6, 7] [6, 7] [] [] [] [(7, (c_Fault x5))] [] [] (hc (clan_fault_ok x4.1 v2.2.2.2 x5 h6) .nil) ?_
        have hF := ret_done hF dn1
        cases hF
        exact Wk_ret (hfin _ ⟨[], [], [], [], [], [], by kernel_rfl⟩)
       ·refine NR [] [6, 7, 8, 51, 52, 53] [6, 7, 8] [47, 59] [(53, .i (w64 (v2.2.2.2 + 1)))] .nil ?_
        exact Nrnd [(59, ⟨0, true, true, false⟩)] hF ih1 (by kernel_rfl)
      ·refine Nexit rfl ?_
       have hF := inrO_done hF dn1
       exact metP (v2.1, v2.2.1, v2.2.2.1) [] hF (by kernel_rfl)
     ·intro v1 hF
      have hF : clan_Play_v1_J2 v1 = some r := hF
      unfold clan_Play_v1_J2 at hF
      obtain ⟨x3, h3, hF⟩ := ob_elim hF
      refine VR [.callE [] [] [] [] (.row 70 0) ⟨[], [], [(70, .o 62 9 0 (x3.map e_Mail))], [], []⟩] [6, 7, 8] [6, 7, 8] [47, 70] [] [] [(8, [.row 47 0, .row 70 0, .sl 1 (v1.2.2.map e_str)])] [(70, .o 62 9 0 (x3.map e_Mail))] [] (hc (Pe.ren (clan_own_ok v1.2.1 x3 h3) ⟨[], [(6, 70)], [], []⟩) .nil) ?_
      refine VR [] [6, 7] [6, 7] [47, 70] [] [] [(6, [.row 47 0, .row 70 0])] [] [] .nil ?_
      cases hF
      exact Wk_ret (hfin _ ⟨[], [], [], [], [], [], by kernel_rfl⟩)

/- clan.Good -/
noncomputable def clan_Good_v1_J2 (v1 : List (List UInt8)) : Option (List (List UInt8) × Fault) :=
 some (v1, (⟨0, 0⟩ : Fault))
noncomputable def clan_Good_v1_B1 (v : Node) (v2 : List (List UInt8) × Int) : Option ((List (List UInt8) × Int) ⊕ (List (List UInt8) × Fault)) :=
 if (decide (v2.2 < ((ltake v.Log v.Commit).length : Int))) = true then
  asrt (0 ≤ v2.2 ∧ v2.2 < ((ltake v.Log v.Commit).length : Int)) <|
  asrt (((v2.1 ++ ([(lget (ltake v.Log v.Commit) v2.2).Text] : List (List UInt8))).length : Int) * 16 ≤ 140737488351232) <|
  lt ((v2.1 ++ ([(lget (ltake v.Log v.Commit) v2.2).Text] : List (List UInt8)))) fun (v3 : List (List UInt8)) =>
  some (Sum.inl (v3, w64 (v2.2 + 1)))
 else
  inrO (clan_Good_v1_J2 v2.1)
noncomputable def clan_Good_v1_L1 (v : Node) (v0 : List (List UInt8) × Int) : Option (List (List UInt8) × Fault) :=
 loopO (fun y => clan_Good_v1_B1 v y) v0
noncomputable def clan_Good_v1_J1 (v : Node) : Option (List (List UInt8) × Fault) :=
 asrt (0 ≤ v.Commit ∧ v.Commit ≤ (v.Log.length : Int)) <|
 clan_Good_v1_L1 v (([] : List (List UInt8)), 0)
noncomputable def clan_Good_v1_B2 (c : Clan) (v4 : Node × Int) : Option ((Node × Int) ⊕ (List (List UInt8) × Fault)) :=
 if (decide (v4.2 < (c.Nodes.length : Int))) = true then
  asrt (0 ≤ v4.2 ∧ v4.2 < (c.Nodes.length : Int)) <|
  ob (raft_Check (⟨(lget c.Nodes v4.2).N, (lget c.Nodes v4.2).ID, (lget c.Nodes v4.2).Term, (lget c.Nodes v4.2).Vote, (lget c.Nodes v4.2).Log, (lget c.Nodes v4.2).Role, (lget c.Nodes v4.2).Commit, (lget c.Nodes v4.2).Votes, (lget c.Nodes v4.2).Next, (lget c.Nodes v4.2).Have⟩ : Node)) fun x1 =>
  if (!decide (x1.Code = 0)) = true then
   lt (clan_fault x1.Code v4.2) fun x2 =>
   some (Sum.inr (([] : List (List UInt8)), x2))
  else
   ob (
    if (decide (v4.1.Commit < ((lget c.Nodes v4.2).Commit))) = true then
     some (⟨(lget c.Nodes v4.2).N, (lget c.Nodes v4.2).ID, (lget c.Nodes v4.2).Term, (lget c.Nodes v4.2).Vote, (lget c.Nodes v4.2).Log, (lget c.Nodes v4.2).Role, (lget c.Nodes v4.2).Commit, (lget c.Nodes v4.2).Votes, (lget c.Nodes v4.2).Next, (lget c.Nodes v4.2).Have⟩ : Node)
    else
     some v4.1) fun (v5 : Node) =>
   some (Sum.inl (v5, w64 (v4.2 + 1)))
 else
  inrO (clan_Good_v1_J1 v4.1)
noncomputable def clan_Good_v1_L2 (c : Clan) (v0 : Node × Int) : Option (List (List UInt8) × Fault) :=
 loopO (fun y => clan_Good_v1_B2 c y) v0
noncomputable def clan_Good_v1 (c : Clan) : Option (List (List UInt8) × Fault) :=
 if (decide (7 < (c.Nodes.length : Int))) = true then
  lt (clan_fault 2 (-1)) fun x =>
  some (([] : List (List UInt8)), x)
 else
  clan_Good_v1_L2 c ((⟨0, 0, 0, 0, ([] : List Entry), 0, 0, ([] : List Int), ([] : List Int), ([] : List Int)⟩ : Node), 0)
theorem clan_Good_v1_ok (c : Clan) (r : List (List UInt8) × Fault) (hF : clan_Good_v1 c = some r) : Pe Try.prog 50 S.none [.agg (c_Clan c)] (.tup [.sl 1 (r.1.map e_str), .agg (c_Fault r.2)]) S.none := by
 refine PeN 58 [.tmp 2, .cell 3 26] [66, 26] Ty.ok Fn.b50 Try.func50 ?_
 intro Q g hfin
 unfold clan_Good_v1 at hF
 refine VR [] [1, 3] [1, 3] [] [] [(1, .ptr 1 0), (3, .ptr 3 0)] [(1, (c_Clan c)), (3, [.i 0, .i 0])] [] [] .nil ?_
 refine NR [.nat (c.Nodes.length : Int)] [1, 3, 14] [1, 3] [] [(14, .bool (decide (7 < (c.Nodes.length : Int))))] (hc (len_ok e_Node c.Nodes) .nil) ?_
 refine Nif hF (fun hb hF => ?_) (fun hb hF => ?_)
 ·obtain ⟨x, h0, hF⟩ := lt_split hF
  refine VR [.callB (.agg (c_Fault x))] [2, 3] [3] [] [] [(2, .nils)] [(3, (c_Fault x))] [] [] (hc (clan_fault_ok 2 (-1) x h0) .nil) ?_
  cases hF
  exact Wk_ret (hfin _ ⟨[], [], [], [], [], [], by kernel_rfl⟩)
 ·refine VR [] [1, 3, 4] [1, 3, 4] [] [] [(4, .ptr 4 0)] [(4, [.i 0, .i 0, .i 0, .i 0, .nils, .i 0, .i 0, .nils, .nils, .nils])] [] [] .nil ?_
  refine NR [.nat (c.Nodes.length : Int)] [3, 4, 17, 18, 19] [3, 4] [] [(17, .sl 10 (c.Nodes.map e_Node)), (18, .i (c.Nodes.length : Int)), (19, .i 0)] (hc (len_ok e_Node c.Nodes) .nil) ?_
  refine NmeetP (fun v : Node => (⟨[(3, .ptr 3 0), (4, .ptr 4 0)], [(3, [.i 0, .i 0]), (4, (c_Node v))], [], [], []⟩ : S)) (fun v => clan_Good_v1_J1 v = some r) ?_ ?_
  ·refine Nblk ?_
   unfold clan_Good_v1_L2 at hF
   refine Wk_coeB 4 [.i 0, .i 0, .i 0, .i 0, .sl 2 (([] : List Entry).map e_Entry), .i 0, .i 0, .sl 1 (([] : List Int).map e_i64), .sl 1 (([] : List Int).map e_i64), .sl 1 (([] : List Int).map e_i64)] rfl (.cons (CoeS.refl _) (.cons (CoeS.refl _) (.cons (CoeS.refl _) (.cons (CoeS.refl _) (.cons (CoeS.nils 2) (.cons (CoeS.refl _) (.cons (CoeS.refl _) (.cons (CoeS.nils 1) (.cons (CoeS.nils 1) (.cons (CoeS.nils 1) .nil)))))))))) ?_
   refine Niter (fun v4 : Node × Int => (⟨[(3, .ptr 3 0), (4, .ptr 4 0), (17, .sl 10 (c.Nodes.map e_Node)), (18, .i (c.Nodes.length : Int)), (19, .i v4.2)], [(3, [.i 0, .i 0]), (4, (c_Node v4.1))], [], [], []⟩ : S)) [] hF (by kernel_rfl) ?_
   intro n1 v4 y1 hF ih1 dn1
   unfold clan_Good_v1_B2 at hF
   refine NR [] [3, 4, 17, 18, 19, 20] [3, 4] [] [(20, .bool (decide (v4.2 < (c.Nodes.length : Int))))] .nil ?_
   refine Nif hF (fun hb hF => ?_) (fun hb hF => ?_)
   ·refine Nblk ?_
    obtain ⟨h4, hF⟩ := asrt_elim hF
    refine VR [.av (e_Node (lget c.Nodes v4.2))] [3, 4, 5, 6, 17, 18, 19] [3, 4, 6] [] [] [(5, .i v4.2), (6, .ptr 6 0)] [(6, (c_Node (lget c.Nodes v4.2)))] [] [] (hc (idx_ok e_Node h4) .nil) ?_
    obtain ⟨x1, h5, hF⟩ := ob_elim hF
    refine VR [.callB (.agg (c_Fault x1))] [3, 4, 5, 6, 7, 17, 18, 19] [3, 4, 6, 7] [] [] [(7, .ptr 7 0)] [(7, (c_Fault x1))] [] [] (hc (raft_Check_ok (⟨(lget c.Nodes v4.2).N, (lget c.Nodes v4.2).ID, (lget c.Nodes v4.2).Term, (lget c.Nodes v4.2).Vote, (lget c.Nodes v4.2).Log, (lget c.Nodes v4.2).Role, (lget c.Nodes v4.2).Commit, (lget c.Nodes v4.2).Votes, (lget c.Nodes v4.2).Next, (lget c.Nodes v4.2).Have⟩ : Node) x1 h5) .nil) ?_
    refine NR [] [3, 4, 5, 6, 7, 17, 18, 19, 28] [3, 4, 6, 7] [] [(28, .bool (!decide (x1.Code = 0)))] .nil ?_
    refine Nif hF (fun hb hF => ?_) (fun hb hF => ?_)
    ·obtain ⟨x2, h6, hF⟩ := lt_split hF
     refine VR [.callB (.agg (c_Fault x2))] [2, 3] [3] [] [] [(2, .nils)] [(3, (c_Fault x2))] [] [] (hc (clan_fault_ok x1.Code v4.2 x2 h6) .nil) ?_
     have hF := ret_done hF dn1
     cases hF
     exact Wk_ret (hfin _ ⟨[], [], [], [], [], [], by kernel_rfl⟩)
    ·refine NR [] [3, 4, 6, 17, 18, 19, 37] [3, 4, 6] [] [(37, .bool (decide (v4.1.Commit < ((lget c.Nodes v4.2).Commit))))] .nil ?_
     obtain ⟨v5, hv, hF⟩ := ob_elim hF
     refine Nmeet (⟨[(3, .ptr 3 0), (4, .ptr 4 0), (17, .sl 10 (c.Nodes.map e_Node)), (18, .i (c.Nodes.length : Int)), (19, .i v4.2)], [(3, [.i 0, .i 0]), (4, (c_Node v5))], [], [], []⟩ : S) ?_ ?_
     ·have hF := hv
      refine Nif hF (fun hb hF => ?_) (fun hb hF => ?_)
      ·refine VR [] [3, 4, 17, 18, 19] [3, 4] [] [] [] [(4, (c_Node (lget c.Nodes v4.2)))] [] [] .nil ?_
       cases hF
       exact met [] (by kernel_rfl)
      ·cases hF
       exact met [] (by kernel_rfl)
     ·refine NR [] [3, 4, 17, 18, 19] [3, 4] [] [(19, .i (w64 (v4.2 + 1)))] .nil ?_
      exact Nrnd [] hF ih1 (by kernel_rfl)
   ·refine Nexit rfl ?_
    have hF := inrO_done hF dn1
    exact metP v4.1 [] hF (by kernel_rfl)
  ·intro v hF
   have hF : clan_Good_v1_J1 v = some r := hF
   unfold clan_Good_v1_J1 at hF
   refine NR [] [3, 4, 8] [3, 4] [] [(8, .nils)] .nil ?_
   obtain ⟨h1, hF⟩ := asrt_elim hF
   refine NR [.xs ((ltake v.Log v.Commit).map e_Entry), .nat ((ltake v.Log v.Commit).length : Int)] [3, 8, 44, 45, 46] [3] [] [(44, .sl 2 ((ltake v.Log v.Commit).map e_Entry)), (45, .i ((ltake v.Log v.Commit).length : Int)), (46, .i 0)] (hc (sl01_ok e_Entry h1) (hc (len_ok e_Entry (ltake v.Log v.Commit)) .nil)) ?_
   refine NmeetP (fun v1 : List (List UInt8) => (⟨[(3, .ptr 3 0), (8, .row 54 0)], [(3, [.i 0, .i 0])], [(54, .z 9 1 0 (v1.map e_str))], [], []⟩ : S)) (fun v1 => clan_Good_v1_J2 v1 = some r) ?_ ?_
   ·refine Nblk ?_
    unfold clan_Good_v1_L1 at hF
    refine Wk_nilrow 8 60000 9 1 rfl rfl rfl ?_
    refine Wk_trim (fs := [3, 8, 44, 45, 46]) (bs := [3]) (rs := [60000]) (ms := []) (aa := []) (nv := []) rfl ?_
    refine Wk_ren' ⟨[], [(60000, 54)], [], []⟩ rfl ?_
    refine Niter (fun v2 : List (List UInt8) × Int => (⟨[(3, .ptr 3 0), (8, .row 54 0), (44, .sl 2 ((ltake v.Log v.Commit).map e_Entry)), (45, .i ((ltake v.Log v.Commit).length : Int)), (46, .i v2.2)], [(3, [.i 0, .i 0])], [(54, .z 9 1 0 (v2.1.map e_str))], [], []⟩ : S)) [] hF (by kernel_rfl) ?_
    intro n1 v2 y1 hF ih1 dn1
    unfold clan_Good_v1_B1 at hF
    refine NR [] [3, 8, 44, 45, 46, 47] [3] [54] [(47, .bool (decide (v2.2 < ((ltake v.Log v.Commit).length : Int))))] .nil ?_
    refine Nif hF (fun hb hF => ?_) (fun hb hF => ?_)
    ·refine Nblk ?_
     obtain ⟨h2, hF⟩ := asrt_elim hF
     refine VR [.av (e_Entry (lget (ltake v.Log v.Commit) v2.2))] [3, 8, 10, 44, 45, 46] [3, 10] [54] [] [(10, .ptr 10 0)] [(10, [.i ((lget (ltake v.Log v.Commit) v2.2).Term), .str ((lget (ltake v.Log v.Commit) v2.2).Text)])] [] [] (hc (idx_ok e_Entry h2) .nil) ?_
     obtain ⟨h3, hF⟩ := asrt_elim hF
     refine NRL ((v2.1 ++ ([(lget (ltake v.Log v.Commit) v2.2).Text] : List (List UInt8)))) (fun v3 : List (List UInt8) => ([(8, .row 54 1)], [], [(54, .z 9 1 1 (v3.map e_str))], [])) [.sealed, .xs ((v2.1 ++ ([(lget (ltake v.Log v.Commit) v2.2).Text] : List (List UInt8))).map e_str)] [3, 8, 44, 45, 46] [3] [54] [] (hc (app_ok e_str v2.1 ([(lget (ltake v.Log v.Commit) v2.2).Text] : List (List UInt8))) (hc (appl_ok e_str h3) .nil)) (fun v3 hv => ?_)
     have hF := lt_elim hF hv
     refine NR [] [3, 8, 44, 45, 46] [3] [54] [(46, .i (w64 (v2.2 + 1)))] .nil ?_
     exact Nrnd [(54, ⟨0, true, true, false⟩)] hF ih1 (by kernel_rfl)
    ·refine Nexit rfl ?_
     have hF := inrO_done hF dn1
     exact metP v2.1 [] hF (by kernel_rfl)
   ·intro v1 hF
    have hF : clan_Good_v1_J2 v1 = some r := hF
    unfold clan_Good_v1_J2 at hF
    refine NR [] [2, 3] [3] [54] [(2, .row 54 0)] .nil ?_
    cases hF
    exact Wk_ret (hfin _ ⟨[], [], [], [], [], [], by kernel_rfl⟩)

/- tabularyref.SameTexts -/
noncomputable def R_SameTexts_J1 (v : Unit) : Option Bool :=
 some true
noncomputable def R_SameTexts_B1 (a0 : List (List UInt8)) (b : List (List UInt8)) (v1 : Int) : Option (Int ⊕ Bool) :=
 if (decide (v1 < (a0.length : Int))) = true then
  asrt (0 ≤ v1 ∧ v1 < (a0.length : Int)) <|
  asrt (0 ≤ v1 ∧ v1 < (b.length : Int)) <|
  if (!decide ((lget a0 v1) = (lget b v1))) = true then
   some (Sum.inr false)
  else
   some (Sum.inl (w64 (v1 + 1)))
 else
  inrO (R_SameTexts_J1 ())
noncomputable def R_SameTexts_L1 (a0 : List (List UInt8)) (b : List (List UInt8)) (v0 : Int) : Option Bool :=
 loopO (fun y => R_SameTexts_B1 a0 b y) v0
noncomputable def R_SameTexts (a0 : List (List UInt8)) (b : List (List UInt8)) : Option Bool :=
 if (!decide ((a0.length : Int) = (b.length : Int))) = true then
  some false
 else
  R_SameTexts_L1 a0 b 0
theorem R_SameTexts_ok (a0 : List (List UInt8)) (b : List (List UInt8)) (r : Bool) (hF : R_SameTexts a0 b = some r) : Pe Try.prog 47 S.none [.sl 1 (a0.map e_str), .sl 1 (b.map e_str)] (.bool r) S.none := by
 refine PeN 26 [.tmp 4] [4] Ty.ok Fn.b47 Try.func47 ?_
 intro Q g hfin
 unfold R_SameTexts at hF
 refine NR [] [0, 1] [] [] [] .nil ?_
 refine NR [.nat (a0.length : Int), .nat (b.length : Int)] [0, 1, 10] [] [] [(10, .bool (!decide ((a0.length : Int) = (b.length : Int))))] (hc (len_ok e_str a0) (hc (len_ok e_str b) .nil)) ?_
 refine Nif hF (fun hb hF => ?_) (fun hb hF => ?_)
 ·refine NR [] [4] [] [] [(4, .bool false)] .nil ?_
  cases hF
  exact Wk_ret (hfin _ ⟨[], [], [], [], [], [], by kernel_rfl⟩)
 ·refine NR [] [0, 1, 5] [] [] [(5, .i 0)] .nil ?_
  refine NmeetP (fun v : Unit => (S.none : S)) (fun v => R_SameTexts_J1 v = some r) ?_ ?_
  ·refine Nblk ?_
   unfold R_SameTexts_L1 at hF
   refine Niter (fun v1 : Int => (⟨[(0, .sl 1 (a0.map e_str)), (1, .sl 1 (b.map e_str)), (5, .i v1)], [], [], [], []⟩ : S)) [] hF (by kernel_rfl) ?_
   intro n1 v1 y1 hF ih1 dn1
   unfold R_SameTexts_B1 at hF
   refine NR [.nat (a0.length : Int)] [0, 1, 5, 14] [] [] [(14, .bool (decide (v1 < (a0.length : Int))))] (hc (len_ok e_str a0) .nil) ?_
   refine Nif hF (fun hb hF => ?_) (fun hb hF => ?_)
   ·refine Nblk ?_
    obtain ⟨h0, h1, hF⟩ := asrt2 hF
    refine ND [.av (e_str (lget a0 v1)), .av (e_str (lget b v1))] [0, 1, 5, 25] [] [] [(25, .bool (!decide ((lget a0 v1) = (lget b v1))))] (hc (idx_ok e_str h0) (hc (idx_ok e_str h1) .nil)) ?_
    refine Nif hF (fun hb hF => ?_) (fun hb hF => ?_)
    ·refine NR [] [4] [] [] [(4, .bool false)] .nil ?_
     have hF := ret_done hF dn1
     cases hF
     exact Wk_ret (hfin _ ⟨[], [], [], [], [], [], by kernel_rfl⟩)
    ·refine NR [] [0, 1, 5] [] [] [(5, .i (w64 (v1 + 1)))] .nil ?_
     exact Nrnd [] hF ih1 (by kernel_rfl)
   ·refine Nexit rfl ?_
    have hF := inrO_done hF dn1
    exact metP () [] hF (by kernel_rfl)
  ·intro v hF
   have hF : R_SameTexts_J1 v = some r := hF
   unfold R_SameTexts_J1 at hF
   refine NR [] [4] [] [] [(4, .bool true)] .nil ?_
   cases hF
   exact Wk_ret (hfin _ ⟨[], [], [], [], [], [], by kernel_rfl⟩)

/- tabularylaw.clanBegun -/
noncomputable def law_clanBegun  : Option Bool :=
 ob (clan_Play_v1 1 ([([97] : List UInt8)] : List (List UInt8)) [(⟨0, 0, 0⟩ : Deed), (⟨1, 0, 0⟩ : Deed)]) fun x =>
 ob (clan_Good_v1 x.1) fun x1 =>
 ob (if ((decide (x.2.Code = 0)) && (decide (x1.2.Code = 0))) = true then (R_SameTexts x1.1 ([([97] : List UInt8)] : List (List UInt8))) else some default) fun x2 =>
 some (((decide (x.2.Code = 0)) && (decide (x1.2.Code = 0))) && x2)
theorem law_clanBegun_ok  (r : Bool) (hF : law_clanBegun  = some r) : Pe Try.prog 44 S.none [] (.bool r) S.none := by
 refine PeN 31 [.tmp 0] [4] Ty.ok Fn.b44 Try.func44 ?_
 intro Q g hfin
 unfold law_clanBegun at hF
 refine NR [] [] [] [] [] .nil ?_
 obtain ⟨x, h0, hF⟩ := ob_elim hF
 refine VR [.sealed, .sealed, .call (.tup [.agg (c_Clan x.1), .agg (c_Fault x.2)])] [1, 2] [1, 2] [] [] [(1, .ptr 1 0), (2, .ptr 2 0)] [(1, (c_Clan x.1)), (2, (c_Fault x.2))] [] [] (hc (clan_Play_v1_ok 1 ([([97] : List UInt8)] : List (List UInt8)) [(⟨0, 0, 0⟩ : Deed), (⟨1, 0, 0⟩ : Deed)] x h0) .nil) ?_
 obtain ⟨x1, h1, hF⟩ := ob_elim hF
 refine VR [.call (.tup [.sl 1 (x1.1.map e_str), .agg (c_Fault x1.2)])] [2, 3, 4] [2, 4] [] [] [(3, .sl 1 (x1.1.map e_str)), (4, .ptr 4 0)] [(4, (c_Fault x1.2))] [] [] (hc (clan_Good_v1_ok x.1 x1 h1) .nil) ?_
 obtain ⟨x2, h2, hF⟩ := ob_elim hF
 refine NR [.sealed, .callB (.bool x2)] [0] [] [] [(0, .bool (((decide (x.2.Code = 0)) && (decide (x1.2.Code = 0))) && x2))] (hc (fun (ga0 : ((decide (x.2.Code = 0)) && (decide (x1.2.Code = 0))) = true) => (R_SameTexts_ok x1.1 ([([97] : List UInt8)] : List (List UInt8)) x2 (ite_t h2 ga0))) .nil) ?_
 cases hF
 exact Wk_ret (hfin _ ⟨[], [], [], [], [], [], by kernel_rfl⟩)

/- tabularylaw.ownTexts -/
noncomputable def law_ownTexts_v1 (l : List (List UInt8)) : Option (List (List UInt8)) :=
 asrt ((l.length : Int) * 16 ≤ 140737488351232) <|
 some l
theorem law_ownTexts_v1_ok (l : List (List UInt8)) (r : List (List UInt8)) (hF : law_ownTexts_v1 l = some r) : Pe Try.prog 45 S.none [.sl 1 (l.map e_str)] (.sl 1 (r.map e_str)) S.none := by
 refine PeN 5 [.tmp 2] [66] Ty.ok Fn.b45 Try.func45 ?_
 intro Q g hfin
 unfold law_ownTexts_v1 at hF
 refine NR [] [0] [] [] [] .nil ?_
 obtain ⟨h0, hF⟩ := asrt_elim hF
 refine VR [.xs (l.map e_str)] [2] [] [4] [] [(2, .row 4 1)] [] [(4, .z 9 1 1 (l.map e_str))] [] (hc (app0_ok e_str l) (hc (appl_ok e_str h0) .nil)) ?_
 cases hF
 exact Wk_ret (hfin _ ⟨[], [], [], [], [], [], by kernel_rfl⟩)

/- tabularyref.F -/
noncomputable def R_F (code : Int) (at0 : Int) : Fault :=
 (⟨code, at0⟩ : Fault)
theorem R_F_ok (code : Int) (at0 : Int) (r : Fault) (hF : R_F code at0 = r) : Pe Try.prog 51 S.none [.i code, .i at0] (.agg (c_Fault r)) S.none := by
 refine PeN 8 [.cell 4 26] [26] Ty.ok Fn.b51 Try.func51 ?_
 intro Q g hfin
 unfold R_F at hF
 refine VR [] [0, 1, 4] [4] [] [] [(4, .ptr 4 0)] [(4, [.i 0, .i 0])] [] [] .nil ?_
 refine VR [] [4] [4] [] [] [] [(4, [.i code, .i at0])] [] [] .nil ?_
 cases hF
 exact Wk_ret (hfin _ ⟨[], [], [], [], [], [], by kernel_rfl⟩)

/- tabularyref.Begin -/
noncomputable def R_Begin_J1 (v : List Node) : Option (List Node × Int) :=
 some (v, 0)
noncomputable def R_Begin_B1 (num : Int) (v1 : List Node × Int) : Option ((List Node × Int) ⊕ (List Node × Int)) :=
 if (decide (v1.2 < num)) = true then
  asrt (((v1.1 ++ [(⟨num, v1.2, 0, 0, ([] : List Entry), 0, 0, ([] : List Int), ([] : List Int), ([] : List Int)⟩ : Node)]).length : Int) * 144 ≤ 140737488351232) <|
  lt ((v1.1 ++ [(⟨num, v1.2, 0, 0, ([] : List Entry), 0, 0, ([] : List Int), ([] : List Int), ([] : List Int)⟩ : Node)])) fun (v2 : List Node) =>
  some (Sum.inl (v2, w64 (v1.2 + 1)))
 else
  inrO (R_Begin_J1 v1.1)
noncomputable def R_Begin_L1 (num : Int) (v0 : List Node × Int) : Option (List Node × Int) :=
 loopO (fun y => R_Begin_B1 num y) v0
noncomputable def R_Begin (num : Int) : Option (List Node × Int) :=
 R_Begin_L1 num (([] : List Node), 0)
theorem R_Begin_ok (num : Int) (r : List Node × Int) (hF : R_Begin num = some r) : Pe Try.prog 87 S.none [.i num] (.agg [.row 17 0, .row 71001 0, .i r.2]) ⟨[], [], [(17, .z 46 10 0 (r.1.map e_Node)), (71001, .z 62 9 0 (([] : List Mail).map e_Mail))], [], []⟩ := by
 refine PeN 21 [.cell 2 82] [82] Ty.ok Fn.b87 Try.func87 ?_
 intro Q g hfin
 unfold R_Begin at hF
 refine VR [] [0, 2] [2] [] [] [(2, .ptr 2 0)] [(2, [.nils, .nils, .i 0])] [] [] .nil ?_
 refine VR [] [0, 2, 3] [2, 3] [] [] [(3, .ptr 3 0)] [(3, [.nils, .nils, .i 0])] [] [] .nil ?_
 refine NR [] [0, 2, 3, 4] [2, 3] [] [(4, .i 0)] .nil ?_
 refine NmeetP (fun v : List Node => (⟨[(2, .ptr 2 0), (3, .ptr 3 0)], [(2, [.nils, .nils, .i 0]), (3, [.row 17 0, .nils, .i 0])], [(17, .z 46 10 0 (v.map e_Node))], [], []⟩ : S)) (fun v => R_Begin_J1 v = some r) ?_ ?_
 ·refine Nblk ?_
  unfold R_Begin_L1 at hF
  refine Wk_nilrowB 3 0 60001 46 10 rfl rfl rfl rfl rfl ?_
  refine Wk_trim (fs := [0, 2, 3, 4]) (bs := [2, 3]) (rs := [60001]) (ms := []) (aa := []) (nv := []) rfl ?_
  refine Wk_ren' ⟨[], [(60001, 17)], [], []⟩ rfl ?_
  refine Niter (fun v1 : List Node × Int => (⟨[(0, .i num), (2, .ptr 2 0), (3, .ptr 3 0), (4, .i v1.2)], [(2, [.nils, .nils, .i 0]), (3, [.row 17 0, .nils, .i 0])], [(17, .z 46 10 0 (v1.1.map e_Node))], [], []⟩ : S)) [] hF (by kernel_rfl) ?_
  intro n1 v1 y1 hF ih1 dn1
  unfold R_Begin_B1 at hF
  refine NR [] [0, 2, 3, 4, 7] [2, 3] [17] [(7, .bool (decide (v1.2 < num)))] .nil ?_
  refine Nif hF (fun hb hF => ?_) (fun hb hF => ?_)
  ·refine Nblk ?_
   obtain ⟨h0, hF⟩ := asrt_elim hF
   refine NRL ((v1.1 ++ [(⟨num, v1.2, 0, 0, ([] : List Entry), 0, 0, ([] : List Int), ([] : List Int), ([] : List Int)⟩ : Node)])) (fun v2 : List Node => ([], [(3, [.row 17 1, .nils, .i 0])], [(17, .z 46 10 1 (v2.map e_Node))], [])) [.sealed, .xs ((v1.1 ++ [(⟨num, v1.2, 0, 0, ([] : List Entry), 0, 0, ([] : List Int), ([] : List Int), ([] : List Int)⟩ : Node)]).map e_Node)] [0, 2, 3, 4] [2, 3] [17] [] (hc (app_ok e_Node v1.1 [(⟨num, v1.2, 0, 0, ([] : List Entry), 0, 0, ([] : List Int), ([] : List Int), ([] : List Int)⟩ : Node)]) (hc (appl_ok e_Node h0) .nil)) (fun v2 hv => ?_)
   have hF := lt_elim hF hv
   refine NR [] [0, 2, 3, 4] [2, 3] [17] [(4, .i (w64 (v1.2 + 1)))] .nil ?_
   exact Nrnd [(17, ⟨0, true, true, false⟩)] hF ih1 (by kernel_rfl)
  ·refine Nexit rfl ?_
   have hF := inrO_done hF dn1
   exact metP v1.1 [] hF (by kernel_rfl)
 ·intro v hF
  have hF : R_Begin_J1 v = some r := hF
  unfold R_Begin_J1 at hF
  refine VR [] [2] [2] [17] [] [] [(2, [.row 17 0, .nils, .i 0])] [] [] .nil ?_
  cases hF
  refine Wk_nilrowB 2 1 60000 62 9 rfl rfl rfl rfl rfl ?_
  refine Wk_ren' ⟨[], [(60000, 71001)], [], []⟩ rfl ?_
  exact Wk_ret (hfin _ ⟨[17, 71001], [], [17, 71001], [], [], [], by kernel_rfl⟩)

/- tabularyref.Num -/
noncomputable def R_Num (num : Int) : Bool :=
 (decide (0 ≤ num)) && (decide (num ≤ 1000000000))
theorem R_Num_ok (num : Int) (r : Bool) (hF : R_Num num = r) : Pe Try.prog 59 S.none [.i num] (.bool r) S.none := by
 refine PeN 9 [.tmp 2] [4] Ty.ok Fn.b59 Try.func59 ?_
 intro Q g hfin
 unfold R_Num at hF
 refine NR [] [0] [] [] [] .nil ?_
 refine NR [] [2] [] [] [(2, .bool ((decide (0 ≤ num)) && (decide (num ≤ 1000000000))))] .nil ?_
 cases hF
 exact Wk_ret (hfin _ ⟨[], [], [], [], [], [], by kernel_rfl⟩)

/- tabularyref.LogFault -/
noncomputable def R_LogFault_J1 (v : Unit) : Option Fault :=
 some (⟨0, 0⟩ : Fault)
noncomputable def R_LogFault_B1 (l : List Entry) (v1 : Int) : Option (Int ⊕ Fault) :=
 if (decide (v1 < (l.length : Int))) = true then
  asrt (0 ≤ v1 ∧ v1 < (l.length : Int)) <|
  asrt ((!(decide (((lget l v1).Term) < 1))) = true → 0 ≤ v1 ∧ v1 < (l.length : Int)) <|
  if ((decide (((lget l v1).Term) < 1)) || (decide (1000000000 < ((lget l v1).Term)))) = true then
   lt (R_F 3 v1) fun x1 =>
   some (Sum.inr x1)
  else
   asrt ((decide (0 < v1)) = true → 0 ≤ v1 ∧ v1 < (l.length : Int)) <|
   asrt ((decide (0 < v1)) = true → 0 ≤ w64 (v1 - 1) ∧ w64 (v1 - 1) < (l.length : Int)) <|
   if ((decide (0 < v1)) && (decide (((lget l v1).Term) < ((lget l (w64 (v1 - 1))).Term)))) = true then
    lt (R_F 11 v1) fun x2 =>
    some (Sum.inr x2)
   else
    asrt (0 ≤ v1 ∧ v1 < (l.length : Int)) <|
    if (decide (200 < (((lget l v1).Text).length : Int))) = true then
     lt (R_F 8 v1) fun x3 =>
     some (Sum.inr x3)
    else
     some (Sum.inl (w64 (v1 + 1)))
 else
  inrO (R_LogFault_J1 ())
noncomputable def R_LogFault_L1 (l : List Entry) (v0 : Int) : Option Fault :=
 loopO (fun y => R_LogFault_B1 l y) v0
noncomputable def R_LogFault (l : List Entry) : Option Fault :=
 if (decide (100 < (l.length : Int))) = true then
  lt (R_F 2 (-1)) fun x =>
  some x
 else
  R_LogFault_L1 l 0
theorem R_LogFault_ok (l : List Entry) (r : Fault) (hF : R_LogFault l = some r) : Pe Try.prog 18 S.none [.sl 2 (l.map e_Entry)] (.agg (c_Fault r)) S.none := by
 refine PeN 58 [.cell 2 26] [26] Ty.ok Fn.b18 Try.func18 ?_
 intro Q g hfin
 unfold R_LogFault at hF
 refine VR [] [0, 2] [2] [] [] [(2, .ptr 2 0)] [(2, [.i 0, .i 0])] [] [] .nil ?_
 refine NR [.nat (l.length : Int)] [0, 2, 6] [2] [] [(6, .bool (decide (100 < (l.length : Int))))] (hc (len_ok e_Entry l) .nil) ?_
 refine Nif hF (fun hb hF => ?_) (fun hb hF => ?_)
 ·obtain ⟨x, h0, hF⟩ := lt_split hF
  refine VR [.callB (.agg (c_Fault x))] [2] [2] [] [] [] [(2, (c_Fault x))] [] [] (hc (R_F_ok 2 (-1) x h0) .nil) ?_
  cases hF
  exact Wk_ret (hfin _ ⟨[], [], [], [], [], [], by kernel_rfl⟩)
 ·refine NR [] [0, 2, 3] [2] [] [(3, .i 0)] .nil ?_
  refine NmeetP (fun v : Unit => (⟨[(2, .ptr 2 0)], [(2, [.i 0, .i 0])], [], [], []⟩ : S)) (fun v => R_LogFault_J1 v = some r) ?_ ?_
  ·refine Nblk ?_
   unfold R_LogFault_L1 at hF
   refine Niter (fun v1 : Int => (⟨[(0, .sl 2 (l.map e_Entry)), (2, .ptr 2 0), (3, .i v1)], [(2, [.i 0, .i 0])], [], [], []⟩ : S)) [] hF (by kernel_rfl) ?_
   intro n1 v1 y1 hF ih1 dn1
   unfold R_LogFault_B1 at hF
   refine NR [.nat (l.length : Int)] [0, 2, 3, 11] [2] [] [(11, .bool (decide (v1 < (l.length : Int))))] (hc (len_ok e_Entry l) .nil) ?_
   refine Nif hF (fun hb hF => ?_) (fun hb hF => ?_)
   ·refine Nblk ?_
    obtain ⟨h1, h2, hF⟩ := asrt2 hF
    refine NR [.av (e_Entry (lget l v1)), .av (e_Entry (lget l v1))] [0, 2, 3, 27] [2] [] [(27, .bool ((decide (((lget l v1).Term) < 1)) || (decide (1000000000 < ((lget l v1).Term)))))] (hc (idx_ok e_Entry h1) (hc (fun (ga0 : (!(decide (((lget l v1).Term) < 1))) = true) => (idx_ok e_Entry (h2 ga0))) .nil)) ?_
    refine Nif hF (fun hb hF => ?_) (fun hb hF => ?_)
    ·obtain ⟨x1, h3, hF⟩ := lt_split hF
     refine VR [.callB (.agg (c_Fault x1))] [2] [2] [] [] [] [(2, (c_Fault x1))] [] [] (hc (R_F_ok 3 v1 x1 h3) .nil) ?_
     have hF := ret_done hF dn1
     cases hF
     exact Wk_ret (hfin _ ⟨[], [], [], [], [], [], by kernel_rfl⟩)
    ·obtain ⟨h4, hF⟩ := asrt_elim hF
     obtain ⟨h5, hF⟩ := asrt_elim hF
     refine ND [.av (e_Entry (lget l v1)), .av (e_Entry (lget l (w64 (v1 - 1))))] [0, 2, 3, 45] [2] [] [(45, .bool ((decide (0 < v1)) && (decide (((lget l v1).Term) < ((lget l (w64 (v1 - 1))).Term)))))] (hc (fun (ga0 : (decide (0 < v1)) = true) => (idx_ok e_Entry (h4 ga0))) (hc (fun (ga0 : (decide (0 < v1)) = true) => (idx_ok e_Entry (h5 ga0))) .nil)) ?_
     refine Nif hF (fun hb hF => ?_) (fun hb hF => ?_)
     ·obtain ⟨x2, h6, hF⟩ := lt_split hF
      refine VR [.callB (.agg (c_Fault x2))] [2] [2] [] [] [] [(2, (c_Fault x2))] [] [] (hc (R_F_ok 11 v1 x2 h6) .nil) ?_
      have hF := ret_done hF dn1
      cases hF
      exact Wk_ret (hfin _ ⟨[], [], [], [], [], [], by kernel_rfl⟩)
     ·obtain ⟨h7, hF⟩ := asrt_elim hF
      refine NR [.av (e_Entry (lget l v1))] [0, 2, 3, 54] [2] [] [(54, .bool (decide (200 < (((lget l v1).Text).length : Int))))] (hc (idx_ok e_Entry h7) .nil) ?_
      refine Nif hF (fun hb hF => ?_) (fun hb hF => ?_)
      ·obtain ⟨x3, h8, hF⟩ := lt_split hF
       refine VR [.callB (.agg (c_Fault x3))] [2] [2] [] [] [] [(2, (c_Fault x3))] [] [] (hc (R_F_ok 8 v1 x3 h8) .nil) ?_
       have hF := ret_done hF dn1
       cases hF
       exact Wk_ret (hfin _ ⟨[], [], [], [], [], [], by kernel_rfl⟩)
      ·refine NR [] [0, 2, 3] [2] [] [(3, .i (w64 (v1 + 1)))] .nil ?_
       exact Nrnd [] hF ih1 (by kernel_rfl)
   ·refine Nexit rfl ?_
    have hF := inrO_done hF dn1
    exact metP () [] hF (by kernel_rfl)
  ·intro v hF
   have hF : R_LogFault_J1 v = some r := hF
   unfold R_LogFault_J1 at hF
   refine NR [] [2] [2] [] [] .nil ?_
   cases hF
   exact Wk_ret (hfin _ ⟨[], [], [], [], [], [], by kernel_rfl⟩)

/- tabularyref.LastTerm -/
noncomputable def R_LastTerm (l : List Entry) : Option Int :=
 if (decide ((l.length : Int) = 0)) = true then
  some 0
 else
  asrt (0 ≤ w64 ((l.length : Int) - 1) ∧ w64 ((l.length : Int) - 1) < (l.length : Int)) <|
  some ((lget l (w64 ((l.length : Int) - 1))).Term)
theorem R_LastTerm_ok (l : List Entry) (r : Int) (hF : R_LastTerm l = some r) : Pe Try.prog 20 S.none [.sl 2 (l.map e_Entry)] (.i r) S.none := by
 refine PeN 13 [.tmp 2] [3] Ty.ok Fn.b20 Try.func20 ?_
 intro Q g hfin
 unfold R_LastTerm at hF
 refine NR [] [0] [] [] [] .nil ?_
 refine NR [.nat (l.length : Int)] [0, 5] [] [] [(5, .bool (decide ((l.length : Int) = 0)))] (hc (len_ok e_Entry l) .nil) ?_
 refine Nif hF (fun hb hF => ?_) (fun hb hF => ?_)
 ·refine NR [] [2] [] [] [(2, .i 0)] .nil ?_
  cases hF
  exact Wk_ret (hfin _ ⟨[], [], [], [], [], [], by kernel_rfl⟩)
 ·obtain ⟨h0, hF⟩ := asrt_elim hF
  refine NR [.nat (l.length : Int), .av (e_Entry (lget l (w64 ((l.length : Int) - 1))))] [2] [] [] [(2, .i ((lget l (w64 ((l.length : Int) - 1))).Term))] (hc (len_ok e_Entry l) (hc (idx_ok e_Entry h0) .nil)) ?_
  cases hF
  exact Wk_ret (hfin _ ⟨[], [], [], [], [], [], by kernel_rfl⟩)

/- tabularyref.Has -/
noncomputable def R_Has_J1 (v : Unit) : Option Bool :=
 some false
noncomputable def R_Has_B1 (l : List Int) (num : Int) (v1 : Int) : Option (Int ⊕ Bool) :=
 if (decide (v1 < (l.length : Int))) = true then
  asrt (0 ≤ v1 ∧ v1 < (l.length : Int)) <|
  if (decide ((lget l v1) = num)) = true then
   some (Sum.inr true)
  else
   some (Sum.inl (w64 (v1 + 1)))
 else
  inrO (R_Has_J1 ())
noncomputable def R_Has_L1 (l : List Int) (num : Int) (v0 : Int) : Option Bool :=
 loopO (fun y => R_Has_B1 l num y) v0
noncomputable def R_Has (l : List Int) (num : Int) : Option Bool :=
 R_Has_L1 l num 0
theorem R_Has_ok (l : List Int) (num : Int) (r : Bool) (hF : R_Has l num = some r) : Pe Try.prog 72 S.none [.sl 1 (l.map e_i64), .i num] (.bool r) S.none := by
 refine PeN 18 [.tmp 4] [4] Ty.ok Fn.b72 Try.func72 ?_
 intro Q g hfin
 unfold R_Has at hF
 refine NR [] [0, 1] [] [] [] .nil ?_
 refine NR [] [0, 1, 5] [] [] [(5, .i 0)] .nil ?_
 refine NmeetP (fun v : Unit => (S.none : S)) (fun v => R_Has_J1 v = some r) ?_ ?_
 ·refine Nblk ?_
  unfold R_Has_L1 at hF
  refine Niter (fun v1 : Int => (⟨[(0, .sl 1 (l.map e_i64)), (1, .i num), (5, .i v1)], [], [], [], []⟩ : S)) [] hF (by kernel_rfl) ?_
  intro n1 v1 y1 hF ih1 dn1
  unfold R_Has_B1 at hF
  refine NR [.nat (l.length : Int)] [0, 1, 5, 9] [] [] [(9, .bool (decide (v1 < (l.length : Int))))] (hc (len_ok e_i64 l) .nil) ?_
  refine Nif hF (fun hb hF => ?_) (fun hb hF => ?_)
  ·refine Nblk ?_
   obtain ⟨h0, hF⟩ := asrt_elim hF
   refine NR [.av (e_i64 (lget l v1))] [0, 1, 5, 17] [] [] [(17, .bool (decide ((lget l v1) = num)))] (hc (idx_ok e_i64 h0) .nil) ?_
   refine Nif hF (fun hb hF => ?_) (fun hb hF => ?_)
   ·refine NR [] [4] [] [] [(4, .bool true)] .nil ?_
    have hF := ret_done hF dn1
    cases hF
    exact Wk_ret (hfin _ ⟨[], [], [], [], [], [], by kernel_rfl⟩)
   ·refine NR [] [0, 1, 5] [] [] [(5, .i (w64 (v1 + 1)))] .nil ?_
    exact Nrnd [] hF ih1 (by kernel_rfl)
  ·refine Nexit rfl ?_
   have hF := inrO_done hF dn1
   exact metP () [] hF (by kernel_rfl)
 ·intro v hF
  have hF : R_Has_J1 v = some r := hF
  unfold R_Has_J1 at hF
  refine NR [] [4] [] [] [(4, .bool false)] .nil ?_
  cases hF
  exact Wk_ret (hfin _ ⟨[], [], [], [], [], [], by kernel_rfl⟩)

/- tabularyref.Majority -/
noncomputable def R_Majority (k0 : Int) (num : Int) : Bool :=
 decide ((w64 (Int.tdiv num 2)) < k0)
theorem R_Majority_ok (k0 : Int) (num : Int) (r : Bool) (hF : R_Majority k0 num = r) : Pe Try.prog 73 S.none [.i k0, .i num] (.bool r) S.none := by
 refine PeN 9 [.tmp 4] [4] Ty.ok Fn.b73 Try.func73 ?_
 intro Q g hfin
 unfold R_Majority at hF
 refine NR [] [0, 1] [] [] [] .nil ?_
 refine NR [] [4] [] [] [(4, .bool (decide ((w64 (Int.tdiv num 2)) < k0)))] (hc (by decide : (2 : Int) ≠ 0) .nil) ?_
 cases hF
 exact Wk_ret (hfin _ ⟨[], [], [], [], [], [], by kernel_rfl⟩)

/- tabularyref.NodeFault -/
noncomputable def R_NodeFault_J2 (v1 : Unit) : Option Fault :=
 some (⟨0, 0⟩ : Fault)
noncomputable def R_NodeFault_J3 (v2 : Unit) : Option Fault :=
 R_NodeFault_J2 ()
noncomputable def R_NodeFault_B1 (x : Node) (x7 : Fault) (v3 : Int) : Option (Int ⊕ Fault) :=
 if (decide (v3 < x.N)) = true then
  asrt (0 ≤ v3 ∧ v3 < (x.Next.length : Int)) <|
  asrt ((!(decide ((lget x.Next v3) < 1))) = true → 0 ≤ v3 ∧ v3 < (x.Next.length : Int)) <|
  asrt ((!((decide ((lget x.Next v3) < 1)) || (decide ((w64 ((x.Log.length : Int) + 1)) < (lget x.Next v3))))) = true → 0 ≤ v3 ∧ v3 < (x.Have.length : Int)) <|
  asrt ((!(((decide ((lget x.Next v3) < 1)) || (decide ((w64 ((x.Log.length : Int) + 1)) < (lget x.Next v3)))) || (decide ((lget x.Have v3) < 0)))) = true → 0 ≤ v3 ∧ v3 < (x.Have.length : Int)) <|
  if ((((decide ((lget x.Next v3) < 1)) || (decide ((w64 ((x.Log.length : Int) + 1)) < (lget x.Next v3)))) || (decide ((lget x.Have v3) < 0))) || (decide ((x.Log.length : Int) < (lget x.Have v3)))) = true then
   some (Sum.inr x7)
  else
   some (Sum.inl (w64 (v3 + 1)))
 else
  inrO (R_NodeFault_J3 ())
noncomputable def R_NodeFault_L1 (x : Node) (x7 : Fault) (v0 : Int) : Option Fault :=
 loopO (fun y => R_NodeFault_B1 x x7 y) v0
noncomputable def R_NodeFault_J1 (x : Node) (x7 : Fault) (v : Unit) : Option Fault :=
 if (decide (x.Role = 2)) = true then
  if ((!decide ((x.Next.length : Int) = x.N)) || (!decide ((x.Have.length : Int) = x.N))) = true then
   some x7
  else
   R_NodeFault_L1 x x7 0
 else
  R_NodeFault_J2 ()
noncomputable def R_NodeFault_J4 (x : Node) (x7 : Fault) (v4 : Unit) : Option Fault :=
 R_NodeFault_J1 x x7 ()
noncomputable def R_NodeFault_B2 (x : Node) (x7 : Fault) (v5 : Int) : Option (Int ⊕ Fault) :=
 if (decide (v5 < (x.Votes.length : Int))) = true then
  asrt (0 ≤ v5 ∧ v5 < (x.Votes.length : Int)) <|
  asrt ((!(decide ((lget x.Votes v5) < 0))) = true → 0 ≤ v5 ∧ v5 < (x.Votes.length : Int)) <|
  asrt ((!((decide ((lget x.Votes v5) < 0)) || (decide (x.N ≤ (lget x.Votes v5))))) = true → 0 ≤ v5 ∧ v5 ≤ (x.Votes.length : Int)) <|
  asrt ((!((decide ((lget x.Votes v5) < 0)) || (decide (x.N ≤ (lget x.Votes v5))))) = true → 0 ≤ v5 ∧ v5 < (x.Votes.length : Int)) <|
  ob (if (!((decide ((lget x.Votes v5) < 0)) || (decide (x.N ≤ (lget x.Votes v5))))) = true then (R_Has (ltake x.Votes v5) (lget x.Votes v5)) else some default) fun x10 =>
  if (((decide ((lget x.Votes v5) < 0)) || (decide (x.N ≤ (lget x.Votes v5)))) || x10) = true then
   some (Sum.inr x7)
  else
   some (Sum.inl (w64 (v5 + 1)))
 else
  inrO (R_NodeFault_J4 x x7 ())
noncomputable def R_NodeFault_L2 (x : Node) (x7 : Fault) (v0 : Int) : Option Fault :=
 loopO (fun y => R_NodeFault_B2 x x7 y) v0
noncomputable def R_NodeFault (x : Node) : Option Fault :=
 if ((((decide (x.N < 1)) || (decide (7 < x.N))) || (decide (x.ID < 0))) || (decide (x.N ≤ x.ID))) = true then
  lt (R_F 3 (-1)) fun x1 =>
  some x1
 else
  lt (R_Num x.Term) fun x2 =>
  if (((((((!x2) || (decide (x.Vote < 0))) || (decide (x.N < x.Vote))) || (decide (x.Role < 0))) || (decide (2 < x.Role))) || (decide (x.Commit < 0))) || (decide ((x.Log.length : Int) < x.Commit))) = true then
   lt (R_F 3 (-2)) fun x3 =>
   some x3
  else
   ob (R_LogFault x.Log) fun x4 =>
   if (!decide (x4.Code = 0)) = true then
    some x4
   else
    ob (R_LastTerm x.Log) fun x5 =>
    if (decide (x.Term < x5)) = true then
     lt (R_F 11 (-3)) fun x6 =>
     some x6
    else
     lt (R_F 5 (-3)) fun x7 =>
     if (((!decide (x.Role = 1)) && (decide (0 < (x.Votes.length : Int)))) || ((!decide (x.Role = 2)) && ((decide (0 < (x.Next.length : Int))) || (decide (0 < (x.Have.length : Int)))))) = true then
      some x7
     else
      if (decide (x.Role = 1)) = true then
       ob (R_Has x.Votes x.ID) fun x8 =>
       lt (R_Majority (x.Votes.length : Int) x.N) fun x9 =>
       if ((!x8) || x9) = true then
        some x7
       else
        R_NodeFault_L2 x x7 0
      else
       R_NodeFault_J1 x x7 ()
theorem R_NodeFault_ok (x : Node) (r : Fault) (hF : R_NodeFault x = some r) : Pe Try.prog 36 S.none [.agg (c_Node x)] (.agg (c_Fault r)) S.none := by
 refine PeN 227 [.cell 2 26] [26] Ty.ok Fn.b36 Try.func36 ?_
 intro Q g hfin
 unfold R_NodeFault at hF
 refine VR [] [1, 2] [1, 2] [] [] [(1, .ptr 1 0), (2, .ptr 2 0)] [(1, (c_Node x)), (2, [.i 0, .i 0])] [] [] .nil ?_
 refine NR [] [1, 2, 26] [1, 2] [] [(26, .bool ((((decide (x.N < 1)) || (decide (7 < x.N))) || (decide (x.ID < 0))) || (decide (x.N ≤ x.ID))))] .nil ?_
 refine Nif hF (fun hb hF => ?_) (fun hb hF => ?_)
 ·obtain ⟨x1, h0, hF⟩ := lt_split hF
  refine VR [.callB (.agg (c_Fault x1))] [2] [2] [] [] [] [(2, (c_Fault x1))] [] [] (hc (R_F_ok 3 (-1) x1 h0) .nil) ?_
  cases hF
  exact Wk_ret (hfin _ ⟨[], [], [], [], [], [], by kernel_rfl⟩)
 ·obtain ⟨x2, h1, hF⟩ := lt_split hF
  refine NR [.callB (.bool x2), .nat (x.Log.length : Int)] [1, 2, 66] [1, 2] [] [(66, .bool (((((((!x2) || (decide (x.Vote < 0))) || (decide (x.N < x.Vote))) || (decide (x.Role < 0))) || (decide (2 < x.Role))) || (decide (x.Commit < 0))) || (decide ((x.Log.length : Int) < x.Commit))))] (hc (R_Num_ok x.Term x2 h1) (hc (fun (_ : (!((((((!x2) || (decide (x.Vote < 0))) || (decide (x.N < x.Vote))) || (decide (x.Role < 0))) || (decide (2 < x.Role))) || (decide (x.Commit < 0)))) = true) => (len_ok e_Entry x.Log)) .nil)) ?_
  refine Nif hF (fun hb hF => ?_) (fun hb hF => ?_)
  ·obtain ⟨x3, h2, hF⟩ := lt_split hF
   refine VR [.callB (.agg (c_Fault x3))] [2] [2] [] [] [] [(2, (c_Fault x3))] [] [] (hc (R_F_ok 3 (-2) x3 h2) .nil) ?_
   cases hF
   exact Wk_ret (hfin _ ⟨[], [], [], [], [], [], by kernel_rfl⟩)
  ·obtain ⟨x4, h3, hF⟩ := ob_elim hF
   refine VR [.callB (.agg (c_Fault x4))] [1, 2, 3] [1, 2, 3] [] [] [(3, .ptr 3 0)] [(3, (c_Fault x4))] [] [] (hc (R_LogFault_ok x.Log x4 h3) .nil) ?_
   refine NR [] [1, 2, 3, 73] [1, 2, 3] [] [(73, .bool (!decide (x4.Code = 0)))] .nil ?_
   refine Nif hF (fun hb hF => ?_) (fun hb hF => ?_)
   ·refine VR [] [2] [2] [] [] [] [(2, (c_Fault x4))] [] [] .nil ?_
    cases hF
    exact Wk_ret (hfin _ ⟨[], [], [], [], [], [], by kernel_rfl⟩)
   ·obtain ⟨x5, h4, hF⟩ := ob_elim hF
    refine ND [.callB (.i x5)] [1, 2, 80] [1, 2] [] [(80, .bool (decide (x.Term < x5)))] (hc (R_LastTerm_ok x.Log x5 h4) .nil) ?_
    refine Nif hF (fun hb hF => ?_) (fun hb hF => ?_)
    ·obtain ⟨x6, h5, hF⟩ := lt_split hF
     refine VR [.callB (.agg (c_Fault x6))] [2] [2] [] [] [] [(2, (c_Fault x6))] [] [] (hc (R_F_ok 11 (-3) x6 h5) .nil) ?_
     cases hF
     exact Wk_ret (hfin _ ⟨[], [], [], [], [], [], by kernel_rfl⟩)
    ·obtain ⟨x7, h6, hF⟩ := lt_split hF
     refine VR [.callB (.agg (c_Fault x7))] [1, 2, 4] [1, 2, 4] [] [] [(4, .ptr 4 0)] [(4, (c_Fault x7))] [] [] (hc (R_F_ok 5 (-3) x7 h6) .nil) ?_
     refine NR [.nat (x.Votes.length : Int), .nat (x.Next.length : Int), .nat (x.Have.length : Int)] [1, 2, 4, 108] [1, 2, 4] [] [(108, .bool (((!decide (x.Role = 1)) && (decide (0 < (x.Votes.length : Int)))) || ((!decide (x.Role = 2)) && ((decide (0 < (x.Next.length : Int))) || (decide (0 < (x.Have.length : Int)))))))] (hc (fun (_ : (!decide (x.Role = 1)) = true) => (len_ok e_i64 x.Votes)) (hc (fun (_ : (!decide (x.Role = 2)) = true) (_ : (!((!decide (x.Role = 1)) && (decide (0 < (x.Votes.length : Int))))) = true) => (len_ok e_i64 x.Next)) (hc (fun (_ : (!(decide (0 < (x.Next.length : Int)))) = true) (_ : (!decide (x.Role = 2)) = true) (_ : (!((!decide (x.Role = 1)) && (decide (0 < (x.Votes.length : Int))))) = true) => (len_ok e_i64 x.Have)) .nil))) ?_
     refine Nif hF (fun hb hF => ?_) (fun hb hF => ?_)
     ·refine VR [] [2] [2] [] [] [] [(2, (c_Fault x7))] [] [] .nil ?_
      cases hF
      exact Wk_ret (hfin _ ⟨[], [], [], [], [], [], by kernel_rfl⟩)
     ·refine NR [] [1, 2, 4, 112] [1, 2, 4] [] [(112, .bool (decide (x.Role = 1)))] .nil ?_
      refine NmeetP (fun v : Unit => (⟨[(1, .ptr 1 0), (2, .ptr 2 0), (4, .ptr 4 0)], [(1, (c_Node x)), (2, [.i 0, .i 0]), (4, (c_Fault x7))], [], [], []⟩ : S)) (fun v => R_NodeFault_J1 x x7 v = some r) ?_ ?_
      ·refine Nif hF (fun hb hF => ?_) (fun hb hF => ?_)
       ·obtain ⟨x8, h11, hF⟩ := ob_elim hF
        obtain ⟨x9, h12, hF⟩ := lt_split hF
        refine NR [.callB (.bool x8), .nat (x.Votes.length : Int), .callB (.bool x9)] [1, 2, 4, 126] [1, 2, 4] [] [(126, .bool ((!x8) || x9))] (hc (R_Has_ok x.Votes x.ID x8 h11) (hc (fun (_ : (!(!x8)) = true) => (len_ok e_i64 x.Votes)) (hc (fun (ga0 : (!(!x8)) = true) => (R_Majority_ok (x.Votes.length : Int) x.N x9 h12)) .nil))) ?_
        refine Nif hF (fun hb hF => ?_) (fun hb hF => ?_)
        ·refine VR [] [2] [2] [] [] [] [(2, (c_Fault x7))] [] [] .nil ?_
         cases hF
         exact Wk_ret (hfin _ ⟨[], [], [], [], [], [], by kernel_rfl⟩)
        ·refine NR [] [1, 2, 4, 5] [1, 2, 4] [] [(5, .i 0)] .nil ?_
         refine NmeetP (fun v4 : Unit => (⟨[(1, .ptr 1 0), (2, .ptr 2 0), (4, .ptr 4 0)], [(1, (c_Node x)), (2, [.i 0, .i 0]), (4, (c_Fault x7))], [], [], []⟩ : S)) (fun v4 => R_NodeFault_J4 x x7 v4 = some r) ?_ ?_
         ·refine Nblk ?_
          unfold R_NodeFault_L2 at hF
          refine Niter (fun v5 : Int => (⟨[(1, .ptr 1 0), (2, .ptr 2 0), (4, .ptr 4 0), (5, .i v5)], [(1, (c_Node x)), (2, [.i 0, .i 0]), (4, (c_Fault x7))], [], [], []⟩ : S)) [] hF (by kernel_rfl) ?_
          intro n1 v5 y1 hF ih1 dn1
          unfold R_NodeFault_B2 at hF
          refine NR [.nat (x.Votes.length : Int)] [1, 2, 4, 5, 132] [1, 2, 4] [] [(132, .bool (decide (v5 < (x.Votes.length : Int))))] (hc (len_ok e_i64 x.Votes) .nil) ?_
          refine Nif hF (fun hb hF => ?_) (fun hb hF => ?_)
          ·refine Nblk ?_
           obtain ⟨h13, h14, h15, h16, hF⟩ := asrt4 hF
           obtain ⟨x10, h17, hF⟩ := ob_elim hF
           refine ND [.av (e_i64 (lget x.Votes v5)), .av (e_i64 (lget x.Votes v5)), .xs ((ltake x.Votes v5).map e_i64), .av (e_i64 (lget x.Votes v5)), .callB (.bool x10)] [1, 2, 4, 5, 162] [1, 2, 4] [] [(162, .bool (((decide ((lget x.Votes v5) < 0)) || (decide (x.N ≤ (lget x.Votes v5)))) || x10))] (hc (idx_ok e_i64 h13) (hc (fun (ga0 : (!(decide ((lget x.Votes v5) < 0))) = true) => (idx_ok e_i64 (h14 ga0))) (hc (fun (ga0 : (!((decide ((lget x.Votes v5) < 0)) || (decide (x.N ≤ (lget x.Votes v5))))) = true) => (sl01_ok e_i64 (h15 ga0))) (hc (fun (ga0 : (!((decide ((lget x.Votes v5) < 0)) || (decide (x.N ≤ (lget x.Votes v5))))) = true) => (idx_ok e_i64 (h16 ga0))) (hc (fun (ga0 : (!((decide ((lget x.Votes v5) < 0)) || (decide (x.N ≤ (lget x.Votes v5))))) = true) => (R_Has_ok (ltake x.Votes v5) (lget x.Votes v5) x10 (ite_t h17 ga0))) .nil))))) ?_
           refine Nif hF (fun hb hF => ?_) (fun hb hF => ?_)
           ·refine VR [] [2] [2] [] [] [] [(2, (c_Fault x7))] [] [] .nil ?_
            have hF := ret_done hF dn1
            cases hF
            exact Wk_ret (hfin _ ⟨[], [], [], [], [], [], by kernel_rfl⟩)
           ·refine NR [] [1, 2, 4, 5] [1, 2, 4] [] [(5, .i (w64 (v5 + 1)))] .nil ?_
            exact Nrnd [] hF ih1 (by kernel_rfl)
          ·refine Nexit rfl ?_
           have hF := inrO_done hF dn1
           exact metP () [] hF (by kernel_rfl)
         ·intro v4 hF
          have hF : R_NodeFault_J4 x x7 v4 = some r := hF
          unfold R_NodeFault_J4 at hF
          exact metP () [] hF (by kernel_rfl)
       ·exact metP () [] hF (by kernel_rfl)
      ·intro v hF
       have hF : R_NodeFault_J1 x x7 v = some r := hF
       unfold R_NodeFault_J1 at hF
       refine NR [] [1, 2, 4, 166] [1, 2, 4] [] [(166, .bool (decide (x.Role = 2)))] .nil ?_
       refine NmeetP (fun v1 : Unit => (⟨[(2, .ptr 2 0)], [(2, [.i 0, .i 0])], [], [], []⟩ : S)) (fun v1 => R_NodeFault_J2 v1 = some r) ?_ ?_
       ·refine Nif hF (fun hb hF => ?_) (fun hb hF => ?_)
        ·refine NR [.nat (x.Next.length : Int), .nat (x.Have.length : Int)] [1, 2, 4, 180] [1, 2, 4] [] [(180, .bool ((!decide ((x.Next.length : Int) = x.N)) || (!decide ((x.Have.length : Int) = x.N))))] (hc (len_ok e_i64 x.Next) (hc (fun (_ : (!(!decide ((x.Next.length : Int) = x.N))) = true) => (len_ok e_i64 x.Have)) .nil)) ?_
         refine Nif hF (fun hb hF => ?_) (fun hb hF => ?_)
         ·refine VR [] [2] [2] [] [] [] [(2, (c_Fault x7))] [] [] .nil ?_
          cases hF
          exact Wk_ret (hfin _ ⟨[], [], [], [], [], [], by kernel_rfl⟩)
         ·refine NR [] [1, 2, 4, 6] [1, 2, 4] [] [(6, .i 0)] .nil ?_
          refine NmeetP (fun v2 : Unit => (⟨[(2, .ptr 2 0)], [(2, [.i 0, .i 0])], [], [], []⟩ : S)) (fun v2 => R_NodeFault_J3 v2 = some r) ?_ ?_
          ·refine Nblk ?_
           unfold R_NodeFault_L1 at hF
           refine Niter (fun v3 : Int => (⟨[(1, .ptr 1 0), (2, .ptr 2 0), (4, .ptr 4 0), (6, .i v3)], [(1, (c_Node x)), (2, [.i 0, .i 0]), (4, (c_Fault x7))], [], [], []⟩ : S)) [] hF (by kernel_rfl) ?_
           intro n1 v3 y1 hF ih1 dn1
           unfold R_NodeFault_B1 at hF
           refine NR [] [1, 2, 4, 6, 185] [1, 2, 4] [] [(185, .bool (decide (v3 < x.N)))] .nil ?_
           refine Nif hF (fun hb hF => ?_) (fun hb hF => ?_)
           ·refine Nblk ?_
            obtain ⟨h7, h8, h9, h10, hF⟩ := asrt4 hF
            refine ND [.av (e_i64 (lget x.Next v3)), .av (e_i64 (lget x.Next v3)), .nat (x.Log.length : Int), .av (e_i64 (lget x.Have v3)), .av (e_i64 (lget x.Have v3)), .nat (x.Log.length : Int)] [1, 2, 4, 6, 224] [1, 2, 4] [] [(224, .bool ((((decide ((lget x.Next v3) < 1)) || (decide ((w64 ((x.Log.length : Int) + 1)) < (lget x.Next v3)))) || (decide ((lget x.Have v3) < 0))) || (decide ((x.Log.length : Int) < (lget x.Have v3)))))] (hc (idx_ok e_i64 h7) (hc (fun (ga0 : (!(decide ((lget x.Next v3) < 1))) = true) => (idx_ok e_i64 (h8 ga0))) (hc (fun (_ : (!(decide ((lget x.Next v3) < 1))) = true) => (len_ok e_Entry x.Log)) (hc (fun (ga0 : (!((decide ((lget x.Next v3) < 1)) || (decide ((w64 ((x.Log.length : Int) + 1)) < (lget x.Next v3))))) = true) => (idx_ok e_i64 (h9 ga0))) (hc (fun (ga0 : (!(((decide ((lget x.Next v3) < 1)) || (decide ((w64 ((x.Log.length : Int) + 1)) < (lget x.Next v3)))) || (decide ((lget x.Have v3) < 0)))) = true) => (idx_ok e_i64 (h10 ga0))) (hc (fun (_ : (!(((decide ((lget x.Next v3) < 1)) || (decide ((w64 ((x.Log.length : Int) + 1)) < (lget x.Next v3)))) || (decide ((lget x.Have v3) < 0)))) = true) => (len_ok e_Entry x.Log)) .nil)))))) ?_
            refine Nif hF (fun hb hF => ?_) (fun hb hF => ?_)
            ·refine VR [] [2] [2] [] [] [] [(2, (c_Fault x7))] [] [] .nil ?_
             have hF := ret_done hF dn1
             cases hF
             exact Wk_ret (hfin _ ⟨[], [], [], [], [], [], by kernel_rfl⟩)
            ·refine NR [] [1, 2, 4, 6] [1, 2, 4] [] [(6, .i (w64 (v3 + 1)))] .nil ?_
             exact Nrnd [] hF ih1 (by kernel_rfl)
           ·refine Nexit rfl ?_
            have hF := inrO_done hF dn1
            exact metP () [] hF (by kernel_rfl)
          ·intro v2 hF
           have hF : R_NodeFault_J3 v2 = some r := hF
           unfold R_NodeFault_J3 at hF
           exact metP () [] hF (by kernel_rfl)
        ·exact metP () [] hF (by kernel_rfl)
       ·intro v1 hF
        have hF : R_NodeFault_J2 v1 = some r := hF
        unfold R_NodeFault_J2 at hF
        refine NR [] [2] [2] [] [] .nil ?_
        cases hF
        exact Wk_ret (hfin _ ⟨[], [], [], [], [], [], by kernel_rfl⟩)

/- tabularyref.CopyLog -/
noncomputable def R_CopyLog (l : List Entry) : Option (List Entry) :=
 asrt ((l.length : Int) * 24 ≤ 140737488351232) <|
 some l
theorem R_CopyLog_ok (l : List Entry) (r : List Entry) (hF : R_CopyLog l = some r) : Pe Try.prog 21 S.none [.sl 2 (l.map e_Entry)] (.row 4 1) ⟨[], [], [(4, .z 31 2 1 (r.map e_Entry))], [], []⟩ := by
 refine PeN 5 [.tmp 2] [22] Ty.ok Fn.b21 Try.func21 ?_
 intro Q g hfin
 unfold R_CopyLog at hF
 refine NR [] [0] [] [] [] .nil ?_
 obtain ⟨h0, hF⟩ := asrt_elim hF
 refine VR [.xs (l.map e_Entry)] [2] [] [4] [] [(2, .row 4 1)] [] [(4, .z 31 2 1 (l.map e_Entry))] [] (hc (app0_ok e_Entry l) (hc (appl_ok e_Entry h0) .nil)) ?_
 cases hF
 exact Wk_ret (hfin _ ⟨[4], [], [4], [], [], [], by kernel_rfl⟩)

/- tabularyref.Follower -/
noncomputable def R_Follower (x : Node) : Option (Int × Int × Int × Int × List Entry × Int × Int) :=
 ob (R_CopyLog x.Log) fun x1 =>
 some (x.N, x.ID, x.Term, x.Vote, x1, 0, x.Commit)
theorem R_Follower_ok (x : Node) (r : Int × Int × Int × Int × List Entry × Int × Int) (hF : R_Follower x = some r) : Pe Try.prog 74 S.none [.agg (c_Node x)] (.agg [.i r.1, .i r.2.1, .i r.2.2.1, .i r.2.2.2.1, .row 13 1, .i r.2.2.2.2.2.1, .i r.2.2.2.2.2.2, .row 71001 0, .row 71002 0, .row 71003 0]) ⟨[], [], [(13, .z 31 2 1 (r.2.2.2.2.1.map e_Entry)), (71001, .z 3 1 0 (([] : List Int).map e_i64)), (71002, .z 3 1 0 (([] : List Int).map e_i64)), (71003, .z 3 1 0 (([] : List Int).map e_i64))], [], []⟩ := by
 refine PeN 17 [.cell 2 46] [46] Ty.ok Fn.b74 Try.func74 ?_
 intro Q g hfin
 unfold R_Follower at hF
 refine VR [] [1, 2] [1, 2] [] [] [(1, .ptr 1 0), (2, .ptr 2 0)] [(1, (c_Node x)), (2, [.i 0, .i 0, .i 0, .i 0, .nils, .i 0, .i 0, .nils, .nils, .nils])] [] [] .nil ?_
 obtain ⟨x1, h0, hF⟩ := ob_elim hF
 refine VD [.callE [] [] [] [] (.row 13 1) ⟨[], [], [(13, .z 31 2 1 (x1.map e_Entry))], [], []⟩] [2] [2] [13] [] [] [(2, [.i x.N, .i x.ID, .i x.Term, .i x.Vote, .row 13 1, .i 0, .i x.Commit, .nils, .nils, .nils])] [(13, .z 31 2 1 (x1.map e_Entry))] [] (hc (Pe.ren (R_CopyLog_ok x.Log x1 h0) ⟨[], [(4, 13)], [], []⟩) .nil) ?_
 cases hF
 refine Wk_nilrowB 2 7 60000 3 1 rfl rfl rfl rfl rfl ?_
 refine Wk_nilrowB 2 8 60001 3 1 rfl rfl rfl rfl rfl ?_
 refine Wk_nilrowB 2 9 60002 3 1 rfl rfl rfl rfl rfl ?_
 refine Wk_ren' ⟨[], [(60000, 71001), (60001, 71002), (60002, 71003)], [], []⟩ rfl ?_
 exact Wk_ret (hfin _ ⟨[13, 71001, 71002, 71003], [], [13, 71001, 71002, 71003], [], [], [], by kernel_rfl⟩)

/- tabularyref.Counted -/
noncomputable def R_Counted_J1 (x : Node) (v : Int) : Option Node :=
 some (⟨x.N, x.ID, x.Term, x.Vote, x.Log, x.Role, v, x.Votes, x.Next, x.Have⟩ : Node)
noncomputable def R_Counted_J2 (x : Node) (v1 : Int × Int) (v2 : Int) : Option ((Int × Int) ⊕ Node) :=
 asrt (0 ≤ w64 (v1.2 - 1) ∧ w64 (v1.2 - 1) < (x.Log.length : Int)) <|
 lt (R_Majority v2 x.N) fun x1 =>
 ob (
  if ((decide (((lget x.Log (w64 (v1.2 - 1))).Term) = x.Term)) && x1) = true then
   some v1.2
  else
   some v1.1) fun (v3 : Int) =>
 some (Sum.inl (v3, w64 (v1.2 + 1)))
noncomputable def R_Counted_B2 (x : Node) (v1 : Int × Int) (v4 : Int × Int) : Option ((Int × Int) ⊕ ((Int × Int) ⊕ Node)) :=
 if (decide (v4.2 < (x.Have.length : Int))) = true then
  asrt (0 ≤ v4.2 ∧ v4.2 < (x.Have.length : Int)) <|
  ob (
   if (decide (v1.2 ≤ (lget x.Have v4.2))) = true then
    some (w64 (v4.1 + 1))
   else
    some v4.1) fun (v5 : Int) =>
  some (Sum.inl (v5, w64 (v4.2 + 1)))
 else
  inrO (R_Counted_J2 x v1 v4.1)
noncomputable def R_Counted_L2 (x : Node) (v1 : Int × Int) (v0 : Int × Int) : Option ((Int × Int) ⊕ Node) :=
 loopO (fun y => R_Counted_B2 x v1 y) v0
noncomputable def R_Counted_B1 (x : Node) (v1 : Int × Int) : Option ((Int × Int) ⊕ Node) :=
 if (decide (v1.2 ≤ (x.Log.length : Int))) = true then
  R_Counted_L2 x v1 (0, 0)
 else
  inrO (R_Counted_J1 x v1.1)
noncomputable def R_Counted_L1 (x : Node) (v0 : Int × Int) : Option Node :=
 loopO (fun y => R_Counted_B1 x y) v0
noncomputable def R_Counted (x : Node) : Option Node :=
 R_Counted_L1 x (x.Commit, w64 (x.Commit + 1))
theorem R_Counted_ok (x : Node) (r : Node) (hF : R_Counted x = some r) : Pe Try.prog 76 S.none [.agg (c_Node x)] (.agg (c_Node r)) S.none := by
 refine PeN 55 [.cell 2 46] [46] Ty.ok Fn.b76 Try.func76 ?_
 intro Q g hfin
 unfold R_Counted at hF
 refine VR [] [1, 2] [1, 2] [] [] [(1, .ptr 1 0), (2, .ptr 2 0)] [(1, (c_Node x)), (2, [.i 0, .i 0, .i 0, .i 0, .nils, .i 0, .i 0, .nils, .nils, .nils])] [] [] .nil ?_
 refine NR [] [1, 2, 3] [1, 2] [] [(3, .i x.Commit)] .nil ?_
 refine NR [] [1, 2, 3, 4] [1, 2] [] [(4, .i (w64 (x.Commit + 1)))] .nil ?_
 refine NmeetP (fun v : Int => (⟨[(1, .ptr 1 0), (2, .ptr 2 0), (3, .i v)], [(1, (c_Node x)), (2, [.i 0, .i 0, .i 0, .i 0, .nils, .i 0, .i 0, .nils, .nils, .nils])], [], [], []⟩ : S)) (fun v => R_Counted_J1 x v = some r) ?_ ?_
 ·refine Nblk ?_
  unfold R_Counted_L1 at hF
  refine Niter (fun v1 : Int × Int => (⟨[(1, .ptr 1 0), (2, .ptr 2 0), (3, .i v1.1), (4, .i v1.2)], [(1, (c_Node x)), (2, [.i 0, .i 0, .i 0, .i 0, .nils, .i 0, .i 0, .nils, .nils, .nils])], [], [], []⟩ : S)) [] hF (by kernel_rfl) ?_
  intro n1 v1 y1 hF ih1 dn1
  unfold R_Counted_B1 at hF
  refine NR [.nat (x.Log.length : Int)] [1, 2, 3, 4, 16] [1, 2] [] [(16, .bool (decide (v1.2 ≤ (x.Log.length : Int))))] (hc (len_ok e_Entry x.Log) .nil) ?_
  refine Nif hF (fun hb hF => ?_) (fun hb hF => ?_)
  ·refine Nblk ?_
   refine NR [] [1, 2, 3, 4, 5] [1, 2] [] [(5, .i 0)] .nil ?_
   refine NR [] [1, 2, 3, 4, 5, 6] [1, 2] [] [(6, .i 0)] .nil ?_
   refine NmeetP (fun v2 : Int => (⟨[(1, .ptr 1 0), (2, .ptr 2 0), (3, .i v1.1), (4, .i v1.2), (5, .i v2)], [(1, (c_Node x)), (2, [.i 0, .i 0, .i 0, .i 0, .nils, .i 0, .i 0, .nils, .nils, .nils])], [], [], []⟩ : S)) (fun v2 => R_Counted_J2 x v1 v2 = some y1) ?_ ?_
   ·refine Nblk ?_
    unfold R_Counted_L2 at hF
    refine Niter (fun v4 : Int × Int => (⟨[(1, .ptr 1 0), (2, .ptr 2 0), (3, .i v1.1), (4, .i v1.2), (5, .i v4.1), (6, .i v4.2)], [(1, (c_Node x)), (2, [.i 0, .i 0, .i 0, .i 0, .nils, .i 0, .i 0, .nils, .nils, .nils])], [], [], []⟩ : S)) [] hF (by kernel_rfl) ?_
    intro n2 v4 y2 hF ih2 dn2
    unfold R_Counted_B2 at hF
    refine NR [.nat (x.Have.length : Int)] [1, 2, 3, 4, 5, 6, 23] [1, 2] [] [(23, .bool (decide (v4.2 < (x.Have.length : Int))))] (hc (len_ok e_i64 x.Have) .nil) ?_
    refine Nif hF (fun hb hF => ?_) (fun hb hF => ?_)
    ·refine Nblk ?_
     obtain ⟨h2, hF⟩ := asrt_elim hF
     refine NR [.av (e_i64 (lget x.Have v4.2))] [1, 2, 3, 4, 5, 6, 32] [1, 2] [] [(32, .bool (decide (v1.2 ≤ (lget x.Have v4.2))))] (hc (idx_ok e_i64 h2) .nil) ?_
     obtain ⟨v5, hv, hF⟩ := ob_elim hF
     refine Nmeet (⟨[(1, .ptr 1 0), (2, .ptr 2 0), (3, .i v1.1), (4, .i v1.2), (5, .i v5), (6, .i v4.2)], [(1, (c_Node x)), (2, [.i 0, .i 0, .i 0, .i 0, .nils, .i 0, .i 0, .nils, .nils, .nils])], [], [], []⟩ : S) ?_ ?_
     ·have hF := hv
      refine Nif hF (fun hb hF => ?_) (fun hb hF => ?_)
      ·refine NR [] [1, 2, 3, 4, 5, 6] [1, 2] [] [(5, .i (w64 (v4.1 + 1)))] .nil ?_
       cases hF
       exact met [] (by kernel_rfl)
      ·cases hF
       exact met [] (by kernel_rfl)
     ·refine NR [] [1, 2, 3, 4, 5, 6] [1, 2] [] [(6, .i (w64 (v4.2 + 1)))] .nil ?_
      exact Nrnd [] hF ih2 (by kernel_rfl)
    ·refine Nexit rfl ?_
     have hF := inrO_done hF dn2
     exact metP v4.1 [] hF (by kernel_rfl)
   ·intro v2 hF
    have hF : R_Counted_J2 x v1 v2 = some y1 := hF
    unfold R_Counted_J2 at hF
    obtain ⟨h0, hF⟩ := asrt_elim hF
    obtain ⟨x1, h1, hF⟩ := lt_split hF
    refine ND [.av (e_Entry (lget x.Log (w64 (v1.2 - 1)))), .callB (.bool x1)] [1, 2, 3, 4, 50] [1, 2] [] [(50, .bool ((decide (((lget x.Log (w64 (v1.2 - 1))).Term) = x.Term)) && x1))] (hc (idx_ok e_Entry h0) (hc (fun (ga0 : (decide (((lget x.Log (w64 (v1.2 - 1))).Term) = x.Term)) = true) => (R_Majority_ok v2 x.N x1 h1)) .nil)) ?_
    obtain ⟨v3, hv, hF⟩ := ob_elim hF
    refine Nmeet (⟨[(1, .ptr 1 0), (2, .ptr 2 0), (3, .i v3), (4, .i v1.2)], [(1, (c_Node x)), (2, [.i 0, .i 0, .i 0, .i 0, .nils, .i 0, .i 0, .nils, .nils, .nils])], [], [], []⟩ : S) ?_ ?_
    ·have hF := hv
     refine Nif hF (fun hb hF => ?_) (fun hb hF => ?_)
     ·refine NR [] [1, 2, 3, 4] [1, 2] [] [(3, .i v1.2)] .nil ?_
      cases hF
      exact met [] (by kernel_rfl)
     ·cases hF
      exact met [] (by kernel_rfl)
    ·refine NR [] [1, 2, 3, 4] [1, 2] [] [(4, .i (w64 (v1.2 + 1)))] .nil ?_
     exact Nrnd [] hF ih1 (by kernel_rfl)
  ·refine Nexit rfl ?_
   have hF := inrO_done hF dn1
   exact metP v1.1 [] hF (by kernel_rfl)
 ·intro v hF
  have hF : R_Counted_J1 x v = some r := hF
  unfold R_Counted_J1 at hF
  refine VR [] [1, 2] [1, 2] [] [] [] [(1, [.i x.N, .i x.ID, .i x.Term, .i x.Vote, .sl 2 (x.Log.map e_Entry), .i x.Role, .i v, .sl 1 (x.Votes.map e_i64), .sl 1 (x.Next.map e_i64), .sl 1 (x.Have.map e_i64)])] [] [] .nil ?_
  refine VR [] [2] [2] [] [] [] [(2, [.i x.N, .i x.ID, .i x.Term, .i x.Vote, .sl 2 (x.Log.map e_Entry), .i x.Role, .i v, .sl 1 (x.Votes.map e_i64), .sl 1 (x.Next.map e_i64), .sl 1 (x.Have.map e_i64)])] [] [] .nil ?_
  cases hF
  exact Wk_ret (hfin _ ⟨[], [], [], [], [], [], by kernel_rfl⟩)

end G
end Go.Proofs.Ytcnngkigpfpalaa
