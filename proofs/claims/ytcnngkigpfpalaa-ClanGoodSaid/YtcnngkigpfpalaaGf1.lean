/- The program's functions as plain functions, and that they are these. Written by a program (dec2.py). -/
import Derived.Test.YtcnngkigpfpalaaGf0
namespace Go.Proofs.Ytcnngkigpfpalaa
open Go Go.Dm
set_option linter.unusedVariables false
set_option linter.unusedSimpArgs false
set_option maxRecDepth 100000
namespace G
/- raft.Propose -/
noncomputable def raft_Propose (x : Node) (text : List UInt8) : Option (Int × Int × Int × Int × List Entry × Int × Int × List Int × List Int × List Int × Fault) :=
  ob (raft_Check x) fun x1 =>
  ob (
    if (!decide (x1.Code = 0)) = true then
      some x1
    else
      if (!decide (x.Role = 2)) = true then
        lt (raft_fault 11 0) fun x2 =>
        some x2
      else
        if (decide (200 < (text.length : Int))) = true then
          lt (raft_fault 8 0) fun x3 =>
          some x3
        else
          if (decide ((x.Log.length : Int) = 100)) = true then
            lt (raft_fault 2 0) fun x4 =>
            some x4
          else
            some x1) fun (v : Fault) =>
  if (!decide (v.Code = 0)) = true then
    some (0, 0, 0, 0, ([] : List Entry), 0, 0, ([] : List Int), ([] : List Int), ([] : List Int), v)
  else
    ob (raft_own x) fun x5 =>
    asrt (((x5.2.2.2.2.1 ++ [(⟨x.Term, text⟩ : Entry)]).length : Int) * 24 ≤ 140737488351232) <|
    asrt (0 ≤ x5.2.1 ∧ x5.2.1 < (x5.2.2.2.2.2.2.2.2.2.length : Int)) <|
    asrt (0 ≤ x5.2.1 ∧ x5.2.1 < (x5.2.2.2.2.2.2.2.2.2.length : Int)) <|
    lt ((lset x5.2.2.2.2.2.2.2.2.2 x5.2.1 ((x5.2.2.2.2.1 ++ [(⟨x.Term, text⟩ : Entry)]).length : Int))) fun (v1 : List Int) =>
    asrt (0 ≤ x5.2.1 ∧ x5.2.1 < (x5.2.2.2.2.2.2.2.2.1.length : Int)) <|
    asrt (0 ≤ x5.2.1 ∧ x5.2.1 < (x5.2.2.2.2.2.2.2.2.1.length : Int)) <|
    lt ((lset x5.2.2.2.2.2.2.2.2.1 x5.2.1 (w64 (((x5.2.2.2.2.1 ++ [(⟨x.Term, text⟩ : Entry)]).length : Int) + 1)))) fun (v2 : List Int) =>
    ob (raft_count_v1 x5.1 x5.2.1 x5.2.2.1 x5.2.2.2.1 x5.2.2.2.2.2.1 x5.2.2.2.2.2.2.1 (x5.2.2.2.2.1 ++ [(⟨x.Term, text⟩ : Entry)]) x5.2.2.2.2.2.2.2.1 v2 v1) fun x6 =>
    some (x6.1, x6.2.1, x6.2.2.1, x6.2.2.2.1, (x5.2.2.2.2.1 ++ [(⟨x.Term, text⟩ : Entry)]), x6.2.2.2.2.1, x6.2.2.2.2.2, x5.2.2.2.2.2.2.2.1, v2, v1, v)
theorem raft_Propose_ok (x : Node) (text : List UInt8) (r : Int × Int × Int × Int × List Entry × Int × Int × List Int × List Int × List Int × Fault) (hF : raft_Propose x text = some r) : Pe Try.prog 32 ⟨[], [], [], [], []⟩ [.agg (c_Node x), .str text] (.tup [.agg [.i r.1, .i r.2.1, .i r.2.2.1, .i r.2.2.2.1, .row 36 0, .i r.2.2.2.2.2.1, .i r.2.2.2.2.2.2.1, .row 20036 0, .row 40036 0, .row 60036 0], .agg [.i r.2.2.2.2.2.2.2.2.2.2.Code, .i r.2.2.2.2.2.2.2.2.2.2.At]]) ⟨[], [], [(36, .o 31 2 0 (r.2.2.2.2.1.map e_Entry)), (20036, .o 3 1 0 (r.2.2.2.2.2.2.2.1.map e_i64)), (40036, .o 3 1 0 (r.2.2.2.2.2.2.2.2.1.map e_i64)), (60036, .o 3 1 0 (r.2.2.2.2.2.2.2.2.2.1.map e_i64))], [], []⟩ := by
  refine Pe_of (N := 85) (res := [.cell 4 46, .cell 5 26]) (ts := [46, 26]) Ty.ok Fn.b32 Try.func32 rfl rfl rfl rfl rfl rfl ?_
  intro Q g hfin
  unfold raft_Propose at hF
  refine URs [] [1, 2, 4, 5] [2, 4, 5] [] [] [(2, .ptr 2 0), (4, .ptr 4 0), (5, .ptr 5 0)] [(2, (c_Node x)), (4, [.i 0, .i 0, .i 0, .i 0, .nils, .i 0, .i 0, .nils, .nils, .nils]), (5, [.i 0, .i 0])] [] [] .nil ?_
  refine Wk_seq ?_
  obtain ⟨x1, h0, hF⟩ := ob_elim hF
  refine UR [.callB (.agg [.i x1.Code, .i x1.At])] [1, 2, 4, 5, 6] [2, 4, 5, 6] [] [] [(6, .ptr 6 0)] [(6, [.i x1.Code, .i x1.At])] [] [] (.cons (raft_Check_ok x x1 h0) .nil) ?_
  refine Wk_seq ?_
  refine Wk_block ?_
  refine ZRs [] [1, 2, 4, 5, 6, 10] [2, 4, 5, 6] [] [(10, .bool (!decide (x1.Code = 0)))] .nil ?_
  obtain ⟨v, hv, hF⟩ := ob_elim hF
  refine Wk_meet (⟨[(1, .str text), (2, .ptr 2 0), (4, .ptr 4 0), (5, .ptr 5 0), (6, .ptr 6 0)], [(2, (c_Node x)), (4, [.i 0, .i 0, .i 0, .i 0, .nils, .i 0, .i 0, .nils, .nils, .nils]), (5, [.i 0, .i 0]), (6, [.i v.Code, .i v.At])], [], [], []⟩ : S) ?_ ?_
  · have hF := hv
    refine Wk_split rfl (fun hb => ?_) (fun hb => ?_)
    · have hF := ite_t hF hb
      refine Wk_skip ?_
      exact Wk_met (fs := [1, 2, 4, 5, 6]) (bs := [2, 4, 5, 6]) (rs := []) (ms := []) (aa := []) (nv := []) (by first | (rw [← some_elim hF]; kernel_rfl) | kernel_rfl)
    · have hF := ite_f hF hb
      refine ZRs [] [1, 2, 4, 5, 6, 14] [2, 4, 5, 6] [] [(14, .bool (!decide (x.Role = 2)))] .nil ?_
      refine Wk_split rfl (fun hb => ?_) (fun hb => ?_)
      · have hF := ite_t hF hb
        obtain ⟨x2, h1, hF⟩ := lt_split hF
        refine UR [.callB (.agg [.i x2.Code, .i x2.At])] [1, 2, 4, 5, 6] [2, 4, 5, 6] [] [] [] [(6, [.i x2.Code, .i x2.At])] [] [] (.cons (raft_fault_ok 11 0 x2 h1) .nil) ?_
        exact Wk_met (fs := [1, 2, 4, 5, 6]) (bs := [2, 4, 5, 6]) (rs := []) (ms := []) (aa := []) (nv := []) (by first | (rw [← some_elim hF]; kernel_rfl) | kernel_rfl)
      · have hF := ite_f hF hb
        refine ZRs [] [1, 2, 4, 5, 6, 19] [2, 4, 5, 6] [] [(19, .bool (decide (200 < (text.length : Int))))] .nil ?_
        refine Wk_split rfl (fun hb => ?_) (fun hb => ?_)
        · have hF := ite_t hF hb
          obtain ⟨x3, h2, hF⟩ := lt_split hF
          refine UR [.callB (.agg [.i x3.Code, .i x3.At])] [1, 2, 4, 5, 6] [2, 4, 5, 6] [] [] [] [(6, [.i x3.Code, .i x3.At])] [] [] (.cons (raft_fault_ok 8 0 x3 h2) .nil) ?_
          exact Wk_met (fs := [1, 2, 4, 5, 6]) (bs := [2, 4, 5, 6]) (rs := []) (ms := []) (aa := []) (nv := []) (by first | (rw [← some_elim hF]; kernel_rfl) | kernel_rfl)
        · have hF := ite_f hF hb
          refine ZRs [.nat (x.Log.length : Int)] [1, 2, 4, 5, 6, 24] [2, 4, 5, 6] [] [(24, .bool (decide ((x.Log.length : Int) = 100)))] (.cons (len_ok e_Entry x.Log) .nil) ?_
          refine Wk_split rfl (fun hb => ?_) (fun hb => ?_)
          · have hF := ite_t hF hb
            obtain ⟨x4, h3, hF⟩ := lt_split hF
            refine UR [.callB (.agg [.i x4.Code, .i x4.At])] [1, 2, 4, 5, 6] [2, 4, 5, 6] [] [] [] [(6, [.i x4.Code, .i x4.At])] [] [] (.cons (raft_fault_ok 2 0 x4 h3) .nil) ?_
            exact Wk_met (fs := [1, 2, 4, 5, 6]) (bs := [2, 4, 5, 6]) (rs := []) (ms := []) (aa := []) (nv := []) (by first | (rw [← some_elim hF]; kernel_rfl) | kernel_rfl)
          · have hF := ite_f hF hb
            refine Wk_skip ?_
            exact Wk_met (fs := [1, 2, 4, 5, 6]) (bs := [2, 4, 5, 6]) (rs := []) (ms := []) (aa := []) (nv := []) (by first | (rw [← some_elim hF]; kernel_rfl) | kernel_rfl)
  · refine Wk_blk ?_
    refine Wk_seq ?_
    refine ZRs [] [1, 2, 4, 5, 6, 32] [2, 4, 5, 6] [] [(32, .bool (!decide (v.Code = 0)))] .nil ?_
    refine Wk_split rfl (fun hb => ?_) (fun hb => ?_)
    · have hF := ite_t hF hb
      refine UDs [] [4, 5] [4, 5] [] [] [] [(5, [.i v.Code, .i v.At])] [] [] .nil ?_
      have hF := some_elim hF
      refine Wk_nilrowB 4 4 60000 31 2 rfl rfl rfl rfl rfl ?_
      refine Wk_nilrowB 4 7 60001 3 1 rfl rfl rfl rfl rfl ?_
      refine Wk_nilrowB 4 8 60002 3 1 rfl rfl rfl rfl rfl ?_
      refine Wk_nilrowB 4 9 60003 3 1 rfl rfl rfl rfl rfl ?_
      refine Wk_ren' ⟨[], [(60000, 36), (60001, 20036), (60002, 40036), (60003, 60036)], [], []⟩ rfl ?_
      exact Wk_ret (hfin _ ⟨[36, 20036, 40036, 60036], [], [36, 20036, 40036, 60036], [], [], [(36, ⟨0, true, false, false⟩), (20036, ⟨0, true, false, false⟩), (40036, ⟨0, true, false, false⟩), (60036, ⟨0, true, false, false⟩)], by first | (rw [← hF]; kernel_rfl) | kernel_rfl⟩)
    · have hF := ite_f hF hb
      refine Wk_skip ?_
      refine Wk_seq ?_
      obtain ⟨x5, h4, hF⟩ := ob_elim hF
      refine UR [.callE [] [] [] [] (.ptr 36 0) ⟨[], [(36, [.i x5.1, .i x5.2.1, .i x5.2.2.1, .i x5.2.2.2.1, .row 36 0, .i x5.2.2.2.2.2.1, .i x5.2.2.2.2.2.2.1, .row 20036 0, .row 40036 0, .row 60036 0])], [(36, .o 31 2 0 (x5.2.2.2.2.1.map e_Entry)), (20036, .o 3 1 0 (x5.2.2.2.2.2.2.2.1.map e_i64)), (40036, .o 3 1 0 (x5.2.2.2.2.2.2.2.2.1.map e_i64)), (60036, .o 3 1 0 (x5.2.2.2.2.2.2.2.2.2.map e_i64))], [], []⟩] [1, 2, 4, 5, 6, 7] [2, 4, 5, 6, 36] [36, 20036, 40036, 60036] [] [(7, .ptr 36 0)] [(36, [.i x5.1, .i x5.2.1, .i x5.2.2.1, .i x5.2.2.2.1, .row 36 0, .i x5.2.2.2.2.2.1, .i x5.2.2.2.2.2.2.1, .row 20036 0, .row 40036 0, .row 60036 0])] [(36, .o 31 2 0 (x5.2.2.2.2.1.map e_Entry)), (20036, .o 3 1 0 (x5.2.2.2.2.2.2.2.1.map e_i64)), (40036, .o 3 1 0 (x5.2.2.2.2.2.2.2.2.1.map e_i64)), (60036, .o 3 1 0 (x5.2.2.2.2.2.2.2.2.2.map e_i64))] [] (.cons (Pe.ren (raft_own_ok x x5 h4) ⟨[(1, 36)], [(5, 36), (8, 20036), (11, 40036), (14, 60036)], [], []⟩) .nil) ?_
      refine Wk_seq ?_
      obtain ⟨h5, hF⟩ := asrt_elim hF
      refine UD [.sealed, .xs ((x5.2.2.2.2.1 ++ [(⟨x.Term, text⟩ : Entry)]).map e_Entry)] [4, 5, 6, 7] [4, 5, 6, 36] [36, 20036, 40036, 60036] [] [] [(36, [.i x5.1, .i x5.2.1, .i x5.2.2.1, .i x5.2.2.2.1, .row 36 1, .i x5.2.2.2.2.2.1, .i x5.2.2.2.2.2.2.1, .row 20036 0, .row 40036 0, .row 60036 0])] [(36, ⟨31, 2, 1, 0, 0, false, 0, [], ((x5.2.2.2.2.1 ++ [(⟨x.Term, text⟩ : Entry)]).map e_Entry)⟩)] [] (.cons (app_ok e_Entry x5.2.2.2.2.1 [(⟨x.Term, text⟩ : Entry)]) (.cons (appl_ok e_Entry h5) .nil)) ?_
      refine Wk_seq ?_
      obtain ⟨h6, hF⟩ := asrt_elim hF
      obtain ⟨h7, hF⟩ := asrt_elim hF
      refine WDL ((lset x5.2.2.2.2.2.2.2.2.2 x5.2.1 ((x5.2.2.2.2.1 ++ [(⟨x.Term, text⟩ : Entry)]).length : Int))) (fun v1 : List Int => ⟨[(4, .ptr 4 0), (5, .ptr 5 0), (6, .ptr 6 0), (7, .ptr 36 0)], [(4, [.i 0, .i 0, .i 0, .i 0, .nils, .i 0, .i 0, .nils, .nils, .nils]), (5, [.i 0, .i 0]), (6, [.i v.Code, .i v.At]), (36, [.i x5.1, .i x5.2.1, .i x5.2.2.1, .i x5.2.2.2.1, .row 36 1, .i x5.2.2.2.2.2.1, .i x5.2.2.2.2.2.2.1, .row 20036 0, .row 40036 0, .row 60036 0])], [(36, ⟨31, 2, 1, 0, 0, false, 0, [], ((x5.2.2.2.2.1 ++ [(⟨x.Term, text⟩ : Entry)]).map e_Entry)⟩), (20036, .o 3 1 0 (x5.2.2.2.2.2.2.2.1.map e_i64)), (40036, .o 3 1 0 (x5.2.2.2.2.2.2.2.2.1.map e_i64)), (60036, .o 3 1 0 (v1.map e_i64))], [], []⟩) [.nat ((x5.2.2.2.2.1 ++ [(⟨x.Term, text⟩ : Entry)]).length : Int), .av (e_i64 (lget x5.2.2.2.2.2.2.2.2.2 x5.2.1)), .xs ((lset x5.2.2.2.2.2.2.2.2.2 x5.2.1 ((x5.2.2.2.2.1 ++ [(⟨x.Term, text⟩ : Entry)]).length : Int)).map e_i64)] [4, 5, 6, 7] [4, 5, 6, 36] [36, 20036, 40036, 60036] [] [] [] (.cons (len_ok e_Entry (x5.2.2.2.2.1 ++ [(⟨x.Term, text⟩ : Entry)])) (.cons (ixr_ok e_i64 h6) (.cons (ldr_ok e_i64 h7) (.cons (set_ok e_i64 x5.2.2.2.2.2.2.2.2.2 x5.2.1 ((x5.2.2.2.2.1 ++ [(⟨x.Term, text⟩ : Entry)]).length : Int)) (.cons (Nat.zero_le x5.2.1.toNat) .nil))))) (by kernel_rfl) (fun v1 hv => ?_)
      have hF := lt_elim hF hv
      refine Wk_seq ?_
      obtain ⟨h8, hF⟩ := asrt_elim hF
      obtain ⟨h9, hF⟩ := asrt_elim hF
      refine WDL ((lset x5.2.2.2.2.2.2.2.2.1 x5.2.1 (w64 (((x5.2.2.2.2.1 ++ [(⟨x.Term, text⟩ : Entry)]).length : Int) + 1)))) (fun v2 : List Int => ⟨[(4, .ptr 4 0), (5, .ptr 5 0), (6, .ptr 6 0), (7, .ptr 36 0)], [(4, [.i 0, .i 0, .i 0, .i 0, .nils, .i 0, .i 0, .nils, .nils, .nils]), (5, [.i 0, .i 0]), (6, [.i v.Code, .i v.At]), (36, [.i x5.1, .i x5.2.1, .i x5.2.2.1, .i x5.2.2.2.1, .row 36 1, .i x5.2.2.2.2.2.1, .i x5.2.2.2.2.2.2.1, .row 20036 0, .row 40036 0, .row 60036 0])], [(36, ⟨31, 2, 1, 0, 0, false, 0, [], ((x5.2.2.2.2.1 ++ [(⟨x.Term, text⟩ : Entry)]).map e_Entry)⟩), (20036, .o 3 1 0 (x5.2.2.2.2.2.2.2.1.map e_i64)), (40036, .o 3 1 0 (v2.map e_i64)), (60036, .o 3 1 0 (v1.map e_i64))], [], []⟩) [.nat ((x5.2.2.2.2.1 ++ [(⟨x.Term, text⟩ : Entry)]).length : Int), .av (e_i64 (lget x5.2.2.2.2.2.2.2.2.1 x5.2.1)), .xs ((lset x5.2.2.2.2.2.2.2.2.1 x5.2.1 (w64 (((x5.2.2.2.2.1 ++ [(⟨x.Term, text⟩ : Entry)]).length : Int) + 1))).map e_i64)] [4, 5, 6, 7] [4, 5, 6, 36] [36, 20036, 40036, 60036] [] [] [] (.cons (len_ok e_Entry (x5.2.2.2.2.1 ++ [(⟨x.Term, text⟩ : Entry)])) (.cons (ixr_ok e_i64 h8) (.cons (ldr_ok e_i64 h9) (.cons (set_ok e_i64 x5.2.2.2.2.2.2.2.2.1 x5.2.1 (w64 (((x5.2.2.2.2.1 ++ [(⟨x.Term, text⟩ : Entry)]).length : Int) + 1))) (.cons (Nat.zero_le x5.2.1.toNat) .nil))))) (by kernel_rfl) (fun v2 hv => ?_)
      have hF := lt_elim hF hv
      refine Wk_seq ?_
      obtain ⟨x6, h10, hF⟩ := ob_elim hF
      refine UR [.callE [36] [36, 20036, 40036, 60036] [] [] (.tup []) ⟨[], [(36, [.i x6.1, .i x6.2.1, .i x6.2.2.1, .i x6.2.2.2.1, .row 36 1, .i x6.2.2.2.2.1, .i x6.2.2.2.2.2, .row 20036 0, .row 40036 0, .row 60036 0])], [(36, ⟨31, 2, 1, 0, 0, false, 0, [], ((x5.2.2.2.2.1 ++ [(⟨x.Term, text⟩ : Entry)]).map e_Entry)⟩), (20036, .o 3 1 0 (x5.2.2.2.2.2.2.2.1.map e_i64)), (40036, .o 3 1 0 (v2.map e_i64)), (60036, .o 3 1 0 (v1.map e_i64))], [], []⟩] [4, 5, 6, 7] [4, 5, 6, 36] [36, 20036, 40036, 60036] [] [] [(36, [.i x6.1, .i x6.2.1, .i x6.2.2.1, .i x6.2.2.2.1, .row 36 1, .i x6.2.2.2.2.1, .i x6.2.2.2.2.2, .row 20036 0, .row 40036 0, .row 60036 0])] [] [] (.cons (Pe.ren (raft_count_v1_ok x5.1 x5.2.1 x5.2.2.1 x5.2.2.2.1 x5.2.2.2.2.2.1 x5.2.2.2.2.2.2.1 (x5.2.2.2.2.1 ++ [(⟨x.Term, text⟩ : Entry)]) x5.2.2.2.2.2.2.2.1 v2 v1 0 0 false 0 0 false 0 0 false 0 0 false x6 h10) ⟨[(100000, 36)], [(100000, 36), (100001, 20036), (100002, 40036), (100003, 60036)], [], [(100000, 1)]⟩) .nil) ?_
      refine UDs [] [4, 5] [4, 5] [36, 20036, 40036, 60036] [] [] [(4, [.i x6.1, .i x6.2.1, .i x6.2.2.1, .i x6.2.2.2.1, .row 36 1, .i x6.2.2.2.2.1, .i x6.2.2.2.2.2, .row 20036 0, .row 40036 0, .row 60036 0]), (5, [.i v.Code, .i v.At])] [] [] .nil ?_
      have hF := some_elim hF
      exact Wk_ret (hfin _ ⟨[36, 20036, 40036, 60036], [], [36, 20036, 40036, 60036], [], [], [(36, ⟨0, true, true, false⟩)], by first | (rw [← hF]; kernel_rfl) | kernel_rfl⟩)

/- raft.beats$1 -/
noncomputable def raft_beats_1 (to0 : Int) (box : Node) : Option (Int × Int × Int × Int × Int × Int × Int × List Entry × Bool) :=
  asrt (0 ≤ to0 ∧ to0 < (box.Next.length : Int)) <|
  ob (entry_TermAt box.Log (w64 ((lget box.Next to0) - 1))) fun x =>
  asrt (0 ≤ w64 ((lget box.Next to0) - 1) ∧ w64 ((lget box.Next to0) - 1) ≤ (min (w64 ((w64 ((lget box.Next to0) - 1)) + 5)) (box.Log.length : Int)) ∧ (min (w64 ((w64 ((lget box.Next to0) - 1)) + 5)) (box.Log.length : Int)) ≤ (box.Log.length : Int)) <|
  ob (slices_Clone_api_Entry_api_Entry (ldrop (ltake box.Log (min (w64 ((w64 ((lget box.Next to0) - 1)) + 5)) (box.Log.length : Int))) (w64 ((lget box.Next to0) - 1)))) fun x1 =>
  some (3, 0, 0, 0, w64 ((lget box.Next to0) - 1), x, box.Commit, x1, false)
theorem raft_beats_1_ok (to0 : Int) (box : Node) (r : Int × Int × Int × Int × Int × Int × Int × List Entry × Bool) (hF : raft_beats_1 to0 box = some r) : Pe Try.prog 91 ⟨[], [(100000, [.ptr 100001 0]), (100001, (c_Node box))], [], [], []⟩ [.i to0, .ptr 100000 0] (.agg [.i r.1, .i r.2.1, .i r.2.2.1, .i r.2.2.2.1, .i r.2.2.2.2.1, .i r.2.2.2.2.2.1, .i r.2.2.2.2.2.2.1, .row 38 0, .bool r.2.2.2.2.2.2.2.2]) ⟨[], [(100000, [.ptr 100001 0]), (100001, (c_Node box))], [(38, .o 31 2 0 (r.2.2.2.2.2.2.2.1.map e_Entry))], [], []⟩ := by
  refine Pe_of (N := 40) (res := [.cell 3 62]) (ts := [62]) Ty.ok Fn.b91 Try.func91 rfl rfl rfl rfl rfl rfl ?_
  intro Q g hfin
  unfold raft_beats_1 at hF
  refine URs [] [0, 1, 3] [3, 100000, 100001] [] [] [(3, .ptr 3 0)] [(3, [.i 0, .i 0, .i 0, .i 0, .i 0, .i 0, .i 0, .nils, .bool false])] [] [] .nil ?_
  refine Wk_seq ?_
  obtain ⟨h0, hF⟩ := asrt_elim hF
  refine ZR [.av (e_i64 (lget box.Next to0))] [1, 3, 4] [3, 100000, 100001] [] [(4, .i (w64 ((lget box.Next to0) - 1)))] (.cons (idx_ok e_i64 h0) .nil) ?_
  refine Wk_seq ?_
  obtain ⟨x, h1, hF⟩ := ob_elim hF
  obtain ⟨h2, hF⟩ := asrt_elim hF
  obtain ⟨x1, h3, hF⟩ := ob_elim hF
  refine UD [.callB (.i x), .nat (box.Log.length : Int), .xs ((ldrop (ltake box.Log (min (w64 ((w64 ((lget box.Next to0) - 1)) + 5)) (box.Log.length : Int))) (w64 ((lget box.Next to0) - 1))).map e_Entry), .callE [] [] [] [] (.row 38 0) ⟨[], [], [(38, .o 31 2 0 (x1.map e_Entry))], [], []⟩] [3] [3, 100000, 100001] [38] [] [] [(3, [.i 3, .i 0, .i 0, .i 0, .i (w64 ((lget box.Next to0) - 1)), .i x, .i box.Commit, .row 38 0, .bool false])] [(38, .o 31 2 0 (x1.map e_Entry))] [] (.cons (entry_TermAt_ok box.Log (w64 ((lget box.Next to0) - 1)) x h1) (.cons (len_ok e_Entry box.Log) (.cons (sl11_ok e_Entry h2) (.cons (Pe.ren (slices_Clone_api_Entry_api_Entry_ok (ldrop (ltake box.Log (min (w64 ((w64 ((lget box.Next to0) - 1)) + 5)) (box.Log.length : Int))) (w64 ((lget box.Next to0) - 1))) x1 h3) ⟨[], [(5, 38)], [], []⟩) .nil)))) ?_
  have hF := some_elim hF
  exact Wk_ret (hfin _ ⟨[38], [100000, 100001], [38], [], [], [], by first | (rw [← hF]; kernel_rfl) | kernel_rfl⟩)

/- raft.others -/
noncomputable def raft_others_v1_J1 (v : List Mail) : Option (List Mail) :=
  some v
noncomputable def raft_others_v1_B1 (box : Node) (v1 : List Mail × Int) : Option ((List Mail × Int) ⊕ (List Mail)) :=
  if (decide (v1.2 < box.N)) = true then
    ob (
      if (!decide (v1.2 = box.ID)) = true then
        ob (raft_beats_1 v1.2 box) fun x =>
        asrt (((v1.1 ++ [(⟨x.1, box.ID, v1.2, box.Term, x.2.2.2.2.1, x.2.2.2.2.2.1, x.2.2.2.2.2.2.1, x.2.2.2.2.2.2.2.1, x.2.2.2.2.2.2.2.2⟩ : Mail)]).length : Int) * 88 ≤ 140737488351232) <|
        lt ((v1.1 ++ [(⟨x.1, box.ID, v1.2, box.Term, x.2.2.2.2.1, x.2.2.2.2.2.1, x.2.2.2.2.2.2.1, x.2.2.2.2.2.2.2.1, x.2.2.2.2.2.2.2.2⟩ : Mail)])) fun (v3 : List Mail) =>
        some v3
      else
        some v1.1) fun (v2 : List Mail) =>
    some (Sum.inl (v2, w64 (v1.2 + 1)))
  else
    inrO (raft_others_v1_J1 v1.1)
noncomputable def raft_others_v1_L1 (box : Node) (v0 : List Mail × Int) : Option (List Mail) :=
  loopO (fun y => raft_others_v1_B1 box y) v0
noncomputable def raft_others_v1 (box : Node) : Option (List Mail) :=
  raft_others_v1_L1 box (([] : List Mail), 0)
theorem raft_others_v1_ok (box : Node) (r : List Mail) (hF : raft_others_v1 box = some r) : Pe Try.prog 66 ⟨[], [(100000, (c_Node box)), (100001, [.ptr 100000 0])], [], [], []⟩ [.ptr 100000 0, .fn 91 [.ptr 100001 0]] (.row 39 0) ⟨[], [(100000, (c_Node box)), (100001, [.ptr 100000 0])], [(39, .z 62 9 0 (r.map e_Mail))], [], []⟩ := by
  refine Pe_of (N := 42) (res := [.tmp 4]) (ts := [50]) Ty.ok Fn.b66 Try.func66 rfl rfl rfl rfl rfl rfl ?_
  intro Q g hfin
  unfold raft_others_v1 at hF
  refine ZRs [] [0, 1] [100000, 100001] [] [] .nil ?_
  refine ZRs [] [0, 1, 5] [100000, 100001] [] [(5, .nils)] .nil ?_
  refine Wk_seq ?_
  refine ZRs [] [0, 1, 5, 11, 12] [100000, 100001] [] [(11, .i box.N), (12, .i 0)] .nil ?_
  refine Wk_meetP (fun v : List Mail => (⟨[(5, .row 39 0)], [(100000, (c_Node box)), (100001, [.ptr 100000 0])], [(39, .z 62 9 0 (v.map e_Mail))], [], []⟩ : S)) (fun v => raft_others_v1_J1 v = some r) ?_ ?_
  · refine Wk_block ?_
    unfold raft_others_v1_L1 at hF
    refine Wk_nilrow 5 60000 62 9 rfl rfl rfl ?_
    refine Wk_trim (fs := [0, 1, 5, 11, 12]) (bs := [100000, 100001]) (rs := [60000]) (ms := []) (aa := []) (nv := []) rfl ?_
    refine Wk_ren' ⟨[], [(60000, 39)], [], []⟩ rfl ?_
    refine Wk_trim (fs := [0, 1, 5, 11, 12]) (bs := [100000, 100001]) (rs := [39]) (ms := []) (aa := []) (nv := []) (t := (fun v1 : List Mail × Int => (⟨[(0, .ptr 100000 0), (1, .fn 91 [.ptr 100001 0]), (5, .row 39 0), (11, .i box.N), (12, .i v1.2)], [(100000, (c_Node box)), (100001, [.ptr 100000 0])], [(39, .z 62 9 0 (v1.1.map e_Mail))], [], []⟩ : S)) (([] : List Mail), 0)) (by kernel_rfl) ?_
    refine Wk_iter (step := fun y => raft_others_v1_B1 box y) (r := r) (fun v1 : List Mail × Int => (⟨[(0, .ptr 100000 0), (1, .fn 91 [.ptr 100001 0]), (5, .row 39 0), (11, .i box.N), (12, .i v1.2)], [(100000, (c_Node box)), (100001, [.ptr 100000 0])], [(39, .z 62 9 0 (v1.1.map e_Mail))], [], []⟩ : S)) (([] : List Mail), 0) hF ?_
    intro n1 v1 y1 hF ih1 dn1
    have hF : raft_others_v1_B1 box v1 = some y1 := hF
    unfold raft_others_v1_B1 at hF
    refine ZRs [] [0, 1, 5, 11, 12, 13] [100000, 100001] [39] [(13, .bool (decide (v1.2 < box.N)))] .nil ?_
    refine Wk_seq ?_
    refine Wk_split rfl (fun hb => ?_) (fun hb => ?_)
    · have hF := ite_t hF hb
      refine Wk_skip ?_
      refine Wk_seq ?_
      refine Wk_block ?_
      refine ZRs [] [0, 1, 5, 6, 11, 12] [100000, 100001] [39] [(6, .i v1.2)] .nil ?_
      refine ZRs [] [0, 1, 5, 6, 11, 12, 20] [100000, 100001] [39] [(20, .bool (!decide (v1.2 = box.ID)))] .nil ?_
      obtain ⟨v2, hv, hF⟩ := ob_elim hF
      refine Wk_meet (⟨[(0, .ptr 100000 0), (1, .fn 91 [.ptr 100001 0]), (5, .row 39 0), (11, .i box.N), (12, .i v1.2)], [(100000, (c_Node box)), (100001, [.ptr 100000 0])], [(39, .z 62 9 0 (v2.map e_Mail))], [], []⟩ : S) ?_ ?_
      · have hF := hv
        refine Wk_split rfl (fun hb => ?_) (fun hb => ?_)
        · have hF := ite_t hF hb
          refine Wk_seq ?_
          obtain ⟨x, h0, hF⟩ := ob_elim hF
          refine UR [.callE [100001, 100000] [] [] [] (.agg [.i x.1, .i x.2.1, .i x.2.2.1, .i x.2.2.2.1, .i x.2.2.2.2.1, .i x.2.2.2.2.2.1, .i x.2.2.2.2.2.2.1, .row 23 0, .bool x.2.2.2.2.2.2.2.2]) ⟨[], [(100001, [.ptr 100000 0]), (100000, (c_Node box))], [(23, .o 31 2 0 (x.2.2.2.2.2.2.2.1.map e_Entry))], [], []⟩] [0, 1, 5, 6, 7, 11, 12] [7, 100000, 100001] [23, 39] [] [(7, .ptr 7 0)] [(7, [.i x.1, .i x.2.1, .i x.2.2.1, .i x.2.2.2.1, .i x.2.2.2.2.1, .i x.2.2.2.2.2.1, .i x.2.2.2.2.2.2.1, .row 23 0, .bool x.2.2.2.2.2.2.2.2])] [(23, .o 31 2 0 (x.2.2.2.2.2.2.2.1.map e_Entry))] [] (.cons (Pe.ren (raft_beats_1_ok v1.2 box x h0) ⟨[(100000, 100001)], [(38, 23)], [], []⟩) .nil) ?_
          refine UDs [] [0, 1, 5, 7, 11, 12] [7, 100000, 100001] [23, 39] [] [] [(7, [.i x.1, .i box.ID, .i v1.2, .i box.Term, .i x.2.2.2.2.1, .i x.2.2.2.2.2.1, .i x.2.2.2.2.2.2.1, .row 23 0, .bool x.2.2.2.2.2.2.2.2])] [] [] .nil ?_
          obtain ⟨h1, hF⟩ := asrt_elim hF
          refine WRL ((v1.1 ++ [(⟨x.1, box.ID, v1.2, box.Term, x.2.2.2.2.1, x.2.2.2.2.2.1, x.2.2.2.2.2.2.1, x.2.2.2.2.2.2.2.1, x.2.2.2.2.2.2.2.2⟩ : Mail)])) (fun v3 : List Mail => ⟨[(0, .ptr 100000 0), (1, .fn 91 [.ptr 100001 0]), (5, .row 39 1), (11, .i box.N), (12, .i v1.2)], [(100000, (c_Node box)), (100001, [.ptr 100000 0])], [(39, .z 62 9 1 (v3.map e_Mail))], [], []⟩) [.sealed, .xs ((v1.1 ++ [(⟨x.1, box.ID, v1.2, box.Term, x.2.2.2.2.1, x.2.2.2.2.2.1, x.2.2.2.2.2.2.1, x.2.2.2.2.2.2.2.1, x.2.2.2.2.2.2.2.2⟩ : Mail)]).map e_Mail)] [0, 1, 5, 11, 12] [100000, 100001] [39] [] [] [] (.cons (app_ok e_Mail v1.1 [(⟨x.1, box.ID, v1.2, box.Term, x.2.2.2.2.1, x.2.2.2.2.2.1, x.2.2.2.2.2.2.1, x.2.2.2.2.2.2.2.1, x.2.2.2.2.2.2.2.2⟩ : Mail)]) (.cons (appl_ok e_Mail h1) .nil)) (by kernel_rfl) (fun v3 hv => ?_)
          have hF := lt_elim hF hv
          exact Wk_met (fs := [0, 1, 5, 11, 12]) (bs := [100000, 100001]) (rs := [39]) (ms := []) (aa := []) (nv := [(39, ⟨0, true, true, false⟩)]) (by first | (rw [← some_elim hF]; kernel_rfl) | kernel_rfl)
        · have hF := ite_f hF hb
          refine Wk_skip ?_
          exact Wk_met (fs := [0, 1, 5, 11, 12]) (bs := [100000, 100001]) (rs := [39]) (ms := []) (aa := []) (nv := []) (by first | (rw [← some_elim hF]; kernel_rfl) | kernel_rfl)
      · refine Wk_blk ?_
        refine ZR [] [0, 1, 5, 11, 12] [100000, 100001] [39] [(12, .i (w64 (v1.2 + 1)))] .nil ?_
        refine Wk_trim (fs := [0, 1, 5, 11, 12]) (bs := [100000, 100001]) (rs := [39]) (ms := []) (aa := []) (nv := []) ?_ (ih1 _ (some_elim hF).symm)
        kernel_rfl
    · have hF := ite_f hF hb
      refine Wk_exit rfl ?_
      have hF := inrO_done hF dn1
      exact Wk_metP v1.1 [5] [100000, 100001] [39] [] [] [] hF (by kernel_rfl)
  · intro v hF
    have hF : raft_others_v1_J1 v = some r := hF
    unfold raft_others_v1_J1 at hF
    refine ZRs [] [4] [100000, 100001] [39] [(4, .row 39 0)] .nil ?_
    have hF := some_elim hF
    exact Wk_ret (hfin _ ⟨[39], [100000, 100001], [39], [], [], [], by first | (rw [← hF]; kernel_rfl) | kernel_rfl⟩)

/- raft.beats -/
noncomputable def raft_beats (box : Node) : Option (List Mail) :=
  ob (raft_others_v1 box) fun x =>
  some x
theorem raft_beats_ok (box : Node) (r : List Mail) (hF : raft_beats box = some r) : Pe Try.prog 70 ⟨[], [(100000, (c_Node box))], [], [], []⟩ [.ptr 100000 0] (.row 5 0) ⟨[], [(100000, (c_Node box))], [(5, .z 62 9 0 (r.map e_Mail))], [], []⟩ := by
  refine Pe_of (N := 6) (res := [.tmp 2]) (ts := [50]) Ty.ok Fn.b70 Try.func70 rfl rfl rfl rfl rfl rfl ?_
  intro Q g hfin
  unfold raft_beats at hF
  refine URs [] [1] [1, 100000] [] [] [(1, .ptr 1 0)] [(1, [.ptr 100000 0])] [] [] .nil ?_
  refine Wk_seq ?_
  obtain ⟨x, h0, hF⟩ := ob_elim hF
  refine UR [.callE [100000, 1] [] [] [] (.row 5 0) ⟨[], [(100000, (c_Node box)), (1, [.ptr 100000 0])], [(5, .z 62 9 0 (x.map e_Mail))], [], []⟩] [2] [100000] [5] [] [(2, .row 5 0)] [] [(5, .z 62 9 0 (x.map e_Mail))] [] (.cons (Pe.ren (raft_others_v1_ok box x h0) ⟨[(100001, 1)], [(39, 5)], [], []⟩) .nil) ?_
  have hF := some_elim hF
  exact Wk_ret (hfin _ ⟨[5], [100000], [5], [], [], [], by first | (rw [← hF]; kernel_rfl) | kernel_rfl⟩)

/- raft.Beat -/
noncomputable def raft_Beat (x : Node) : Option (List Mail × Fault) :=
  ob (raft_Check x) fun x1 =>
  ob (
    if ((decide (x1.Code = 0)) && (!decide (x.Role = 2))) = true then
      lt (raft_fault 11 0) fun x2 =>
      some x2
    else
      some x1) fun (v : Fault) =>
  if (!decide (v.Code = 0)) = true then
    some (([] : List Mail), v)
  else
    ob (raft_beats x) fun x3 =>
    some (x3, v)
theorem raft_Beat_ok (x : Node) (r : List Mail × Fault) (hF : raft_Beat x = some r) : Pe Try.prog 33 ⟨[], [], [], [], []⟩ [.agg (c_Node x)] (.tup [.row 20 0, .agg [.i r.2.Code, .i r.2.At]]) ⟨[], [], [(20, .z 62 9 0 (r.1.map e_Mail))], [], []⟩ := by
  refine Pe_of (N := 22) (res := [.tmp 2, .cell 3 26]) (ts := [50, 26]) Ty.ok Fn.b33 Try.func33 rfl rfl rfl rfl rfl rfl ?_
  intro Q g hfin
  unfold raft_Beat at hF
  refine URs [] [1, 3] [1, 3] [] [] [(1, .ptr 1 0), (3, .ptr 3 0)] [(1, (c_Node x)), (3, [.i 0, .i 0])] [] [] .nil ?_
  refine Wk_seq ?_
  obtain ⟨x1, h0, hF⟩ := ob_elim hF
  refine UR [.callB (.agg [.i x1.Code, .i x1.At])] [1, 3, 4] [1, 3, 4] [] [] [(4, .ptr 4 0)] [(4, [.i x1.Code, .i x1.At])] [] [] (.cons (raft_Check_ok x x1 h0) .nil) ?_
  refine Wk_seq ?_
  refine ZRs [] [1, 3, 4, 14] [1, 3, 4] [] [(14, .bool ((decide (x1.Code = 0)) && (!decide (x.Role = 2))))] .nil ?_
  obtain ⟨v, hv, hF⟩ := ob_elim hF
  refine Wk_meet (⟨[(1, .ptr 1 0), (3, .ptr 3 0), (4, .ptr 4 0)], [(1, (c_Node x)), (3, [.i 0, .i 0]), (4, [.i v.Code, .i v.At])], [], [], []⟩ : S) ?_ ?_
  · have hF := hv
    refine Wk_split rfl (fun hb => ?_) (fun hb => ?_)
    · have hF := ite_t hF hb
      obtain ⟨x2, h1, hF⟩ := lt_split hF
      refine UR [.callB (.agg [.i x2.Code, .i x2.At])] [1, 3, 4] [1, 3, 4] [] [] [] [(4, [.i x2.Code, .i x2.At])] [] [] (.cons (raft_fault_ok 11 0 x2 h1) .nil) ?_
      exact Wk_met (fs := [1, 3, 4]) (bs := [1, 3, 4]) (rs := []) (ms := []) (aa := []) (nv := []) (by first | (rw [← some_elim hF]; kernel_rfl) | kernel_rfl)
    · have hF := ite_f hF hb
      refine Wk_skip ?_
      exact Wk_met (fs := [1, 3, 4]) (bs := [1, 3, 4]) (rs := []) (ms := []) (aa := []) (nv := []) (by first | (rw [← some_elim hF]; kernel_rfl) | kernel_rfl)
  · refine Wk_seq ?_
    refine ZRs [] [1, 3, 4, 18] [1, 3, 4] [] [(18, .bool (!decide (v.Code = 0)))] .nil ?_
    refine Wk_split rfl (fun hb => ?_) (fun hb => ?_)
    · have hF := ite_t hF hb
      refine UDs [] [2, 3] [3] [] [] [(2, .nils)] [(3, [.i v.Code, .i v.At])] [] [] .nil ?_
      have hF := some_elim hF
      refine Wk_nilrow 2 60000 62 9 rfl rfl rfl ?_
      refine Wk_ren' ⟨[], [(60000, 20)], [], []⟩ rfl ?_
      exact Wk_ret (hfin _ ⟨[20], [], [20], [], [], [], by first | (rw [← hF]; kernel_rfl) | kernel_rfl⟩)
    · have hF := ite_f hF hb
      refine Wk_skip ?_
      refine Wk_seq ?_
      obtain ⟨x3, h2, hF⟩ := ob_elim hF
      refine UD [.callE [1] [] [] [] (.row 20 0) ⟨[], [(1, (c_Node x))], [(20, .z 62 9 0 (x3.map e_Mail))], [], []⟩] [2, 3] [3] [20] [] [(2, .row 20 0)] [(3, [.i v.Code, .i v.At])] [(20, .z 62 9 0 (x3.map e_Mail))] [] (.cons (Pe.ren (raft_beats_ok x x3 h2) ⟨[(100000, 1)], [(5, 20)], [], []⟩) .nil) ?_
      have hF := some_elim hF
      exact Wk_ret (hfin _ ⟨[20], [], [20], [], [], [], by first | (rw [← hF]; kernel_rfl) | kernel_rfl⟩)

/- (*clan.game).does$2 -/
noncomputable def clan_game_does_2 (x : Node) : Option (Node × List Mail × Fault) :=
  ob (raft_Beat x) fun x1 =>
  some (x, x1.1, x1.2)
theorem clan_game_does_2_ok (x : Node) (r : Node × List Mail × Fault) (hF : clan_game_does_2 x = some r) : Pe Try.prog 97 ⟨[], [], [], [], []⟩ [.agg (c_Node x)] (.tup [.agg (c_Node r.1), .row 9 0, .agg [.i r.2.2.Code, .i r.2.2.At]]) ⟨[], [], [(9, .z 62 9 0 (r.2.1.map e_Mail))], [], []⟩ := by
  refine Pe_of (N := 15) (res := [.cell 2 46, .tmp 3, .cell 4 26]) (ts := [46, 50, 26]) Ty.ok Fn.b97 Try.func97 rfl rfl rfl rfl rfl rfl ?_
  intro Q g hfin
  unfold clan_game_does_2 at hF
  refine URs [] [1, 2, 4] [1, 2, 4] [] [] [(1, .ptr 1 0), (2, .ptr 2 0), (4, .ptr 4 0)] [(1, (c_Node x)), (2, [.i 0, .i 0, .i 0, .i 0, .nils, .i 0, .i 0, .nils, .nils, .nils]), (4, [.i 0, .i 0])] [] [] .nil ?_
  refine Wk_seq ?_
  obtain ⟨x1, h0, hF⟩ := ob_elim hF
  refine UR [.callE [] [] [] [] (.tup [.row 9 0, .agg [.i x1.2.Code, .i x1.2.At]]) ⟨[], [], [(9, .z 62 9 0 (x1.1.map e_Mail))], [], []⟩] [1, 2, 4, 5, 6] [1, 2, 4, 6] [9] [] [(5, .row 9 0), (6, .ptr 6 0)] [(6, [.i x1.2.Code, .i x1.2.At])] [(9, .z 62 9 0 (x1.1.map e_Mail))] [] (.cons (Pe.ren (raft_Beat_ok x x1 h0) ⟨[], [(20, 9)], [], []⟩) .nil) ?_
  refine UDs [] [2, 3, 4] [2, 4] [9] [] [(3, .row 9 0)] [(2, (c_Node x)), (4, [.i x1.2.Code, .i x1.2.At])] [] [] .nil ?_
  have hF := some_elim hF
  exact Wk_ret (hfin _ ⟨[9], [], [9], [], [], [], by first | (rw [← hF]; kernel_rfl) | kernel_rfl⟩)

/- raft.fine -/
noncomputable def raft_fine (m : Mail) (box : Node) : Option Bool :=
  lt (raft_within m.Kind 1 4) fun x =>
  lt (raft_within m.From 0 (w64 (box.N - 1))) fun x1 =>
  lt (raft_within m.Term 1 1000000000) fun x2 =>
  lt (raft_within m.A 0 1000000000) fun x3 =>
  lt (raft_within m.B 0 1000000000) fun x4 =>
  lt (raft_within m.C0 0 1000000000) fun x5 =>
  ob (if (((((((((x && (decide (m.To = box.ID))) && (!decide (m.From = box.ID))) && x1) && x2) && x3) && x4) && x5) && (decide ((m.Entries.length : Int) ≤ 5))) && ((decide ((m.Entries.length : Int) = 0)) || (decide (m.Kind = 3)))) = true then (entry_Check m.Entries) else some default) fun x6 =>
  ob (if ((((((((((x && (decide (m.To = box.ID))) && (!decide (m.From = box.ID))) && x1) && x2) && x3) && x4) && x5) && (decide ((m.Entries.length : Int) ≤ 5))) && ((decide ((m.Entries.length : Int) = 0)) || (decide (m.Kind = 3)))) && (decide (x6.Code = 0))) = true then (entry_TermAt m.Entries (m.Entries.length : Int)) else some default) fun x7 =>
  lt (((((((((((x && (decide (m.To = box.ID))) && (!decide (m.From = box.ID))) && x1) && x2) && x3) && x4) && x5) && (decide ((m.Entries.length : Int) ≤ 5))) && ((decide ((m.Entries.length : Int) = 0)) || (decide (m.Kind = 3)))) && (decide (x6.Code = 0))) && (decide (x7 ≤ m.Term))) fun (v : Bool) =>
  some v
theorem raft_fine_ok (m : Mail) (box : Node) (r : Bool) (hF : raft_fine m box = some r) : Pe Try.prog 78 ⟨[], [(100000, (c_Node box))], [], [], []⟩ [.ptr 100000 0, .agg (c_Mail m)] (.bool r) ⟨[], [(100000, (c_Node box))], [], [], []⟩ := by
  refine Pe_of (N := 89) (res := [.tmp 4]) (ts := [4]) Ty.ok Fn.b78 Try.func78 rfl rfl rfl rfl rfl rfl ?_
  intro Q g hfin
  unfold raft_fine at hF
  refine URs [] [0, 3] [3, 100000] [] [] [(3, .ptr 3 0)] [(3, (c_Mail m))] [] [] .nil ?_
  refine ZRs [.nat (m.Entries.length : Int)] [0, 3, 5] [3, 100000] [] [(5, .i (m.Entries.length : Int))] (.cons (len_ok e_Entry m.Entries) .nil) ?_
  refine Wk_seq ?_
  obtain ⟨x, h0, hF⟩ := lt_split hF
  obtain ⟨x1, h1, hF⟩ := lt_split hF
  obtain ⟨x2, h2, hF⟩ := lt_split hF
  obtain ⟨x3, h3, hF⟩ := lt_split hF
  obtain ⟨x4, h4, hF⟩ := lt_split hF
  obtain ⟨x5, h5, hF⟩ := lt_split hF
  obtain ⟨x6, h6, hF⟩ := ob_elim hF
  obtain ⟨x7, h7, hF⟩ := ob_elim hF
  refine WDL (((((((((((x && (decide (m.To = box.ID))) && (!decide (m.From = box.ID))) && x1) && x2) && x3) && x4) && x5) && (decide ((m.Entries.length : Int) ≤ 5))) && ((decide ((m.Entries.length : Int) = 0)) || (decide (m.Kind = 3)))) && (decide (x6.Code = 0))) && (decide (x7 ≤ m.Term))) (fun v : Bool => ⟨[(4, .bool v)], [(100000, (c_Node box))], [], [], []⟩) [.callB (.bool x), .callB (.bool x1), .callB (.bool x2), .callB (.bool x3), .callB (.bool x4), .callB (.bool x5), .callB (.agg [.i x6.Code, .i x6.At]), .callB (.i x7)] [4] [100000] [] [] [] [] (.cons (raft_within_ok m.Kind 1 4 x h0) (.cons (fun (ga0 : ((x && (decide (m.To = box.ID))) && (!decide (m.From = box.ID))) = true) => (raft_within_ok m.From 0 (w64 (box.N - 1)) x1 h1)) (.cons (fun (ga0 : (((x && (decide (m.To = box.ID))) && (!decide (m.From = box.ID))) && x1) = true) => (raft_within_ok m.Term 1 1000000000 x2 h2)) (.cons (fun (ga0 : ((((x && (decide (m.To = box.ID))) && (!decide (m.From = box.ID))) && x1) && x2) = true) => (raft_within_ok m.A 0 1000000000 x3 h3)) (.cons (fun (ga0 : (((((x && (decide (m.To = box.ID))) && (!decide (m.From = box.ID))) && x1) && x2) && x3) = true) => (raft_within_ok m.B 0 1000000000 x4 h4)) (.cons (fun (ga0 : ((((((x && (decide (m.To = box.ID))) && (!decide (m.From = box.ID))) && x1) && x2) && x3) && x4) = true) => (raft_within_ok m.C0 0 1000000000 x5 h5)) (.cons (fun (ga0 : (((((((((x && (decide (m.To = box.ID))) && (!decide (m.From = box.ID))) && x1) && x2) && x3) && x4) && x5) && (decide ((m.Entries.length : Int) ≤ 5))) && ((decide ((m.Entries.length : Int) = 0)) || (decide (m.Kind = 3)))) = true) => (entry_Check_ok m.Entries x6 (ite_t h6 ga0))) (.cons (fun (ga0 : ((((((((((x && (decide (m.To = box.ID))) && (!decide (m.From = box.ID))) && x1) && x2) && x3) && x4) && x5) && (decide ((m.Entries.length : Int) ≤ 5))) && ((decide ((m.Entries.length : Int) = 0)) || (decide (m.Kind = 3)))) && (decide (x6.Code = 0))) = true) => (entry_TermAt_ok m.Entries (m.Entries.length : Int) x7 (ite_t h7 ga0))) .nil)))))))) (by kernel_rfl) (fun v hv => ?_)
  have hF := lt_elim hF hv
  have hF := some_elim hF
  exact Wk_ret (hfin _ ⟨[], [100000], [], [], [], [], by first | (rw [← hF]; kernel_rfl) | kernel_rfl⟩)

/- raft.answer -/
noncomputable def raft_answer (m : Mail) (kind : Int) (ok : Bool) (a0 : Int) (box : Int) (box1 : Int) (box2 : Int) (box3 : Int) (box4 : Int) (box5 : Int) (row : List Entry) (row1 : List Int) (row2 : List Int) (row3 : List Int) : List Mail :=
  [(⟨kind, box1, m.From, box2, a0, 0, 0, ([] : List Entry), ok⟩ : Mail)]
theorem raft_answer_ok (m : Mail) (kind : Int) (ok : Bool) (a0 : Int) (box : Int) (box1 : Int) (box2 : Int) (box3 : Int) (box4 : Int) (box5 : Int) (row : List Entry) (row1 : List Int) (row2 : List Int) (row3 : List Int) (rk : Nat) (rc : Nat) (rn : Bool) (rk1 : Nat) (rc1 : Nat) (rn1 : Bool) (rk2 : Nat) (rc2 : Nat) (rn2 : Bool) (rk3 : Nat) (rc3 : Nat) (rn3 : Bool) (r : List Mail) (hF : raft_answer m kind ok a0 box box1 box2 box3 box4 box5 row row1 row2 row3 = r) : Pe Try.prog 92 ⟨[], [(100000, [.i box, .i box1, .i box2, .i box3, .row 100000 0, .i box4, .i box5, .row 100001 0, .row 100002 0, .row 100003 0])], [(100000, ⟨31, 2, 0, rk, rc, rn, 0, [], (row.map e_Entry)⟩), (100001, ⟨3, 1, 0, rk1, rc1, rn1, 0, [], (row1.map e_i64)⟩), (100002, ⟨3, 1, 0, rk2, rc2, rn2, 0, [], (row2.map e_i64)⟩), (100003, ⟨3, 1, 0, rk3, rc3, rn3, 0, [], (row3.map e_i64)⟩)], [], []⟩ [.ptr 100000 0, .agg (c_Mail m), .i kind, .bool ok, .i a0] (.sl 9 (r.map e_Mail)) ⟨[], [(100000, [.i box, .i box1, .i box2, .i box3, .row 100000 0, .i box4, .i box5, .row 100001 0, .row 100002 0, .row 100003 0])], [(100000, ⟨31, 2, 0, rk, rc, rn, 0, [], (row.map e_Entry)⟩), (100001, ⟨3, 1, 0, rk1, rc1, rn1, 0, [], (row1.map e_i64)⟩), (100002, ⟨3, 1, 0, rk2, rc2, rn2, 0, [], (row2.map e_i64)⟩), (100003, ⟨3, 1, 0, rk3, rc3, rn3, 0, [], (row3.map e_i64)⟩)], [], []⟩ := by
  refine Pe_of (N := 26) (res := [.tmp 10]) (ts := [50]) Ty.ok Fn.b92 Try.func92 rfl rfl rfl rfl rfl rfl ?_
  intro Q g hfin
  unfold raft_answer at hF
  refine URs [] [0, 2, 3, 4, 6] [6, 100000] [100000, 100001, 100002, 100003] [] [(6, .ptr 6 0)] [(6, (c_Mail m))] [] [] .nil ?_
  refine ZDs [.sealed] [10] [100000] [100000, 100001, 100002, 100003] [(10, .sl 9 ([(⟨kind, box1, m.From, box2, a0, 0, 0, ([] : List Entry), ok⟩ : Mail)].map e_Mail))] .nil ?_
  exact Wk_ret (hfin _ ⟨[100000, 100001, 100002, 100003], [100000], [100000, 100001, 100002, 100003], [], [], [], by first | (rw [← hF]; kernel_rfl) | kernel_rfl⟩)

/- raft.asked -/
noncomputable def raft_asked (m : Mail) (box : Int) (box1 : Int) (box2 : Int) (box3 : Int) (box4 : Int) (box5 : Int) (row : List Entry) (row1 : List Int) (row2 : List Int) (row3 : List Int) : Option (List Mail × Int × Int × Int × Int × Int × Int) :=
  ob (entry_TermAt row (row.length : Int)) fun x =>
  lt ((decide (m.B < x)) || ((decide (m.B = x)) && (decide (m.A < (row.length : Int))))) fun (v : Bool) =>
  lt (((decide (m.Term = box2)) && ((decide (box3 = 0)) || (decide (box3 = (w64 (m.From + 1)))))) && (!v)) fun (v1 : Bool) =>
  ob (
    if v1 = true then
      some (w64 (m.From + 1))
    else
      some box3) fun (v2 : Int) =>
  lt (raft_answer m 2 v1 0 box box1 box2 v2 box4 box5 row row1 row2 row3) fun x1 =>
  some (x1, box, box1, box2, v2, box4, box5)
theorem raft_asked_ok (m : Mail) (box : Int) (box1 : Int) (box2 : Int) (box3 : Int) (box4 : Int) (box5 : Int) (row : List Entry) (row1 : List Int) (row2 : List Int) (row3 : List Int) (rk : Nat) (rc : Nat) (rn : Bool) (rk1 : Nat) (rc1 : Nat) (rn1 : Bool) (rk2 : Nat) (rc2 : Nat) (rn2 : Bool) (rk3 : Nat) (rc3 : Nat) (rn3 : Bool) (r : List Mail × Int × Int × Int × Int × Int × Int) (hF : raft_asked m box box1 box2 box3 box4 box5 row row1 row2 row3 = some r) : Pe Try.prog 79 ⟨[], [(100000, [.i box, .i box1, .i box2, .i box3, .row 100000 0, .i box4, .i box5, .row 100001 0, .row 100002 0, .row 100003 0])], [(100000, ⟨31, 2, 0, rk, rc, rn, 0, [], (row.map e_Entry)⟩), (100001, ⟨3, 1, 0, rk1, rc1, rn1, 0, [], (row1.map e_i64)⟩), (100002, ⟨3, 1, 0, rk2, rc2, rn2, 0, [], (row2.map e_i64)⟩), (100003, ⟨3, 1, 0, rk3, rc3, rn3, 0, [], (row3.map e_i64)⟩)], [], []⟩ [.ptr 100000 0, .agg (c_Mail m)] (.sl 9 (r.1.map e_Mail)) ⟨[], [(100000, [.i r.2.1, .i r.2.2.1, .i r.2.2.2.1, .i r.2.2.2.2.1, .row 100000 0, .i r.2.2.2.2.2.1, .i r.2.2.2.2.2.2, .row 100001 0, .row 100002 0, .row 100003 0])], [(100000, ⟨31, 2, 0, rk, rc, rn, 0, [], (row.map e_Entry)⟩), (100001, ⟨3, 1, 0, rk1, rc1, rn1, 0, [], (row1.map e_i64)⟩), (100002, ⟨3, 1, 0, rk2, rc2, rn2, 0, [], (row2.map e_i64)⟩), (100003, ⟨3, 1, 0, rk3, rc3, rn3, 0, [], (row3.map e_i64)⟩)], [], []⟩ := by
  refine Pe_of (N := 77) (res := [.tmp 4]) (ts := [50]) Ty.ok Fn.b79 Try.func79 rfl rfl rfl rfl rfl rfl ?_
  intro Q g hfin
  unfold raft_asked at hF
  refine URs [] [0, 3] [3, 100000] [100000, 100001, 100002, 100003] [] [(3, .ptr 3 0)] [(3, (c_Mail m))] [] [] .nil ?_
  refine Wk_seq ?_
  obtain ⟨x, h0, hF⟩ := ob_elim hF
  refine ZD [.nat (row.length : Int), .callB (.i x)] [0, 3, 5] [3, 100000] [100000, 100001, 100002, 100003] [(5, .i x)] (.cons (len_ok e_Entry row) (.cons (entry_TermAt_ok row (row.length : Int) x h0) .nil)) ?_
  refine Wk_seq ?_
  refine WDL ((decide (m.B < x)) || ((decide (m.B = x)) && (decide (m.A < (row.length : Int))))) (fun v : Bool => ⟨[(0, .ptr 100000 0), (3, .ptr 3 0), (6, .bool v)], [(3, (c_Mail m)), (100000, [.i box, .i box1, .i box2, .i box3, .row 100000 0, .i box4, .i box5, .row 100001 0, .row 100002 0, .row 100003 0])], [(100000, ⟨31, 2, 0, rk, rc, rn, 0, [], (row.map e_Entry)⟩), (100001, ⟨3, 1, 0, rk1, rc1, rn1, 0, [], (row1.map e_i64)⟩), (100002, ⟨3, 1, 0, rk2, rc2, rn2, 0, [], (row2.map e_i64)⟩), (100003, ⟨3, 1, 0, rk3, rc3, rn3, 0, [], (row3.map e_i64)⟩)], [], []⟩) [.nat (row.length : Int)] [0, 3, 6] [3, 100000] [100000, 100001, 100002, 100003] [] [] [] (.cons (fun (_ : (decide (m.B = x)) = true) (_ : (!(decide (m.B < x))) = true) => (len_ok e_Entry row)) .nil) (by kernel_rfl) (fun v hv => ?_)
  have hF := lt_elim hF hv
  refine Wk_seq ?_
  refine WDL (((decide (m.Term = box2)) && ((decide (box3 = 0)) || (decide (box3 = (w64 (m.From + 1)))))) && (!v)) (fun v1 : Bool => ⟨[(0, .ptr 100000 0), (3, .ptr 3 0), (7, .bool v1)], [(3, (c_Mail m)), (100000, [.i box, .i box1, .i box2, .i box3, .row 100000 0, .i box4, .i box5, .row 100001 0, .row 100002 0, .row 100003 0])], [(100000, ⟨31, 2, 0, rk, rc, rn, 0, [], (row.map e_Entry)⟩), (100001, ⟨3, 1, 0, rk1, rc1, rn1, 0, [], (row1.map e_i64)⟩), (100002, ⟨3, 1, 0, rk2, rc2, rn2, 0, [], (row2.map e_i64)⟩), (100003, ⟨3, 1, 0, rk3, rc3, rn3, 0, [], (row3.map e_i64)⟩)], [], []⟩) [] [0, 3, 7] [3, 100000] [100000, 100001, 100002, 100003] [] [] [] .nil (by kernel_rfl) (fun v1 hv => ?_)
  have hF := lt_elim hF hv
  refine Wk_seq ?_
  refine ZRs [] [0, 3, 7, 66] [3, 100000] [100000, 100001, 100002, 100003] [(66, .bool v1)] .nil ?_
  obtain ⟨v2, hv, hF⟩ := ob_elim hF
  refine Wk_meet (⟨[(0, .ptr 100000 0), (3, .ptr 3 0), (7, .bool v1)], [(3, (c_Mail m)), (100000, [.i box, .i box1, .i box2, .i v2, .row 100000 0, .i box4, .i box5, .row 100001 0, .row 100002 0, .row 100003 0])], [(100000, ⟨31, 2, 0, rk, rc, rn, 0, [], (row.map e_Entry)⟩), (100001, ⟨3, 1, 0, rk1, rc1, rn1, 0, [], (row1.map e_i64)⟩), (100002, ⟨3, 1, 0, rk2, rc2, rn2, 0, [], (row2.map e_i64)⟩), (100003, ⟨3, 1, 0, rk3, rc3, rn3, 0, [], (row3.map e_i64)⟩)], [], []⟩ : S) ?_ ?_
  · have hF := hv
    refine Wk_split rfl (fun hb => ?_) (fun hb => ?_)
    · have hF := ite_t hF hb
      refine UR [] [0, 3, 7] [3, 100000] [100000, 100001, 100002, 100003] [] [] [(100000, [.i box, .i box1, .i box2, .i (w64 (m.From + 1)), .row 100000 0, .i box4, .i box5, .row 100001 0, .row 100002 0, .row 100003 0])] [] [] .nil ?_
      exact Wk_met (fs := [0, 3, 7]) (bs := [3, 100000]) (rs := [100000, 100001, 100002, 100003]) (ms := []) (aa := []) (nv := []) (by first | (rw [← some_elim hF]; kernel_rfl) | kernel_rfl)
    · have hF := ite_f hF hb
      refine Wk_skip ?_
      exact Wk_met (fs := [0, 3, 7]) (bs := [3, 100000]) (rs := [100000, 100001, 100002, 100003]) (ms := []) (aa := []) (nv := []) (by first | (rw [← some_elim hF]; kernel_rfl) | kernel_rfl)
  · refine Wk_seq ?_
    obtain ⟨x1, h1, hF⟩ := lt_split hF
    refine ZR [.callR [100000] [100000, 100001, 100002, 100003] [] [] (.sl 9 (x1.map e_Mail))] [4] [100000] [100000, 100001, 100002, 100003] [(4, .sl 9 (x1.map e_Mail))] (.cons (Pe.ren (raft_answer_ok m 2 v1 0 box box1 box2 v2 box4 box5 row row1 row2 row3 rk rc rn rk1 rc1 rn1 rk2 rc2 rn2 rk3 rc3 rn3 x1 h1) ⟨[], [], [], []⟩) .nil) ?_
    have hF := some_elim hF
    exact Wk_ret (hfin _ ⟨[100000, 100001, 100002, 100003], [100000], [100000, 100001, 100002, 100003], [], [], [], by first | (rw [← hF]; kernel_rfl) | kernel_rfl⟩)

/- slices.Index[[]int,int] -/
noncomputable def slices_Index_int_int_J1 (v1 : Unit) : Option Int :=
  some (-1)
noncomputable def slices_Index_int_int_B1 (s0 : List Int) (v : Int) (v2 : Int) : Option (Int ⊕ Int) :=
  if (decide (v2 < (s0.length : Int))) = true then
    asrt (0 ≤ v2 ∧ v2 < (s0.length : Int)) <|
    if (decide (v = (lget s0 v2))) = true then
      some (Sum.inr v2)
    else
      some (Sum.inl (w64 (v2 + 1)))
  else
    inrO (slices_Index_int_int_J1 ())
noncomputable def slices_Index_int_int_L1 (s0 : List Int) (v : Int) (v0 : Int) : Option Int :=
  loopO (fun y => slices_Index_int_int_B1 s0 v y) v0
noncomputable def slices_Index_int_int (s0 : List Int) (v : Int) : Option Int :=
  slices_Index_int_int_L1 s0 v 0
theorem slices_Index_int_int_ok (s0 : List Int) (v : Int) (r : Int) (hF : slices_Index_int_int s0 v = some r) : Pe Try.prog 103 S.none [.sl 1 (s0.map e_i64), .i v] (.i r) S.none := by
  refine Pe_of (N := 19) (res := [.tmp 4]) (ts := [3]) Ty.ok Fn.b103 Try.func103 rfl rfl rfl rfl rfl rfl ?_
  intro Q g hfin
  unfold slices_Index_int_int at hF
  refine ZRs [] [0, 1] [] [] [] .nil ?_
  refine Wk_seq ?_
  refine ZRs [.nat (s0.length : Int)] [0, 1, 7, 8] [] [] [(7, .i (s0.length : Int)), (8, .i 0)] (.cons (len_ok e_i64 s0) .nil) ?_
  refine Wk_meetP (fun v1 : Unit => (⟨[], [], [], [], []⟩ : S)) (fun v1 => slices_Index_int_int_J1 v1 = some r) ?_ ?_
  · refine Wk_block ?_
    unfold slices_Index_int_int_L1 at hF
    refine Wk_trim (fs := [0, 1, 7, 8]) (bs := []) (rs := []) (ms := []) (aa := []) (nv := []) (t := (fun v2 : Int => (⟨[(0, .sl 1 (s0.map e_i64)), (1, .i v), (7, .i (s0.length : Int)), (8, .i v2)], [], [], [], []⟩ : S)) 0) (by kernel_rfl) ?_
    refine Wk_iter (step := fun y => slices_Index_int_int_B1 s0 v y) (r := r) (fun v2 : Int => (⟨[(0, .sl 1 (s0.map e_i64)), (1, .i v), (7, .i (s0.length : Int)), (8, .i v2)], [], [], [], []⟩ : S)) 0 hF ?_
    intro n1 v2 y1 hF ih1 dn1
    have hF : slices_Index_int_int_B1 s0 v v2 = some y1 := hF
    unfold slices_Index_int_int_B1 at hF
    refine ZRs [] [0, 1, 7, 8, 9] [] [] [(9, .bool (decide (v2 < (s0.length : Int))))] .nil ?_
    refine Wk_seq ?_
    refine Wk_split rfl (fun hb => ?_) (fun hb => ?_)
    · have hF := ite_t hF hb
      refine Wk_skip ?_
      refine Wk_seq ?_
      refine Wk_block ?_
      refine ZRs [] [0, 1, 5, 7, 8] [] [] [(5, .i v2)] .nil ?_
      refine Wk_seq ?_
      obtain ⟨h0, hF⟩ := asrt_elim hF
      refine ZR [.av (e_i64 (lget s0 v2))] [0, 1, 5, 7, 8, 16] [] [] [(16, .bool (decide (v = (lget s0 v2))))] (.cons (idx_ok e_i64 h0) .nil) ?_
      refine Wk_split rfl (fun hb => ?_) (fun hb => ?_)
      · have hF := ite_t hF hb
        refine ZRs [] [4] [] [] [(4, .i v2)] .nil ?_
        have hF := ret_done hF dn1
        have hF := some_elim hF
        exact Wk_ret (hfin _ ⟨[], [], [], [], [], [], by first | (rw [← hF]; kernel_rfl) | kernel_rfl⟩)
      · have hF := ite_f hF hb
        refine Wk_skip ?_
        refine Wk_blk ?_
        refine ZR [] [0, 1, 7, 8] [] [] [(8, .i (w64 (v2 + 1)))] .nil ?_
        refine Wk_trim (fs := [0, 1, 7, 8]) (bs := []) (rs := []) (ms := []) (aa := []) (nv := []) ?_ (ih1 _ (some_elim hF).symm)
        kernel_rfl
    · have hF := ite_f hF hb
      refine Wk_exit rfl ?_
      have hF := inrO_done hF dn1
      exact Wk_metP () [] [] [] [] [] [] hF (by kernel_rfl)
  · intro v1 hF
    have hF : slices_Index_int_int_J1 v1 = some r := hF
    unfold slices_Index_int_int_J1 at hF
    refine ZRs [] [4] [] [] [(4, .i (-1))] .nil ?_
    have hF := some_elim hF
    exact Wk_ret (hfin _ ⟨[], [], [], [], [], [], by first | (rw [← hF]; kernel_rfl) | kernel_rfl⟩)

/- slices.Contains[[]int,int] -/
noncomputable def slices_Contains_int_int (s0 : List Int) (v : Int) : Option Bool :=
  ob (slices_Index_int_int s0 v) fun x =>
  some (decide (0 ≤ x))
theorem slices_Contains_int_int_ok (s0 : List Int) (v : Int) (r : Bool) (hF : slices_Contains_int_int s0 v = some r) : Pe Try.prog 93 S.none [.sl 1 (s0.map e_i64), .i v] (.bool r) S.none := by
  refine Pe_of (N := 9) (res := [.tmp 4]) (ts := [4]) Ty.ok Fn.b93 Try.func93 rfl rfl rfl rfl rfl rfl ?_
  intro Q g hfin
  unfold slices_Contains_int_int at hF
  refine ZRs [] [0, 1] [] [] [] .nil ?_
  refine Wk_seq ?_
  obtain ⟨x, h0, hF⟩ := ob_elim hF
  refine ZR [.callB (.i x)] [4] [] [] [(4, .bool (decide (0 ≤ x)))] (.cons (slices_Index_int_int_ok s0 v x h0) .nil) ?_
  have hF := some_elim hF
  exact Wk_ret (hfin _ ⟨[], [], [], [], [], [], by first | (rw [← hF]; kernel_rfl) | kernel_rfl⟩)

/- raft.lead -/
noncomputable def raft_lead_v1_J1 (row : List Entry) (x : Int × Int × Int × Int × Int × Int) (v : List Int) : Option (Int × Int × Int × Int × Int × Int × List Int × List Int) :=
  asrt (0 ≤ x.2.1 ∧ x.2.1 < ((List.replicate x.1.toNat (0 : Int)).length : Int)) <|
  asrt (0 ≤ x.2.1 ∧ x.2.1 < ((List.replicate x.1.toNat (0 : Int)).length : Int)) <|
  ob (raft_count x.1 x.2.1 x.2.2.1 x.2.2.2.1 2 x.2.2.2.2.2 row v (lset (List.replicate x.1.toNat (0 : Int)) x.2.1 (row.length : Int))) fun x1 =>
  some (x1.1, x1.2.1, x1.2.2.1, x1.2.2.2.1, x1.2.2.2.2.1, x1.2.2.2.2.2, v, (lset (List.replicate x.1.toNat (0 : Int)) x.2.1 (row.length : Int)))
noncomputable def raft_lead_v1_B1 (row : List Entry) (x : Int × Int × Int × Int × Int × Int) (v1 : List Int × Int) : Option ((List Int × Int) ⊕ (Int × Int × Int × Int × Int × Int × List Int × List Int)) :=
  if (decide (v1.2 < ((List.replicate x.1.toNat (0 : Int)).length : Int))) = true then
    asrt (0 ≤ v1.2 ∧ v1.2 < (v1.1.length : Int)) <|
    asrt (0 ≤ v1.2 ∧ v1.2 < (v1.1.length : Int)) <|
    some (Sum.inl ((lset v1.1 v1.2 (w64 ((row.length : Int) + 1))), w64 (v1.2 + 1)))
  else
    inrO (raft_lead_v1_J1 row x v1.1)
noncomputable def raft_lead_v1_L1 (row : List Entry) (x : Int × Int × Int × Int × Int × Int) (v0 : List Int × Int) : Option (Int × Int × Int × Int × Int × Int × List Int × List Int) :=
  loopO (fun y => raft_lead_v1_B1 row x y) v0
noncomputable def raft_lead_v1 (box : Int) (box1 : Int) (box2 : Int) (box3 : Int) (box4 : Int) (box5 : Int) (row : List Entry) (row1 : List Int) (row2 : List Int) (row3 : List Int) : Option (Int × Int × Int × Int × Int × Int × List Int × List Int) :=
  lt (raft_follow box box1 box2 box3 box4 box5 row row1 row2 row3) fun x =>
  asrt (0 ≤ (x.1 : Int) ∧ x.1 ≤ x.1 ∧ x.1 * 8 ≤ 140737488351232) <|
  asrt (0 ≤ (x.1 : Int) ∧ x.1 ≤ x.1 ∧ x.1 * 8 ≤ 140737488351232) <|
  raft_lead_v1_L1 row x ((List.replicate x.1.toNat (0 : Int)), 0)
theorem raft_lead_v1_ok (box : Int) (box1 : Int) (box2 : Int) (box3 : Int) (box4 : Int) (box5 : Int) (row : List Entry) (row1 : List Int) (row2 : List Int) (row3 : List Int) (rk : Nat) (rc : Nat) (rn : Bool) (rk1 : Nat) (rc1 : Nat) (rn1 : Bool) (rk2 : Nat) (rc2 : Nat) (rn2 : Bool) (rk3 : Nat) (rc3 : Nat) (rn3 : Bool) (r : Int × Int × Int × Int × Int × Int × List Int × List Int) (hF : raft_lead_v1 box box1 box2 box3 box4 box5 row row1 row2 row3 = some r) : Pe Try.prog 68 ⟨[], [(100000, [.i box, .i box1, .i box2, .i box3, .row 100000 0, .i box4, .i box5, .row 100001 0, .row 100002 0, .row 100003 0])], [(100000, ⟨31, 2, 0, rk, rc, rn, 0, [], (row.map e_Entry)⟩), (100001, ⟨3, 1, 0, rk1, rc1, rn1, 0, [], (row1.map e_i64)⟩), (100002, ⟨3, 1, 0, rk2, rc2, rn2, 0, [], (row2.map e_i64)⟩), (100003, ⟨3, 1, 0, rk3, rc3, rn3, 0, [], (row3.map e_i64)⟩)], [], []⟩ [.ptr 100000 0] (.tup []) ⟨[], [(100000, [.i r.1, .i r.2.1, .i r.2.2.1, .i r.2.2.2.1, .row 100000 0, .i r.2.2.2.2.1, .i r.2.2.2.2.2.1, .nils, .row 18 0, .row 23 0])], [(100000, ⟨31, 2, 0, rk, rc, rn, 0, [], (row.map e_Entry)⟩), (100001, ⟨3, 1, 0, rk1, rc1, rn1, 0, [], (row1.map e_i64)⟩), (100002, ⟨3, 1, 0, rk2, rc2, rn2, 0, [], (row2.map e_i64)⟩), (100003, ⟨3, 1, 0, rk3, rc3, rn3, 0, [], (row3.map e_i64)⟩), (18, .o 3 1 0 (r.2.2.2.2.2.2.1.map e_i64)), (23, .o 3 1 0 (r.2.2.2.2.2.2.2.map e_i64))], [], []⟩ := by
  refine Pe_of (N := 59) (res := []) (ts := []) Ty.ok Fn.b68 Try.func68 rfl rfl rfl rfl rfl rfl ?_
  intro Q g hfin
  unfold raft_lead_v1 at hF
  refine ZRs [.nat (row.length : Int)] [0, 2] [100000] [100000, 100001, 100002, 100003] [(2, .i (row.length : Int))] (.cons (len_ok e_Entry row) .nil) ?_
  refine Wk_seq ?_
  obtain ⟨x, h0, hF⟩ := lt_split hF
  refine UR [.callE [100000] [100000, 100001, 100002, 100003] [] [] (.tup []) ⟨[], [(100000, [.i x.1, .i x.2.1, .i x.2.2.1, .i x.2.2.2.1, .row 100000 0, .i x.2.2.2.2.1, .i x.2.2.2.2.2, .nils, .nils, .nils])], [(100000, ⟨31, 2, 0, rk, rc, rn, 0, [], (row.map e_Entry)⟩), (100001, ⟨3, 1, 0, rk1, rc1, rn1, 0, [], (row1.map e_i64)⟩), (100002, ⟨3, 1, 0, rk2, rc2, rn2, 0, [], (row2.map e_i64)⟩), (100003, ⟨3, 1, 0, rk3, rc3, rn3, 0, [], (row3.map e_i64)⟩)], [], []⟩] [0, 2] [100000] [100000, 100001, 100002, 100003] [] [] [(100000, [.i x.1, .i x.2.1, .i x.2.2.1, .i x.2.2.2.1, .row 100000 0, .i x.2.2.2.2.1, .i x.2.2.2.2.2, .nils, .nils, .nils])] [] [] (.cons (Pe.ren (raft_follow_ok box box1 box2 box3 box4 box5 row row1 row2 row3 rk rc rn rk1 rc1 rn1 rk2 rc2 rn2 rk3 rc3 rn3 x h0) ⟨[], [], [], []⟩) .nil) ?_
  refine Wk_seq ?_
  obtain ⟨h1, hF⟩ := asrt_elim hF
  obtain ⟨h2, hF⟩ := asrt_elim hF
  refine UD [.xs ((List.replicate x.1.toNat (0 : Int)).map e_i64), .xs ((List.replicate x.1.toNat (0 : Int)).map e_i64)] [0, 2] [100000] [18, 23, 100000, 100001, 100002, 100003] [] [] [(100000, [.i x.1, .i x.2.1, .i x.2.2.1, .i x.2.2.2.1, .row 100000 0, .i 2, .i x.2.2.2.2.2, .nils, .row 18 0, .row 23 0])] [(18, .o 3 1 0 ((List.replicate x.1.toNat (0 : Int)).map e_i64)), (23, .o 3 1 0 ((List.replicate x.1.toNat (0 : Int)).map e_i64))] [] (.cons (mk_ok h1) (.cons (rep_ok e_i64 (x.1) (0 : Int)) (.cons (mk_ok h2) (.cons (rep_ok e_i64 (x.1) (0 : Int)) .nil)))) ?_
  refine Wk_seq ?_
  refine ZRs [.nat ((List.replicate x.1.toNat (0 : Int)).length : Int)] [0, 2, 34, 35] [100000] [18, 23, 100000, 100001, 100002, 100003] [(34, .i ((List.replicate x.1.toNat (0 : Int)).length : Int)), (35, .i 0)] (.cons (len_ok e_i64 (List.replicate x.1.toNat (0 : Int))) .nil) ?_
  refine Wk_meetP (fun v : List Int => (⟨[(0, .ptr 100000 0), (2, .i (row.length : Int))], [(100000, [.i x.1, .i x.2.1, .i x.2.2.1, .i x.2.2.2.1, .row 100000 0, .i 2, .i x.2.2.2.2.2, .nils, .row 18 0, .row 23 0])], [(18, .o 3 1 0 (v.map e_i64)), (23, .o 3 1 0 ((List.replicate x.1.toNat (0 : Int)).map e_i64)), (100000, ⟨31, 2, 0, rk, rc, rn, 0, [], (row.map e_Entry)⟩), (100001, ⟨3, 1, 0, rk1, rc1, rn1, 0, [], (row1.map e_i64)⟩), (100002, ⟨3, 1, 0, rk2, rc2, rn2, 0, [], (row2.map e_i64)⟩), (100003, ⟨3, 1, 0, rk3, rc3, rn3, 0, [], (row3.map e_i64)⟩)], [], []⟩ : S)) (fun v => raft_lead_v1_J1 row x v = some r) ?_ ?_
  · refine Wk_block ?_
    unfold raft_lead_v1_L1 at hF
    refine Wk_trim (fs := [0, 2, 34, 35]) (bs := [100000]) (rs := [18, 23, 100000, 100001, 100002, 100003]) (ms := []) (aa := []) (nv := []) (t := (fun v1 : List Int × Int => (⟨[(0, .ptr 100000 0), (2, .i (row.length : Int)), (34, .i ((List.replicate x.1.toNat (0 : Int)).length : Int)), (35, .i v1.2)], [(100000, [.i x.1, .i x.2.1, .i x.2.2.1, .i x.2.2.2.1, .row 100000 0, .i 2, .i x.2.2.2.2.2, .nils, .row 18 0, .row 23 0])], [(18, .o 3 1 0 (v1.1.map e_i64)), (23, .o 3 1 0 ((List.replicate x.1.toNat (0 : Int)).map e_i64)), (100000, ⟨31, 2, 0, rk, rc, rn, 0, [], (row.map e_Entry)⟩), (100001, ⟨3, 1, 0, rk1, rc1, rn1, 0, [], (row1.map e_i64)⟩), (100002, ⟨3, 1, 0, rk2, rc2, rn2, 0, [], (row2.map e_i64)⟩), (100003, ⟨3, 1, 0, rk3, rc3, rn3, 0, [], (row3.map e_i64)⟩)], [], []⟩ : S)) ((List.replicate x.1.toNat (0 : Int)), 0)) (by kernel_rfl) ?_
    refine Wk_iter (step := fun y => raft_lead_v1_B1 row x y) (r := r) (fun v1 : List Int × Int => (⟨[(0, .ptr 100000 0), (2, .i (row.length : Int)), (34, .i ((List.replicate x.1.toNat (0 : Int)).length : Int)), (35, .i v1.2)], [(100000, [.i x.1, .i x.2.1, .i x.2.2.1, .i x.2.2.2.1, .row 100000 0, .i 2, .i x.2.2.2.2.2, .nils, .row 18 0, .row 23 0])], [(18, .o 3 1 0 (v1.1.map e_i64)), (23, .o 3 1 0 ((List.replicate x.1.toNat (0 : Int)).map e_i64)), (100000, ⟨31, 2, 0, rk, rc, rn, 0, [], (row.map e_Entry)⟩), (100001, ⟨3, 1, 0, rk1, rc1, rn1, 0, [], (row1.map e_i64)⟩), (100002, ⟨3, 1, 0, rk2, rc2, rn2, 0, [], (row2.map e_i64)⟩), (100003, ⟨3, 1, 0, rk3, rc3, rn3, 0, [], (row3.map e_i64)⟩)], [], []⟩ : S)) ((List.replicate x.1.toNat (0 : Int)), 0) hF ?_
    intro n1 v1 y1 hF ih1 dn1
    have hF : raft_lead_v1_B1 row x v1 = some y1 := hF
    unfold raft_lead_v1_B1 at hF
    refine ZRs [] [0, 2, 34, 35, 36] [100000] [18, 23, 100000, 100001, 100002, 100003] [(36, .bool (decide (v1.2 < ((List.replicate x.1.toNat (0 : Int)).length : Int))))] .nil ?_
    refine Wk_seq ?_
    refine Wk_split rfl (fun hb => ?_) (fun hb => ?_)
    · have hF := ite_t hF hb
      refine Wk_skip ?_
      refine Wk_seq ?_
      refine Wk_block ?_
      refine ZRs [] [0, 2, 3, 34, 35] [100000] [18, 23, 100000, 100001, 100002, 100003] [(3, .i v1.2)] .nil ?_
      obtain ⟨h6, hF⟩ := asrt_elim hF
      obtain ⟨h7, hF⟩ := asrt_elim hF
      refine UR [.av (e_i64 (lget v1.1 v1.2)), .xs ((lset v1.1 v1.2 (w64 ((row.length : Int) + 1))).map e_i64)] [0, 2, 34, 35] [100000] [18, 23, 100000, 100001, 100002, 100003] [] [] [] [(18, .o 3 1 0 ((lset v1.1 v1.2 (w64 ((row.length : Int) + 1))).map e_i64))] [] (.cons (ixr_ok e_i64 h6) (.cons (ldr_ok e_i64 h7) (.cons (set_ok e_i64 v1.1 v1.2 (w64 ((row.length : Int) + 1))) (.cons (Nat.zero_le v1.2.toNat) .nil)))) ?_
      refine Wk_blk ?_
      refine ZR [] [0, 2, 34, 35] [100000] [18, 23, 100000, 100001, 100002, 100003] [(35, .i (w64 (v1.2 + 1)))] .nil ?_
      refine Wk_trim (fs := [0, 2, 34, 35]) (bs := [100000]) (rs := [18, 23, 100000, 100001, 100002, 100003]) (ms := []) (aa := []) (nv := []) ?_ (ih1 _ (some_elim hF).symm)
      kernel_rfl
    · have hF := ite_f hF hb
      refine Wk_exit rfl ?_
      have hF := inrO_done hF dn1
      exact Wk_metP v1.1 [0, 2] [100000] [18, 23, 100000, 100001, 100002, 100003] [] [] [] hF (by kernel_rfl)
  · intro v hF
    have hF : raft_lead_v1_J1 row x v = some r := hF
    unfold raft_lead_v1_J1 at hF
    refine Wk_seq ?_
    obtain ⟨h3, hF⟩ := asrt_elim hF
    obtain ⟨h4, hF⟩ := asrt_elim hF
    refine UD [.av (e_i64 (lget (List.replicate x.1.toNat (0 : Int)) x.2.1)), .xs ((lset (List.replicate x.1.toNat (0 : Int)) x.2.1 (row.length : Int)).map e_i64)] [0] [100000] [18, 23, 100000, 100001, 100002, 100003] [] [] [] [(23, .o 3 1 0 ((lset (List.replicate x.1.toNat (0 : Int)) x.2.1 (row.length : Int)).map e_i64))] [] (.cons (ixr_ok e_i64 h3) (.cons (ldr_ok e_i64 h4) (.cons (set_ok e_i64 (List.replicate x.1.toNat (0 : Int)) x.2.1 (row.length : Int)) (.cons (Nat.zero_le x.2.1.toNat) .nil)))) ?_
    obtain ⟨x1, h5, hF⟩ := ob_elim hF
    refine UR [.callE [100000] [100000, 18, 23] [] [] (.tup []) ⟨[], [(100000, [.i x1.1, .i x1.2.1, .i x1.2.2.1, .i x1.2.2.2.1, .row 100000 0, .i x1.2.2.2.2.1, .i x1.2.2.2.2.2, .nils, .row 18 0, .row 23 0])], [(100000, ⟨31, 2, 0, rk, rc, rn, 0, [], (row.map e_Entry)⟩), (18, .o 3 1 0 (v.map e_i64)), (23, .o 3 1 0 ((lset (List.replicate x.1.toNat (0 : Int)) x.2.1 (row.length : Int)).map e_i64))], [], []⟩] [] [100000] [18, 23, 100000, 100001, 100002, 100003] [] [] [(100000, [.i x1.1, .i x1.2.1, .i x1.2.2.1, .i x1.2.2.2.1, .row 100000 0, .i x1.2.2.2.2.1, .i x1.2.2.2.2.2, .nils, .row 18 0, .row 23 0])] [] [] (.cons (Pe.ren (raft_count_ok x.1 x.2.1 x.2.2.1 x.2.2.2.1 2 x.2.2.2.2.2 row v (lset (List.replicate x.1.toNat (0 : Int)) x.2.1 (row.length : Int)) rk rc rn 0 0 false 0 0 false x1 h5) ⟨[], [(100001, 18), (100002, 23)], [], []⟩) .nil) ?_
    have hF := some_elim hF
    exact Wk_end (hfin _ ⟨[100000, 100001, 100002, 100003, 18, 23], [100000], [100000, 100001, 100002, 100003, 18, 23], [], [], [], by first | (rw [← hF]; kernel_rfl) | kernel_rfl⟩)

/- raft.beats$1 -/
noncomputable def raft_beats_1_v2 (to0 : Int) (box : Int) (box1 : Int) (box2 : Int) (box3 : Int) (box4 : List Entry) (box5 : Int) (box6 : Int) (row : List Int) (row1 : List Int) : Option (Int × Int × Int × Int × Int × Int × Int × List Entry × Bool) :=
  asrt (0 ≤ to0 ∧ to0 < (row.length : Int)) <|
  asrt (0 ≤ to0 ∧ to0 < (row.length : Int)) <|
  ob (entry_TermAt box4 (w64 ((lget row to0) - 1))) fun x =>
  asrt (0 ≤ w64 ((lget row to0) - 1) ∧ w64 ((lget row to0) - 1) ≤ (min (w64 ((w64 ((lget row to0) - 1)) + 5)) (box4.length : Int)) ∧ (min (w64 ((w64 ((lget row to0) - 1)) + 5)) (box4.length : Int)) ≤ (box4.length : Int)) <|
  ob (slices_Clone_api_Entry_api_Entry (ldrop (ltake box4 (min (w64 ((w64 ((lget row to0) - 1)) + 5)) (box4.length : Int))) (w64 ((lget row to0) - 1)))) fun x1 =>
  some (3, 0, 0, 0, w64 ((lget row to0) - 1), x, box6, x1, false)
theorem raft_beats_1_v2_ok (to0 : Int) (box : Int) (box1 : Int) (box2 : Int) (box3 : Int) (box4 : List Entry) (box5 : Int) (box6 : Int) (row : List Int) (row1 : List Int) (rk : Nat) (rc : Nat) (rn : Bool) (rk1 : Nat) (rc1 : Nat) (rn1 : Bool) (r : Int × Int × Int × Int × Int × Int × Int × List Entry × Bool) (hF : raft_beats_1_v2 to0 box box1 box2 box3 box4 box5 box6 row row1 = some r) : Pe Try.prog 91 ⟨[], [(100000, [.ptr 100001 0]), (100001, [.i box, .i box1, .i box2, .i box3, .sl 2 (box4.map e_Entry), .i box5, .i box6, .nils, .row 100000 0, .row 100001 0])], [(100000, ⟨3, 1, 0, rk, rc, rn, 0, [], (row.map e_i64)⟩), (100001, ⟨3, 1, 0, rk1, rc1, rn1, 0, [], (row1.map e_i64)⟩)], [], []⟩ [.i to0, .ptr 100000 0] (.agg [.i r.1, .i r.2.1, .i r.2.2.1, .i r.2.2.2.1, .i r.2.2.2.2.1, .i r.2.2.2.2.2.1, .i r.2.2.2.2.2.2.1, .row 38 0, .bool r.2.2.2.2.2.2.2.2]) ⟨[], [(100000, [.ptr 100001 0]), (100001, [.i box, .i box1, .i box2, .i box3, .sl 2 (box4.map e_Entry), .i box5, .i box6, .nils, .row 100000 0, .row 100001 0])], [(100000, ⟨3, 1, 0, rk, rc, rn, 0, [], (row.map e_i64)⟩), (100001, ⟨3, 1, 0, rk1, rc1, rn1, 0, [], (row1.map e_i64)⟩), (38, .o 31 2 0 (r.2.2.2.2.2.2.2.1.map e_Entry))], [], []⟩ := by
  refine Pe_of (N := 40) (res := [.cell 3 62]) (ts := [62]) Ty.ok Fn.b91 Try.func91 rfl rfl rfl rfl rfl rfl ?_
  intro Q g hfin
  unfold raft_beats_1_v2 at hF
  refine URs [] [0, 1, 3] [3, 100000, 100001] [100000, 100001] [] [(3, .ptr 3 0)] [(3, [.i 0, .i 0, .i 0, .i 0, .i 0, .i 0, .i 0, .nils, .bool false])] [] [] .nil ?_
  refine Wk_seq ?_
  obtain ⟨h0, hF⟩ := asrt_elim hF
  obtain ⟨h1, hF⟩ := asrt_elim hF
  refine ZR [.av (e_i64 (lget row to0))] [1, 3, 4] [3, 100000, 100001] [100000, 100001] [(4, .i (w64 ((lget row to0) - 1)))] (.cons (ixr_ok e_i64 h0) (.cons (ldr_ok e_i64 h1) .nil)) ?_
  refine Wk_seq ?_
  obtain ⟨x, h2, hF⟩ := ob_elim hF
  obtain ⟨h3, hF⟩ := asrt_elim hF
  obtain ⟨x1, h4, hF⟩ := ob_elim hF
  refine UD [.callB (.i x), .nat (box4.length : Int), .xs ((ldrop (ltake box4 (min (w64 ((w64 ((lget row to0) - 1)) + 5)) (box4.length : Int))) (w64 ((lget row to0) - 1))).map e_Entry), .callE [] [] [] [] (.row 38 0) ⟨[], [], [(38, .o 31 2 0 (x1.map e_Entry))], [], []⟩] [3] [3, 100000, 100001] [38, 100000, 100001] [] [] [(3, [.i 3, .i 0, .i 0, .i 0, .i (w64 ((lget row to0) - 1)), .i x, .i box6, .row 38 0, .bool false])] [(38, .o 31 2 0 (x1.map e_Entry))] [] (.cons (entry_TermAt_ok box4 (w64 ((lget row to0) - 1)) x h2) (.cons (len_ok e_Entry box4) (.cons (sl11_ok e_Entry h3) (.cons (Pe.ren (slices_Clone_api_Entry_api_Entry_ok (ldrop (ltake box4 (min (w64 ((w64 ((lget row to0) - 1)) + 5)) (box4.length : Int))) (w64 ((lget row to0) - 1))) x1 h4) ⟨[], [(5, 38)], [], []⟩) .nil)))) ?_
  have hF := some_elim hF
  exact Wk_ret (hfin _ ⟨[100000, 100001, 38], [100000, 100001], [100000, 100001, 38], [], [], [], by first | (rw [← hF]; kernel_rfl) | kernel_rfl⟩)

/- raft.others -/
noncomputable def raft_others_v2_J1 (v : List Mail × Int × Int × Int × Int × List Entry × Int × Int × List Entry) : Option (List Mail × Int × Int × Int × Int × List Entry × Int × Int × List Entry) :=
  some (v.1, v.2.1, v.2.2.1, v.2.2.2.1, v.2.2.2.2.1, v.2.2.2.2.2.1, v.2.2.2.2.2.2.1, v.2.2.2.2.2.2.2.1, v.2.2.2.2.2.2.2.2)
noncomputable def raft_others_v2_B1 (box : Int) (row1 : List Int) (row2 : List Int) (v1 : Int × Int × Int × Int × List Entry × Int × Int × List Mail × Int × List Entry) : Option ((Int × Int × Int × Int × List Entry × Int × Int × List Mail × Int × List Entry) ⊕ (List Mail × Int × Int × Int × Int × List Entry × Int × Int × List Entry)) :=
  if (decide (v1.2.2.2.2.2.2.2.2.1 < box)) = true then
    ob (
      if (!decide (v1.2.2.2.2.2.2.2.2.1 = v1.2.1)) = true then
        ob (raft_beats_1_v2 v1.2.2.2.2.2.2.2.2.1 v1.1 v1.2.1 v1.2.2.1 v1.2.2.2.1 v1.2.2.2.2.1 v1.2.2.2.2.2.1 v1.2.2.2.2.2.2.1 row1 row2) fun x =>
        asrt (((v1.2.2.2.2.2.2.2.1 ++ [(⟨x.1, v1.2.1, v1.2.2.2.2.2.2.2.2.1, v1.2.2.1, x.2.2.2.2.1, x.2.2.2.2.2.1, x.2.2.2.2.2.2.1, x.2.2.2.2.2.2.2.1, x.2.2.2.2.2.2.2.2⟩ : Mail)]).length : Int) * 88 ≤ 140737488351232) <|
        lt ((v1.2.2.2.2.2.2.2.1 ++ [(⟨x.1, v1.2.1, v1.2.2.2.2.2.2.2.2.1, v1.2.2.1, x.2.2.2.2.1, x.2.2.2.2.2.1, x.2.2.2.2.2.2.1, x.2.2.2.2.2.2.2.1, x.2.2.2.2.2.2.2.2⟩ : Mail)])) fun (v3 : List Mail) =>
        some v3
      else
        some v1.2.2.2.2.2.2.2.1) fun (v2 : List Mail) =>
    some (Sum.inl (v1.1, v1.2.1, v1.2.2.1, v1.2.2.2.1, v1.2.2.2.2.1, v1.2.2.2.2.2.1, v1.2.2.2.2.2.2.1, v2, w64 (v1.2.2.2.2.2.2.2.2.1 + 1), v1.2.2.2.2.2.2.2.2.2))
  else
    inrO (raft_others_v2_J1 (v1.2.2.2.2.2.2.2.1, v1.1, v1.2.1, v1.2.2.1, v1.2.2.2.1, v1.2.2.2.2.1, v1.2.2.2.2.2.1, v1.2.2.2.2.2.2.1, v1.2.2.2.2.2.2.2.2.2))
noncomputable def raft_others_v2_L1 (box : Int) (row1 : List Int) (row2 : List Int) (v0 : Int × Int × Int × Int × List Entry × Int × Int × List Mail × Int × List Entry) : Option (List Mail × Int × Int × Int × Int × List Entry × Int × Int × List Entry) :=
  loopO (fun y => raft_others_v2_B1 box row1 row2 y) v0
noncomputable def raft_others_v2 (box : Int) (box1 : Int) (box2 : Int) (box3 : Int) (box4 : Int) (box5 : Int) (row : List Entry) (row1 : List Int) (row2 : List Int) : Option (List Mail × Int × Int × Int × Int × List Entry × Int × Int × List Entry) :=
  raft_others_v2_L1 box row1 row2 (box, box1, box2, box3, row, box4, box5, ([] : List Mail), 0, row)
theorem raft_others_v2_ok (box : Int) (box1 : Int) (box2 : Int) (box3 : Int) (box4 : Int) (box5 : Int) (row : List Entry) (row1 : List Int) (row2 : List Int) (rk : Nat) (rc : Nat) (rn : Bool) (rk1 : Nat) (rc1 : Nat) (rn1 : Bool) (rk2 : Nat) (rc2 : Nat) (rn2 : Bool) (r : List Mail × Int × Int × Int × Int × List Entry × Int × Int × List Entry) (hF : raft_others_v2 box box1 box2 box3 box4 box5 row row1 row2 = some r) : Pe Try.prog 66 ⟨[], [(100000, [.i box, .i box1, .i box2, .i box3, .row 100000 0, .i box4, .i box5, .nils, .row 100001 0, .row 100002 0]), (100001, [.ptr 100000 0])], [(100000, ⟨31, 2, 0, rk, rc, rn, 0, [], (row.map e_Entry)⟩), (100001, ⟨3, 1, 0, rk1, rc1, rn1, 0, [], (row1.map e_i64)⟩), (100002, ⟨3, 1, 0, rk2, rc2, rn2, 0, [], (row2.map e_i64)⟩)], [], []⟩ [.ptr 100000 0, .fn 91 [.ptr 100001 0]] (.row 39 0) ⟨[], [(100000, [.i r.2.1, .i r.2.2.1, .i r.2.2.2.1, .i r.2.2.2.2.1, .sl 2 (r.2.2.2.2.2.1.map e_Entry), .i r.2.2.2.2.2.2.1, .i r.2.2.2.2.2.2.2.1, .nils, .row 100001 0, .row 100002 0]), (100001, [.ptr 100000 0])], [(100000, ⟨31, 2, 0, (r.2.2.2.2.2.2.2.2.map e_Entry).length, rc, rn, 0, [], (r.2.2.2.2.2.2.2.2.map e_Entry)⟩), (100001, ⟨3, 1, 0, rk1, rc1, rn1, 0, [], (row1.map e_i64)⟩), (100002, ⟨3, 1, 0, rk2, rc2, rn2, 0, [], (row2.map e_i64)⟩), (39, .z 62 9 0 (r.1.map e_Mail))], [], []⟩ := by
  refine Pe_of (N := 42) (res := [.tmp 4]) (ts := [50]) Ty.ok Fn.b66 Try.func66 rfl rfl rfl rfl rfl rfl ?_
  intro Q g hfin
  unfold raft_others_v2 at hF
  refine ZRs [] [0, 1] [100000, 100001] [100000, 100001, 100002] [] .nil ?_
  refine ZRs [] [0, 1, 5] [100000, 100001] [100000, 100001, 100002] [(5, .nils)] .nil ?_
  refine Wk_seq ?_
  refine ZRs [] [0, 1, 5, 11, 12] [100000, 100001] [100000, 100001, 100002] [(11, .i box), (12, .i 0)] .nil ?_
  refine Wk_meetP (fun v : List Mail × Int × Int × Int × Int × List Entry × Int × Int × List Entry => (⟨[(5, .row 39 0)], [(100000, [.i v.2.1, .i v.2.2.1, .i v.2.2.2.1, .i v.2.2.2.2.1, .sl 2 (v.2.2.2.2.2.1.map e_Entry), .i v.2.2.2.2.2.2.1, .i v.2.2.2.2.2.2.2.1, .nils, .row 100001 0, .row 100002 0]), (100001, [.ptr 100000 0])], [(39, .z 62 9 0 (v.1.map e_Mail)), (100000, ⟨31, 2, 0, (v.2.2.2.2.2.2.2.2.map e_Entry).length, rc, rn, 0, [], (v.2.2.2.2.2.2.2.2.map e_Entry)⟩), (100001, ⟨3, 1, 0, rk1, rc1, rn1, 0, [], (row1.map e_i64)⟩), (100002, ⟨3, 1, 0, rk2, rc2, rn2, 0, [], (row2.map e_i64)⟩)], [], []⟩ : S)) (fun v => raft_others_v2_J1 v = some r) ?_ ?_
  · refine Wk_block ?_
    unfold raft_others_v2_L1 at hF
    refine Wk_nilrow 5 60000 62 9 rfl rfl rfl ?_
    refine Wk_sealBX [100001, 100002] 100000 rfl rfl ?_
    refine Wk_trim (fs := [0, 1, 5, 11, 12]) (bs := [100000, 100001]) (rs := [60000, 100000, 100001, 100002]) (ms := []) (aa := []) (nv := []) rfl ?_
    refine Wk_ren' ⟨[], [(60000, 39)], [], []⟩ rfl ?_
    refine Wk_trim (fs := [0, 1, 5, 11, 12]) (bs := [100000, 100001]) (rs := [39, 100000, 100001, 100002]) (ms := []) (aa := []) (nv := []) (t := (fun v1 : Int × Int × Int × Int × List Entry × Int × Int × List Mail × Int × List Entry => (⟨[(0, .ptr 100000 0), (1, .fn 91 [.ptr 100001 0]), (5, .row 39 0), (11, .i box), (12, .i v1.2.2.2.2.2.2.2.2.1)], [(100000, [.i v1.1, .i v1.2.1, .i v1.2.2.1, .i v1.2.2.2.1, .sl 2 (v1.2.2.2.2.1.map e_Entry), .i v1.2.2.2.2.2.1, .i v1.2.2.2.2.2.2.1, .nils, .row 100001 0, .row 100002 0]), (100001, [.ptr 100000 0])], [(39, .z 62 9 0 (v1.2.2.2.2.2.2.2.1.map e_Mail)), (100000, ⟨31, 2, 0, (v1.2.2.2.2.2.2.2.2.2.map e_Entry).length, rc, rn, 0, [], (v1.2.2.2.2.2.2.2.2.2.map e_Entry)⟩), (100001, ⟨3, 1, 0, rk1, rc1, rn1, 0, [], (row1.map e_i64)⟩), (100002, ⟨3, 1, 0, rk2, rc2, rn2, 0, [], (row2.map e_i64)⟩)], [], []⟩ : S)) (box, box1, box2, box3, row, box4, box5, ([] : List Mail), 0, row)) (by kernel_rfl) ?_
    refine Wk_iter (step := fun y => raft_others_v2_B1 box row1 row2 y) (r := r) (fun v1 : Int × Int × Int × Int × List Entry × Int × Int × List Mail × Int × List Entry => (⟨[(0, .ptr 100000 0), (1, .fn 91 [.ptr 100001 0]), (5, .row 39 0), (11, .i box), (12, .i v1.2.2.2.2.2.2.2.2.1)], [(100000, [.i v1.1, .i v1.2.1, .i v1.2.2.1, .i v1.2.2.2.1, .sl 2 (v1.2.2.2.2.1.map e_Entry), .i v1.2.2.2.2.2.1, .i v1.2.2.2.2.2.2.1, .nils, .row 100001 0, .row 100002 0]), (100001, [.ptr 100000 0])], [(39, .z 62 9 0 (v1.2.2.2.2.2.2.2.1.map e_Mail)), (100000, ⟨31, 2, 0, (v1.2.2.2.2.2.2.2.2.2.map e_Entry).length, rc, rn, 0, [], (v1.2.2.2.2.2.2.2.2.2.map e_Entry)⟩), (100001, ⟨3, 1, 0, rk1, rc1, rn1, 0, [], (row1.map e_i64)⟩), (100002, ⟨3, 1, 0, rk2, rc2, rn2, 0, [], (row2.map e_i64)⟩)], [], []⟩ : S)) (box, box1, box2, box3, row, box4, box5, ([] : List Mail), 0, row) hF ?_
    intro n1 v1 y1 hF ih1 dn1
    have hF : raft_others_v2_B1 box row1 row2 v1 = some y1 := hF
    unfold raft_others_v2_B1 at hF
    refine ZRs [] [0, 1, 5, 11, 12, 13] [100000, 100001] [39, 100000, 100001, 100002] [(13, .bool (decide (v1.2.2.2.2.2.2.2.2.1 < box)))] .nil ?_
    refine Wk_seq ?_
    refine Wk_split rfl (fun hb => ?_) (fun hb => ?_)
    · have hF := ite_t hF hb
      refine Wk_skip ?_
      refine Wk_seq ?_
      refine Wk_block ?_
      refine ZRs [] [0, 1, 5, 6, 11, 12] [100000, 100001] [39, 100000, 100001, 100002] [(6, .i v1.2.2.2.2.2.2.2.2.1)] .nil ?_
      refine ZRs [] [0, 1, 5, 6, 11, 12, 20] [100000, 100001] [39, 100000, 100001, 100002] [(20, .bool (!decide (v1.2.2.2.2.2.2.2.2.1 = v1.2.1)))] .nil ?_
      obtain ⟨v2, hv, hF⟩ := ob_elim hF
      refine Wk_meet (⟨[(0, .ptr 100000 0), (1, .fn 91 [.ptr 100001 0]), (5, .row 39 0), (11, .i box), (12, .i v1.2.2.2.2.2.2.2.2.1)], [(100000, [.i v1.1, .i v1.2.1, .i v1.2.2.1, .i v1.2.2.2.1, .sl 2 (v1.2.2.2.2.1.map e_Entry), .i v1.2.2.2.2.2.1, .i v1.2.2.2.2.2.2.1, .nils, .row 100001 0, .row 100002 0]), (100001, [.ptr 100000 0])], [(39, .z 62 9 0 (v2.map e_Mail)), (100000, ⟨31, 2, 0, (v1.2.2.2.2.2.2.2.2.2.map e_Entry).length, rc, rn, 0, [], (v1.2.2.2.2.2.2.2.2.2.map e_Entry)⟩), (100001, ⟨3, 1, 0, rk1, rc1, rn1, 0, [], (row1.map e_i64)⟩), (100002, ⟨3, 1, 0, rk2, rc2, rn2, 0, [], (row2.map e_i64)⟩)], [], []⟩ : S) ?_ ?_
      · have hF := hv
        refine Wk_split rfl (fun hb => ?_) (fun hb => ?_)
        · have hF := ite_t hF hb
          refine Wk_seq ?_
          obtain ⟨x, h0, hF⟩ := ob_elim hF
          refine UR [.callE [100001, 100000] [100001, 100002] [] [] (.agg [.i x.1, .i x.2.1, .i x.2.2.1, .i x.2.2.2.1, .i x.2.2.2.2.1, .i x.2.2.2.2.2.1, .i x.2.2.2.2.2.2.1, .row 23 0, .bool x.2.2.2.2.2.2.2.2]) ⟨[], [(100001, [.ptr 100000 0]), (100000, [.i v1.1, .i v1.2.1, .i v1.2.2.1, .i v1.2.2.2.1, .sl 2 (v1.2.2.2.2.1.map e_Entry), .i v1.2.2.2.2.2.1, .i v1.2.2.2.2.2.2.1, .nils, .row 100001 0, .row 100002 0])], [(100001, ⟨3, 1, 0, rk1, rc1, rn1, 0, [], (row1.map e_i64)⟩), (100002, ⟨3, 1, 0, rk2, rc2, rn2, 0, [], (row2.map e_i64)⟩), (23, .o 31 2 0 (x.2.2.2.2.2.2.2.1.map e_Entry))], [], []⟩] [0, 1, 5, 6, 7, 11, 12] [7, 100000, 100001] [23, 39, 100000, 100001, 100002] [] [(7, .ptr 7 0)] [(7, [.i x.1, .i x.2.1, .i x.2.2.1, .i x.2.2.2.1, .i x.2.2.2.2.1, .i x.2.2.2.2.2.1, .i x.2.2.2.2.2.2.1, .row 23 0, .bool x.2.2.2.2.2.2.2.2])] [(23, .o 31 2 0 (x.2.2.2.2.2.2.2.1.map e_Entry))] [] (.cons (Pe.ren (raft_beats_1_v2_ok v1.2.2.2.2.2.2.2.2.1 v1.1 v1.2.1 v1.2.2.1 v1.2.2.2.1 v1.2.2.2.2.1 v1.2.2.2.2.2.1 v1.2.2.2.2.2.2.1 row1 row2 rk1 rc1 rn1 rk2 rc2 rn2 x h0) ⟨[(100000, 100001)], [(100000, 100001), (100000, 100002), (38, 23)], [], []⟩) .nil) ?_
          refine UDs [] [0, 1, 5, 7, 11, 12] [7, 100000, 100001] [23, 39, 100000, 100001, 100002] [] [] [(7, [.i x.1, .i v1.2.1, .i v1.2.2.2.2.2.2.2.2.1, .i v1.2.2.1, .i x.2.2.2.2.1, .i x.2.2.2.2.2.1, .i x.2.2.2.2.2.2.1, .row 23 0, .bool x.2.2.2.2.2.2.2.2])] [] [] .nil ?_
          obtain ⟨h1, hF⟩ := asrt_elim hF
          refine WRL ((v1.2.2.2.2.2.2.2.1 ++ [(⟨x.1, v1.2.1, v1.2.2.2.2.2.2.2.2.1, v1.2.2.1, x.2.2.2.2.1, x.2.2.2.2.2.1, x.2.2.2.2.2.2.1, x.2.2.2.2.2.2.2.1, x.2.2.2.2.2.2.2.2⟩ : Mail)])) (fun v3 : List Mail => ⟨[(0, .ptr 100000 0), (1, .fn 91 [.ptr 100001 0]), (5, .row 39 1), (11, .i box), (12, .i v1.2.2.2.2.2.2.2.2.1)], [(100000, [.i v1.1, .i v1.2.1, .i v1.2.2.1, .i v1.2.2.2.1, .sl 2 (v1.2.2.2.2.1.map e_Entry), .i v1.2.2.2.2.2.1, .i v1.2.2.2.2.2.2.1, .nils, .row 100001 0, .row 100002 0]), (100001, [.ptr 100000 0])], [(39, .z 62 9 1 (v3.map e_Mail)), (100000, ⟨31, 2, 0, (v1.2.2.2.2.2.2.2.2.2.map e_Entry).length, rc, rn, 0, [], (v1.2.2.2.2.2.2.2.2.2.map e_Entry)⟩), (100001, ⟨3, 1, 0, rk1, rc1, rn1, 0, [], (row1.map e_i64)⟩), (100002, ⟨3, 1, 0, rk2, rc2, rn2, 0, [], (row2.map e_i64)⟩)], [], []⟩) [.sealed, .xs ((v1.2.2.2.2.2.2.2.1 ++ [(⟨x.1, v1.2.1, v1.2.2.2.2.2.2.2.2.1, v1.2.2.1, x.2.2.2.2.1, x.2.2.2.2.2.1, x.2.2.2.2.2.2.1, x.2.2.2.2.2.2.2.1, x.2.2.2.2.2.2.2.2⟩ : Mail)]).map e_Mail)] [0, 1, 5, 11, 12] [100000, 100001] [39, 100000, 100001, 100002] [] [] [] (.cons (app_ok e_Mail v1.2.2.2.2.2.2.2.1 [(⟨x.1, v1.2.1, v1.2.2.2.2.2.2.2.2.1, v1.2.2.1, x.2.2.2.2.1, x.2.2.2.2.2.1, x.2.2.2.2.2.2.1, x.2.2.2.2.2.2.2.1, x.2.2.2.2.2.2.2.2⟩ : Mail)]) (.cons (appl_ok e_Mail h1) .nil)) (by kernel_rfl) (fun v3 hv => ?_)
          have hF := lt_elim hF hv
          exact Wk_met (fs := [0, 1, 5, 11, 12]) (bs := [100000, 100001]) (rs := [39, 100000, 100001, 100002]) (ms := []) (aa := []) (nv := [(39, ⟨0, true, true, false⟩)]) (by first | (rw [← some_elim hF]; kernel_rfl) | kernel_rfl)
        · have hF := ite_f hF hb
          refine Wk_skip ?_
          exact Wk_met (fs := [0, 1, 5, 11, 12]) (bs := [100000, 100001]) (rs := [39, 100000, 100001, 100002]) (ms := []) (aa := []) (nv := []) (by first | (rw [← some_elim hF]; kernel_rfl) | kernel_rfl)
      · refine Wk_blk ?_
        refine ZR [] [0, 1, 5, 11, 12] [100000, 100001] [39, 100000, 100001, 100002] [(12, .i (w64 (v1.2.2.2.2.2.2.2.2.1 + 1)))] .nil ?_
        refine Wk_trim (fs := [0, 1, 5, 11, 12]) (bs := [100000, 100001]) (rs := [39, 100000, 100001, 100002]) (ms := []) (aa := []) (nv := []) ?_ (ih1 _ (some_elim hF).symm)
        kernel_rfl
    · have hF := ite_f hF hb
      refine Wk_exit rfl ?_
      have hF := inrO_done hF dn1
      exact Wk_metP (v1.2.2.2.2.2.2.2.1, v1.1, v1.2.1, v1.2.2.1, v1.2.2.2.1, v1.2.2.2.2.1, v1.2.2.2.2.2.1, v1.2.2.2.2.2.2.1, v1.2.2.2.2.2.2.2.2.2) [5] [100000, 100001] [39, 100000, 100001, 100002] [] [] [] hF (by kernel_rfl)
  · intro v hF
    have hF : raft_others_v2_J1 v = some r := hF
    unfold raft_others_v2_J1 at hF
    refine ZRs [] [4] [100000, 100001] [39, 100000, 100001, 100002] [(4, .row 39 0)] .nil ?_
    have hF := some_elim hF
    exact Wk_ret (hfin _ ⟨[100000, 100001, 100002, 39], [100000, 100001], [100000, 100001, 100002, 39], [], [], [], by first | (rw [← hF]; kernel_rfl) | kernel_rfl⟩)

/- raft.beats -/
noncomputable def raft_beats_v1 (box : Int) (box1 : Int) (box2 : Int) (box3 : Int) (box4 : Int) (box5 : Int) (row : List Entry) (row1 : List Int) (row2 : List Int) : Option (List Mail × Int × Int × Int × Int × List Entry × Int × Int × List Entry) :=
  ob (raft_others_v2 box box1 box2 box3 box4 box5 row row1 row2) fun x =>
  some (x.1, x.2.1, x.2.2.1, x.2.2.2.1, x.2.2.2.2.1, x.2.2.2.2.2.1, x.2.2.2.2.2.2.1, x.2.2.2.2.2.2.2.1, x.2.2.2.2.2.2.2.2)
theorem raft_beats_v1_ok (box : Int) (box1 : Int) (box2 : Int) (box3 : Int) (box4 : Int) (box5 : Int) (row : List Entry) (row1 : List Int) (row2 : List Int) (rk : Nat) (rc : Nat) (rn : Bool) (rk1 : Nat) (rc1 : Nat) (rn1 : Bool) (rk2 : Nat) (rc2 : Nat) (rn2 : Bool) (r : List Mail × Int × Int × Int × Int × List Entry × Int × Int × List Entry) (hF : raft_beats_v1 box box1 box2 box3 box4 box5 row row1 row2 = some r) : Pe Try.prog 70 ⟨[], [(100000, [.i box, .i box1, .i box2, .i box3, .row 100000 0, .i box4, .i box5, .nils, .row 100001 0, .row 100002 0])], [(100000, ⟨31, 2, 0, rk, rc, rn, 0, [], (row.map e_Entry)⟩), (100001, ⟨3, 1, 0, rk1, rc1, rn1, 0, [], (row1.map e_i64)⟩), (100002, ⟨3, 1, 0, rk2, rc2, rn2, 0, [], (row2.map e_i64)⟩)], [], []⟩ [.ptr 100000 0] (.row 5 0) ⟨[], [(100000, [.i r.2.1, .i r.2.2.1, .i r.2.2.2.1, .i r.2.2.2.2.1, .sl 2 (r.2.2.2.2.2.1.map e_Entry), .i r.2.2.2.2.2.2.1, .i r.2.2.2.2.2.2.2.1, .nils, .row 100001 0, .row 100002 0])], [(100000, ⟨31, 2, 0, (r.2.2.2.2.2.2.2.2.map e_Entry).length, rc, rn, 0, [], (r.2.2.2.2.2.2.2.2.map e_Entry)⟩), (100001, ⟨3, 1, 0, rk1, rc1, rn1, 0, [], (row1.map e_i64)⟩), (100002, ⟨3, 1, 0, rk2, rc2, rn2, 0, [], (row2.map e_i64)⟩), (5, .z 62 9 0 (r.1.map e_Mail))], [], []⟩ := by
  refine Pe_of (N := 6) (res := [.tmp 2]) (ts := [50]) Ty.ok Fn.b70 Try.func70 rfl rfl rfl rfl rfl rfl ?_
  intro Q g hfin
  unfold raft_beats_v1 at hF
  refine URs [] [1] [1, 100000] [100000, 100001, 100002] [] [(1, .ptr 1 0)] [(1, [.ptr 100000 0])] [] [] .nil ?_
  refine Wk_seq ?_
  obtain ⟨x, h0, hF⟩ := ob_elim hF
  refine UR [.callE [100000, 1] [100000, 100001, 100002] [] [] (.row 5 0) ⟨[], [(100000, [.i x.2.1, .i x.2.2.1, .i x.2.2.2.1, .i x.2.2.2.2.1, .sl 2 (x.2.2.2.2.2.1.map e_Entry), .i x.2.2.2.2.2.2.1, .i x.2.2.2.2.2.2.2.1, .nils, .row 100001 0, .row 100002 0]), (1, [.ptr 100000 0])], [(100000, ⟨31, 2, 0, (x.2.2.2.2.2.2.2.2.map e_Entry).length, rc, rn, 0, [], (x.2.2.2.2.2.2.2.2.map e_Entry)⟩), (100001, ⟨3, 1, 0, rk1, rc1, rn1, 0, [], (row1.map e_i64)⟩), (100002, ⟨3, 1, 0, rk2, rc2, rn2, 0, [], (row2.map e_i64)⟩), (5, .z 62 9 0 (x.1.map e_Mail))], [], []⟩] [2] [100000] [5, 100000, 100001, 100002] [] [(2, .row 5 0)] [(100000, [.i x.2.1, .i x.2.2.1, .i x.2.2.2.1, .i x.2.2.2.2.1, .sl 2 (x.2.2.2.2.2.1.map e_Entry), .i x.2.2.2.2.2.2.1, .i x.2.2.2.2.2.2.2.1, .nils, .row 100001 0, .row 100002 0])] [(5, .z 62 9 0 (x.1.map e_Mail)), (100000, ⟨31, 2, 0, (x.2.2.2.2.2.2.2.2.map e_Entry).length, rc, rn, 0, [], (x.2.2.2.2.2.2.2.2.map e_Entry)⟩)] [] (.cons (Pe.ren (raft_others_v2_ok box box1 box2 box3 box4 box5 row row1 row2 rk rc rn rk1 rc1 rn1 rk2 rc2 rn2 x h0) ⟨[(100001, 1)], [(39, 5)], [], []⟩) .nil) ?_
  have hF := some_elim hF
  exact Wk_ret (hfin _ ⟨[100000, 100001, 100002, 5], [100000], [100000, 100001, 100002, 5], [], [], [], by first | (rw [← hF]; kernel_rfl) | kernel_rfl⟩)

/- raft.given -/
noncomputable def raft_given (m : Mail) (box : Int) (box1 : Int) (box2 : Int) (box3 : Int) (box4 : Int) (box5 : Int) (row : List Entry) (row1 : List Int) (row2 : List Int) (row3 : List Int) : Option (List Mail × Int × Int × Int × Int × List Entry × Int × Int × List Int × List Int × List Int × List Entry × List Int) :=
  if (((!decide (box4 = 1)) || (!decide (m.Term = box2))) || (!m.Ok)) = true then
    some (([] : List Mail), box, box1, box2, box3, row, box4, box5, row1, row2, row3, row, row1)
  else
    ob (slices_Contains_int_int row1 m.From) fun x =>
    ob (
      if (!x) = true then
        asrt (((row1 ++ ([m.From] : List Int)).length : Int) * 8 ≤ 140737488351232) <|
        some (row1 ++ ([m.From] : List Int))
      else
        some row1) fun (v : List Int) =>
    lt (raft_most (v.length : Int) box) fun x1 =>
    if (!x1) = true then
      some (([] : List Mail), box, box1, box2, box3, row, box4, box5, v, row2, row3, row, v)
    else
      ob (raft_lead_v1 box box1 box2 box3 box4 box5 row v row2 row3) fun x2 =>
      ob (raft_beats_v1 x2.1 x2.2.1 x2.2.2.1 x2.2.2.2.1 x2.2.2.2.2.1 x2.2.2.2.2.2.1 row x2.2.2.2.2.2.2.1 x2.2.2.2.2.2.2.2) fun x3 =>
      some (x3.1, x3.2.1, x3.2.2.1, x3.2.2.2.1, x3.2.2.2.2.1, x3.2.2.2.2.2.1, x3.2.2.2.2.2.2.1, x3.2.2.2.2.2.2.2.1, ([] : List Int), x2.2.2.2.2.2.2.1, x2.2.2.2.2.2.2.2, x3.2.2.2.2.2.2.2.2, v)
theorem raft_given_ok (m : Mail) (box : Int) (box1 : Int) (box2 : Int) (box3 : Int) (box4 : Int) (box5 : Int) (row : List Entry) (row1 : List Int) (row2 : List Int) (row3 : List Int) (rk : Nat) (rc : Nat) (rn : Bool) (rk1 : Nat) (rc1 : Nat) (rn1 : Bool) (rk2 : Nat) (rc2 : Nat) (rn2 : Bool) (rk3 : Nat) (rc3 : Nat) (rn3 : Bool) (r : List Mail × Int × Int × Int × Int × List Entry × Int × Int × List Int × List Int × List Int × List Entry × List Int) (hF : raft_given m box box1 box2 box3 box4 box5 row row1 row2 row3 = some r) : Pe Try.prog 80 ⟨[], [(100000, [.i box, .i box1, .i box2, .i box3, .row 100000 0, .i box4, .i box5, .row 100001 0, .row 100002 0, .row 100003 0])], [(100000, ⟨31, 2, 0, rk, rc, rn, 0, [], (row.map e_Entry)⟩), (100001, ⟨3, 1, 0, rk1, rc1, rn1, 0, [], (row1.map e_i64)⟩), (100002, ⟨3, 1, 0, rk2, rc2, rn2, 0, [], (row2.map e_i64)⟩), (100003, ⟨3, 1, 0, rk3, rc3, rn3, 0, [], (row3.map e_i64)⟩)], [], []⟩ [.ptr 100000 0, .agg (c_Mail m)] (.row 57 0) ⟨[], [(100000, [.i r.2.1, .i r.2.2.1, .i r.2.2.2.1, .i r.2.2.2.2.1, .sl 2 (r.2.2.2.2.2.1.map e_Entry), .i r.2.2.2.2.2.2.1, .i r.2.2.2.2.2.2.2.1, .sl 1 (r.2.2.2.2.2.2.2.2.1.map e_i64), .sl 1 (r.2.2.2.2.2.2.2.2.2.1.map e_i64), .sl 1 (r.2.2.2.2.2.2.2.2.2.2.1.map e_i64)])], [(100000, ⟨31, 2, 0, (r.2.2.2.2.2.2.2.2.2.2.2.1.map e_Entry).length, rc, rn, 0, [], (r.2.2.2.2.2.2.2.2.2.2.2.1.map e_Entry)⟩), (100001, ⟨3, 1, 1, (r.2.2.2.2.2.2.2.2.2.2.2.2.map e_i64).length, rc1, rn1, 0, [], (r.2.2.2.2.2.2.2.2.2.2.2.2.map e_i64)⟩), (100002, ⟨3, 1, 0, ((row2).map e_i64).length, rc2, rn2, 0, [], (row2.map e_i64)⟩), (100003, ⟨3, 1, 0, ((row3).map e_i64).length, rc3, rn3, 0, [], (row3.map e_i64)⟩), (57, .z 62 9 0 (r.1.map e_Mail))], [], []⟩ := by
  refine Pe_of (N := 58) (res := [.tmp 4]) (ts := [50]) Ty.ok Fn.b80 Try.func80 rfl rfl rfl rfl rfl rfl ?_
  intro Q g hfin
  unfold raft_given at hF
  refine URs [] [0, 3] [3, 100000] [100000, 100001, 100002, 100003] [] [(3, .ptr 3 0)] [(3, (c_Mail m))] [] [] .nil ?_
  refine Wk_seq ?_
  refine ZDs [] [0, 3, 23] [3, 100000] [100000, 100001, 100002, 100003] [(23, .bool (((!decide (box4 = 1)) || (!decide (m.Term = box2))) || (!m.Ok)))] .nil ?_
  refine Wk_split rfl (fun hb => ?_) (fun hb => ?_)
  · have hF := ite_t hF hb
    refine ZRs [] [4] [100000] [100000, 100001, 100002, 100003] [(4, .nils)] .nil ?_
    have hF := some_elim hF
    refine Wk_nilrow 4 60000 62 9 rfl rfl rfl ?_
    refine Wk_sealBX [] 100000 rfl rfl ?_
    refine Wk_ren' ⟨[], [(60000, 57)], [], []⟩ rfl ?_
    exact Wk_ret (hfin _ ⟨[100000, 100001, 100002, 100003, 57], [100000], [100000, 100001, 100002, 100003, 57], [], [], [(100001, ⟨1, true, true, true⟩), (100002, ⟨0, true, true, true⟩), (100003, ⟨0, true, true, true⟩)], by first | (rw [← hF]; kernel_rfl) | kernel_rfl⟩)
  · have hF := ite_f hF hb
    refine Wk_skip ?_
    refine Wk_seq ?_
    refine Wk_seq ?_
    obtain ⟨x, h0, hF⟩ := ob_elim hF
    refine ZD [.callB (.bool x)] [0, 3, 31] [3, 100000] [100000, 100001, 100002, 100003] [(31, .bool (!x))] (.cons (slices_Contains_int_int_ok row1 m.From x h0) .nil) ?_
    obtain ⟨v, hv, hF⟩ := ob_elim hF
    refine Wk_meet (⟨[(0, .ptr 100000 0)], [(100000, [.i box, .i box1, .i box2, .i box3, .row 100000 0, .i box4, .i box5, .row 100001 1, .row 100002 0, .row 100003 0])], [(100000, ⟨31, 2, 0, rk, rc, rn, 0, [], (row.map e_Entry)⟩), (100001, ⟨3, 1, 1, rk1, rc1, rn1, 0, [], (v.map e_i64)⟩), (100002, ⟨3, 1, 0, rk2, rc2, rn2, 0, [], (row2.map e_i64)⟩), (100003, ⟨3, 1, 0, rk3, rc3, rn3, 0, [], (row3.map e_i64)⟩)], [], []⟩ : S) ?_ ?_
    · have hF := hv
      refine Wk_split rfl (fun hb => ?_) (fun hb => ?_)
      · have hF := ite_t hF hb
        obtain ⟨h1, hF⟩ := asrt_elim hF
        refine UD [.sealed, .xs ((row1 ++ ([m.From] : List Int)).map e_i64)] [0] [100000] [100000, 100001, 100002, 100003] [] [] [(100000, [.i box, .i box1, .i box2, .i box3, .row 100000 0, .i box4, .i box5, .row 100001 1, .row 100002 0, .row 100003 0])] [(100001, ⟨3, 1, 1, rk1, rc1, rn1, 0, [], ((row1 ++ ([m.From] : List Int)).map e_i64)⟩)] [] (.cons (app_ok e_i64 row1 ([m.From] : List Int)) (.cons (appl_ok e_i64 h1) .nil)) ?_
        exact Wk_met (fs := [0]) (bs := [100000]) (rs := [100000, 100001, 100002, 100003]) (ms := []) (aa := []) (nv := []) (by first | (rw [← some_elim hF]; kernel_rfl) | kernel_rfl)
      · have hF := ite_f hF hb
        refine Wk_skip ?_
        exact Wk_met (fs := [0]) (bs := [100000]) (rs := [100000, 100001, 100002, 100003]) (ms := []) (aa := []) (nv := [(100001, ⟨1, true, true, false⟩)]) (by first | (rw [← some_elim hF]; kernel_rfl) | kernel_rfl)
    · refine Wk_seq ?_
      refine Wk_seq ?_
      obtain ⟨x1, h2, hF⟩ := lt_split hF
      refine ZD [.nat (v.length : Int), .callB (.bool x1)] [0, 53] [100000] [100000, 100001, 100002, 100003] [(53, .bool (!x1))] (.cons (len_ok e_i64 v) (.cons (raft_most_ok (v.length : Int) box x1 h2) .nil)) ?_
      refine Wk_split rfl (fun hb => ?_) (fun hb => ?_)
      · have hF := ite_t hF hb
        refine ZRs [] [4] [100000] [100000, 100001, 100002, 100003] [(4, .nils)] .nil ?_
        have hF := some_elim hF
        refine Wk_nilrow 4 60001 62 9 rfl rfl rfl ?_
        refine Wk_sealBX [] 100000 rfl rfl ?_
        refine Wk_ren' ⟨[], [(60001, 57)], [], []⟩ rfl ?_
        exact Wk_ret (hfin _ ⟨[100000, 100001, 100002, 100003, 57], [100000], [100000, 100001, 100002, 100003, 57], [], [], [(100002, ⟨0, true, true, true⟩), (100003, ⟨0, true, true, true⟩)], by first | (rw [← hF]; kernel_rfl) | kernel_rfl⟩)
      · have hF := ite_f hF hb
        refine Wk_skip ?_
        refine Wk_seq ?_
        obtain ⟨x2, h3, hF⟩ := ob_elim hF
        refine UR [.callE [100000] [100000, 100001, 100002, 100003] [] [] (.tup []) ⟨[], [(100000, [.i x2.1, .i x2.2.1, .i x2.2.2.1, .i x2.2.2.2.1, .row 100000 0, .i x2.2.2.2.2.1, .i x2.2.2.2.2.2.1, .nils, .row 55 0, .row 20055 0])], [(100000, ⟨31, 2, 0, rk, rc, rn, 0, [], (row.map e_Entry)⟩), (100001, ⟨3, 1, 1, rk1, rc1, rn1, 0, [], (v.map e_i64)⟩), (100002, ⟨3, 1, 0, rk2, rc2, rn2, 0, [], (row2.map e_i64)⟩), (100003, ⟨3, 1, 0, rk3, rc3, rn3, 0, [], (row3.map e_i64)⟩), (55, .o 3 1 0 (x2.2.2.2.2.2.2.1.map e_i64)), (20055, .o 3 1 0 (x2.2.2.2.2.2.2.2.map e_i64))], [], []⟩] [0] [100000] [55, 20055, 100000, 100001, 100002, 100003] [] [] [(100000, [.i x2.1, .i x2.2.1, .i x2.2.2.1, .i x2.2.2.2.1, .row 100000 0, .i x2.2.2.2.2.1, .i x2.2.2.2.2.2.1, .nils, .row 55 0, .row 20055 0])] [(55, .o 3 1 0 (x2.2.2.2.2.2.2.1.map e_i64)), (20055, .o 3 1 0 (x2.2.2.2.2.2.2.2.map e_i64))] [] (.cons (Pe.ren (raft_lead_v1_ok box box1 box2 box3 box4 box5 row v row2 row3 rk rc rn rk1 rc1 rn1 rk2 rc2 rn2 rk3 rc3 rn3 x2 h3) ⟨[], [(18, 55), (23, 20055)], [], [(100001, 1)]⟩) .nil) ?_
        refine Wk_seq ?_
        obtain ⟨x3, h4, hF⟩ := ob_elim hF
        refine UR [.callE [100000] [100000, 55, 20055] [] [] (.row 57 0) ⟨[], [(100000, [.i x3.2.1, .i x3.2.2.1, .i x3.2.2.2.1, .i x3.2.2.2.2.1, .sl 2 (x3.2.2.2.2.2.1.map e_Entry), .i x3.2.2.2.2.2.2.1, .i x3.2.2.2.2.2.2.2.1, .nils, .row 55 0, .row 20055 0])], [(100000, ⟨31, 2, 0, (x3.2.2.2.2.2.2.2.2.map e_Entry).length, rc, rn, 0, [], (x3.2.2.2.2.2.2.2.2.map e_Entry)⟩), (55, .o 3 1 0 (x2.2.2.2.2.2.2.1.map e_i64)), (20055, .o 3 1 0 (x2.2.2.2.2.2.2.2.map e_i64)), (57, .z 62 9 0 (x3.1.map e_Mail))], [], []⟩] [4] [100000] [55, 57, 20055, 100000, 100001, 100002, 100003] [] [(4, .row 57 0)] [(100000, [.i x3.2.1, .i x3.2.2.1, .i x3.2.2.2.1, .i x3.2.2.2.2.1, .sl 2 (x3.2.2.2.2.2.1.map e_Entry), .i x3.2.2.2.2.2.2.1, .i x3.2.2.2.2.2.2.2.1, .nils, .row 55 0, .row 20055 0])] [(57, .z 62 9 0 (x3.1.map e_Mail)), (100000, ⟨31, 2, 0, (x3.2.2.2.2.2.2.2.2.map e_Entry).length, rc, rn, 0, [], (x3.2.2.2.2.2.2.2.2.map e_Entry)⟩)] [] (.cons (Pe.ren (raft_beats_v1_ok x2.1 x2.2.1 x2.2.2.1 x2.2.2.2.1 x2.2.2.2.2.1 x2.2.2.2.2.2.1 row x2.2.2.2.2.2.2.1 x2.2.2.2.2.2.2.2 rk rc rn 0 0 false 0 0 false x3 h4) ⟨[], [(100001, 55), (100002, 20055), (5, 57)], [], []⟩) .nil) ?_
        have hF := some_elim hF
        refine Wk_sealBX [] 100000 rfl rfl ?_
        refine Wk_coeB 100000 [.i x3.2.1, .i x3.2.2.1, .i x3.2.2.2.1, .i x3.2.2.2.2.1, .sl 2 (x3.2.2.2.2.2.1.map e_Entry), .i x3.2.2.2.2.2.2.1, .i x3.2.2.2.2.2.2.2.1, .sl 1 (([] : List Int).map e_i64), .sl 1 (x2.2.2.2.2.2.2.1.map e_i64), .sl 1 (x2.2.2.2.2.2.2.2.map e_i64)] rfl (.cons (CoeS.refl _) (.cons (CoeS.refl _) (.cons (CoeS.refl _) (.cons (CoeS.refl _) (.cons (CoeS.refl _) (.cons (CoeS.refl _) (.cons (CoeS.refl _) (.cons (CoeS.nils 1) (.cons (CoeS.refl _) (.cons (CoeS.refl _) .nil)))))))))) ?_
        exact Wk_ret (hfin _ ⟨[100000, 100001, 100002, 100003, 57], [100000], [100000, 100001, 100002, 100003, 57], [], [], [(100001, ⟨1, true, true, true⟩), (100002, ⟨0, true, true, true⟩), (100003, ⟨0, true, true, true⟩)], by first | (rw [← hF]; kernel_rfl) | kernel_rfl⟩)

/- entry.two -/
noncomputable def entry_two (a0 : List Entry) (b : List Entry) : Option Fault :=
  ob (entry_Check a0) fun x =>
  ob (
    if (decide (x.Code = 0)) = true then
      ob (entry_Check b) fun x1 =>
      if (!decide (x1.Code = 0)) = true then
        some (⟨x1.Code, w64 (x1.At - 1000)⟩ : Fault)
      else
        some x1
    else
      some x) fun (v : Fault) =>
  some v
theorem entry_two_ok (a0 : List Entry) (b : List Entry) (r : Fault) (hF : entry_two a0 b = some r) : Pe Try.prog 53 S.none [.sl 2 (a0.map e_Entry), .sl 2 (b.map e_Entry)] (.agg [.i r.Code, .i r.At]) S.none := by
  refine Pe_of (N := 21) (res := [.cell 4 26]) (ts := [26]) Ty.ok Fn.b53 Try.func53 rfl rfl rfl rfl rfl rfl ?_
  intro Q g hfin
  unfold entry_two at hF
  refine URs [] [0, 1, 4] [4] [] [] [(4, .ptr 4 0)] [(4, [.i 0, .i 0])] [] [] .nil ?_
  refine Wk_seq ?_
  obtain ⟨x, h0, hF⟩ := ob_elim hF
  refine UR [.callB (.agg [.i x.Code, .i x.At])] [1, 4, 5] [4, 5] [] [] [(5, .ptr 5 0)] [(5, [.i x.Code, .i x.At])] [] [] (.cons (entry_Check_ok a0 x h0) .nil) ?_
  refine Wk_seq ?_
  refine ZRs [] [1, 4, 5, 10] [4, 5] [] [(10, .bool (decide (x.Code = 0)))] .nil ?_
  obtain ⟨v, hv, hF⟩ := ob_elim hF
  refine Wk_meet (⟨[(4, .ptr 4 0), (5, .ptr 5 0)], [(4, [.i 0, .i 0]), (5, [.i v.Code, .i v.At])], [], [], []⟩ : S) ?_ ?_
  · have hF := hv
    refine Wk_split rfl (fun hb => ?_) (fun hb => ?_)
    · have hF := ite_t hF hb
      refine Wk_seq ?_
      obtain ⟨x1, h1, hF⟩ := ob_elim hF
      refine UR [.callB (.agg [.i x1.Code, .i x1.At])] [4, 5] [4, 5] [] [] [] [(5, [.i x1.Code, .i x1.At])] [] [] (.cons (entry_Check_ok b x1 h1) .nil) ?_
      refine ZRs [] [4, 5, 15] [4, 5] [] [(15, .bool (!decide (x1.Code = 0)))] .nil ?_
      refine Wk_split rfl (fun hb => ?_) (fun hb => ?_)
      · have hF := ite_t hF hb
        refine UR [] [4, 5] [4, 5] [] [] [] [(5, [.i x1.Code, .i (w64 (x1.At - 1000))])] [] [] .nil ?_
        exact Wk_met (fs := [4, 5]) (bs := [4, 5]) (rs := []) (ms := []) (aa := []) (nv := []) (by first | (rw [← some_elim hF]; kernel_rfl) | kernel_rfl)
      · have hF := ite_f hF hb
        refine Wk_skip ?_
        exact Wk_met (fs := [4, 5]) (bs := [4, 5]) (rs := []) (ms := []) (aa := []) (nv := []) (by first | (rw [← some_elim hF]; kernel_rfl) | kernel_rfl)
    · have hF := ite_f hF hb
      refine Wk_skip ?_
      exact Wk_met (fs := [4, 5]) (bs := [4, 5]) (rs := []) (ms := []) (aa := []) (nv := []) (by first | (rw [← some_elim hF]; kernel_rfl) | kernel_rfl)
  · refine URs [] [4] [4] [] [] [] [(4, [.i v.Code, .i v.At])] [] [] .nil ?_
    have hF := some_elim hF
    exact Wk_ret (hfin _ ⟨[], [], [], [], [], [], by first | (rw [← hF]; kernel_rfl) | kernel_rfl⟩)

/- entry.number -/
noncomputable def entry_number (num : Int) : Bool :=
  (decide (0 ≤ num)) && (decide (num ≤ 1000000000))
theorem entry_number_ok (num : Int) (r : Bool) (hF : entry_number num = r) : Pe Try.prog 89 S.none [.i num] (.bool r) S.none := by
  refine Pe_of (N := 9) (res := [.tmp 2]) (ts := [4]) Ty.ok Fn.b89 Try.func89 rfl rfl rfl rfl rfl rfl ?_
  intro Q g hfin
  unfold entry_number at hF
  refine ZRs [] [0] [] [] [] .nil ?_
  refine ZRs [] [2] [] [] [(2, .bool ((decide (0 ≤ num)) && (decide (num ≤ 1000000000))))] .nil ?_
  exact Wk_ret (hfin _ ⟨[], [], [], [], [], [], by first | (rw [← hF]; kernel_rfl) | kernel_rfl⟩)

/- entry.ranged -/
noncomputable def entry_ranged (num : Int) (term : Int) : Fault :=
  lt (entry_number num) fun x =>
  if (!x) = true then
    lt (entry_fault 3 (-1)) fun x1 =>
    x1
  else
    lt (entry_number term) fun x2 =>
    if (!x2) = true then
      lt (entry_fault 3 (-2)) fun x3 =>
      x3
    else
      (⟨0, 0⟩ : Fault)
theorem entry_ranged_ok (num : Int) (term : Int) (r : Fault) (hF : entry_ranged num term = r) : Pe Try.prog 54 S.none [.i num, .i term] (.agg [.i r.Code, .i r.At]) S.none := by
  refine Pe_of (N := 14) (res := [.cell 4 26]) (ts := [26]) Ty.ok Fn.b54 Try.func54 rfl rfl rfl rfl rfl rfl ?_
  intro Q g hfin
  unfold entry_ranged at hF
  refine URs [] [0, 1, 4] [4] [] [] [(4, .ptr 4 0)] [(4, [.i 0, .i 0])] [] [] .nil ?_
  refine Wk_seq ?_
  refine Wk_seq ?_
  obtain ⟨x, h0, hF⟩ := lt_split hF
  refine ZR [.callB (.bool x)] [1, 4, 7] [4] [] [(7, .bool (!x))] (.cons (entry_number_ok num x h0) .nil) ?_
  refine Wk_split rfl (fun hb => ?_) (fun hb => ?_)
  · have hF := ite_t hF hb
    refine Wk_seq ?_
    obtain ⟨x1, h1, hF⟩ := lt_split hF
    refine UR [.callB (.agg [.i x1.Code, .i x1.At])] [4] [4] [] [] [] [(4, [.i x1.Code, .i x1.At])] [] [] (.cons (entry_fault_ok 3 (-1) x1 h1) .nil) ?_
    exact Wk_ret (hfin _ ⟨[], [], [], [], [], [], by first | (rw [← hF]; kernel_rfl) | kernel_rfl⟩)
  · have hF := ite_f hF hb
    refine Wk_skip ?_
    refine Wk_seq ?_
    refine Wk_seq ?_
    obtain ⟨x2, h2, hF⟩ := lt_split hF
    refine ZR [.callB (.bool x2)] [4, 11] [4] [] [(11, .bool (!x2))] (.cons (entry_number_ok term x2 h2) .nil) ?_
    refine Wk_split rfl (fun hb => ?_) (fun hb => ?_)
    · have hF := ite_t hF hb
      refine Wk_seq ?_
      obtain ⟨x3, h3, hF⟩ := lt_split hF
      refine UR [.callB (.agg [.i x3.Code, .i x3.At])] [4] [4] [] [] [] [(4, [.i x3.Code, .i x3.At])] [] [] (.cons (entry_fault_ok 3 (-2) x3 h3) .nil) ?_
      exact Wk_ret (hfin _ ⟨[], [], [], [], [], [], by first | (rw [← hF]; kernel_rfl) | kernel_rfl⟩)
    · have hF := ite_f hF hb
      refine Wk_skip ?_
      refine ZRs [] [4] [4] [] [] .nil ?_
      exact Wk_ret (hfin _ ⟨[], [], [], [], [], [], by first | (rw [← hF]; kernel_rfl) | kernel_rfl⟩)

/- entry.Fits -/
noncomputable def entry_Fits (l : List Entry) (at0 : Int) (term : Int) : Option Bool :=
  ob (if (decide (at0 ≤ (l.length : Int))) = true then (entry_TermAt l at0) else some default) fun x =>
  some ((decide (at0 ≤ (l.length : Int))) && (decide (x = term)))
theorem entry_Fits_ok (l : List Entry) (at0 : Int) (term : Int) (r : Bool) (hF : entry_Fits l at0 term = some r) : Pe Try.prog 56 S.none [.sl 2 (l.map e_Entry), .i at0, .i term] (.bool r) S.none := by
  refine Pe_of (N := 18) (res := [.tmp 6]) (ts := [4]) Ty.ok Fn.b56 Try.func56 rfl rfl rfl rfl rfl rfl ?_
  intro Q g hfin
  unfold entry_Fits at hF
  refine ZRs [] [0, 1, 2] [] [] [] .nil ?_
  refine Wk_seq ?_
  obtain ⟨x, h0, hF⟩ := ob_elim hF
  refine ZR [.nat (l.length : Int), .callB (.i x)] [6] [] [] [(6, .bool ((decide (at0 ≤ (l.length : Int))) && (decide (x = term))))] (.cons (len_ok e_Entry l) (.cons (fun (ga0 : (decide (at0 ≤ (l.length : Int))) = true) => (entry_TermAt_ok l at0 x (ite_t h0 ga0))) .nil)) ?_
  have hF := some_elim hF
  exact Wk_ret (hfin _ ⟨[], [], [], [], [], [], by first | (rw [← hF]; kernel_rfl) | kernel_rfl⟩)

/- entry.Put -/
noncomputable def entry_Put_J1 (v1 : List Entry) : Option (List Entry × Bool × Fault) :=
  ob (entry_Check v1) fun x4 =>
  if (!decide (x4.Code = 0)) = true then
    lt (entry_fault x4.Code (-1)) fun x5 =>
    some (([] : List Entry), false, x5)
  else
    some (v1, true, x4)
noncomputable def entry_Put_B1 (at0 : Int) (more : List Entry) (v2 : List Entry × Int) : Option ((List Entry × Int) ⊕ (List Entry × Bool × Fault)) :=
  if (decide (v2.2 < (more.length : Int))) = true then
    ob (
      asrt (0 ≤ v2.2 ∧ v2.2 < (more.length : Int)) <|
      asrt ((decide ((w64 (at0 + v2.2)) < (v2.1.length : Int))) = true → 0 ≤ w64 (at0 + v2.2) ∧ w64 (at0 + v2.2) < (v2.1.length : Int)) <|
      asrt ((decide ((w64 (at0 + v2.2)) < (v2.1.length : Int))) = true → 0 ≤ w64 (at0 + v2.2) ∧ w64 (at0 + v2.2) < (v2.1.length : Int)) <|
      if ((decide ((w64 (at0 + v2.2)) < (v2.1.length : Int))) && (decide (((lget v2.1 (w64 (at0 + v2.2))).Term) = ((lget more v2.2).Term)))) = true then
        some v2.1
      else
        asrt (0 ≤ (min (w64 (at0 + v2.2)) (v2.1.length : Int)) ∧ (min (w64 (at0 + v2.2)) (v2.1.length : Int)) ≤ (v2.1.length : Int)) <|
        asrt (((v2.1.take ((min (w64 (at0 + v2.2)) (v2.1.length : Int)).toNat) ++ [(⟨(lget more v2.2).Term, (lget more v2.2).Text⟩ : Entry)]).length : Int) * 24 ≤ 140737488351232) <|
        asrt (((min (w64 (at0 + v2.2)) (v2.1.length : Int)).toNat) ≤ v2.1.length) <|
        lt ((v2.1.take ((min (w64 (at0 + v2.2)) (v2.1.length : Int)).toNat) ++ [(⟨(lget more v2.2).Term, (lget more v2.2).Text⟩ : Entry)])) fun (v4 : List Entry) =>
        some v4) fun (v3 : List Entry) =>
    some (Sum.inl (v3, w64 (v2.2 + 1)))
  else
    inrO (entry_Put_J1 v2.1)
noncomputable def entry_Put_L1 (at0 : Int) (more : List Entry) (v0 : List Entry × Int) : Option (List Entry × Bool × Fault) :=
  loopO (fun y => entry_Put_B1 at0 more y) v0
noncomputable def entry_Put (l : List Entry) (at0 : Int) (term : Int) (more : List Entry) : Option (List Entry × Bool × Fault) :=
  ob (entry_two l more) fun x =>
  ob (
    if (decide (x.Code = 0)) = true then
      lt (entry_ranged at0 term) fun x1 =>
      some x1
    else
      some x) fun (v : Fault) =>
  if (!decide (v.Code = 0)) = true then
    some (([] : List Entry), false, v)
  else
    ob (slices_Clone_api_Entry_api_Entry l) fun x2 =>
    ob (entry_Fits l at0 term) fun x3 =>
    if (!x3) = true then
      some (x2, false, v)
    else
      entry_Put_L1 at0 more (x2, 0)
theorem entry_Put_ok (l : List Entry) (at0 : Int) (term : Int) (more : List Entry) (r : List Entry × Bool × Fault) (hF : entry_Put l at0 term more = some r) : Pe Try.prog 15 ⟨[], [], [], [], []⟩ [.sl 2 (l.map e_Entry), .i at0, .i term, .sl 2 (more.map e_Entry)] (.tup [.row 30 0, .bool r.2.1, .agg [.i r.2.2.Code, .i r.2.2.At]]) ⟨[], [], [(30, .o 31 2 0 (r.1.map e_Entry))], [], []⟩ := by
  refine Pe_of (N := 82) (res := [.tmp 8, .tmp 9, .cell 10 26]) (ts := [22, 4, 26]) Ty.ok Fn.b15 Try.func15 rfl rfl rfl rfl rfl rfl ?_
  intro Q g hfin
  unfold entry_Put at hF
  refine URs [] [0, 1, 2, 3, 10] [10] [] [] [(10, .ptr 10 0)] [(10, [.i 0, .i 0])] [] [] .nil ?_
  refine Wk_seq ?_
  obtain ⟨x, h0, hF⟩ := ob_elim hF
  refine UR [.callB (.agg [.i x.Code, .i x.At])] [0, 1, 2, 3, 10, 11] [10, 11] [] [] [(11, .ptr 11 0)] [(11, [.i x.Code, .i x.At])] [] [] (.cons (entry_two_ok l more x h0) .nil) ?_
  refine Wk_seq ?_
  refine ZRs [] [0, 1, 2, 3, 10, 11, 21] [10, 11] [] [(21, .bool (decide (x.Code = 0)))] .nil ?_
  obtain ⟨v, hv, hF⟩ := ob_elim hF
  refine Wk_meet (⟨[(0, .sl 2 (l.map e_Entry)), (1, .i at0), (2, .i term), (3, .sl 2 (more.map e_Entry)), (10, .ptr 10 0), (11, .ptr 11 0)], [(10, [.i 0, .i 0]), (11, [.i v.Code, .i v.At])], [], [], []⟩ : S) ?_ ?_
  · have hF := hv
    refine Wk_split rfl (fun hb => ?_) (fun hb => ?_)
    · have hF := ite_t hF hb
      obtain ⟨x1, h1, hF⟩ := lt_split hF
      refine UR [.callB (.agg [.i x1.Code, .i x1.At])] [0, 1, 2, 3, 10, 11] [10, 11] [] [] [] [(11, [.i x1.Code, .i x1.At])] [] [] (.cons (entry_ranged_ok at0 term x1 h1) .nil) ?_
      exact Wk_met (fs := [0, 1, 2, 3, 10, 11]) (bs := [10, 11]) (rs := []) (ms := []) (aa := []) (nv := []) (by first | (rw [← some_elim hF]; kernel_rfl) | kernel_rfl)
    · have hF := ite_f hF hb
      refine Wk_skip ?_
      exact Wk_met (fs := [0, 1, 2, 3, 10, 11]) (bs := [10, 11]) (rs := []) (ms := []) (aa := []) (nv := []) (by first | (rw [← some_elim hF]; kernel_rfl) | kernel_rfl)
  · refine Wk_seq ?_
    refine ZRs [] [0, 1, 2, 3, 10, 11, 27] [10, 11] [] [(27, .bool (!decide (v.Code = 0)))] .nil ?_
    refine Wk_split rfl (fun hb => ?_) (fun hb => ?_)
    · have hF := ite_t hF hb
      refine UDs [] [8, 9, 10] [10] [] [] [(8, .nils), (9, .bool false)] [(10, [.i v.Code, .i v.At])] [] [] .nil ?_
      have hF := some_elim hF
      refine Wk_nilrow 8 60000 31 2 rfl rfl rfl ?_
      refine Wk_ren' ⟨[], [(60000, 30)], [], []⟩ rfl ?_
      exact Wk_ret (hfin _ ⟨[30], [], [30], [], [], [(30, ⟨0, true, false, false⟩)], by first | (rw [← hF]; kernel_rfl) | kernel_rfl⟩)
    · have hF := ite_f hF hb
      refine Wk_skip ?_
      refine Wk_seq ?_
      obtain ⟨x2, h2, hF⟩ := ob_elim hF
      refine UR [.callE [] [] [] [] (.row 30 0) ⟨[], [], [(30, .o 31 2 0 (x2.map e_Entry))], [], []⟩] [0, 1, 2, 3, 10, 11, 12] [10, 11] [30] [] [(12, .row 30 0)] [] [(30, .o 31 2 0 (x2.map e_Entry))] [] (.cons (Pe.ren (slices_Clone_api_Entry_api_Entry_ok l x2 h2) ⟨[], [(5, 30)], [], []⟩) .nil) ?_
      refine Wk_seq ?_
      refine Wk_seq ?_
      obtain ⟨x3, h3, hF⟩ := ob_elim hF
      refine ZR [.callB (.bool x3)] [1, 3, 10, 11, 12, 35] [10, 11] [30] [(35, .bool (!x3))] (.cons (entry_Fits_ok l at0 term x3 h3) .nil) ?_
      refine Wk_split rfl (fun hb => ?_) (fun hb => ?_)
      · have hF := ite_t hF hb
        refine UDs [] [8, 9, 10] [10] [30] [] [(8, .row 30 0), (9, .bool false)] [(10, [.i v.Code, .i v.At])] [] [] .nil ?_
        have hF := some_elim hF
        exact Wk_ret (hfin _ ⟨[30], [], [30], [], [], [], by first | (rw [← hF]; kernel_rfl) | kernel_rfl⟩)
      · have hF := ite_f hF hb
        refine Wk_skip ?_
        refine Wk_seq ?_
        refine ZRs [.nat (more.length : Int)] [1, 10, 11, 12, 38, 39, 40] [10, 11] [30] [(38, .sl 2 (more.map e_Entry)), (39, .i (more.length : Int)), (40, .i 0)] (.cons (len_ok e_Entry more) .nil) ?_
        refine Wk_meetP (fun v1 : List Entry => (⟨[(10, .ptr 10 0), (11, .ptr 11 0), (12, .row 30 0)], [(10, [.i 0, .i 0]), (11, [.i v.Code, .i v.At])], [(30, .o 31 2 0 (v1.map e_Entry))], [], []⟩ : S)) (fun v1 => entry_Put_J1 v1 = some r) ?_ ?_
        · refine Wk_block ?_
          unfold entry_Put_L1 at hF
          refine Wk_trim (fs := [1, 10, 11, 12, 38, 39, 40]) (bs := [10, 11]) (rs := [30]) (ms := []) (aa := []) (nv := []) (t := (fun v2 : List Entry × Int => (⟨[(1, .i at0), (10, .ptr 10 0), (11, .ptr 11 0), (12, .row 30 0), (38, .sl 2 (more.map e_Entry)), (39, .i (more.length : Int)), (40, .i v2.2)], [(10, [.i 0, .i 0]), (11, [.i v.Code, .i v.At])], [(30, .o 31 2 0 (v2.1.map e_Entry))], [], []⟩ : S)) (x2, 0)) (by kernel_rfl) ?_
          refine Wk_iter (step := fun y => entry_Put_B1 at0 more y) (r := r) (fun v2 : List Entry × Int => (⟨[(1, .i at0), (10, .ptr 10 0), (11, .ptr 11 0), (12, .row 30 0), (38, .sl 2 (more.map e_Entry)), (39, .i (more.length : Int)), (40, .i v2.2)], [(10, [.i 0, .i 0]), (11, [.i v.Code, .i v.At])], [(30, .o 31 2 0 (v2.1.map e_Entry))], [], []⟩ : S)) (x2, 0) hF ?_
          intro n1 v2 y1 hF ih1 dn1
          have hF : entry_Put_B1 at0 more v2 = some y1 := hF
          unfold entry_Put_B1 at hF
          refine ZRs [] [1, 10, 11, 12, 38, 39, 40, 41] [10, 11] [30] [(41, .bool (decide (v2.2 < (more.length : Int))))] .nil ?_
          refine Wk_seq ?_
          refine Wk_split rfl (fun hb => ?_) (fun hb => ?_)
          · have hF := ite_t hF hb
            refine Wk_skip ?_
            refine Wk_seq ?_
            obtain ⟨v3, hv, hF⟩ := ob_elim hF
            refine Wk_meet (⟨[(1, .i at0), (10, .ptr 10 0), (11, .ptr 11 0), (12, .row 30 0), (38, .sl 2 (more.map e_Entry)), (39, .i (more.length : Int)), (40, .i v2.2)], [(10, [.i 0, .i 0]), (11, [.i v.Code, .i v.At])], [(30, .o 31 2 0 (v3.map e_Entry))], [], []⟩ : S) ?_ ?_
            · have hF := hv
              refine Wk_block ?_
              refine Wk_seq ?_
              obtain ⟨h6, hF⟩ := asrt_elim hF
              refine UR [.av (e_Entry (lget more v2.2))] [1, 10, 11, 12, 13, 14, 38, 39, 40] [10, 11, 14] [30] [] [(13, .i v2.2), (14, .ptr 14 0)] [(14, [.i ((lget more v2.2).Term), .str ((lget more v2.2).Text)])] [] [] (.cons (idx_ok e_Entry h6) .nil) ?_
              refine ZRs [] [1, 10, 11, 12, 14, 15, 38, 39, 40] [10, 11, 14] [30] [(15, .i (w64 (at0 + v2.2)))] .nil ?_
              refine Wk_seq ?_
              refine Wk_seq ?_
              obtain ⟨h7, hF⟩ := asrt_elim hF
              obtain ⟨h8, hF⟩ := asrt_elim hF
              refine ZD [.nat (v2.1.length : Int), .av (e_Entry (lget v2.1 (w64 (at0 + v2.2))))] [1, 10, 11, 12, 14, 15, 38, 39, 40, 61] [10, 11, 14] [30] [(61, .bool ((decide ((w64 (at0 + v2.2)) < (v2.1.length : Int))) && (decide (((lget v2.1 (w64 (at0 + v2.2))).Term) = ((lget more v2.2).Term)))))] (.cons (len_ok e_Entry v2.1) (.cons (fun (ga0 : (decide ((w64 (at0 + v2.2)) < (v2.1.length : Int))) = true) => (ixr_ok e_Entry (h7 ga0))) (.cons (fun (ga0 : (decide ((w64 (at0 + v2.2)) < (v2.1.length : Int))) = true) => (ldr_ok e_Entry (h8 ga0))) .nil))) ?_
              refine Wk_split rfl (fun hb => ?_) (fun hb => ?_)
              · have hF := ite_t hF hb
                refine Wk_exit rfl ?_
                exact Wk_met (fs := [1, 10, 11, 12, 38, 39, 40]) (bs := [10, 11]) (rs := [30]) (ms := []) (aa := []) (nv := []) (by first | (rw [← some_elim hF]; kernel_rfl) | kernel_rfl)
              · have hF := ite_f hF hb
                refine Wk_skip ?_
                obtain ⟨h9, hF⟩ := asrt_elim hF
                obtain ⟨h10, hF⟩ := asrt_elim hF
                obtain ⟨h11, hF⟩ := asrt_elim hF
                refine WDL ((v2.1.take ((min (w64 (at0 + v2.2)) (v2.1.length : Int)).toNat) ++ [(⟨(lget more v2.2).Term, (lget more v2.2).Text⟩ : Entry)])) (fun v4 : List Entry => ⟨[(1, .i at0), (10, .ptr 10 0), (11, .ptr 11 0), (12, .row 30 1), (38, .sl 2 (more.map e_Entry)), (39, .i (more.length : Int)), (40, .i v2.2)], [(10, [.i 0, .i 0]), (11, [.i v.Code, .i v.At])], [(30, ⟨31, 2, 1, 0, (v2.1.map e_Entry).length, false, 0, [], (v4.map e_Entry)⟩)], [], []⟩) [.nat (v2.1.length : Int), .vw ((min (w64 (at0 + v2.2)) (v2.1.length : Int)).toNat), .sealed, .xs ((v2.1.take ((min (w64 (at0 + v2.2)) (v2.1.length : Int)).toNat) ++ [(⟨(lget more v2.2).Term, (lget more v2.2).Text⟩ : Entry)]).map e_Entry)] [1, 10, 11, 12, 38, 39, 40] [10, 11] [30] [] [] [] (.cons (len_ok e_Entry v2.1) (.cons (vw01_ok (cm := 0) e_Entry h9) (.cons (tap_ok e_Entry v2.1 ((min (w64 (at0 + v2.2)) (v2.1.length : Int)).toNat) [(⟨(lget more v2.2).Term, (lget more v2.2).Text⟩ : Entry)]) (.cons (appl_ok e_Entry h10) (.cons (tk_ok e_Entry h11) .nil))))) (by kernel_rfl) (fun v4 hv => ?_)
                have hF := lt_elim hF hv
                refine Wk_blk ?_
                exact Wk_met (fs := [1, 10, 11, 12, 38, 39, 40]) (bs := [10, 11]) (rs := [30]) (ms := []) (aa := []) (nv := [(30, ⟨0, false, true, false⟩)]) (by first | (rw [← some_elim hF]; kernel_rfl) | kernel_rfl)
            · refine ZR [] [1, 10, 11, 12, 38, 39, 40] [10, 11] [30] [(40, .i (w64 (v2.2 + 1)))] .nil ?_
              refine Wk_trim (fs := [1, 10, 11, 12, 38, 39, 40]) (bs := [10, 11]) (rs := [30]) (ms := []) (aa := []) (nv := []) ?_ (ih1 _ (some_elim hF).symm)
              kernel_rfl
          · have hF := ite_f hF hb
            refine Wk_exit rfl ?_
            have hF := inrO_done hF dn1
            exact Wk_metP v2.1 [10, 11, 12] [10, 11] [30] [] [] [] hF (by kernel_rfl)
        · intro v1 hF
          have hF : entry_Put_J1 v1 = some r := hF
          unfold entry_Put_J1 at hF
          refine Wk_seq ?_
          refine Wk_seq ?_
          obtain ⟨x4, h4, hF⟩ := ob_elim hF
          refine UR [.callB (.agg [.i x4.Code, .i x4.At])] [10, 11, 12] [10, 11] [30] [] [] [(11, [.i x4.Code, .i x4.At])] [] [] (.cons (entry_Check_ok v1 x4 h4) .nil) ?_
          refine ZRs [] [10, 11, 12, 76] [10, 11] [30] [(76, .bool (!decide (x4.Code = 0)))] .nil ?_
          refine Wk_split rfl (fun hb => ?_) (fun hb => ?_)
          · have hF := ite_t hF hb
            refine Wk_seq ?_
            obtain ⟨x5, h5, hF⟩ := lt_split hF
            refine UR [.callB (.agg [.i x5.Code, .i x5.At])] [8, 9, 10] [10] [] [] [(8, .nils), (9, .bool false)] [(10, [.i x5.Code, .i x5.At])] [] [] (.cons (entry_fault_ok x4.Code (-1) x5 h5) .nil) ?_
            have hF := some_elim hF
            refine Wk_nilrow 8 60001 31 2 rfl rfl rfl ?_
            refine Wk_ren' ⟨[], [(60001, 30)], [], []⟩ rfl ?_
            exact Wk_ret (hfin _ ⟨[30], [], [30], [], [], [(30, ⟨0, true, false, false⟩)], by first | (rw [← hF]; kernel_rfl) | kernel_rfl⟩)
          · have hF := ite_f hF hb
            refine Wk_skip ?_
            refine UDs [] [8, 9, 10] [10] [30] [] [(8, .row 30 0), (9, .bool true)] [(10, [.i x4.Code, .i x4.At])] [] [] .nil ?_
            have hF := some_elim hF
            exact Wk_ret (hfin _ ⟨[30], [], [30], [], [], [], by first | (rw [← hF]; kernel_rfl) | kernel_rfl⟩)

/- raft.answer -/
noncomputable def raft_answer_v1 (m : Mail) (kind : Int) (ok : Bool) (a0 : Int) (box : Int) (box1 : Int) (box2 : Int) (box3 : Int) (box4 : Int) (box5 : Int) (row : List Entry) : List Mail :=
  [(⟨kind, box1, m.From, box2, a0, 0, 0, ([] : List Entry), ok⟩ : Mail)]
theorem raft_answer_v1_ok (m : Mail) (kind : Int) (ok : Bool) (a0 : Int) (box : Int) (box1 : Int) (box2 : Int) (box3 : Int) (box4 : Int) (box5 : Int) (row : List Entry) (rk : Nat) (rc : Nat) (rn : Bool) (r : List Mail) (hF : raft_answer_v1 m kind ok a0 box box1 box2 box3 box4 box5 row = r) : Pe Try.prog 92 ⟨[], [(100000, [.i box, .i box1, .i box2, .i box3, .row 100000 0, .i box4, .i box5, .nils, .nils, .nils])], [(100000, ⟨31, 2, 0, rk, rc, rn, 0, [], (row.map e_Entry)⟩)], [], []⟩ [.ptr 100000 0, .agg (c_Mail m), .i kind, .bool ok, .i a0] (.sl 9 (r.map e_Mail)) ⟨[], [(100000, [.i box, .i box1, .i box2, .i box3, .row 100000 0, .i box4, .i box5, .nils, .nils, .nils])], [(100000, ⟨31, 2, 0, rk, rc, rn, 0, [], (row.map e_Entry)⟩)], [], []⟩ := by
  refine Pe_of (N := 26) (res := [.tmp 10]) (ts := [50]) Ty.ok Fn.b92 Try.func92 rfl rfl rfl rfl rfl rfl ?_
  intro Q g hfin
  unfold raft_answer_v1 at hF
  refine URs [] [0, 2, 3, 4, 6] [6, 100000] [100000] [] [(6, .ptr 6 0)] [(6, (c_Mail m))] [] [] .nil ?_
  refine ZDs [.sealed] [10] [100000] [100000] [(10, .sl 9 ([(⟨kind, box1, m.From, box2, a0, 0, 0, ([] : List Entry), ok⟩ : Mail)].map e_Mail))] .nil ?_
  exact Wk_ret (hfin _ ⟨[100000], [100000], [100000], [], [], [], by first | (rw [← hF]; kernel_rfl) | kernel_rfl⟩)

/- slices.Equal[[]api.Entry,api.Entry] -/
noncomputable def slices_Equal_api_Entry_api_Entry_J1 (v : Unit) : Option Bool :=
  some true
noncomputable def slices_Equal_api_Entry_api_Entry_B1 (s1 : List Entry) (s2 : List Entry) (v1 : Int) : Option (Int ⊕ Bool) :=
  if (decide (v1 < (s1.length : Int))) = true then
    asrt (0 ≤ v1 ∧ v1 < (s1.length : Int)) <|
    asrt (0 ≤ v1 ∧ v1 < (s2.length : Int)) <|
    if (!(decide ((lget s1 v1).Term = (lget s2 v1).Term) && (decide ((lget s1 v1).Text = (lget s2 v1).Text) && true))) = true then
      some (Sum.inr false)
    else
      some (Sum.inl (w64 (v1 + 1)))
  else
    inrO (slices_Equal_api_Entry_api_Entry_J1 ())
noncomputable def slices_Equal_api_Entry_api_Entry_L1 (s1 : List Entry) (s2 : List Entry) (v0 : Int) : Option Bool :=
  loopO (fun y => slices_Equal_api_Entry_api_Entry_B1 s1 s2 y) v0
noncomputable def slices_Equal_api_Entry_api_Entry (s1 : List Entry) (s2 : List Entry) : Option Bool :=
  if (!decide ((s1.length : Int) = (s2.length : Int))) = true then
    some false
  else
    slices_Equal_api_Entry_api_Entry_L1 s1 s2 0
theorem slices_Equal_api_Entry_api_Entry_ok (s1 : List Entry) (s2 : List Entry) (r : Bool) (hF : slices_Equal_api_Entry_api_Entry s1 s2 = some r) : Pe Try.prog 94 S.none [.sl 2 (s1.map e_Entry), .sl 2 (s2.map e_Entry)] (.bool r) S.none := by
  refine Pe_of (N := 26) (res := [.tmp 4]) (ts := [4]) Ty.ok Fn.b94 Try.func94 rfl rfl rfl rfl rfl rfl ?_
  intro Q g hfin
  unfold slices_Equal_api_Entry_api_Entry at hF
  refine ZRs [] [0, 1] [] [] [] .nil ?_
  refine Wk_seq ?_
  refine ZRs [.nat (s1.length : Int), .nat (s2.length : Int)] [0, 1, 10] [] [] [(10, .bool (!decide ((s1.length : Int) = (s2.length : Int))))] (.cons (len_ok e_Entry s1) (.cons (len_ok e_Entry s2) .nil)) ?_
  refine Wk_split rfl (fun hb => ?_) (fun hb => ?_)
  · have hF := ite_t hF hb
    refine ZRs [] [4] [] [] [(4, .bool false)] .nil ?_
    have hF := some_elim hF
    exact Wk_ret (hfin _ ⟨[], [], [], [], [], [], by first | (rw [← hF]; kernel_rfl) | kernel_rfl⟩)
  · have hF := ite_f hF hb
    refine Wk_skip ?_
    refine Wk_seq ?_
    refine ZRs [.nat (s1.length : Int)] [0, 1, 12, 13] [] [] [(12, .i (s1.length : Int)), (13, .i 0)] (.cons (len_ok e_Entry s1) .nil) ?_
    refine Wk_meetP (fun v : Unit => (⟨[], [], [], [], []⟩ : S)) (fun v => slices_Equal_api_Entry_api_Entry_J1 v = some r) ?_ ?_
    · refine Wk_block ?_
      unfold slices_Equal_api_Entry_api_Entry_L1 at hF
      refine Wk_trim (fs := [0, 1, 12, 13]) (bs := []) (rs := []) (ms := []) (aa := []) (nv := []) (t := (fun v1 : Int => (⟨[(0, .sl 2 (s1.map e_Entry)), (1, .sl 2 (s2.map e_Entry)), (12, .i (s1.length : Int)), (13, .i v1)], [], [], [], []⟩ : S)) 0) (by kernel_rfl) ?_
      refine Wk_iter (step := fun y => slices_Equal_api_Entry_api_Entry_B1 s1 s2 y) (r := r) (fun v1 : Int => (⟨[(0, .sl 2 (s1.map e_Entry)), (1, .sl 2 (s2.map e_Entry)), (12, .i (s1.length : Int)), (13, .i v1)], [], [], [], []⟩ : S)) 0 hF ?_
      intro n1 v1 y1 hF ih1 dn1
      have hF : slices_Equal_api_Entry_api_Entry_B1 s1 s2 v1 = some y1 := hF
      unfold slices_Equal_api_Entry_api_Entry_B1 at hF
      refine ZRs [] [0, 1, 12, 13, 14] [] [] [(14, .bool (decide (v1 < (s1.length : Int))))] .nil ?_
      refine Wk_seq ?_
      refine Wk_split rfl (fun hb => ?_) (fun hb => ?_)
      · have hF := ite_t hF hb
        refine Wk_skip ?_
        refine Wk_seq ?_
        refine Wk_block ?_
        refine ZRs [] [0, 1, 5, 12, 13] [] [] [(5, .i v1)] .nil ?_
        refine Wk_seq ?_
        obtain ⟨h0, hF⟩ := asrt_elim hF
        obtain ⟨h1, hF⟩ := asrt_elim hF
        refine ZD [.av (e_Entry (lget s1 v1)), .av (e_Entry (lget s2 v1))] [0, 1, 12, 13, 24] [] [] [(24, .bool (!(decide ((lget s1 v1).Term = (lget s2 v1).Term) && (decide ((lget s1 v1).Text = (lget s2 v1).Text) && true))))] (.cons (idx_ok e_Entry h0) (.cons (idx_ok e_Entry h1) .nil)) ?_
        refine Wk_split rfl (fun hb => ?_) (fun hb => ?_)
        · have hF := ite_t hF hb
          refine ZRs [] [4] [] [] [(4, .bool false)] .nil ?_
          have hF := ret_done hF dn1
          have hF := some_elim hF
          exact Wk_ret (hfin _ ⟨[], [], [], [], [], [], by first | (rw [← hF]; kernel_rfl) | kernel_rfl⟩)
        · have hF := ite_f hF hb
          refine Wk_skip ?_
          refine Wk_blk ?_
          refine ZR [] [0, 1, 12, 13] [] [] [(13, .i (w64 (v1 + 1)))] .nil ?_
          refine Wk_trim (fs := [0, 1, 12, 13]) (bs := []) (rs := []) (ms := []) (aa := []) (nv := []) ?_ (ih1 _ (some_elim hF).symm)
          kernel_rfl
      · have hF := ite_f hF hb
        refine Wk_exit rfl ?_
        have hF := inrO_done hF dn1
        exact Wk_metP () [] [] [] [] [] [] hF (by kernel_rfl)
    · intro v hF
      have hF : slices_Equal_api_Entry_api_Entry_J1 v = some r := hF
      unfold slices_Equal_api_Entry_api_Entry_J1 at hF
      refine ZRs [] [4] [] [] [(4, .bool true)] .nil ?_
      have hF := some_elim hF
      exact Wk_ret (hfin _ ⟨[], [], [], [], [], [], by first | (rw [← hF]; kernel_rfl) | kernel_rfl⟩)

/- raft.answer -/
noncomputable def raft_answer_v2 (m : Mail) (kind : Int) (ok : Bool) (a0 : Int) (box : Int) (box1 : Int) (box2 : Int) (box3 : Int) (box4 : List Entry) (box5 : Int) (box6 : Int) : List Mail :=
  [(⟨kind, box1, m.From, box2, a0, 0, 0, ([] : List Entry), ok⟩ : Mail)]
theorem raft_answer_v2_ok (m : Mail) (kind : Int) (ok : Bool) (a0 : Int) (box : Int) (box1 : Int) (box2 : Int) (box3 : Int) (box4 : List Entry) (box5 : Int) (box6 : Int) (r : List Mail) (hF : raft_answer_v2 m kind ok a0 box box1 box2 box3 box4 box5 box6 = r) : Pe Try.prog 92 ⟨[], [(100000, [.i box, .i box1, .i box2, .i box3, .sl 2 (box4.map e_Entry), .i box5, .i box6, .nils, .nils, .nils])], [], [], []⟩ [.ptr 100000 0, .agg (c_Mail m), .i kind, .bool ok, .i a0] (.sl 9 (r.map e_Mail)) ⟨[], [(100000, [.i box, .i box1, .i box2, .i box3, .sl 2 (box4.map e_Entry), .i box5, .i box6, .nils, .nils, .nils])], [], [], []⟩ := by
  refine Pe_of (N := 26) (res := [.tmp 10]) (ts := [50]) Ty.ok Fn.b92 Try.func92 rfl rfl rfl rfl rfl rfl ?_
  intro Q g hfin
  unfold raft_answer_v2 at hF
  refine URs [] [0, 2, 3, 4, 6] [6, 100000] [] [] [(6, .ptr 6 0)] [(6, (c_Mail m))] [] [] .nil ?_
  refine ZDs [.sealed] [10] [100000] [] [(10, .sl 9 ([(⟨kind, box1, m.From, box2, a0, 0, 0, ([] : List Entry), ok⟩ : Mail)].map e_Mail))] .nil ?_
  exact Wk_ret (hfin _ ⟨[], [100000], [], [], [], [], by first | (rw [← hF]; kernel_rfl) | kernel_rfl⟩)

end G
end Go.Proofs.Ytcnngkigpfpalaa
