/- The program's functions as plain functions, and that they are these. Written by a program (dec2.py). -/
import Derived.Test.YtcnngkigpfpalaaGf1
namespace Go.Proofs.Ytcnngkigpfpalaa
open Go Go.Dm
set_option linter.unusedVariables false
set_option linter.unusedSimpArgs false
set_option maxRecDepth 100000
namespace G
/- raft.bringing -/
noncomputable def raft_bringing (m : Mail) (box : Int) (box1 : Int) (box2 : Int) (box3 : Int) (box4 : Int) (box5 : Int) (row : List Entry) (row1 : List Int) (row2 : List Int) (row3 : List Int) : Option (List Mail × Int × Int × Int × Int × List Entry × Int × Int × List Int × List Int × List Int × List Entry) :=
  if (decide (m.Term < box2)) = true then
    lt (raft_answer m 4 false 0 box box1 box2 box3 box4 box5 row row1 row2 row3) fun x =>
    some (x, box, box1, box2, box3, row, box4, box5, row1, row2, row3, row)
  else
    if (decide (box4 = 2)) = true then
      some (([] : List Mail), box, box1, box2, box3, row, box4, box5, row1, row2, row3, row)
    else
      lt (raft_follow box box1 box2 box3 box4 box5 row row1 row2 row3) fun x1 =>
      ob (entry_Put row m.A m.B m.Entries) fun x2 =>
      if (!decide (x2.2.2.Code = 0)) = true then
        some (([] : List Mail), x1.1, x1.2.1, x1.2.2.1, x1.2.2.2.1, row, x1.2.2.2.2.1, x1.2.2.2.2.2, ([] : List Int), ([] : List Int), ([] : List Int), row)
      else
        if (!x2.2.1) = true then
          lt (raft_answer_v1 m 4 false (max 0 (min (w64 (m.A - 1)) (row.length : Int))) x1.1 x1.2.1 x1.2.2.1 x1.2.2.2.1 x1.2.2.2.2.1 x1.2.2.2.2.2 row) fun x3 =>
          some (x3, x1.1, x1.2.1, x1.2.2.1, x1.2.2.2.1, row, x1.2.2.2.2.1, x1.2.2.2.2.2, ([] : List Int), ([] : List Int), ([] : List Int), row)
        else
          asrt ((!(decide ((x2.1.length : Int) < x1.2.2.2.2.2))) = true → 0 ≤ x1.2.2.2.2.2 ∧ x1.2.2.2.2.2 ≤ (x2.1.length : Int)) <|
          asrt ((!(decide ((x2.1.length : Int) < x1.2.2.2.2.2))) = true → 0 ≤ x1.2.2.2.2.2 ∧ x1.2.2.2.2.2 ≤ (row.length : Int)) <|
          ob (if (!(decide ((x2.1.length : Int) < x1.2.2.2.2.2))) = true then (slices_Equal_api_Entry_api_Entry (ltake x2.1 x1.2.2.2.2.2) (ltake row x1.2.2.2.2.2)) else some default) fun x4 =>
          if ((decide ((x2.1.length : Int) < x1.2.2.2.2.2)) || (!x4)) = true then
            some (([] : List Mail), x1.1, x1.2.1, x1.2.2.1, x1.2.2.2.1, row, x1.2.2.2.2.1, x1.2.2.2.2.2, ([] : List Int), ([] : List Int), ([] : List Int), row)
          else
            lt (raft_answer_v2 m 4 true (w64 (m.A + (m.Entries.length : Int))) x1.1 x1.2.1 x1.2.2.1 x1.2.2.2.1 x2.1 x1.2.2.2.2.1 (max x1.2.2.2.2.2 (min m.C0 (w64 (m.A + (m.Entries.length : Int)))))) fun x5 =>
            some (x5, x1.1, x1.2.1, x1.2.2.1, x1.2.2.2.1, x2.1, x1.2.2.2.2.1, (max x1.2.2.2.2.2 (min m.C0 (w64 (m.A + (m.Entries.length : Int))))), ([] : List Int), ([] : List Int), ([] : List Int), row)
theorem raft_bringing_ok (m : Mail) (box : Int) (box1 : Int) (box2 : Int) (box3 : Int) (box4 : Int) (box5 : Int) (row : List Entry) (row1 : List Int) (row2 : List Int) (row3 : List Int) (rk : Nat) (rc : Nat) (rn : Bool) (rk1 : Nat) (rc1 : Nat) (rn1 : Bool) (rk2 : Nat) (rc2 : Nat) (rn2 : Bool) (rk3 : Nat) (rc3 : Nat) (rn3 : Bool) (r : List Mail × Int × Int × Int × Int × List Entry × Int × Int × List Int × List Int × List Int × List Entry) (hF : raft_bringing m box box1 box2 box3 box4 box5 row row1 row2 row3 = some r) : Pe Try.prog 81 ⟨[], [(100000, [.i box, .i box1, .i box2, .i box3, .row 100000 0, .i box4, .i box5, .row 100001 0, .row 100002 0, .row 100003 0])], [(100000, ⟨31, 2, 0, rk, rc, rn, 0, [], (row.map e_Entry)⟩), (100001, ⟨3, 1, 0, rk1, rc1, rn1, 0, [], (row1.map e_i64)⟩), (100002, ⟨3, 1, 0, rk2, rc2, rn2, 0, [], (row2.map e_i64)⟩), (100003, ⟨3, 1, 0, rk3, rc3, rn3, 0, [], (row3.map e_i64)⟩)], [], []⟩ [.ptr 100000 0, .agg (c_Mail m)] (.sl 9 (r.1.map e_Mail)) ⟨[], [(100000, [.i r.2.1, .i r.2.2.1, .i r.2.2.2.1, .i r.2.2.2.2.1, .sl 2 (r.2.2.2.2.2.1.map e_Entry), .i r.2.2.2.2.2.2.1, .i r.2.2.2.2.2.2.2.1, .sl 1 (r.2.2.2.2.2.2.2.2.1.map e_i64), .sl 1 (r.2.2.2.2.2.2.2.2.2.1.map e_i64), .sl 1 (r.2.2.2.2.2.2.2.2.2.2.1.map e_i64)])], [(100000, ⟨31, 2, 0, (r.2.2.2.2.2.2.2.2.2.2.2.map e_Entry).length, rc, rn, 0, [], (r.2.2.2.2.2.2.2.2.2.2.2.map e_Entry)⟩), (100001, ⟨3, 1, 0, ((row1).map e_i64).length, rc1, rn1, 0, [], (row1.map e_i64)⟩), (100002, ⟨3, 1, 0, ((row2).map e_i64).length, rc2, rn2, 0, [], (row2.map e_i64)⟩), (100003, ⟨3, 1, 0, ((row3).map e_i64).length, rc3, rn3, 0, [], (row3.map e_i64)⟩)], [], []⟩ := by
  refine Pe_of (N := 111) (res := [.tmp 4]) (ts := [50]) Ty.ok Fn.b81 Try.func81 rfl rfl rfl rfl rfl rfl ?_
  intro Q g hfin
  unfold raft_bringing at hF
  refine URs [] [0, 3] [3, 100000] [100000, 100001, 100002, 100003] [] [(3, .ptr 3 0)] [(3, (c_Mail m))] [] [] .nil ?_
  refine Wk_seq ?_
  refine ZDs [] [0, 3, 15] [3, 100000] [100000, 100001, 100002, 100003] [(15, .bool (decide (m.Term < box2)))] .nil ?_
  refine Wk_split rfl (fun hb => ?_) (fun hb => ?_)
  · have hF := ite_t hF hb
    refine Wk_seq ?_
    obtain ⟨x, h0, hF⟩ := lt_split hF
    refine ZR [.callR [100000] [100000, 100001, 100002, 100003] [] [] (.sl 9 (x.map e_Mail))] [4] [100000] [100000, 100001, 100002, 100003] [(4, .sl 9 (x.map e_Mail))] (.cons (Pe.ren (raft_answer_ok m 4 false 0 box box1 box2 box3 box4 box5 row row1 row2 row3 rk rc rn rk1 rc1 rn1 rk2 rc2 rn2 rk3 rc3 rn3 x h0) ⟨[], [], [], []⟩) .nil) ?_
    have hF := some_elim hF
    refine Wk_sealBX [] 100000 rfl rfl ?_
    exact Wk_ret (hfin _ ⟨[100000, 100001, 100002, 100003], [100000], [100000, 100001, 100002, 100003], [], [], [(100001, ⟨0, true, true, true⟩), (100002, ⟨0, true, true, true⟩), (100003, ⟨0, true, true, true⟩)], by first | (rw [← hF]; kernel_rfl) | kernel_rfl⟩)
  · have hF := ite_f hF hb
    refine Wk_skip ?_
    refine Wk_seq ?_
    refine ZRs [] [0, 3, 23] [3, 100000] [100000, 100001, 100002, 100003] [(23, .bool (decide (box4 = 2)))] .nil ?_
    refine Wk_split rfl (fun hb => ?_) (fun hb => ?_)
    · have hF := ite_t hF hb
      refine ZRs [] [4] [100000] [100000, 100001, 100002, 100003] [(4, .nils)] .nil ?_
      have hF := some_elim hF
      refine Wk_sealBX [] 100000 rfl rfl ?_
      exact Wk_ret (hfin _ ⟨[100000, 100001, 100002, 100003], [100000], [100000, 100001, 100002, 100003], [], [], [(100001, ⟨0, true, true, true⟩), (100002, ⟨0, true, true, true⟩), (100003, ⟨0, true, true, true⟩)], by first | (rw [← hF]; kernel_rfl) | kernel_rfl⟩)
    · have hF := ite_f hF hb
      refine Wk_skip ?_
      refine Wk_seq ?_
      obtain ⟨x1, h1, hF⟩ := lt_split hF
      refine UR [.callE [100000] [100000, 100001, 100002, 100003] [] [] (.tup []) ⟨[], [(100000, [.i x1.1, .i x1.2.1, .i x1.2.2.1, .i x1.2.2.2.1, .row 100000 0, .i x1.2.2.2.2.1, .i x1.2.2.2.2.2, .nils, .nils, .nils])], [(100000, ⟨31, 2, 0, rk, rc, rn, 0, [], (row.map e_Entry)⟩), (100001, ⟨3, 1, 0, rk1, rc1, rn1, 0, [], (row1.map e_i64)⟩), (100002, ⟨3, 1, 0, rk2, rc2, rn2, 0, [], (row2.map e_i64)⟩), (100003, ⟨3, 1, 0, rk3, rc3, rn3, 0, [], (row3.map e_i64)⟩)], [], []⟩] [0, 3] [3, 100000] [100000, 100001, 100002, 100003] [] [] [(100000, [.i x1.1, .i x1.2.1, .i x1.2.2.1, .i x1.2.2.2.1, .row 100000 0, .i x1.2.2.2.2.1, .i x1.2.2.2.2.2, .nils, .nils, .nils])] [] [] (.cons (Pe.ren (raft_follow_ok box box1 box2 box3 box4 box5 row row1 row2 row3 rk rc rn rk1 rc1 rn1 rk2 rc2 rn2 rk3 rc3 rn3 x1 h1) ⟨[], [], [], []⟩) .nil) ?_
      refine Wk_seq ?_
      obtain ⟨x2, h2, hF⟩ := ob_elim hF
      refine UD [.callE [] [] [] [] (.tup [.row 37 0, .bool x2.2.1, .agg [.i x2.2.2.Code, .i x2.2.2.At]]) ⟨[], [], [(37, .o 31 2 0 (x2.1.map e_Entry))], [], []⟩] [0, 3, 5, 6, 7] [3, 7, 100000] [37, 100000, 100001, 100002, 100003] [] [(5, .row 37 0), (6, .bool x2.2.1), (7, .ptr 7 0)] [(7, [.i x2.2.2.Code, .i x2.2.2.At])] [(37, .o 31 2 0 (x2.1.map e_Entry)), (100000, ⟨31, 2, 0, (row.map e_Entry).length, rc, rn, 0, [], (row.map e_Entry)⟩)] [] (.cons (Pe.ren (entry_Put_ok row m.A m.B m.Entries x2 h2) ⟨[], [(30, 37)], [], []⟩) .nil) ?_
      refine Wk_seq ?_
      refine ZRs [] [0, 3, 5, 6, 43] [3, 100000] [37, 100000, 100001, 100002, 100003] [(43, .bool (!decide (x2.2.2.Code = 0)))] .nil ?_
      refine Wk_split rfl (fun hb => ?_) (fun hb => ?_)
      · have hF := ite_t hF hb
        refine ZRs [] [4] [100000] [100000, 100001, 100002, 100003] [(4, .nils)] .nil ?_
        have hF := some_elim hF
        refine Wk_sealBX [] 100000 rfl rfl ?_
        refine Wk_coeB 100000 [.i x1.1, .i x1.2.1, .i x1.2.2.1, .i x1.2.2.2.1, .sl 2 (row.map e_Entry), .i x1.2.2.2.2.1, .i x1.2.2.2.2.2, .sl 1 (([] : List Int).map e_i64), .sl 1 (([] : List Int).map e_i64), .sl 1 (([] : List Int).map e_i64)] rfl (.cons (CoeS.refl _) (.cons (CoeS.refl _) (.cons (CoeS.refl _) (.cons (CoeS.refl _) (.cons (CoeS.refl _) (.cons (CoeS.refl _) (.cons (CoeS.refl _) (.cons (CoeS.nils 1) (.cons (CoeS.nils 1) (.cons (CoeS.nils 1) .nil)))))))))) ?_
        exact Wk_ret (hfin _ ⟨[100000, 100001, 100002, 100003], [100000], [100000, 100001, 100002, 100003], [], [], [(100001, ⟨0, true, true, true⟩), (100002, ⟨0, true, true, true⟩), (100003, ⟨0, true, true, true⟩)], by first | (rw [← hF]; kernel_rfl) | kernel_rfl⟩)
      · have hF := ite_f hF hb
        refine Wk_skip ?_
        refine Wk_seq ?_
        refine ZRs [] [0, 3, 5, 45] [3, 100000] [37, 100000, 100001, 100002, 100003] [(45, .bool (!x2.2.1))] .nil ?_
        refine Wk_split rfl (fun hb => ?_) (fun hb => ?_)
        · have hF := ite_t hF hb
          refine Wk_seq ?_
          obtain ⟨x3, h3, hF⟩ := lt_split hF
          refine ZD [.nat (row.length : Int), .callR [100000] [100000] [] [] (.sl 9 (x3.map e_Mail))] [4] [100000] [100000, 100001, 100002, 100003] [(4, .sl 9 (x3.map e_Mail))] (.cons (len_ok e_Entry row) (.cons (Pe.ren (raft_answer_v1_ok m 4 false (max 0 (min (w64 (m.A - 1)) (row.length : Int))) x1.1 x1.2.1 x1.2.2.1 x1.2.2.2.1 x1.2.2.2.2.1 x1.2.2.2.2.2 row ((row.map e_Entry).length) rc rn x3 h3) ⟨[], [], [], []⟩) .nil)) ?_
          have hF := some_elim hF
          refine Wk_sealBX [] 100000 rfl rfl ?_
          refine Wk_coeB 100000 [.i x1.1, .i x1.2.1, .i x1.2.2.1, .i x1.2.2.2.1, .sl 2 (row.map e_Entry), .i x1.2.2.2.2.1, .i x1.2.2.2.2.2, .sl 1 (([] : List Int).map e_i64), .sl 1 (([] : List Int).map e_i64), .sl 1 (([] : List Int).map e_i64)] rfl (.cons (CoeS.refl _) (.cons (CoeS.refl _) (.cons (CoeS.refl _) (.cons (CoeS.refl _) (.cons (CoeS.refl _) (.cons (CoeS.refl _) (.cons (CoeS.refl _) (.cons (CoeS.nils 1) (.cons (CoeS.nils 1) (.cons (CoeS.nils 1) .nil)))))))))) ?_
          exact Wk_ret (hfin _ ⟨[100000, 100001, 100002, 100003], [100000], [100000, 100001, 100002, 100003], [], [], [(100001, ⟨0, true, true, true⟩), (100002, ⟨0, true, true, true⟩), (100003, ⟨0, true, true, true⟩)], by first | (rw [← hF]; kernel_rfl) | kernel_rfl⟩)
        · have hF := ite_f hF hb
          refine Wk_skip ?_
          refine Wk_seq ?_
          refine Wk_seq ?_
          refine Wk_sealX [] 5 rfl rfl ?_
          refine Wk_sealBX [] 100000 rfl rfl ?_
          obtain ⟨h4, hF⟩ := asrt_elim hF
          obtain ⟨h5, hF⟩ := asrt_elim hF
          obtain ⟨x4, h6, hF⟩ := ob_elim hF
          refine ZD [.nat (x2.1.length : Int), .xs ((ltake x2.1 x1.2.2.2.2.2).map e_Entry), .xs ((ltake row x1.2.2.2.2.2).map e_Entry), .callB (.bool x4)] [0, 3, 5, 84] [3, 100000] [100000, 100001, 100002, 100003] [(84, .bool ((decide ((x2.1.length : Int) < x1.2.2.2.2.2)) || (!x4)))] (.cons (len_ok e_Entry x2.1) (.cons (fun (ga0 : (!(decide ((x2.1.length : Int) < x1.2.2.2.2.2))) = true) => (sl01_ok e_Entry (h4 ga0))) (.cons (fun (ga0 : (!(decide ((x2.1.length : Int) < x1.2.2.2.2.2))) = true) => (sl01_ok e_Entry (h5 ga0))) (.cons (fun (ga0 : (!(decide ((x2.1.length : Int) < x1.2.2.2.2.2))) = true) => (slices_Equal_api_Entry_api_Entry_ok (ltake x2.1 x1.2.2.2.2.2) (ltake row x1.2.2.2.2.2) x4 (ite_t h6 ga0))) .nil)))) ?_
          refine Wk_split rfl (fun hb => ?_) (fun hb => ?_)
          · have hF := ite_t hF hb
            refine ZRs [] [4] [100000] [100000, 100001, 100002, 100003] [(4, .nils)] .nil ?_
            have hF := some_elim hF
            refine Wk_coeB 100000 [.i x1.1, .i x1.2.1, .i x1.2.2.1, .i x1.2.2.2.1, .sl 2 (row.map e_Entry), .i x1.2.2.2.2.1, .i x1.2.2.2.2.2, .sl 1 (([] : List Int).map e_i64), .sl 1 (([] : List Int).map e_i64), .sl 1 (([] : List Int).map e_i64)] rfl (.cons (CoeS.refl _) (.cons (CoeS.refl _) (.cons (CoeS.refl _) (.cons (CoeS.refl _) (.cons (CoeS.refl _) (.cons (CoeS.refl _) (.cons (CoeS.refl _) (.cons (CoeS.nils 1) (.cons (CoeS.nils 1) (.cons (CoeS.nils 1) .nil)))))))))) ?_
            exact Wk_ret (hfin _ ⟨[100000, 100001, 100002, 100003], [100000], [100000, 100001, 100002, 100003], [], [], [(100001, ⟨0, true, true, true⟩), (100002, ⟨0, true, true, true⟩), (100003, ⟨0, true, true, true⟩)], by first | (rw [← hF]; kernel_rfl) | kernel_rfl⟩)
          · have hF := ite_f hF hb
            refine Wk_skip ?_
            refine ZRs [.nat (m.Entries.length : Int)] [0, 3, 5, 8] [3, 100000] [100000, 100001, 100002, 100003] [(8, .i (w64 (m.A + (m.Entries.length : Int))))] (.cons (len_ok e_Entry m.Entries) .nil) ?_
            refine UDs [] [0, 3, 8] [3, 100000] [100000, 100001, 100002, 100003] [] [] [(100000, [.i x1.1, .i x1.2.1, .i x1.2.2.1, .i x1.2.2.2.1, .sl 2 (x2.1.map e_Entry), .i x1.2.2.2.2.1, .i (max x1.2.2.2.2.2 (min m.C0 (w64 (m.A + (m.Entries.length : Int))))), .nils, .nils, .nils])] [] [] .nil ?_
            refine Wk_seq ?_
            obtain ⟨x5, h7, hF⟩ := lt_split hF
            refine ZR [.callR [100000] [] [] [] (.sl 9 (x5.map e_Mail))] [4] [100000] [100000, 100001, 100002, 100003] [(4, .sl 9 (x5.map e_Mail))] (.cons (Pe.ren (raft_answer_v2_ok m 4 true (w64 (m.A + (m.Entries.length : Int))) x1.1 x1.2.1 x1.2.2.1 x1.2.2.2.1 x2.1 x1.2.2.2.2.1 (max x1.2.2.2.2.2 (min m.C0 (w64 (m.A + (m.Entries.length : Int))))) x5 h7) ⟨[], [], [], []⟩) .nil) ?_
            have hF := some_elim hF
            refine Wk_coeB 100000 [.i x1.1, .i x1.2.1, .i x1.2.2.1, .i x1.2.2.2.1, .sl 2 (x2.1.map e_Entry), .i x1.2.2.2.2.1, .i (max x1.2.2.2.2.2 (min m.C0 (w64 (m.A + (m.Entries.length : Int))))), .sl 1 (([] : List Int).map e_i64), .sl 1 (([] : List Int).map e_i64), .sl 1 (([] : List Int).map e_i64)] rfl (.cons (CoeS.refl _) (.cons (CoeS.refl _) (.cons (CoeS.refl _) (.cons (CoeS.refl _) (.cons (CoeS.refl _) (.cons (CoeS.refl _) (.cons (CoeS.refl _) (.cons (CoeS.nils 1) (.cons (CoeS.nils 1) (.cons (CoeS.nils 1) .nil)))))))))) ?_
            exact Wk_ret (hfin _ ⟨[100000, 100001, 100002, 100003], [100000], [100000, 100001, 100002, 100003], [], [], [(100001, ⟨0, true, true, true⟩), (100002, ⟨0, true, true, true⟩), (100003, ⟨0, true, true, true⟩)], by first | (rw [← hF]; kernel_rfl) | kernel_rfl⟩)

/- raft.answered -/
noncomputable def raft_answered (m : Mail) (box : Int) (box1 : Int) (box2 : Int) (box3 : Int) (box4 : Int) (box5 : Int) (row : List Entry) (row1 : List Int) (row2 : List Int) (row3 : List Int) : Option (Int × Int × Int × Int × Int × Int × List Int × List Int) :=
  if ((!decide (box4 = 2)) || (!decide (m.Term = box2))) = true then
    some (box, box1, box2, box3, box4, box5, row2, row3)
  else
    if m.Ok = true then
      asrt (0 ≤ m.From ∧ m.From < (row3.length : Int)) <|
      asrt (0 ≤ m.From ∧ m.From < (row3.length : Int)) <|
      asrt (0 ≤ m.From ∧ m.From < (row3.length : Int)) <|
      asrt (0 ≤ m.From ∧ m.From < (row3.length : Int)) <|
      lt ((lset row3 m.From (max (lget row3 m.From) (min m.A (row.length : Int))))) fun (v : List Int) =>
      asrt (0 ≤ m.From ∧ m.From < (v.length : Int)) <|
      asrt (0 ≤ m.From ∧ m.From < (v.length : Int)) <|
      asrt (0 ≤ m.From ∧ m.From < (row2.length : Int)) <|
      asrt (0 ≤ m.From ∧ m.From < (row2.length : Int)) <|
      ob (raft_count_v1 box box1 box2 box3 box4 box5 row row1 (lset row2 m.From (w64 ((lget v m.From) + 1))) v) fun x =>
      some (x.1, x.2.1, x.2.2.1, x.2.2.2.1, x.2.2.2.2.1, x.2.2.2.2.2, (lset row2 m.From (w64 ((lget v m.From) + 1))), v)
    else
      asrt (0 ≤ m.From ∧ m.From < (row3.length : Int)) <|
      asrt (0 ≤ m.From ∧ m.From < (row3.length : Int)) <|
      asrt (0 ≤ m.From ∧ m.From < (row2.length : Int)) <|
      asrt (0 ≤ m.From ∧ m.From < (row2.length : Int)) <|
      asrt (0 ≤ m.From ∧ m.From < (row2.length : Int)) <|
      asrt (0 ≤ m.From ∧ m.From < (row2.length : Int)) <|
      lt ((lset row2 m.From (max (w64 ((lget row3 m.From) + 1)) (min (w64 ((lget row2 m.From) - 1)) (w64 (m.A + 1)))))) fun (v1 : List Int) =>
      some (box, box1, box2, box3, box4, box5, v1, row3)
theorem raft_answered_ok (m : Mail) (box : Int) (box1 : Int) (box2 : Int) (box3 : Int) (box4 : Int) (box5 : Int) (row : List Entry) (row1 : List Int) (row2 : List Int) (row3 : List Int) (rk : Nat) (rc : Nat) (rn : Bool) (rk1 : Nat) (rc1 : Nat) (rn1 : Bool) (rk2 : Nat) (rc2 : Nat) (rn2 : Bool) (rk3 : Nat) (rc3 : Nat) (rn3 : Bool) (r : Int × Int × Int × Int × Int × Int × List Int × List Int) (hF : raft_answered m box box1 box2 box3 box4 box5 row row1 row2 row3 = some r) : Pe Try.prog 82 ⟨[], [(100000, [.i box, .i box1, .i box2, .i box3, .row 100000 0, .i box4, .i box5, .row 100001 0, .row 100002 0, .row 100003 0])], [(100000, ⟨31, 2, 0, rk, rc, rn, 0, [], (row.map e_Entry)⟩), (100001, ⟨3, 1, 0, rk1, rc1, rn1, 0, [], (row1.map e_i64)⟩), (100002, ⟨3, 1, 0, 0, rc2, rn2, 0, [], (row2.map e_i64)⟩), (100003, ⟨3, 1, 0, 0, rc3, rn3, 0, [], (row3.map e_i64)⟩)], [], []⟩ [.ptr 100000 0, .agg (c_Mail m)] (.tup []) ⟨[], [(100000, [.i r.1, .i r.2.1, .i r.2.2.1, .i r.2.2.2.1, .row 100000 0, .i r.2.2.2.2.1, .i r.2.2.2.2.2.1, .row 100001 0, .row 100002 0, .row 100003 0])], [(100000, ⟨31, 2, 0, rk, rc, rn, 0, [], (row.map e_Entry)⟩), (100001, ⟨3, 1, 0, rk1, rc1, rn1, 0, [], (row1.map e_i64)⟩), (100002, ⟨3, 1, 0, 0, rc2, rn2, 0, [], (r.2.2.2.2.2.2.1.map e_i64)⟩), (100003, ⟨3, 1, 0, 0, rc3, rn3, 0, [], (r.2.2.2.2.2.2.2.map e_i64)⟩)], [], []⟩ := by
  refine Pe_of (N := 92) (res := []) (ts := []) Ty.ok Fn.b82 Try.func82 rfl rfl rfl rfl rfl rfl ?_
  intro Q g hfin
  unfold raft_answered at hF
  refine URs [] [0, 3] [3, 100000] [100000, 100001, 100002, 100003] [] [(3, .ptr 3 0)] [(3, (c_Mail m))] [] [] .nil ?_
  refine Wk_seq ?_
  refine ZDs [] [0, 3, 17] [3, 100000] [100000, 100001, 100002, 100003] [(17, .bool ((!decide (box4 = 2)) || (!decide (m.Term = box2))))] .nil ?_
  refine Wk_split rfl (fun hb => ?_) (fun hb => ?_)
  · have hF := ite_t hF hb
    have hF := some_elim hF
    exact Wk_ret (hfin _ ⟨[100000, 100001, 100002, 100003], [100000], [100000, 100001, 100002, 100003], [], [], [], by first | (rw [← hF]; kernel_rfl) | kernel_rfl⟩)
  · have hF := ite_f hF hb
    refine Wk_skip ?_
    refine Wk_seq ?_
    refine ZRs [] [0, 3, 19] [3, 100000] [100000, 100001, 100002, 100003] [(19, .bool m.Ok)] .nil ?_
    refine Wk_split rfl (fun hb => ?_) (fun hb => ?_)
    · have hF := ite_t hF hb
      refine Wk_seq ?_
      obtain ⟨h0, hF⟩ := asrt_elim hF
      obtain ⟨h1, hF⟩ := asrt_elim hF
      obtain ⟨h2, hF⟩ := asrt_elim hF
      obtain ⟨h3, hF⟩ := asrt_elim hF
      refine WDL ((lset row3 m.From (max (lget row3 m.From) (min m.A (row.length : Int))))) (fun v : List Int => ⟨[(0, .ptr 100000 0), (3, .ptr 3 0)], [(3, (c_Mail m)), (100000, [.i box, .i box1, .i box2, .i box3, .row 100000 0, .i box4, .i box5, .row 100001 0, .row 100002 0, .row 100003 0])], [(100000, ⟨31, 2, 0, rk, rc, rn, 0, [], (row.map e_Entry)⟩), (100001, ⟨3, 1, 0, rk1, rc1, rn1, 0, [], (row1.map e_i64)⟩), (100002, ⟨3, 1, 0, 0, rc2, rn2, 0, [], (row2.map e_i64)⟩), (100003, ⟨3, 1, 0, 0, rc3, rn3, 0, [], (v.map e_i64)⟩)], [], []⟩) [.av (e_i64 (lget row3 m.From)), .nat (row.length : Int), .av (e_i64 (lget row3 m.From)), .xs ((lset row3 m.From (max (lget row3 m.From) (min m.A (row.length : Int)))).map e_i64)] [0, 3] [3, 100000] [100000, 100001, 100002, 100003] [] [] [] (.cons (ixr_ok e_i64 h0) (.cons (ldr_ok e_i64 h1) (.cons (len_ok e_Entry row) (.cons (ixr_ok e_i64 h2) (.cons (ldr_ok e_i64 h3) (.cons (set_ok e_i64 row3 m.From (max (lget row3 m.From) (min m.A (row.length : Int)))) (.cons (Nat.zero_le m.From.toNat) .nil))))))) (by kernel_rfl) (fun v hv => ?_)
      have hF := lt_elim hF hv
      refine Wk_seq ?_
      obtain ⟨h4, hF⟩ := asrt_elim hF
      obtain ⟨h5, hF⟩ := asrt_elim hF
      obtain ⟨h6, hF⟩ := asrt_elim hF
      obtain ⟨h7, hF⟩ := asrt_elim hF
      refine UD [.av (e_i64 (lget v m.From)), .av (e_i64 (lget row2 m.From)), .xs ((lset row2 m.From (w64 ((lget v m.From) + 1))).map e_i64)] [0] [100000] [100000, 100001, 100002, 100003] [] [] [] [(100002, ⟨3, 1, 0, 0, rc2, rn2, 0, [], ((lset row2 m.From (w64 ((lget v m.From) + 1))).map e_i64)⟩)] [] (.cons (ixr_ok e_i64 h4) (.cons (ldr_ok e_i64 h5) (.cons (ixr_ok e_i64 h6) (.cons (ldr_ok e_i64 h7) (.cons (set_ok e_i64 row2 m.From (w64 ((lget v m.From) + 1))) (.cons (Nat.zero_le m.From.toNat) .nil)))))) ?_
      refine Wk_seq ?_
      obtain ⟨x, h8, hF⟩ := ob_elim hF
      refine UR [.callE [100000] [100000, 100001, 100002, 100003] [] [] (.tup []) ⟨[], [(100000, [.i x.1, .i x.2.1, .i x.2.2.1, .i x.2.2.2.1, .row 100000 0, .i x.2.2.2.2.1, .i x.2.2.2.2.2, .row 100001 0, .row 100002 0, .row 100003 0])], [(100000, ⟨31, 2, 0, rk, rc, rn, 0, [], (row.map e_Entry)⟩), (100001, ⟨3, 1, 0, rk1, rc1, rn1, 0, [], (row1.map e_i64)⟩), (100002, ⟨3, 1, 0, 0, rc2, rn2, 0, [], ((lset row2 m.From (w64 ((lget v m.From) + 1))).map e_i64)⟩), (100003, ⟨3, 1, 0, 0, rc3, rn3, 0, [], (v.map e_i64)⟩)], [], []⟩] [] [100000] [100000, 100001, 100002, 100003] [] [] [(100000, [.i x.1, .i x.2.1, .i x.2.2.1, .i x.2.2.2.1, .row 100000 0, .i x.2.2.2.2.1, .i x.2.2.2.2.2, .row 100001 0, .row 100002 0, .row 100003 0])] [] [] (.cons (Pe.ren (raft_count_v1_ok box box1 box2 box3 box4 box5 row row1 (lset row2 m.From (w64 ((lget v m.From) + 1))) v rk rc rn rk1 rc1 rn1 0 rc2 rn2 0 rc3 rn3 x h8) ⟨[], [], [], []⟩) .nil) ?_
      have hF := some_elim hF
      exact Wk_ret (hfin _ ⟨[100000, 100001, 100002, 100003], [100000], [100000, 100001, 100002, 100003], [], [], [], by first | (rw [← hF]; kernel_rfl) | kernel_rfl⟩)
    · have hF := ite_f hF hb
      refine Wk_skip ?_
      obtain ⟨h9, hF⟩ := asrt_elim hF
      obtain ⟨h10, hF⟩ := asrt_elim hF
      obtain ⟨h11, hF⟩ := asrt_elim hF
      obtain ⟨h12, hF⟩ := asrt_elim hF
      obtain ⟨h13, hF⟩ := asrt_elim hF
      obtain ⟨h14, hF⟩ := asrt_elim hF
      refine WDL ((lset row2 m.From (max (w64 ((lget row3 m.From) + 1)) (min (w64 ((lget row2 m.From) - 1)) (w64 (m.A + 1)))))) (fun v1 : List Int => ⟨[], [(100000, [.i box, .i box1, .i box2, .i box3, .row 100000 0, .i box4, .i box5, .row 100001 0, .row 100002 0, .row 100003 0])], [(100000, ⟨31, 2, 0, rk, rc, rn, 0, [], (row.map e_Entry)⟩), (100001, ⟨3, 1, 0, rk1, rc1, rn1, 0, [], (row1.map e_i64)⟩), (100002, ⟨3, 1, 0, 0, rc2, rn2, 0, [], (v1.map e_i64)⟩), (100003, ⟨3, 1, 0, 0, rc3, rn3, 0, [], (row3.map e_i64)⟩)], [], []⟩) [.av (e_i64 (lget row3 m.From)), .av (e_i64 (lget row2 m.From)), .av (e_i64 (lget row2 m.From)), .xs ((lset row2 m.From (max (w64 ((lget row3 m.From) + 1)) (min (w64 ((lget row2 m.From) - 1)) (w64 (m.A + 1))))).map e_i64)] [] [100000] [100000, 100001, 100002, 100003] [] [] [] (.cons (ixr_ok e_i64 h9) (.cons (ldr_ok e_i64 h10) (.cons (ixr_ok e_i64 h11) (.cons (ldr_ok e_i64 h12) (.cons (ixr_ok e_i64 h13) (.cons (ldr_ok e_i64 h14) (.cons (set_ok e_i64 row2 m.From (max (w64 ((lget row3 m.From) + 1)) (min (w64 ((lget row2 m.From) - 1)) (w64 (m.A + 1))))) (.cons (Nat.zero_le m.From.toNat) .nil)))))))) (by kernel_rfl) (fun v1 hv => ?_)
      have hF := lt_elim hF hv
      have hF := some_elim hF
      exact Wk_end (hfin _ ⟨[100000, 100001, 100002, 100003], [100000], [100000, 100001, 100002, 100003], [], [], [], by first | (rw [← hF]; kernel_rfl) | kernel_rfl⟩)

/- raft.Take -/
noncomputable def raft_Take (x : Node) (m : Mail) : Option (Node × List Mail × Fault) :=
  ob (raft_Check x) fun x1 =>
  ob (if (decide (x1.Code = 0)) = true then (raft_fine m x) else some default) fun x2 =>
  ob (
    if ((decide (x1.Code = 0)) && (!x2)) = true then
      lt (raft_fault 5 0) fun x3 =>
      some x3
    else
      some x1) fun (v : Fault) =>
  if (!decide (v.Code = 0)) = true then
    some ((⟨0, 0, 0, 0, ([] : List Entry), 0, 0, ([] : List Int), ([] : List Int), ([] : List Int)⟩ : Node), ([] : List Mail), v)
  else
    ob (raft_own x) fun x4 =>
    ob (
      if (decide (x4.2.2.1 < m.Term)) = true then
        lt (raft_follow x4.1 x4.2.1 m.Term 0 x4.2.2.2.2.2.1 x4.2.2.2.2.2.2.1 x4.2.2.2.2.1 x4.2.2.2.2.2.2.2.1 x4.2.2.2.2.2.2.2.2.1 x4.2.2.2.2.2.2.2.2.2) fun x5 =>
        some (x5.1, x5.2.1, x5.2.2.1, x5.2.2.2.1, x5.2.2.2.2.1, x5.2.2.2.2.2, ([] : List Int), ([] : List Int), ([] : List Int))
      else
        some (x4.1, x4.2.1, x4.2.2.1, x4.2.2.2.1, x4.2.2.2.2.2.1, x4.2.2.2.2.2.2.1, x4.2.2.2.2.2.2.2.1, x4.2.2.2.2.2.2.2.2.1, x4.2.2.2.2.2.2.2.2.2)) fun (v1 : Int × Int × Int × Int × Int × Int × List Int × List Int × List Int) =>
    ob (
      if (decide (m.Kind = 1)) = true then
        ob (raft_asked m v1.1 v1.2.1 v1.2.2.1 v1.2.2.2.1 v1.2.2.2.2.1 v1.2.2.2.2.2.1 x4.2.2.2.2.1 v1.2.2.2.2.2.2.1 v1.2.2.2.2.2.2.2.1 v1.2.2.2.2.2.2.2.2) fun x6 =>
        some (x6.2.1, x6.2.2.1, x6.2.2.2.1, x6.2.2.2.2.1, x4.2.2.2.2.1, x6.2.2.2.2.2.1, x6.2.2.2.2.2.2, v1.2.2.2.2.2.2.1, v1.2.2.2.2.2.2.2.1, v1.2.2.2.2.2.2.2.2, x6.1)
      else
        if (decide (m.Kind = 2)) = true then
          ob (raft_given m v1.1 v1.2.1 v1.2.2.1 v1.2.2.2.1 v1.2.2.2.2.1 v1.2.2.2.2.2.1 x4.2.2.2.2.1 v1.2.2.2.2.2.2.1 v1.2.2.2.2.2.2.2.1 v1.2.2.2.2.2.2.2.2) fun x7 =>
          some (x7.2.1, x7.2.2.1, x7.2.2.2.1, x7.2.2.2.2.1, x7.2.2.2.2.2.1, x7.2.2.2.2.2.2.1, x7.2.2.2.2.2.2.2.1, x7.2.2.2.2.2.2.2.2.1, x7.2.2.2.2.2.2.2.2.2.1, x7.2.2.2.2.2.2.2.2.2.2.1, x7.1)
        else
          if (decide (m.Kind = 3)) = true then
            ob (raft_bringing m v1.1 v1.2.1 v1.2.2.1 v1.2.2.2.1 v1.2.2.2.2.1 v1.2.2.2.2.2.1 x4.2.2.2.2.1 v1.2.2.2.2.2.2.1 v1.2.2.2.2.2.2.2.1 v1.2.2.2.2.2.2.2.2) fun x8 =>
            some (x8.2.1, x8.2.2.1, x8.2.2.2.1, x8.2.2.2.2.1, x8.2.2.2.2.2.1, x8.2.2.2.2.2.2.1, x8.2.2.2.2.2.2.2.1, x8.2.2.2.2.2.2.2.2.1, x8.2.2.2.2.2.2.2.2.2.1, x8.2.2.2.2.2.2.2.2.2.2.1, x8.1)
          else
            if (decide (m.Kind = 4)) = true then
              ob (raft_answered m v1.1 v1.2.1 v1.2.2.1 v1.2.2.2.1 v1.2.2.2.2.1 v1.2.2.2.2.2.1 x4.2.2.2.2.1 v1.2.2.2.2.2.2.1 v1.2.2.2.2.2.2.2.1 v1.2.2.2.2.2.2.2.2) fun x9 =>
              some (x9.1, x9.2.1, x9.2.2.1, x9.2.2.2.1, x4.2.2.2.2.1, x9.2.2.2.2.1, x9.2.2.2.2.2.1, v1.2.2.2.2.2.2.1, x9.2.2.2.2.2.2.1, x9.2.2.2.2.2.2.2, ([] : List Mail))
            else
              some (v1.1, v1.2.1, v1.2.2.1, v1.2.2.2.1, x4.2.2.2.2.1, v1.2.2.2.2.1, v1.2.2.2.2.2.1, v1.2.2.2.2.2.2.1, v1.2.2.2.2.2.2.2.1, v1.2.2.2.2.2.2.2.2, ([] : List Mail))) fun (v2 : Int × Int × Int × Int × List Entry × Int × Int × List Int × List Int × List Int × List Mail) =>
    some ((⟨v2.1, v2.2.1, v2.2.2.1, v2.2.2.2.1, v2.2.2.2.2.1, v2.2.2.2.2.2.1, v2.2.2.2.2.2.2.1, v2.2.2.2.2.2.2.2.1, v2.2.2.2.2.2.2.2.2.1, v2.2.2.2.2.2.2.2.2.2.1⟩ : Node), v2.2.2.2.2.2.2.2.2.2.2, v)
theorem raft_Take_ok (x : Node) (m : Mail) (r : Node × List Mail × Fault) (hF : raft_Take x m = some r) : Pe Try.prog 42 S.none [.agg (c_Node x), .agg (c_Mail m)] (.tup [.agg (c_Node r.1), .sl 9 (r.2.1.map e_Mail), .agg [.i r.2.2.Code, .i r.2.2.At]]) S.none := by
  refine Pe_of (N := 72) (res := [.cell 4 46, .tmp 5, .cell 6 26]) (ts := [46, 50, 26]) Ty.ok Fn.b42 Try.func42 rfl rfl rfl rfl rfl rfl ?_
  intro Q g hfin
  unfold raft_Take at hF
  refine URs [] [2, 3, 4, 6] [2, 3, 4, 6] [] [] [(2, .ptr 2 0), (3, .ptr 3 0), (4, .ptr 4 0), (6, .ptr 6 0)] [(2, (c_Node x)), (3, (c_Mail m)), (4, [.i 0, .i 0, .i 0, .i 0, .nils, .i 0, .i 0, .nils, .nils, .nils]), (6, [.i 0, .i 0])] [] [] .nil ?_
  refine Wk_seq ?_
  obtain ⟨x1, h0, hF⟩ := ob_elim hF
  refine UR [.callB (.agg [.i x1.Code, .i x1.At])] [2, 3, 4, 6, 7] [2, 3, 4, 6, 7] [] [] [(7, .ptr 7 0)] [(7, [.i x1.Code, .i x1.At])] [] [] (.cons (raft_Check_ok x x1 h0) .nil) ?_
  refine Wk_seq ?_
  refine Wk_seq ?_
  obtain ⟨x2, h1, hF⟩ := ob_elim hF
  refine ZR [.callR [2] [] [] [] (.bool x2)] [2, 3, 4, 6, 7, 19] [2, 3, 4, 6, 7] [] [(19, .bool ((decide (x1.Code = 0)) && (!x2)))] (.cons (fun (ga0 : (decide (x1.Code = 0)) = true) => (Pe.ren (raft_fine_ok m x x2 (ite_t h1 ga0)) ⟨[(100000, 2)], [], [], []⟩)) .nil) ?_
  obtain ⟨v, hv, hF⟩ := ob_elim hF
  refine Wk_meet (⟨[(2, .ptr 2 0), (3, .ptr 3 0), (4, .ptr 4 0), (6, .ptr 6 0), (7, .ptr 7 0)], [(2, (c_Node x)), (3, (c_Mail m)), (4, [.i 0, .i 0, .i 0, .i 0, .nils, .i 0, .i 0, .nils, .nils, .nils]), (6, [.i 0, .i 0]), (7, [.i v.Code, .i v.At])], [], [], []⟩ : S) ?_ ?_
  · have hF := hv
    refine Wk_split rfl (fun hb => ?_) (fun hb => ?_)
    · have hF := ite_t hF hb
      obtain ⟨x3, h2, hF⟩ := lt_split hF
      refine UR [.callB (.agg [.i x3.Code, .i x3.At])] [2, 3, 4, 6, 7] [2, 3, 4, 6, 7] [] [] [] [(7, [.i x3.Code, .i x3.At])] [] [] (.cons (raft_fault_ok 5 0 x3 h2) .nil) ?_
      exact Wk_met (fs := [2, 3, 4, 6, 7]) (bs := [2, 3, 4, 6, 7]) (rs := []) (ms := []) (aa := []) (nv := []) (by first | (rw [← some_elim hF]; kernel_rfl) | kernel_rfl)
    · have hF := ite_f hF hb
      refine Wk_skip ?_
      exact Wk_met (fs := [2, 3, 4, 6, 7]) (bs := [2, 3, 4, 6, 7]) (rs := []) (ms := []) (aa := []) (nv := []) (by first | (rw [← some_elim hF]; kernel_rfl) | kernel_rfl)
  · refine Wk_seq ?_
    refine ZRs [] [2, 3, 4, 6, 7, 23] [2, 3, 4, 6, 7] [] [(23, .bool (!decide (v.Code = 0)))] .nil ?_
    refine Wk_split rfl (fun hb => ?_) (fun hb => ?_)
    · have hF := ite_t hF hb
      refine UDs [] [4, 5, 6] [4, 6] [] [] [(5, .nils)] [(6, [.i v.Code, .i v.At])] [] [] .nil ?_
      have hF := some_elim hF
      exact Wk_ret (hfin _ ⟨[], [], [], [], [], [], by first | (rw [← hF]; kernel_rfl) | kernel_rfl⟩)
    · have hF := ite_f hF hb
      refine Wk_skip ?_
      refine Wk_seq ?_
      obtain ⟨x4, h3, hF⟩ := ob_elim hF
      refine UR [.callE [] [] [] [] (.ptr 27 0) ⟨[], [(27, [.i x4.1, .i x4.2.1, .i x4.2.2.1, .i x4.2.2.2.1, .row 27 0, .i x4.2.2.2.2.2.1, .i x4.2.2.2.2.2.2.1, .row 20027 0, .row 40027 0, .row 60027 0])], [(27, .o 31 2 0 (x4.2.2.2.2.1.map e_Entry)), (20027, .o 3 1 0 (x4.2.2.2.2.2.2.2.1.map e_i64)), (40027, .o 3 1 0 (x4.2.2.2.2.2.2.2.2.1.map e_i64)), (60027, .o 3 1 0 (x4.2.2.2.2.2.2.2.2.2.map e_i64))], [], []⟩] [3, 4, 6, 7, 8] [3, 4, 6, 7, 27] [27, 20027, 40027, 60027] [] [(8, .ptr 27 0)] [(27, [.i x4.1, .i x4.2.1, .i x4.2.2.1, .i x4.2.2.2.1, .row 27 0, .i x4.2.2.2.2.2.1, .i x4.2.2.2.2.2.2.1, .row 20027 0, .row 40027 0, .row 60027 0])] [(27, .o 31 2 0 (x4.2.2.2.2.1.map e_Entry)), (20027, .o 3 1 0 (x4.2.2.2.2.2.2.2.1.map e_i64)), (40027, .o 3 1 0 (x4.2.2.2.2.2.2.2.2.1.map e_i64)), (60027, .o 3 1 0 (x4.2.2.2.2.2.2.2.2.2.map e_i64))] [] (.cons (Pe.ren (raft_own_ok x x4 h3) ⟨[(1, 27)], [(5, 27), (8, 20027), (11, 40027), (14, 60027)], [], []⟩) .nil) ?_
      refine Wk_seq ?_
      refine ZDs [] [3, 4, 6, 7, 8, 34] [3, 4, 6, 7, 27] [27, 20027, 40027, 60027] [(34, .bool (decide (x4.2.2.1 < m.Term)))] .nil ?_
      obtain ⟨v1, hv, hF⟩ := ob_elim hF
      refine Wk_meet (⟨[(3, .ptr 3 0), (4, .ptr 4 0), (6, .ptr 6 0), (7, .ptr 7 0), (8, .ptr 27 0)], [(3, (c_Mail m)), (4, [.i 0, .i 0, .i 0, .i 0, .nils, .i 0, .i 0, .nils, .nils, .nils]), (6, [.i 0, .i 0]), (7, [.i v.Code, .i v.At]), (27, [.i v1.1, .i v1.2.1, .i v1.2.2.1, .i v1.2.2.2.1, .row 27 0, .i v1.2.2.2.2.1, .i v1.2.2.2.2.2.1, .row 20027 0, .row 40027 0, .row 60027 0])], [(27, .o 31 2 0 (x4.2.2.2.2.1.map e_Entry)), (20027, .o 3 1 0 (v1.2.2.2.2.2.2.1.map e_i64)), (40027, .o 3 1 0 (v1.2.2.2.2.2.2.2.1.map e_i64)), (60027, .o 3 1 0 (v1.2.2.2.2.2.2.2.2.map e_i64))], [], []⟩ : S) ?_ ?_
      · have hF := hv
        refine Wk_split rfl (fun hb => ?_) (fun hb => ?_)
        · have hF := ite_t hF hb
          refine URs [] [3, 4, 6, 7, 8] [3, 4, 6, 7, 27] [27, 20027, 40027, 60027] [] [] [(27, [.i x4.1, .i x4.2.1, .i m.Term, .i 0, .row 27 0, .i x4.2.2.2.2.2.1, .i x4.2.2.2.2.2.2.1, .row 20027 0, .row 40027 0, .row 60027 0])] [] [] .nil ?_
          obtain ⟨x5, h4, hF⟩ := lt_split hF
          refine UR [.callE [27] [27, 20027, 40027, 60027] [] [] (.tup []) ⟨[], [(27, [.i x5.1, .i x5.2.1, .i x5.2.2.1, .i x5.2.2.2.1, .row 27 0, .i x5.2.2.2.2.1, .i x5.2.2.2.2.2, .nils, .nils, .nils])], [(27, .o 31 2 0 (x4.2.2.2.2.1.map e_Entry)), (20027, .o 3 1 0 (x4.2.2.2.2.2.2.2.1.map e_i64)), (40027, .o 3 1 0 (x4.2.2.2.2.2.2.2.2.1.map e_i64)), (60027, .o 3 1 0 (x4.2.2.2.2.2.2.2.2.2.map e_i64))], [], []⟩] [3, 4, 6, 7, 8] [3, 4, 6, 7, 27] [27] [] [] [(27, [.i x5.1, .i x5.2.1, .i x5.2.2.1, .i x5.2.2.2.1, .row 27 0, .i x5.2.2.2.2.1, .i x5.2.2.2.2.2, .nils, .nils, .nils])] [] [] (.cons (Pe.ren (raft_follow_ok x4.1 x4.2.1 m.Term 0 x4.2.2.2.2.2.1 x4.2.2.2.2.2.2.1 x4.2.2.2.2.1 x4.2.2.2.2.2.2.2.1 x4.2.2.2.2.2.2.2.2.1 x4.2.2.2.2.2.2.2.2.2 0 0 false 0 0 false 0 0 false 0 0 false x5 h4) ⟨[(100000, 27)], [(100000, 27), (100001, 20027), (100002, 40027), (100003, 60027)], [], []⟩) .nil) ?_
          refine Wk_nilrowB 27 7 60000 3 1 rfl rfl rfl rfl rfl ?_
          refine Wk_nilrowB 27 8 60001 3 1 rfl rfl rfl rfl rfl ?_
          refine Wk_nilrowB 27 9 60002 3 1 rfl rfl rfl rfl rfl ?_
          refine Wk_trim (fs := [3, 4, 6, 7, 8]) (bs := [3, 4, 6, 7, 27]) (rs := [27, 60000, 60001, 60002]) (ms := []) (aa := []) (nv := []) rfl ?_
          refine Wk_ren' ⟨[], [(60000, 20027), (60001, 40027), (60002, 60027)], [], []⟩ rfl ?_
          exact Wk_met (fs := [3, 4, 6, 7, 8]) (bs := [3, 4, 6, 7, 27]) (rs := [27, 20027, 40027, 60027]) (ms := []) (aa := []) (nv := [(20027, ⟨0, true, false, false⟩), (40027, ⟨0, true, false, false⟩), (60027, ⟨0, true, false, false⟩)]) (by first | (rw [← some_elim hF]; kernel_rfl) | kernel_rfl)
        · have hF := ite_f hF hb
          refine Wk_skip ?_
          exact Wk_met (fs := [3, 4, 6, 7, 8]) (bs := [3, 4, 6, 7, 27]) (rs := [27, 20027, 40027, 60027]) (ms := []) (aa := []) (nv := []) (by first | (rw [← some_elim hF]; kernel_rfl) | kernel_rfl)
      · refine ZRs [] [3, 4, 6, 7, 8, 9] [3, 4, 6, 7, 27] [27, 20027, 40027, 60027] [(9, .nils)] .nil ?_
        refine Wk_seq ?_
        refine ZRs [] [3, 4, 6, 7, 8, 9, 46] [3, 4, 6, 7, 27] [27, 20027, 40027, 60027] [(46, .i m.Kind)] .nil ?_
        refine Wk_block ?_
        refine ZRs [] [3, 4, 6, 7, 8, 9, 46, 47] [3, 4, 6, 7, 27] [27, 20027, 40027, 60027] [(47, .bool (decide (m.Kind = 1)))] .nil ?_
        obtain ⟨v2, hv, hF⟩ := ob_elim hF
        refine Wk_meet (⟨[(4, .ptr 4 0), (6, .ptr 6 0), (7, .ptr 7 0), (8, .ptr 27 0), (9, .sl 9 (v2.2.2.2.2.2.2.2.2.2.2.map e_Mail))], [(4, [.i 0, .i 0, .i 0, .i 0, .nils, .i 0, .i 0, .nils, .nils, .nils]), (6, [.i 0, .i 0]), (7, [.i v.Code, .i v.At]), (27, [.i v2.1, .i v2.2.1, .i v2.2.2.1, .i v2.2.2.2.1, .sl 2 (v2.2.2.2.2.1.map e_Entry), .i v2.2.2.2.2.2.1, .i v2.2.2.2.2.2.2.1, .sl 1 (v2.2.2.2.2.2.2.2.1.map e_i64), .sl 1 (v2.2.2.2.2.2.2.2.2.1.map e_i64), .sl 1 (v2.2.2.2.2.2.2.2.2.2.1.map e_i64)])], [], [], []⟩ : S) ?_ ?_
        · have hF := hv
          refine Wk_split rfl (fun hb => ?_) (fun hb => ?_)
          · have hF := ite_t hF hb
            obtain ⟨x6, h5, hF⟩ := ob_elim hF
            refine UR [.callE [27] [27, 20027, 40027, 60027] [] [] (.sl 9 (x6.1.map e_Mail)) ⟨[], [(27, [.i x6.2.1, .i x6.2.2.1, .i x6.2.2.2.1, .i x6.2.2.2.2.1, .row 27 0, .i x6.2.2.2.2.2.1, .i x6.2.2.2.2.2.2, .row 20027 0, .row 40027 0, .row 60027 0])], [(27, .o 31 2 0 (x4.2.2.2.2.1.map e_Entry)), (20027, .o 3 1 0 (v1.2.2.2.2.2.2.1.map e_i64)), (40027, .o 3 1 0 (v1.2.2.2.2.2.2.2.1.map e_i64)), (60027, .o 3 1 0 (v1.2.2.2.2.2.2.2.2.map e_i64))], [], []⟩] [4, 6, 7, 8, 9] [4, 6, 7, 27] [27, 20027, 40027, 60027] [] [(9, .sl 9 (x6.1.map e_Mail))] [(27, [.i x6.2.1, .i x6.2.2.1, .i x6.2.2.2.1, .i x6.2.2.2.2.1, .row 27 0, .i x6.2.2.2.2.2.1, .i x6.2.2.2.2.2.2, .row 20027 0, .row 40027 0, .row 60027 0])] [] [] (.cons (Pe.ren (raft_asked_ok m v1.1 v1.2.1 v1.2.2.1 v1.2.2.2.1 v1.2.2.2.2.1 v1.2.2.2.2.2.1 x4.2.2.2.2.1 v1.2.2.2.2.2.2.1 v1.2.2.2.2.2.2.2.1 v1.2.2.2.2.2.2.2.2 0 0 false 0 0 false 0 0 false 0 0 false x6 h5) ⟨[(100000, 27)], [(100000, 27), (100001, 20027), (100002, 40027), (100003, 60027)], [], []⟩) .nil) ?_
            refine Wk_sealBX [] 27 rfl rfl ?_
            exact Wk_met (fs := [4, 6, 7, 8, 9]) (bs := [4, 6, 7, 27]) (rs := []) (ms := []) (aa := []) (nv := []) (by first | (rw [← some_elim hF]; kernel_rfl) | kernel_rfl)
          · have hF := ite_f hF hb
            refine ZRs [] [3, 4, 6, 7, 8, 9, 46, 52] [3, 4, 6, 7, 27] [27, 20027, 40027, 60027] [(52, .bool (decide (m.Kind = 2)))] .nil ?_
            refine Wk_split rfl (fun hb => ?_) (fun hb => ?_)
            · have hF := ite_t hF hb
              obtain ⟨x7, h6, hF⟩ := ob_elim hF
              refine UR [.callE [27] [27, 20027, 40027, 60027] [] [] (.row 56 0) ⟨[], [(27, [.i x7.2.1, .i x7.2.2.1, .i x7.2.2.2.1, .i x7.2.2.2.2.1, .sl 2 (x7.2.2.2.2.2.1.map e_Entry), .i x7.2.2.2.2.2.2.1, .i x7.2.2.2.2.2.2.2.1, .sl 1 (x7.2.2.2.2.2.2.2.2.1.map e_i64), .sl 1 (x7.2.2.2.2.2.2.2.2.2.1.map e_i64), .sl 1 (x7.2.2.2.2.2.2.2.2.2.2.1.map e_i64)])], [(27, ⟨31, 2, 0, (x7.2.2.2.2.2.2.2.2.2.2.2.1.map e_Entry).length, 0, false, 0, [], (x7.2.2.2.2.2.2.2.2.2.2.2.1.map e_Entry)⟩), (20027, ⟨3, 1, 1, (x7.2.2.2.2.2.2.2.2.2.2.2.2.map e_i64).length, 0, false, 0, [], (x7.2.2.2.2.2.2.2.2.2.2.2.2.map e_i64)⟩), (40027, ⟨3, 1, 0, ((v1.2.2.2.2.2.2.2.1).map e_i64).length, 0, false, 0, [], (v1.2.2.2.2.2.2.2.1.map e_i64)⟩), (60027, ⟨3, 1, 0, ((v1.2.2.2.2.2.2.2.2).map e_i64).length, 0, false, 0, [], (v1.2.2.2.2.2.2.2.2.map e_i64)⟩), (56, .z 62 9 0 (x7.1.map e_Mail))], [], []⟩] [4, 6, 7, 8, 9] [4, 6, 7, 27] [56] [] [(9, .row 56 0)] [(27, [.i x7.2.1, .i x7.2.2.1, .i x7.2.2.2.1, .i x7.2.2.2.2.1, .sl 2 (x7.2.2.2.2.2.1.map e_Entry), .i x7.2.2.2.2.2.2.1, .i x7.2.2.2.2.2.2.2.1, .sl 1 (x7.2.2.2.2.2.2.2.2.1.map e_i64), .sl 1 (x7.2.2.2.2.2.2.2.2.2.1.map e_i64), .sl 1 (x7.2.2.2.2.2.2.2.2.2.2.1.map e_i64)])] [(56, .z 62 9 0 (x7.1.map e_Mail))] [] (.cons (Pe.ren (raft_given_ok m v1.1 v1.2.1 v1.2.2.1 v1.2.2.2.1 v1.2.2.2.2.1 v1.2.2.2.2.2.1 x4.2.2.2.2.1 v1.2.2.2.2.2.2.1 v1.2.2.2.2.2.2.2.1 v1.2.2.2.2.2.2.2.2 0 0 false 0 0 false 0 0 false 0 0 false x7 h6) ⟨[(100000, 27)], [(100000, 27), (100001, 20027), (100002, 40027), (100003, 60027), (57, 56)], [], []⟩) .nil) ?_
              refine Wk_sealX [] 9 rfl rfl ?_
              exact Wk_met (fs := [4, 6, 7, 8, 9]) (bs := [4, 6, 7, 27]) (rs := []) (ms := []) (aa := []) (nv := []) (by first | (rw [← some_elim hF]; kernel_rfl) | kernel_rfl)
            · have hF := ite_f hF hb
              refine ZRs [] [3, 4, 6, 7, 8, 9, 46, 57] [3, 4, 6, 7, 27] [27, 20027, 40027, 60027] [(57, .bool (decide (m.Kind = 3)))] .nil ?_
              refine Wk_split rfl (fun hb => ?_) (fun hb => ?_)
              · have hF := ite_t hF hb
                obtain ⟨x8, h7, hF⟩ := ob_elim hF
                refine UR [.callE [27] [27, 20027, 40027, 60027] [] [] (.sl 9 (x8.1.map e_Mail)) ⟨[], [(27, [.i x8.2.1, .i x8.2.2.1, .i x8.2.2.2.1, .i x8.2.2.2.2.1, .sl 2 (x8.2.2.2.2.2.1.map e_Entry), .i x8.2.2.2.2.2.2.1, .i x8.2.2.2.2.2.2.2.1, .sl 1 (x8.2.2.2.2.2.2.2.2.1.map e_i64), .sl 1 (x8.2.2.2.2.2.2.2.2.2.1.map e_i64), .sl 1 (x8.2.2.2.2.2.2.2.2.2.2.1.map e_i64)])], [(27, ⟨31, 2, 0, (x8.2.2.2.2.2.2.2.2.2.2.2.map e_Entry).length, 0, false, 0, [], (x8.2.2.2.2.2.2.2.2.2.2.2.map e_Entry)⟩), (20027, ⟨3, 1, 0, ((v1.2.2.2.2.2.2.1).map e_i64).length, 0, false, 0, [], (v1.2.2.2.2.2.2.1.map e_i64)⟩), (40027, ⟨3, 1, 0, ((v1.2.2.2.2.2.2.2.1).map e_i64).length, 0, false, 0, [], (v1.2.2.2.2.2.2.2.1.map e_i64)⟩), (60027, ⟨3, 1, 0, ((v1.2.2.2.2.2.2.2.2).map e_i64).length, 0, false, 0, [], (v1.2.2.2.2.2.2.2.2.map e_i64)⟩)], [], []⟩] [4, 6, 7, 8, 9] [4, 6, 7, 27] [] [] [(9, .sl 9 (x8.1.map e_Mail))] [(27, [.i x8.2.1, .i x8.2.2.1, .i x8.2.2.2.1, .i x8.2.2.2.2.1, .sl 2 (x8.2.2.2.2.2.1.map e_Entry), .i x8.2.2.2.2.2.2.1, .i x8.2.2.2.2.2.2.2.1, .sl 1 (x8.2.2.2.2.2.2.2.2.1.map e_i64), .sl 1 (x8.2.2.2.2.2.2.2.2.2.1.map e_i64), .sl 1 (x8.2.2.2.2.2.2.2.2.2.2.1.map e_i64)])] [] [] (.cons (Pe.ren (raft_bringing_ok m v1.1 v1.2.1 v1.2.2.1 v1.2.2.2.1 v1.2.2.2.2.1 v1.2.2.2.2.2.1 x4.2.2.2.2.1 v1.2.2.2.2.2.2.1 v1.2.2.2.2.2.2.2.1 v1.2.2.2.2.2.2.2.2 0 0 false 0 0 false 0 0 false 0 0 false x8 h7) ⟨[(100000, 27)], [(100000, 27), (100001, 20027), (100002, 40027), (100003, 60027)], [], []⟩) .nil) ?_
                exact Wk_met (fs := [4, 6, 7, 8, 9]) (bs := [4, 6, 7, 27]) (rs := []) (ms := []) (aa := []) (nv := []) (by first | (rw [← some_elim hF]; kernel_rfl) | kernel_rfl)
              · have hF := ite_f hF hb
                refine ZRs [] [3, 4, 6, 7, 8, 9, 62] [3, 4, 6, 7, 27] [27, 20027, 40027, 60027] [(62, .bool (decide (m.Kind = 4)))] .nil ?_
                refine Wk_split rfl (fun hb => ?_) (fun hb => ?_)
                · have hF := ite_t hF hb
                  obtain ⟨x9, h8, hF⟩ := ob_elim hF
                  refine UR [.callE [27] [27, 20027, 40027, 60027] [] [] (.tup []) ⟨[], [(27, [.i x9.1, .i x9.2.1, .i x9.2.2.1, .i x9.2.2.2.1, .row 27 0, .i x9.2.2.2.2.1, .i x9.2.2.2.2.2.1, .row 20027 0, .row 40027 0, .row 60027 0])], [(27, .o 31 2 0 (x4.2.2.2.2.1.map e_Entry)), (20027, .o 3 1 0 (v1.2.2.2.2.2.2.1.map e_i64)), (40027, .o 3 1 0 (x9.2.2.2.2.2.2.1.map e_i64)), (60027, .o 3 1 0 (x9.2.2.2.2.2.2.2.map e_i64))], [], []⟩] [4, 6, 7, 8, 9] [4, 6, 7, 27] [27, 20027, 40027, 60027] [] [] [(27, [.i x9.1, .i x9.2.1, .i x9.2.2.1, .i x9.2.2.2.1, .row 27 0, .i x9.2.2.2.2.1, .i x9.2.2.2.2.2.1, .row 20027 0, .row 40027 0, .row 60027 0])] [(40027, .o 3 1 0 (x9.2.2.2.2.2.2.1.map e_i64)), (60027, .o 3 1 0 (x9.2.2.2.2.2.2.2.map e_i64))] [] (.cons (Pe.ren (raft_answered_ok m v1.1 v1.2.1 v1.2.2.1 v1.2.2.2.1 v1.2.2.2.2.1 v1.2.2.2.2.2.1 x4.2.2.2.2.1 v1.2.2.2.2.2.2.1 v1.2.2.2.2.2.2.2.1 v1.2.2.2.2.2.2.2.2 0 0 false 0 0 false 0 0 false 0 0 false x9 h8) ⟨[(100000, 27)], [(100000, 27), (100001, 20027), (100002, 40027), (100003, 60027)], [], []⟩) .nil) ?_
                  refine Wk_coe 9 (.sl 9 (([] : List Mail).map e_Mail)) rfl (.cell rfl (CoeS.nils 9)) ?_
                  refine Wk_sealBX [] 27 rfl rfl ?_
                  exact Wk_met (fs := [4, 6, 7, 8, 9]) (bs := [4, 6, 7, 27]) (rs := []) (ms := []) (aa := []) (nv := []) (by first | (rw [← some_elim hF]; kernel_rfl) | kernel_rfl)
                · have hF := ite_f hF hb
                  refine Wk_skip ?_
                  refine Wk_coe 9 (.sl 9 (([] : List Mail).map e_Mail)) rfl (.cell rfl (CoeS.nils 9)) ?_
                  refine Wk_sealBX [] 27 rfl rfl ?_
                  exact Wk_met (fs := [4, 6, 7, 8, 9]) (bs := [4, 6, 7, 27]) (rs := []) (ms := []) (aa := []) (nv := []) (by first | (rw [← some_elim hF]; kernel_rfl) | kernel_rfl)
        · refine Wk_blk ?_
          refine UDs [] [4, 5, 6] [4, 6] [] [] [(5, .sl 9 (v2.2.2.2.2.2.2.2.2.2.2.map e_Mail))] [(4, [.i v2.1, .i v2.2.1, .i v2.2.2.1, .i v2.2.2.2.1, .sl 2 (v2.2.2.2.2.1.map e_Entry), .i v2.2.2.2.2.2.1, .i v2.2.2.2.2.2.2.1, .sl 1 (v2.2.2.2.2.2.2.2.1.map e_i64), .sl 1 (v2.2.2.2.2.2.2.2.2.1.map e_i64), .sl 1 (v2.2.2.2.2.2.2.2.2.2.1.map e_i64)]), (6, [.i v.Code, .i v.At])] [] [] .nil ?_
          have hF := some_elim hF
          exact Wk_ret (hfin _ ⟨[], [], [], [], [], [], by first | (rw [← hF]; kernel_rfl) | kernel_rfl⟩)

/- (*clan.game).does$3 -/
noncomputable def clan_game_does_3 (x : Node) (box : Mail) : Option (Node × List Mail × Fault) :=
  ob (raft_Take x box) fun x1 =>
  some (x1.1, x1.2.1, x1.2.2)
theorem clan_game_does_3_ok (x : Node) (box : Mail) (r : Node × List Mail × Fault) (hF : clan_game_does_3 x box = some r) : Pe Try.prog 99 ⟨[], [(100000, (c_Mail box))], [], [], []⟩ [.agg (c_Node x), .ptr 100000 0] (.tup [.agg (c_Node r.1), .sl 9 (r.2.1.map e_Mail), .agg [.i r.2.2.Code, .i r.2.2.At]]) ⟨[], [(100000, (c_Mail box))], [], [], []⟩ := by
  refine Pe_of (N := 12) (res := [.cell 3 46, .tmp 4, .cell 5 26]) (ts := [46, 50, 26]) Ty.ok Fn.b99 Try.func99 rfl rfl rfl rfl rfl rfl ?_
  intro Q g hfin
  unfold clan_game_does_3 at hF
  refine URs [] [1, 2, 3, 5] [2, 3, 5, 100000] [] [] [(2, .ptr 2 0), (3, .ptr 3 0), (5, .ptr 5 0)] [(2, (c_Node x)), (3, [.i 0, .i 0, .i 0, .i 0, .nils, .i 0, .i 0, .nils, .nils, .nils]), (5, [.i 0, .i 0])] [] [] .nil ?_
  refine Wk_seq ?_
  obtain ⟨x1, h0, hF⟩ := ob_elim hF
  refine UR [.call (.tup [.agg (c_Node x1.1), .sl 9 (x1.2.1.map e_Mail), .agg [.i x1.2.2.Code, .i x1.2.2.At]])] [3, 4, 5] [3, 5, 100000] [] [] [(4, .sl 9 (x1.2.1.map e_Mail))] [(3, (c_Node x1.1)), (5, [.i x1.2.2.Code, .i x1.2.2.At])] [] [] (.cons (raft_Take_ok x box x1 h0) .nil) ?_
  have hF := some_elim hF
  exact Wk_ret (hfin _ ⟨[], [100000], [], [], [], [], by first | (rw [← hF]; kernel_rfl) | kernel_rfl⟩)

/- (*clan.game).node -/
noncomputable def clan_game_node_v3 (who : Int) (box : List (List UInt8)) (box1 : Mail) (row : List Node) (row1 : List Mail) : Option (Bool × List Node × List Mail × List (List UInt8)) :=
  asrt (0 ≤ who ∧ who < (row.length : Int)) <|
  asrt (0 ≤ who ∧ who < (row.length : Int)) <|
  ob (clan_game_does_3 (⟨(lget row who).N, (lget row who).ID, (lget row who).Term, (lget row who).Vote, (lget row who).Log, (lget row who).Role, (lget row who).Commit, (lget row who).Votes, (lget row who).Next, (lget row who).Have⟩ : Node) box1) fun x =>
  if (!decide (x.2.2.Code = 0)) = true then
    some (false, row, row1, box)
  else
    asrt (((row1 ++ x.2.1).length : Int) * 88 ≤ 140737488351232) <|
    asrt (0 ≤ who ∧ who < (row.length : Int)) <|
    asrt (0 ≤ who ∧ who < (row.length : Int)) <|
    some (true, (lset row who x.1), (row1 ++ x.2.1), box)
theorem clan_game_node_v3_ok (who : Int) (box : List (List UInt8)) (box1 : Mail) (row : List Node) (row1 : List Mail) (rk : Nat) (rc : Nat) (rn : Bool) (rk1 : Nat) (rc1 : Nat) (rn1 : Bool) (r : Bool × List Node × List Mail × List (List UInt8)) (hF : clan_game_node_v3 who box box1 row row1 = some r) : Pe Try.prog 95 ⟨[], [(100000, [.row 100000 0, .row 100001 0, .sl 1 (box.map e_str)]), (100001, (c_Mail box1))], [(100000, ⟨46, 10, 0, 0, rc, rn, 0, [], (row.map e_Node)⟩), (100001, ⟨62, 9, 0, rk1, rc1, rn1, 0, [], (row1.map e_Mail)⟩)], [], []⟩ [.ptr 100000 0, .i who, .fn 99 [.ptr 100001 0]] (.bool r.1) ⟨[], [(100000, [.row 100000 0, .row 100001 1, .sl 1 (r.2.2.2.map e_str)]), (100001, (c_Mail box1))], [(100000, ⟨46, 10, 0, 0, rc, rn, 0, [], (r.2.1.map e_Node)⟩), (100001, ⟨62, 9, 1, rk1, rc1, rn1, 0, [], (r.2.2.1.map e_Mail)⟩)], [], []⟩ := by
  refine Pe_of (N := 46) (res := [.tmp 6]) (ts := [4]) Ty.ok Fn.b95 Try.func95 rfl rfl rfl rfl rfl rfl ?_
  intro Q g hfin
  unfold clan_game_node_v3 at hF
  refine ZRs [] [0, 1, 2] [100000, 100001] [100000, 100001] [] .nil ?_
  refine Wk_seq ?_
  obtain ⟨h0, hF⟩ := asrt_elim hF
  obtain ⟨h1, hF⟩ := asrt_elim hF
  obtain ⟨x, h2, hF⟩ := ob_elim hF
  refine UR [.av (e_Node (lget row who)), .callR [100001] [] [] [] (.tup [.agg (c_Node x.1), .sl 9 (x.2.1.map e_Mail), .agg [.i x.2.2.Code, .i x.2.2.At]])] [0, 1, 7, 8, 9] [7, 9, 100000, 100001] [100000, 100001] [] [(7, .ptr 7 0), (8, .sl 9 (x.2.1.map e_Mail)), (9, .ptr 9 0)] [(7, (c_Node x.1)), (9, [.i x.2.2.Code, .i x.2.2.At])] [] [] (.cons (ixr_ok e_Node h0) (.cons (ldr_ok e_Node h1) (.cons (Pe.ren (clan_game_does_3_ok (⟨(lget row who).N, (lget row who).ID, (lget row who).Term, (lget row who).Vote, (lget row who).Log, (lget row who).Role, (lget row who).Commit, (lget row who).Votes, (lget row who).Next, (lget row who).Have⟩ : Node) box1 x h2) ⟨[(100000, 100001)], [], [], []⟩) .nil))) ?_
  refine Wk_seq ?_
  refine ZRs [] [0, 1, 7, 8, 26] [7, 100000, 100001] [100000, 100001] [(26, .bool (!decide (x.2.2.Code = 0)))] .nil ?_
  refine Wk_split rfl (fun hb => ?_) (fun hb => ?_)
  · have hF := ite_t hF hb
    refine ZRs [] [6] [100000, 100001] [100000, 100001] [(6, .bool false)] .nil ?_
    have hF := some_elim hF
    exact Wk_ret (hfin _ ⟨[100000, 100001], [100000, 100001], [100000, 100001], [], [], [(100001, ⟨1, true, true, false⟩)], by first | (rw [← hF]; kernel_rfl) | kernel_rfl⟩)
  · have hF := ite_f hF hb
    refine Wk_skip ?_
    refine Wk_seq ?_
    obtain ⟨h3, hF⟩ := asrt_elim hF
    obtain ⟨h4, hF⟩ := asrt_elim hF
    obtain ⟨h5, hF⟩ := asrt_elim hF
    refine UD [.xs ((row1 ++ x.2.1).map e_Mail), .av (e_Node (lget row who)), .xs ((lset row who x.1).map e_Node)] [] [100000, 100001] [100000, 100001] [] [] [(100000, [.row 100000 0, .row 100001 1, .sl 1 (box.map e_str)])] [(100000, ⟨46, 10, 0, 0, rc, rn, 0, [], ((lset row who x.1).map e_Node)⟩), (100001, ⟨62, 9, 1, rk1, rc1, rn1, 0, [], ((row1 ++ x.2.1).map e_Mail)⟩)] [] (.cons (app_ok e_Mail row1 x.2.1) (.cons (appl_ok e_Mail h3) (.cons (ixr_ok e_Node h4) (.cons (ldr_ok e_Node h5) (.cons (set_ok e_Node row who x.1) (.cons (Nat.zero_le who.toNat) .nil)))))) ?_
    refine ZRs [] [6] [100000, 100001] [100000, 100001] [(6, .bool true)] .nil ?_
    have hF := some_elim hF
    exact Wk_ret (hfin _ ⟨[100000, 100001], [100000, 100001], [100000, 100001], [], [], [], by first | (rw [← hF]; kernel_rfl) | kernel_rfl⟩)

/- raft.Restart -/
noncomputable def raft_Restart (x : Node) : Option (Int × Int × Int × Int × List Entry × Int × Int × Fault) :=
  ob (raft_Check x) fun x1 =>
  if (!decide (x1.Code = 0)) = true then
    some (0, 0, 0, 0, ([] : List Entry), 0, 0, x1)
  else
    ob (raft_own x) fun x2 =>
    lt (raft_follow x2.1 x2.2.1 x2.2.2.1 x2.2.2.2.1 x2.2.2.2.2.2.1 x2.2.2.2.2.2.2.1 x2.2.2.2.2.1 x2.2.2.2.2.2.2.2.1 x2.2.2.2.2.2.2.2.2.1 x2.2.2.2.2.2.2.2.2.2) fun x3 =>
    some (x3.1, x3.2.1, x3.2.2.1, x3.2.2.2.1, x2.2.2.2.2.1, x3.2.2.2.2.1, 0, x1)
theorem raft_Restart_ok (x : Node) (r : Int × Int × Int × Int × List Entry × Int × Int × Fault) (hF : raft_Restart x = some r) : Pe Try.prog 34 ⟨[], [], [], [], []⟩ [.agg (c_Node x)] (.tup [.agg [.i r.1, .i r.2.1, .i r.2.2.1, .i r.2.2.2.1, .row 14 0, .i r.2.2.2.2.2.1, .i r.2.2.2.2.2.2.1, .row 71001 0, .row 71002 0, .row 71003 0], .agg [.i r.2.2.2.2.2.2.2.Code, .i r.2.2.2.2.2.2.2.At]]) ⟨[], [], [(14, .o 31 2 0 (r.2.2.2.2.1.map e_Entry)), (71001, .z 3 1 0 (([] : List Int).map e_i64)), (71002, .z 3 1 0 (([] : List Int).map e_i64)), (71003, .z 3 1 0 (([] : List Int).map e_i64))], [], []⟩ := by
  refine Pe_of (N := 24) (res := [.cell 2 46, .cell 3 26]) (ts := [46, 26]) Ty.ok Fn.b34 Try.func34 rfl rfl rfl rfl rfl rfl ?_
  intro Q g hfin
  unfold raft_Restart at hF
  refine URs [] [1, 2, 3] [1, 2, 3] [] [] [(1, .ptr 1 0), (2, .ptr 2 0), (3, .ptr 3 0)] [(1, (c_Node x)), (2, [.i 0, .i 0, .i 0, .i 0, .nils, .i 0, .i 0, .nils, .nils, .nils]), (3, [.i 0, .i 0])] [] [] .nil ?_
  refine Wk_seq ?_
  obtain ⟨x1, h0, hF⟩ := ob_elim hF
  refine UR [.callB (.agg [.i x1.Code, .i x1.At])] [1, 2, 3, 4] [1, 2, 3, 4] [] [] [(4, .ptr 4 0)] [(4, [.i x1.Code, .i x1.At])] [] [] (.cons (raft_Check_ok x x1 h0) .nil) ?_
  refine Wk_seq ?_
  refine ZRs [] [1, 2, 3, 4, 10] [1, 2, 3, 4] [] [(10, .bool (!decide (x1.Code = 0)))] .nil ?_
  refine Wk_split rfl (fun hb => ?_) (fun hb => ?_)
  · have hF := ite_t hF hb
    refine UDs [] [2, 3] [2, 3] [] [] [] [(3, [.i x1.Code, .i x1.At])] [] [] .nil ?_
    have hF := some_elim hF
    refine Wk_nilrowB 2 4 60000 31 2 rfl rfl rfl rfl rfl ?_
    refine Wk_nilrowB 2 7 60001 3 1 rfl rfl rfl rfl rfl ?_
    refine Wk_nilrowB 2 8 60002 3 1 rfl rfl rfl rfl rfl ?_
    refine Wk_nilrowB 2 9 60003 3 1 rfl rfl rfl rfl rfl ?_
    refine Wk_ren' ⟨[], [(60000, 14), (60001, 71001), (60002, 71002), (60003, 71003)], [], []⟩ rfl ?_
    exact Wk_ret (hfin _ ⟨[14, 71001, 71002, 71003], [], [14, 71001, 71002, 71003], [], [], [(14, ⟨0, true, false, false⟩)], by first | (rw [← hF]; kernel_rfl) | kernel_rfl⟩)
  · have hF := ite_f hF hb
    refine Wk_skip ?_
    refine Wk_seq ?_
    obtain ⟨x2, h1, hF⟩ := ob_elim hF
    refine UR [.callE [] [] [] [] (.ptr 14 0) ⟨[], [(14, [.i x2.1, .i x2.2.1, .i x2.2.2.1, .i x2.2.2.2.1, .row 14 0, .i x2.2.2.2.2.2.1, .i x2.2.2.2.2.2.2.1, .row 20014 0, .row 40014 0, .row 60014 0])], [(14, .o 31 2 0 (x2.2.2.2.2.1.map e_Entry)), (20014, .o 3 1 0 (x2.2.2.2.2.2.2.2.1.map e_i64)), (40014, .o 3 1 0 (x2.2.2.2.2.2.2.2.2.1.map e_i64)), (60014, .o 3 1 0 (x2.2.2.2.2.2.2.2.2.2.map e_i64))], [], []⟩] [2, 3, 4, 5] [2, 3, 4, 14] [14, 20014, 40014, 60014] [] [(5, .ptr 14 0)] [(14, [.i x2.1, .i x2.2.1, .i x2.2.2.1, .i x2.2.2.2.1, .row 14 0, .i x2.2.2.2.2.2.1, .i x2.2.2.2.2.2.2.1, .row 20014 0, .row 40014 0, .row 60014 0])] [(14, .o 31 2 0 (x2.2.2.2.2.1.map e_Entry)), (20014, .o 3 1 0 (x2.2.2.2.2.2.2.2.1.map e_i64)), (40014, .o 3 1 0 (x2.2.2.2.2.2.2.2.2.1.map e_i64)), (60014, .o 3 1 0 (x2.2.2.2.2.2.2.2.2.2.map e_i64))] [] (.cons (Pe.ren (raft_own_ok x x2 h1) ⟨[(1, 14)], [(5, 14), (8, 20014), (11, 40014), (5, 60014)], [], []⟩) .nil) ?_
    refine Wk_seq ?_
    obtain ⟨x3, h2, hF⟩ := lt_split hF
    refine UR [.callE [14] [14, 20014, 40014, 60014] [] [] (.tup []) ⟨[], [(14, [.i x3.1, .i x3.2.1, .i x3.2.2.1, .i x3.2.2.2.1, .row 14 0, .i x3.2.2.2.2.1, .i x3.2.2.2.2.2, .nils, .nils, .nils])], [(14, .o 31 2 0 (x2.2.2.2.2.1.map e_Entry)), (20014, .o 3 1 0 (x2.2.2.2.2.2.2.2.1.map e_i64)), (40014, .o 3 1 0 (x2.2.2.2.2.2.2.2.2.1.map e_i64)), (60014, .o 3 1 0 (x2.2.2.2.2.2.2.2.2.2.map e_i64))], [], []⟩] [2, 3, 4, 5] [2, 3, 4, 14] [14] [] [] [(14, [.i x3.1, .i x3.2.1, .i x3.2.2.1, .i x3.2.2.2.1, .row 14 0, .i x3.2.2.2.2.1, .i x3.2.2.2.2.2, .nils, .nils, .nils])] [] [] (.cons (Pe.ren (raft_follow_ok x2.1 x2.2.1 x2.2.2.1 x2.2.2.2.1 x2.2.2.2.2.2.1 x2.2.2.2.2.2.2.1 x2.2.2.2.2.1 x2.2.2.2.2.2.2.2.1 x2.2.2.2.2.2.2.2.2.1 x2.2.2.2.2.2.2.2.2.2 0 0 false 0 0 false 0 0 false 0 0 false x3 h2) ⟨[(100000, 14)], [(100000, 14), (100001, 20014), (100002, 40014), (100003, 60014)], [], []⟩) .nil) ?_
    refine URs [] [2, 3, 4, 5] [2, 3, 4, 14] [14] [] [] [(14, [.i x3.1, .i x3.2.1, .i x3.2.2.1, .i x3.2.2.2.1, .row 14 0, .i x3.2.2.2.2.1, .i 0, .nils, .nils, .nils])] [] [] .nil ?_
    refine UDs [] [2, 3] [2, 3] [14] [] [] [(2, [.i x3.1, .i x3.2.1, .i x3.2.2.1, .i x3.2.2.2.1, .row 14 0, .i x3.2.2.2.2.1, .i 0, .nils, .nils, .nils]), (3, [.i x1.Code, .i x1.At])] [] [] .nil ?_
    have hF := some_elim hF
    refine Wk_nilrowB 2 7 60004 3 1 rfl rfl rfl rfl rfl ?_
    refine Wk_nilrowB 2 8 60005 3 1 rfl rfl rfl rfl rfl ?_
    refine Wk_nilrowB 2 9 60006 3 1 rfl rfl rfl rfl rfl ?_
    refine Wk_ren' ⟨[], [(60004, 71001), (60005, 71002), (60006, 71003)], [], []⟩ rfl ?_
    exact Wk_ret (hfin _ ⟨[14, 71001, 71002, 71003], [], [14, 71001, 71002, 71003], [], [], [], by first | (rw [← hF]; kernel_rfl) | kernel_rfl⟩)

/- (*clan.game).does$4 -/
noncomputable def clan_game_does_4 (x : Node) : Option (Int × Int × Int × Int × List Entry × Int × Int × List Int × List Int × List Int × List Mail × Fault) :=
  ob (raft_Restart x) fun x1 =>
  some (x1.1, x1.2.1, x1.2.2.1, x1.2.2.2.1, x1.2.2.2.2.1, x1.2.2.2.2.2.1, x1.2.2.2.2.2.2.1, ([] : List Int), ([] : List Int), ([] : List Int), ([] : List Mail), x1.2.2.2.2.2.2.2)
theorem clan_game_does_4_ok (x : Node) (r : Int × Int × Int × Int × List Entry × Int × Int × List Int × List Int × List Int × List Mail × Fault) (hF : clan_game_does_4 x = some r) : Pe Try.prog 100 ⟨[], [], [], [], []⟩ [.agg (c_Node x)] (.tup [.agg [.i r.1, .i r.2.1, .i r.2.2.1, .i r.2.2.2.1, .row 9 0, .i r.2.2.2.2.2.1, .i r.2.2.2.2.2.2.1, .row 20009 0, .row 40009 0, .row 60009 0], .sl 9 (r.2.2.2.2.2.2.2.2.2.2.1.map e_Mail), .agg [.i r.2.2.2.2.2.2.2.2.2.2.2.Code, .i r.2.2.2.2.2.2.2.2.2.2.2.At]]) ⟨[], [], [(9, .o 31 2 0 (r.2.2.2.2.1.map e_Entry)), (20009, .z 3 1 0 (r.2.2.2.2.2.2.2.1.map e_i64)), (40009, .z 3 1 0 (r.2.2.2.2.2.2.2.2.1.map e_i64)), (60009, .z 3 1 0 (r.2.2.2.2.2.2.2.2.2.1.map e_i64))], [], []⟩ := by
  refine Pe_of (N := 14) (res := [.cell 2 46, .tmp 3, .cell 4 26]) (ts := [46, 50, 26]) Ty.ok Fn.b100 Try.func100 rfl rfl rfl rfl rfl rfl ?_
  intro Q g hfin
  unfold clan_game_does_4 at hF
  refine URs [] [1, 2, 4] [1, 2, 4] [] [] [(1, .ptr 1 0), (2, .ptr 2 0), (4, .ptr 4 0)] [(1, (c_Node x)), (2, [.i 0, .i 0, .i 0, .i 0, .nils, .i 0, .i 0, .nils, .nils, .nils]), (4, [.i 0, .i 0])] [] [] .nil ?_
  refine Wk_seq ?_
  obtain ⟨x1, h0, hF⟩ := ob_elim hF
  refine UR [.callE [] [] [] [] (.tup [.agg [.i x1.1, .i x1.2.1, .i x1.2.2.1, .i x1.2.2.2.1, .row 9 0, .i x1.2.2.2.2.2.1, .i x1.2.2.2.2.2.2.1, .row 20009 0, .row 40009 0, .row 60009 0], .agg [.i x1.2.2.2.2.2.2.2.Code, .i x1.2.2.2.2.2.2.2.At]]) ⟨[], [], [(9, .o 31 2 0 (x1.2.2.2.2.1.map e_Entry)), (20009, .z 3 1 0 (([] : List Int).map e_i64)), (40009, .z 3 1 0 (([] : List Int).map e_i64)), (60009, .z 3 1 0 (([] : List Int).map e_i64))], [], []⟩] [2, 4, 5, 6] [2, 4, 5, 6] [9, 20009, 40009, 60009] [] [(5, .ptr 5 0), (6, .ptr 6 0)] [(5, [.i x1.1, .i x1.2.1, .i x1.2.2.1, .i x1.2.2.2.1, .row 9 0, .i x1.2.2.2.2.2.1, .i x1.2.2.2.2.2.2.1, .row 20009 0, .row 40009 0, .row 60009 0]), (6, [.i x1.2.2.2.2.2.2.2.Code, .i x1.2.2.2.2.2.2.2.At])] [(9, .o 31 2 0 (x1.2.2.2.2.1.map e_Entry)), (20009, .z 3 1 0 (([] : List Int).map e_i64)), (40009, .z 3 1 0 (([] : List Int).map e_i64)), (60009, .z 3 1 0 (([] : List Int).map e_i64))] [] (.cons (Pe.ren (raft_Restart_ok x x1 h0) ⟨[], [(14, 9), (71001, 20009), (71002, 40009), (71003, 60009)], [], []⟩) .nil) ?_
  refine UDs [] [2, 3, 4] [2, 4] [9, 20009, 40009, 60009] [] [(3, .nils)] [(2, [.i x1.1, .i x1.2.1, .i x1.2.2.1, .i x1.2.2.2.1, .row 9 0, .i x1.2.2.2.2.2.1, .i x1.2.2.2.2.2.2.1, .row 20009 0, .row 40009 0, .row 60009 0]), (4, [.i x1.2.2.2.2.2.2.2.Code, .i x1.2.2.2.2.2.2.2.At])] [] [] .nil ?_
  have hF := some_elim hF
  exact Wk_ret (hfin _ ⟨[9, 20009, 40009, 60009], [], [9, 20009, 40009, 60009], [], [], [], by first | (rw [← hF]; kernel_rfl) | kernel_rfl⟩)

/- (*clan.game).node -/
noncomputable def clan_game_node_v5 (who : Int) (box : List (List UInt8)) (row : List Node) (row1 : List Mail) : Option (Bool × List Node × List Mail × List (List UInt8)) :=
  asrt (0 ≤ who ∧ who < (row.length : Int)) <|
  asrt (0 ≤ who ∧ who < (row.length : Int)) <|
  ob (raft_Stand (⟨(lget row who).N, (lget row who).ID, (lget row who).Term, (lget row who).Vote, (lget row who).Log, (lget row who).Role, (lget row who).Commit, (lget row who).Votes, (lget row who).Next, (lget row who).Have⟩ : Node)) fun x =>
  if (!decide (x.2.2.2.2.2.2.2.2.2.2.2.Code = 0)) = true then
    some (false, row, row1, box)
  else
    asrt (((row1 ++ x.2.2.2.2.2.2.2.2.2.2.1).length : Int) * 88 ≤ 140737488351232) <|
    asrt (0 ≤ who ∧ who < (row.length : Int)) <|
    asrt (0 ≤ who ∧ who < (row.length : Int)) <|
    lt ((lset row who (⟨x.1, x.2.1, x.2.2.1, x.2.2.2.1, x.2.2.2.2.1, x.2.2.2.2.2.1, x.2.2.2.2.2.2.1, x.2.2.2.2.2.2.2.1, x.2.2.2.2.2.2.2.2.1, x.2.2.2.2.2.2.2.2.2.1⟩ : Node))) fun (v : List Node) =>
    some (true, v, (row1 ++ x.2.2.2.2.2.2.2.2.2.2.1), box)
theorem clan_game_node_v5_ok (who : Int) (box : List (List UInt8)) (row : List Node) (row1 : List Mail) (rk : Nat) (rc : Nat) (rn : Bool) (rk1 : Nat) (rc1 : Nat) (rn1 : Bool) (r : Bool × List Node × List Mail × List (List UInt8)) (hF : clan_game_node_v5 who box row row1 = some r) : Pe Try.prog 95 ⟨[], [(100000, [.row 100000 0, .row 100001 0, .sl 1 (box.map e_str)])], [(100000, ⟨46, 10, 0, 0, rc, rn, 0, [], (row.map e_Node)⟩), (100001, ⟨62, 9, 0, rk1, rc1, rn1, 0, [], (row1.map e_Mail)⟩)], [], []⟩ [.ptr 100000 0, .i who, .fn 31 []] (.bool r.1) ⟨[], [(100000, [.row 100000 0, .row 100001 1, .sl 1 (r.2.2.2.map e_str)])], [(100000, ⟨46, 10, 0, 0, rc, rn, 0, [], (r.2.1.map e_Node)⟩), (100001, ⟨62, 9, 1, rk1, rc1, rn1, 0, [], (r.2.2.1.map e_Mail)⟩)], [], []⟩ := by
  refine Pe_of (N := 46) (res := [.tmp 6]) (ts := [4]) Ty.ok Fn.b95 Try.func95 rfl rfl rfl rfl rfl rfl ?_
  intro Q g hfin
  unfold clan_game_node_v5 at hF
  refine ZRs [] [0, 1, 2] [100000] [100000, 100001] [] .nil ?_
  refine Wk_seq ?_
  obtain ⟨h0, hF⟩ := asrt_elim hF
  obtain ⟨h1, hF⟩ := asrt_elim hF
  obtain ⟨x, h2, hF⟩ := ob_elim hF
  refine UR [.av (e_Node (lget row who)), .callE [] [] [] [] (.tup [.agg [.i x.1, .i x.2.1, .i x.2.2.1, .i x.2.2.2.1, .row 20 0, .i x.2.2.2.2.2.1, .i x.2.2.2.2.2.2.1, .sl 1 (x.2.2.2.2.2.2.2.1.map e_i64), .row 40020 0, .row 60020 0], .row 20020 0, .agg [.i x.2.2.2.2.2.2.2.2.2.2.2.Code, .i x.2.2.2.2.2.2.2.2.2.2.2.At]]) ⟨[], [], [(20, .o 31 2 0 (x.2.2.2.2.1.map e_Entry)), (20020, .z 62 9 0 (x.2.2.2.2.2.2.2.2.2.2.1.map e_Mail)), (40020, .o 3 1 0 (x.2.2.2.2.2.2.2.2.1.map e_i64)), (60020, .o 3 1 0 (x.2.2.2.2.2.2.2.2.2.1.map e_i64))], [], []⟩] [0, 1, 7, 8, 9] [7, 9, 100000] [20, 20020, 40020, 60020, 100000, 100001] [] [(7, .ptr 7 0), (8, .row 20020 0), (9, .ptr 9 0)] [(7, [.i x.1, .i x.2.1, .i x.2.2.1, .i x.2.2.2.1, .row 20 0, .i x.2.2.2.2.2.1, .i x.2.2.2.2.2.2.1, .sl 1 (x.2.2.2.2.2.2.2.1.map e_i64), .row 40020 0, .row 60020 0]), (9, [.i x.2.2.2.2.2.2.2.2.2.2.2.Code, .i x.2.2.2.2.2.2.2.2.2.2.2.At])] [(20, .o 31 2 0 (x.2.2.2.2.1.map e_Entry)), (20020, .z 62 9 0 (x.2.2.2.2.2.2.2.2.2.2.1.map e_Mail)), (40020, .o 3 1 0 (x.2.2.2.2.2.2.2.2.1.map e_i64)), (60020, .o 3 1 0 (x.2.2.2.2.2.2.2.2.2.1.map e_i64))] [] (.cons (ixr_ok e_Node h0) (.cons (ldr_ok e_Node h1) (.cons (Pe.ren (raft_Stand_ok (⟨(lget row who).N, (lget row who).ID, (lget row who).Term, (lget row who).Vote, (lget row who).Log, (lget row who).Role, (lget row who).Commit, (lget row who).Votes, (lget row who).Next, (lget row who).Have⟩ : Node) x h2) ⟨[], [(30, 20), (56, 20020), (63, 40020), (20063, 60020)], [], []⟩) .nil))) ?_
  refine Wk_seq ?_
  refine ZRs [] [0, 1, 7, 8, 26] [7, 100000] [20, 20020, 40020, 60020, 100000, 100001] [(26, .bool (!decide (x.2.2.2.2.2.2.2.2.2.2.2.Code = 0)))] .nil ?_
  refine Wk_split rfl (fun hb => ?_) (fun hb => ?_)
  · have hF := ite_t hF hb
    refine ZRs [] [6] [100000] [100000, 100001] [(6, .bool false)] .nil ?_
    have hF := some_elim hF
    exact Wk_ret (hfin _ ⟨[100000, 100001], [100000], [100000, 100001], [], [], [(100001, ⟨1, true, true, false⟩)], by first | (rw [← hF]; kernel_rfl) | kernel_rfl⟩)
  · have hF := ite_f hF hb
    refine Wk_skip ?_
    refine Wk_seq ?_
    obtain ⟨h3, hF⟩ := asrt_elim hF
    obtain ⟨h4, hF⟩ := asrt_elim hF
    obtain ⟨h5, hF⟩ := asrt_elim hF
    refine WDL ((lset row who (⟨x.1, x.2.1, x.2.2.1, x.2.2.2.1, x.2.2.2.2.1, x.2.2.2.2.2.1, x.2.2.2.2.2.2.1, x.2.2.2.2.2.2.2.1, x.2.2.2.2.2.2.2.2.1, x.2.2.2.2.2.2.2.2.2.1⟩ : Node))) (fun v : List Node => ⟨[], [(100000, [.row 100000 0, .row 100001 1, .sl 1 (box.map e_str)])], [(100000, ⟨46, 10, 0, 0, rc, rn, 0, [], (v.map e_Node)⟩), (100001, ⟨62, 9, 1, rk1, rc1, rn1, 0, [], ((row1 ++ x.2.2.2.2.2.2.2.2.2.2.1).map e_Mail)⟩)], [], []⟩) [.xs ((row1 ++ x.2.2.2.2.2.2.2.2.2.2.1).map e_Mail), .av (e_Node (lget row who)), .xs ((lset row who (⟨x.1, x.2.1, x.2.2.1, x.2.2.2.1, x.2.2.2.2.1, x.2.2.2.2.2.1, x.2.2.2.2.2.2.1, x.2.2.2.2.2.2.2.1, x.2.2.2.2.2.2.2.2.1, x.2.2.2.2.2.2.2.2.2.1⟩ : Node)).map e_Node)] [] [100000] [100000, 100001] [] [] [] (.cons (app_ok e_Mail row1 x.2.2.2.2.2.2.2.2.2.2.1) (.cons (appl_ok e_Mail h3) (.cons (ixr_ok e_Node h4) (.cons (ldr_ok e_Node h5) (.cons (set_ok e_Node row who (⟨x.1, x.2.1, x.2.2.1, x.2.2.2.1, x.2.2.2.2.1, x.2.2.2.2.2.1, x.2.2.2.2.2.2.1, x.2.2.2.2.2.2.2.1, x.2.2.2.2.2.2.2.2.1, x.2.2.2.2.2.2.2.2.2.1⟩ : Node)) (.cons (Nat.zero_le who.toNat) .nil)))))) (by kernel_rfl) (fun v hv => ?_)
    have hF := lt_elim hF hv
    refine ZRs [] [6] [100000] [100000, 100001] [(6, .bool true)] .nil ?_
    have hF := some_elim hF
    exact Wk_ret (hfin _ ⟨[100000, 100001], [100000], [100000, 100001], [], [], [], by first | (rw [← hF]; kernel_rfl) | kernel_rfl⟩)

/- (*clan.game).does$1 -/
noncomputable def clan_game_does_1_v1 (x : Node) (box : List (List UInt8)) (row : List Node) (row1 : List Mail) : Option (Int × Int × Int × Int × List Entry × Int × Int × List Int × List Int × List Int × List Mail × Fault) :=
  asrt (0 ≤ (0 : Int) ∧ 0 < (box.length : Int)) <|
  ob (raft_Propose x (lget box 0)) fun x1 =>
  some (x1.1, x1.2.1, x1.2.2.1, x1.2.2.2.1, x1.2.2.2.2.1, x1.2.2.2.2.2.1, x1.2.2.2.2.2.2.1, x1.2.2.2.2.2.2.2.1, x1.2.2.2.2.2.2.2.2.1, x1.2.2.2.2.2.2.2.2.2.1, ([] : List Mail), x1.2.2.2.2.2.2.2.2.2.2)
theorem clan_game_does_1_v1_ok (x : Node) (box : List (List UInt8)) (row : List Node) (row1 : List Mail) (rk : Nat) (rc : Nat) (rn : Bool) (rk1 : Nat) (rc1 : Nat) (rn1 : Bool) (r : Int × Int × Int × Int × List Entry × Int × Int × List Int × List Int × List Int × List Mail × Fault) (hF : clan_game_does_1_v1 x box row row1 = some r) : Pe Try.prog 96 ⟨[], [(100000, [.ptr 100001 0]), (100001, [.row 100000 0, .row 100001 0, .sl 1 (box.map e_str)])], [(100000, ⟨46, 10, 0, rk, rc, rn, 0, [], (row.map e_Node)⟩), (100001, ⟨62, 9, 0, rk1, rc1, rn1, 0, [], (row1.map e_Mail)⟩)], [], []⟩ [.agg (c_Node x), .ptr 100000 0] (.tup [.agg [.i r.1, .i r.2.1, .i r.2.2.1, .i r.2.2.2.1, .row 16 0, .i r.2.2.2.2.2.1, .i r.2.2.2.2.2.2.1, .row 20016 0, .row 40016 0, .row 60016 0], .sl 9 (r.2.2.2.2.2.2.2.2.2.2.1.map e_Mail), .agg [.i r.2.2.2.2.2.2.2.2.2.2.2.Code, .i r.2.2.2.2.2.2.2.2.2.2.2.At]]) ⟨[], [(100000, [.ptr 100001 0]), (100001, [.row 100000 0, .row 100001 0, .sl 1 (box.map e_str)])], [(100000, ⟨46, 10, 0, rk, rc, rn, 0, [], (row.map e_Node)⟩), (100001, ⟨62, 9, 0, rk1, rc1, rn1, 0, [], (row1.map e_Mail)⟩), (16, .o 31 2 0 (r.2.2.2.2.1.map e_Entry)), (20016, .o 3 1 0 (r.2.2.2.2.2.2.2.1.map e_i64)), (40016, .o 3 1 0 (r.2.2.2.2.2.2.2.2.1.map e_i64)), (60016, .o 3 1 0 (r.2.2.2.2.2.2.2.2.2.1.map e_i64))], [], []⟩ := by
  refine Pe_of (N := 21) (res := [.cell 3 46, .tmp 4, .cell 5 26]) (ts := [46, 50, 26]) Ty.ok Fn.b96 Try.func96 rfl rfl rfl rfl rfl rfl ?_
  intro Q g hfin
  unfold clan_game_does_1_v1 at hF
  refine URs [] [1, 2, 3, 5] [2, 3, 5, 100000, 100001] [100000, 100001] [] [(2, .ptr 2 0), (3, .ptr 3 0), (5, .ptr 5 0)] [(2, (c_Node x)), (3, [.i 0, .i 0, .i 0, .i 0, .nils, .i 0, .i 0, .nils, .nils, .nils]), (5, [.i 0, .i 0])] [] [] .nil ?_
  refine Wk_seq ?_
  obtain ⟨h0, hF⟩ := asrt_elim hF
  obtain ⟨x1, h1, hF⟩ := ob_elim hF
  refine UD [.av (e_str (lget box 0)), .callE [] [] [] [] (.tup [.agg [.i x1.1, .i x1.2.1, .i x1.2.2.1, .i x1.2.2.2.1, .row 16 0, .i x1.2.2.2.2.2.1, .i x1.2.2.2.2.2.2.1, .row 20016 0, .row 40016 0, .row 60016 0], .agg [.i x1.2.2.2.2.2.2.2.2.2.2.Code, .i x1.2.2.2.2.2.2.2.2.2.2.At]]) ⟨[], [], [(16, .o 31 2 0 (x1.2.2.2.2.1.map e_Entry)), (20016, .o 3 1 0 (x1.2.2.2.2.2.2.2.1.map e_i64)), (40016, .o 3 1 0 (x1.2.2.2.2.2.2.2.2.1.map e_i64)), (60016, .o 3 1 0 (x1.2.2.2.2.2.2.2.2.2.1.map e_i64))], [], []⟩] [3, 5, 6, 7] [3, 5, 6, 7, 100000, 100001] [16, 20016, 40016, 60016, 100000, 100001] [] [(6, .ptr 6 0), (7, .ptr 7 0)] [(6, [.i x1.1, .i x1.2.1, .i x1.2.2.1, .i x1.2.2.2.1, .row 16 0, .i x1.2.2.2.2.2.1, .i x1.2.2.2.2.2.2.1, .row 20016 0, .row 40016 0, .row 60016 0]), (7, [.i x1.2.2.2.2.2.2.2.2.2.2.Code, .i x1.2.2.2.2.2.2.2.2.2.2.At])] [(16, .o 31 2 0 (x1.2.2.2.2.1.map e_Entry)), (20016, .o 3 1 0 (x1.2.2.2.2.2.2.2.1.map e_i64)), (40016, .o 3 1 0 (x1.2.2.2.2.2.2.2.2.1.map e_i64)), (60016, .o 3 1 0 (x1.2.2.2.2.2.2.2.2.2.1.map e_i64))] [] (.cons (idx_ok e_str h0) (.cons (Pe.ren (raft_Propose_ok x (lget box 0) x1 h1) ⟨[], [(36, 16), (20036, 20016), (40036, 40016), (60036, 60016)], [], []⟩) .nil)) ?_
  refine UDs [] [3, 4, 5] [3, 5, 100000, 100001] [16, 20016, 40016, 60016, 100000, 100001] [] [(4, .nils)] [(3, [.i x1.1, .i x1.2.1, .i x1.2.2.1, .i x1.2.2.2.1, .row 16 0, .i x1.2.2.2.2.2.1, .i x1.2.2.2.2.2.2.1, .row 20016 0, .row 40016 0, .row 60016 0]), (5, [.i x1.2.2.2.2.2.2.2.2.2.2.Code, .i x1.2.2.2.2.2.2.2.2.2.2.At])] [] [] .nil ?_
  have hF := some_elim hF
  exact Wk_ret (hfin _ ⟨[100000, 100001, 16, 20016, 40016, 60016], [100000, 100001], [100000, 100001, 16, 20016, 40016, 60016], [], [], [], by first | (rw [← hF]; kernel_rfl) | kernel_rfl⟩)

/- (*clan.game).node -/
noncomputable def clan_game_node_v6 (who : Int) (box : List (List UInt8)) (row : List Node) (row1 : List Mail) : Option (Bool × List Node × List Mail × List (List UInt8)) :=
  asrt (0 ≤ who ∧ who < (row.length : Int)) <|
  asrt (0 ≤ who ∧ who < (row.length : Int)) <|
  ob (clan_game_does_1_v1 (⟨(lget row who).N, (lget row who).ID, (lget row who).Term, (lget row who).Vote, (lget row who).Log, (lget row who).Role, (lget row who).Commit, (lget row who).Votes, (lget row who).Next, (lget row who).Have⟩ : Node) box row row1) fun x =>
  if (!decide (x.2.2.2.2.2.2.2.2.2.2.2.Code = 0)) = true then
    some (false, row, row1, box)
  else
    asrt (((row1 ++ x.2.2.2.2.2.2.2.2.2.2.1).length : Int) * 88 ≤ 140737488351232) <|
    asrt (0 ≤ who ∧ who < (row.length : Int)) <|
    asrt (0 ≤ who ∧ who < (row.length : Int)) <|
    lt ((lset row who (⟨x.1, x.2.1, x.2.2.1, x.2.2.2.1, x.2.2.2.2.1, x.2.2.2.2.2.1, x.2.2.2.2.2.2.1, x.2.2.2.2.2.2.2.1, x.2.2.2.2.2.2.2.2.1, x.2.2.2.2.2.2.2.2.2.1⟩ : Node))) fun (v : List Node) =>
    some (true, v, (row1 ++ x.2.2.2.2.2.2.2.2.2.2.1), box)
theorem clan_game_node_v6_ok (who : Int) (box : List (List UInt8)) (row : List Node) (row1 : List Mail) (rk : Nat) (rc : Nat) (rn : Bool) (rk1 : Nat) (rc1 : Nat) (rn1 : Bool) (r : Bool × List Node × List Mail × List (List UInt8)) (hF : clan_game_node_v6 who box row row1 = some r) : Pe Try.prog 95 ⟨[], [(100000, [.row 100000 0, .row 100001 0, .sl 1 (box.map e_str)]), (100001, [.ptr 100000 0])], [(100000, ⟨46, 10, 0, 0, rc, rn, 0, [], (row.map e_Node)⟩), (100001, ⟨62, 9, 0, rk1, rc1, rn1, 0, [], (row1.map e_Mail)⟩)], [], []⟩ [.ptr 100000 0, .i who, .fn 96 [.ptr 100001 0]] (.bool r.1) ⟨[], [(100000, [.row 100000 0, .row 100001 1, .sl 1 (r.2.2.2.map e_str)]), (100001, [.ptr 100000 0])], [(100000, ⟨46, 10, 0, 0, rc, rn, 0, [], (r.2.1.map e_Node)⟩), (100001, ⟨62, 9, 1, rk1, rc1, rn1, 0, [], (r.2.2.1.map e_Mail)⟩)], [], []⟩ := by
  refine Pe_of (N := 46) (res := [.tmp 6]) (ts := [4]) Ty.ok Fn.b95 Try.func95 rfl rfl rfl rfl rfl rfl ?_
  intro Q g hfin
  unfold clan_game_node_v6 at hF
  refine ZRs [] [0, 1, 2] [100000, 100001] [100000, 100001] [] .nil ?_
  refine Wk_seq ?_
  obtain ⟨h0, hF⟩ := asrt_elim hF
  obtain ⟨h1, hF⟩ := asrt_elim hF
  obtain ⟨x, h2, hF⟩ := ob_elim hF
  refine UR [.av (e_Node (lget row who)), .callE [100001, 100000] [100000, 100001] [] [] (.tup [.agg [.i x.1, .i x.2.1, .i x.2.2.1, .i x.2.2.2.1, .row 20 0, .i x.2.2.2.2.2.1, .i x.2.2.2.2.2.2.1, .row 20020 0, .row 40020 0, .row 60020 0], .sl 9 (x.2.2.2.2.2.2.2.2.2.2.1.map e_Mail), .agg [.i x.2.2.2.2.2.2.2.2.2.2.2.Code, .i x.2.2.2.2.2.2.2.2.2.2.2.At]]) ⟨[], [(100001, [.ptr 100000 0]), (100000, [.row 100000 0, .row 100001 0, .sl 1 (box.map e_str)])], [(100000, ⟨46, 10, 0, 0, rc, rn, 0, [], (row.map e_Node)⟩), (100001, ⟨62, 9, 0, rk1, rc1, rn1, 0, [], (row1.map e_Mail)⟩), (20, .o 31 2 0 (x.2.2.2.2.1.map e_Entry)), (20020, .o 3 1 0 (x.2.2.2.2.2.2.2.1.map e_i64)), (40020, .o 3 1 0 (x.2.2.2.2.2.2.2.2.1.map e_i64)), (60020, .o 3 1 0 (x.2.2.2.2.2.2.2.2.2.1.map e_i64))], [], []⟩] [0, 1, 7, 8, 9] [7, 9, 100000, 100001] [20, 20020, 40020, 60020, 100000, 100001] [] [(7, .ptr 7 0), (8, .sl 9 (x.2.2.2.2.2.2.2.2.2.2.1.map e_Mail)), (9, .ptr 9 0)] [(7, [.i x.1, .i x.2.1, .i x.2.2.1, .i x.2.2.2.1, .row 20 0, .i x.2.2.2.2.2.1, .i x.2.2.2.2.2.2.1, .row 20020 0, .row 40020 0, .row 60020 0]), (9, [.i x.2.2.2.2.2.2.2.2.2.2.2.Code, .i x.2.2.2.2.2.2.2.2.2.2.2.At])] [(20, .o 31 2 0 (x.2.2.2.2.1.map e_Entry)), (20020, .o 3 1 0 (x.2.2.2.2.2.2.2.1.map e_i64)), (40020, .o 3 1 0 (x.2.2.2.2.2.2.2.2.1.map e_i64)), (60020, .o 3 1 0 (x.2.2.2.2.2.2.2.2.2.1.map e_i64))] [] (.cons (ixr_ok e_Node h0) (.cons (ldr_ok e_Node h1) (.cons (Pe.ren (clan_game_does_1_v1_ok (⟨(lget row who).N, (lget row who).ID, (lget row who).Term, (lget row who).Vote, (lget row who).Log, (lget row who).Role, (lget row who).Commit, (lget row who).Votes, (lget row who).Next, (lget row who).Have⟩ : Node) box row row1 0 rc rn rk1 rc1 rn1 x h2) ⟨[(100000, 100001)], [(16, 20), (20016, 20020), (40016, 40020), (60016, 60020)], [], []⟩) .nil))) ?_
  refine Wk_seq ?_
  refine ZRs [] [0, 1, 7, 8, 26] [7, 100000, 100001] [20, 20020, 40020, 60020, 100000, 100001] [(26, .bool (!decide (x.2.2.2.2.2.2.2.2.2.2.2.Code = 0)))] .nil ?_
  refine Wk_split rfl (fun hb => ?_) (fun hb => ?_)
  · have hF := ite_t hF hb
    refine ZRs [] [6] [100000, 100001] [100000, 100001] [(6, .bool false)] .nil ?_
    have hF := some_elim hF
    exact Wk_ret (hfin _ ⟨[100000, 100001], [100000, 100001], [100000, 100001], [], [], [(100001, ⟨1, true, true, false⟩)], by first | (rw [← hF]; kernel_rfl) | kernel_rfl⟩)
  · have hF := ite_f hF hb
    refine Wk_skip ?_
    refine Wk_seq ?_
    obtain ⟨h3, hF⟩ := asrt_elim hF
    obtain ⟨h4, hF⟩ := asrt_elim hF
    obtain ⟨h5, hF⟩ := asrt_elim hF
    refine WDL ((lset row who (⟨x.1, x.2.1, x.2.2.1, x.2.2.2.1, x.2.2.2.2.1, x.2.2.2.2.2.1, x.2.2.2.2.2.2.1, x.2.2.2.2.2.2.2.1, x.2.2.2.2.2.2.2.2.1, x.2.2.2.2.2.2.2.2.2.1⟩ : Node))) (fun v : List Node => ⟨[], [(100000, [.row 100000 0, .row 100001 1, .sl 1 (box.map e_str)]), (100001, [.ptr 100000 0])], [(100000, ⟨46, 10, 0, 0, rc, rn, 0, [], (v.map e_Node)⟩), (100001, ⟨62, 9, 1, rk1, rc1, rn1, 0, [], ((row1 ++ x.2.2.2.2.2.2.2.2.2.2.1).map e_Mail)⟩)], [], []⟩) [.xs ((row1 ++ x.2.2.2.2.2.2.2.2.2.2.1).map e_Mail), .av (e_Node (lget row who)), .xs ((lset row who (⟨x.1, x.2.1, x.2.2.1, x.2.2.2.1, x.2.2.2.2.1, x.2.2.2.2.2.1, x.2.2.2.2.2.2.1, x.2.2.2.2.2.2.2.1, x.2.2.2.2.2.2.2.2.1, x.2.2.2.2.2.2.2.2.2.1⟩ : Node)).map e_Node)] [] [100000, 100001] [100000, 100001] [] [] [] (.cons (app_ok e_Mail row1 x.2.2.2.2.2.2.2.2.2.2.1) (.cons (appl_ok e_Mail h3) (.cons (ixr_ok e_Node h4) (.cons (ldr_ok e_Node h5) (.cons (set_ok e_Node row who (⟨x.1, x.2.1, x.2.2.1, x.2.2.2.1, x.2.2.2.2.1, x.2.2.2.2.2.1, x.2.2.2.2.2.2.1, x.2.2.2.2.2.2.2.1, x.2.2.2.2.2.2.2.2.1, x.2.2.2.2.2.2.2.2.2.1⟩ : Node)) (.cons (Nat.zero_le who.toNat) .nil)))))) (by kernel_rfl) (fun v hv => ?_)
    have hF := lt_elim hF hv
    refine ZRs [] [6] [100000, 100001] [100000, 100001] [(6, .bool true)] .nil ?_
    have hF := some_elim hF
    exact Wk_ret (hfin _ ⟨[100000, 100001], [100000, 100001], [100000, 100001], [], [], [], by first | (rw [← hF]; kernel_rfl) | kernel_rfl⟩)

/- (*clan.game).node -/
noncomputable def clan_game_node_v7 (who : Int) (box : List (List UInt8)) (row : List Node) (row1 : List Mail) : Option (Bool × List Node × List Mail × List (List UInt8)) :=
  asrt (0 ≤ who ∧ who < (row.length : Int)) <|
  asrt (0 ≤ who ∧ who < (row.length : Int)) <|
  ob (clan_game_does_2 (⟨(lget row who).N, (lget row who).ID, (lget row who).Term, (lget row who).Vote, (lget row who).Log, (lget row who).Role, (lget row who).Commit, (lget row who).Votes, (lget row who).Next, (lget row who).Have⟩ : Node)) fun x =>
  if (!decide (x.2.2.Code = 0)) = true then
    some (false, row, row1, box)
  else
    asrt (((row1 ++ x.2.1).length : Int) * 88 ≤ 140737488351232) <|
    asrt (0 ≤ who ∧ who < (row.length : Int)) <|
    asrt (0 ≤ who ∧ who < (row.length : Int)) <|
    some (true, (lset row who x.1), (row1 ++ x.2.1), box)
theorem clan_game_node_v7_ok (who : Int) (box : List (List UInt8)) (row : List Node) (row1 : List Mail) (rk : Nat) (rc : Nat) (rn : Bool) (rk1 : Nat) (rc1 : Nat) (rn1 : Bool) (r : Bool × List Node × List Mail × List (List UInt8)) (hF : clan_game_node_v7 who box row row1 = some r) : Pe Try.prog 95 ⟨[], [(100000, [.row 100000 0, .row 100001 0, .sl 1 (box.map e_str)])], [(100000, ⟨46, 10, 0, 0, rc, rn, 0, [], (row.map e_Node)⟩), (100001, ⟨62, 9, 0, rk1, rc1, rn1, 0, [], (row1.map e_Mail)⟩)], [], []⟩ [.ptr 100000 0, .i who, .fn 97 []] (.bool r.1) ⟨[], [(100000, [.row 100000 0, .row 100001 1, .sl 1 (r.2.2.2.map e_str)])], [(100000, ⟨46, 10, 0, 0, rc, rn, 0, [], (r.2.1.map e_Node)⟩), (100001, ⟨62, 9, 1, rk1, rc1, rn1, 0, [], (r.2.2.1.map e_Mail)⟩)], [], []⟩ := by
  refine Pe_of (N := 46) (res := [.tmp 6]) (ts := [4]) Ty.ok Fn.b95 Try.func95 rfl rfl rfl rfl rfl rfl ?_
  intro Q g hfin
  unfold clan_game_node_v7 at hF
  refine ZRs [] [0, 1, 2] [100000] [100000, 100001] [] .nil ?_
  refine Wk_seq ?_
  obtain ⟨h0, hF⟩ := asrt_elim hF
  obtain ⟨h1, hF⟩ := asrt_elim hF
  obtain ⟨x, h2, hF⟩ := ob_elim hF
  refine UR [.av (e_Node (lget row who)), .callE [] [] [] [] (.tup [.agg (c_Node x.1), .row 20 0, .agg [.i x.2.2.Code, .i x.2.2.At]]) ⟨[], [], [(20, .z 62 9 0 (x.2.1.map e_Mail))], [], []⟩] [0, 1, 7, 8, 9] [7, 9, 100000] [20, 100000, 100001] [] [(7, .ptr 7 0), (8, .row 20 0), (9, .ptr 9 0)] [(7, (c_Node x.1)), (9, [.i x.2.2.Code, .i x.2.2.At])] [(20, .z 62 9 0 (x.2.1.map e_Mail))] [] (.cons (ixr_ok e_Node h0) (.cons (ldr_ok e_Node h1) (.cons (Pe.ren (clan_game_does_2_ok (⟨(lget row who).N, (lget row who).ID, (lget row who).Term, (lget row who).Vote, (lget row who).Log, (lget row who).Role, (lget row who).Commit, (lget row who).Votes, (lget row who).Next, (lget row who).Have⟩ : Node) x h2) ⟨[], [(9, 20)], [], []⟩) .nil))) ?_
  refine Wk_seq ?_
  refine ZRs [] [0, 1, 7, 8, 26] [7, 100000] [20, 100000, 100001] [(26, .bool (!decide (x.2.2.Code = 0)))] .nil ?_
  refine Wk_split rfl (fun hb => ?_) (fun hb => ?_)
  · have hF := ite_t hF hb
    refine ZRs [] [6] [100000] [100000, 100001] [(6, .bool false)] .nil ?_
    have hF := some_elim hF
    exact Wk_ret (hfin _ ⟨[100000, 100001], [100000], [100000, 100001], [], [], [(100001, ⟨1, true, true, false⟩)], by first | (rw [← hF]; kernel_rfl) | kernel_rfl⟩)
  · have hF := ite_f hF hb
    refine Wk_skip ?_
    refine Wk_seq ?_
    obtain ⟨h3, hF⟩ := asrt_elim hF
    obtain ⟨h4, hF⟩ := asrt_elim hF
    obtain ⟨h5, hF⟩ := asrt_elim hF
    refine UD [.xs ((row1 ++ x.2.1).map e_Mail), .av (e_Node (lget row who)), .xs ((lset row who x.1).map e_Node)] [] [100000] [100000, 100001] [] [] [(100000, [.row 100000 0, .row 100001 1, .sl 1 (box.map e_str)])] [(100000, ⟨46, 10, 0, 0, rc, rn, 0, [], ((lset row who x.1).map e_Node)⟩), (100001, ⟨62, 9, 1, rk1, rc1, rn1, 0, [], ((row1 ++ x.2.1).map e_Mail)⟩)] [] (.cons (app_ok e_Mail row1 x.2.1) (.cons (appl_ok e_Mail h3) (.cons (ixr_ok e_Node h4) (.cons (ldr_ok e_Node h5) (.cons (set_ok e_Node row who x.1) (.cons (Nat.zero_le who.toNat) .nil)))))) ?_
    refine ZRs [] [6] [100000] [100000, 100001] [(6, .bool true)] .nil ?_
    have hF := some_elim hF
    exact Wk_ret (hfin _ ⟨[100000, 100001], [100000], [100000, 100001], [], [], [], by first | (rw [← hF]; kernel_rfl) | kernel_rfl⟩)

/- slices.Delete[[]api.Mail,api.Mail] -/
noncomputable def slices_Delete_api_Mail_api_Mail_v2 (i : Int) (j : Int) (row : List Mail) : Option (List Mail) :=
  asrt ((0 : Int) ≤ i ∧ i ≤ j ∧ j ≤ (row.length : Int) ∧ (row.length : Int) ≤ (row.length : Int)) <|
  if (decide (i = j)) = true then
    some row
  else
    asrt (0 ≤ i ∧ i ≤ (row.length : Int)) <|
    asrt (0 ≤ j ∧ j ≤ (row.length : Int)) <|
    asrt (((row.take i.toNat ++ ((row.drop j.toNat).take (row.length - j.toNat))).length : Int) * 88 ≤ 140737488351232) <|
    asrt (i.toNat ≤ row.length) <|
    asrt (j.toNat + (row.length - j.toNat) ≤ row.length) <|
    asrt (0 ≤ ((row.take i.toNat ++ ((row.drop j.toNat).take (row.length - j.toNat))).length : Int) ∧ ((row.take i.toNat ++ ((row.drop j.toNat).take (row.length - j.toNat))).length : Int) ≤ (row.length : Int) ∧ ((row.length : Int).toNat ≤ (row.take i.toNat ++ ((row.drop j.toNat).take (row.length - j.toNat))).length ∨ (row.length : Int).toNat ≤ ((row.map e_Mail).length))) <|
    lt ((lclear (row.take i.toNat ++ ((row.drop j.toNat).take (row.length - j.toNat))) (((row.take i.toNat ++ ((row.drop j.toNat).take (row.length - j.toNat))).length : Int).toNat) ((row.length : Int).toNat - ((row.take i.toNat ++ ((row.drop j.toNat).take (row.length - j.toNat))).length : Int).toNat) ((⟨0, 0, 0, 0, 0, 0, 0, ([] : List Entry), false⟩ : Mail) : Mail))) fun (v : List Mail) =>
    some v
theorem slices_Delete_api_Mail_api_Mail_v2_ok (i : Int) (j : Int) (row : List Mail) (rk : Nat) (rc : Nat) (rn : Bool) (r : List Mail) (hF : slices_Delete_api_Mail_api_Mail_v2 i j row = some r) : Pe Try.prog 98 ⟨[], [], [(100000, ⟨62, 9, 0, 0, rc, rn, 0, [], (row.map e_Mail)⟩)], [], []⟩ [.row 100000 0, .i i, .i j] (.row 100000 1) ⟨[], [], [(100000, .o 62 9 1 (r.map e_Mail))], [], []⟩ := by
  refine Pe_of (N := 33) (res := [.tmp 6]) (ts := [50]) Ty.ok Fn.b98 Try.func98 rfl rfl rfl rfl rfl rfl ?_
  intro Q g hfin
  unfold slices_Delete_api_Mail_api_Mail_v2 at hF
  refine ZRs [] [0, 1, 2] [] [100000] [] .nil ?_
  refine Wk_seq ?_
  obtain ⟨h0, hF⟩ := asrt_elim hF
  refine ZR [.nat (row.length : Int)] [0, 1, 2] [] [100000] [] (.cons (len_ok e_Mail row) (.cons (s3_ok e_Mail h0) .nil)) ?_
  refine Wk_seq ?_
  refine ZRs [] [0, 1, 2, 16] [] [100000] [(16, .bool (decide (i = j)))] .nil ?_
  refine Wk_split rfl (fun hb => ?_) (fun hb => ?_)
  · have hF := ite_t hF hb
    refine ZRs [] [6] [] [100000] [(6, .row 100000 0)] .nil ?_
    have hF := some_elim hF
    exact Wk_ret (hfin _ ⟨[100000], [], [100000], [], [], [(100000, ⟨1, false, false, false⟩)], by first | (rw [← hF]; kernel_rfl) | kernel_rfl⟩)
  · have hF := ite_f hF hb
    refine Wk_skip ?_
    refine ZRs [.nat (row.length : Int)] [0, 1, 2, 7] [] [100000] [(7, .i (row.length : Int))] (.cons (len_ok e_Mail row) .nil) ?_
    refine Wk_seq ?_
    obtain ⟨h1, hF⟩ := asrt_elim hF
    obtain ⟨h2, hF⟩ := asrt_elim hF
    obtain ⟨h3, hF⟩ := asrt_elim hF
    obtain ⟨h4, hF⟩ := asrt_elim hF
    obtain ⟨h5, hF⟩ := asrt_elim hF
    refine UD [.vw i.toNat, .vw (row.length - j.toNat), .xs ((row.take i.toNat ++ ((row.drop j.toNat).take (row.length - j.toNat))).map e_Mail)] [0, 7] [] [100000] [] [(0, .row 100000 1)] [] [(100000, ⟨62, 9, 1, 0, (row.map e_Mail).length, false, 0, [], ((row.take i.toNat ++ ((row.drop j.toNat).take (row.length - j.toNat))).map e_Mail)⟩)] [] (.cons (vw01_ok (cm := rc) e_Mail h1) (.cons (vw10_ok e_Mail h2) (.cons (tapv_ok e_Mail row i.toNat row j.toNat (row.length - j.toNat)) (.cons (appl_ok e_Mail h3) (.cons (tk_ok e_Mail h4) (.cons (srcv_ok e_Mail h5) .nil)))))) ?_
    refine Wk_seq ?_
    obtain ⟨h7, hF⟩ := asrt_elim hF
    refine WRL ((lclear (row.take i.toNat ++ ((row.drop j.toNat).take (row.length - j.toNat))) (((row.take i.toNat ++ ((row.drop j.toNat).take (row.length - j.toNat))).length : Int).toNat) ((row.length : Int).toNat - ((row.take i.toNat ++ ((row.drop j.toNat).take (row.length - j.toNat))).length : Int).toNat) ((⟨0, 0, 0, 0, 0, 0, 0, ([] : List Entry), false⟩ : Mail) : Mail))) (fun v : List Mail => ⟨[(0, .row 100000 1)], [], [(100000, ⟨62, 9, 1, 0, (row.map e_Mail).length, false, 0, [], (v.map e_Mail)⟩)], [], []⟩) [.nat ((row.take i.toNat ++ ((row.drop j.toNat).take (row.length - j.toNat))).length : Int), .vw ((row.length : Int).toNat - ((row.take i.toNat ++ ((row.drop j.toNat).take (row.length - j.toNat))).length : Int).toNat), .xs ((lclear (row.take i.toNat ++ ((row.drop j.toNat).take (row.length - j.toNat))) (((row.take i.toNat ++ ((row.drop j.toNat).take (row.length - j.toNat))).length : Int).toNat) ((row.length : Int).toNat - ((row.take i.toNat ++ ((row.drop j.toNat).take (row.length - j.toNat))).length : Int).toNat) ((⟨0, 0, 0, 0, 0, 0, 0, ([] : List Entry), false⟩ : Mail) : Mail)).map e_Mail)] [0] [] [100000] [] [] [] (.cons (len_ok e_Mail (row.take i.toNat ++ ((row.drop j.toNat).take (row.length - j.toNat)))) (.cons (vw11c_ok e_Mail h7) (.cons (clr_ok e_Mail (row.take i.toNat ++ ((row.drop j.toNat).take (row.length - j.toNat))) (((row.take i.toNat ++ ((row.drop j.toNat).take (row.length - j.toNat))).length : Int).toNat) ((row.length : Int).toNat - ((row.take i.toNat ++ ((row.drop j.toNat).take (row.length - j.toNat))).length : Int).toNat) ((⟨0, 0, 0, 0, 0, 0, 0, ([] : List Entry), false⟩ : Mail) : Mail)) (.cons (Nat.zero_le (((row.take i.toNat ++ ((row.drop j.toNat).take (row.length - j.toNat))).length : Int).toNat)) .nil)))) (by kernel_rfl) (fun v hv => ?_)
    have hF := lt_elim hF hv
    refine ZRs [] [6] [] [100000] [(6, .row 100000 1)] .nil ?_
    have hF := some_elim hF
    exact Wk_ret (hfin _ ⟨[100000], [], [100000], [], [], [(100000, ⟨1, false, true, false⟩)], by first | (rw [← hF]; kernel_rfl) | kernel_rfl⟩)

/- (*clan.game).node -/
noncomputable def clan_game_node_v8 (who : Int) (box : List (List UInt8)) (row : List Node) (row1 : List Mail) : Option (Bool × List Node × List Mail × List (List UInt8)) :=
  asrt (0 ≤ who ∧ who < (row.length : Int)) <|
  asrt (0 ≤ who ∧ who < (row.length : Int)) <|
  ob (clan_game_does_4 (⟨(lget row who).N, (lget row who).ID, (lget row who).Term, (lget row who).Vote, (lget row who).Log, (lget row who).Role, (lget row who).Commit, (lget row who).Votes, (lget row who).Next, (lget row who).Have⟩ : Node)) fun x =>
  if (!decide (x.2.2.2.2.2.2.2.2.2.2.2.Code = 0)) = true then
    some (false, row, row1, box)
  else
    asrt (((row1 ++ x.2.2.2.2.2.2.2.2.2.2.1).length : Int) * 88 ≤ 140737488351232) <|
    asrt (0 ≤ who ∧ who < (row.length : Int)) <|
    asrt (0 ≤ who ∧ who < (row.length : Int)) <|
    lt ((lset row who (⟨x.1, x.2.1, x.2.2.1, x.2.2.2.1, x.2.2.2.2.1, x.2.2.2.2.2.1, x.2.2.2.2.2.2.1, x.2.2.2.2.2.2.2.1, x.2.2.2.2.2.2.2.2.1, x.2.2.2.2.2.2.2.2.2.1⟩ : Node))) fun (v : List Node) =>
    some (true, v, (row1 ++ x.2.2.2.2.2.2.2.2.2.2.1), box)
theorem clan_game_node_v8_ok (who : Int) (box : List (List UInt8)) (row : List Node) (row1 : List Mail) (rk : Nat) (rc : Nat) (rn : Bool) (rk1 : Nat) (rc1 : Nat) (rn1 : Bool) (r : Bool × List Node × List Mail × List (List UInt8)) (hF : clan_game_node_v8 who box row row1 = some r) : Pe Try.prog 95 ⟨[], [(100000, [.row 100000 0, .row 100001 0, .sl 1 (box.map e_str)])], [(100000, ⟨46, 10, 0, 0, rc, rn, 0, [], (row.map e_Node)⟩), (100001, ⟨62, 9, 0, rk1, rc1, rn1, 0, [], (row1.map e_Mail)⟩)], [], []⟩ [.ptr 100000 0, .i who, .fn 100 []] (.bool r.1) ⟨[], [(100000, [.row 100000 0, .row 100001 1, .sl 1 (r.2.2.2.map e_str)])], [(100000, ⟨46, 10, 0, 0, rc, rn, 0, [], (r.2.1.map e_Node)⟩), (100001, ⟨62, 9, 1, rk1, rc1, rn1, 0, [], (r.2.2.1.map e_Mail)⟩)], [], []⟩ := by
  refine Pe_of (N := 46) (res := [.tmp 6]) (ts := [4]) Ty.ok Fn.b95 Try.func95 rfl rfl rfl rfl rfl rfl ?_
  intro Q g hfin
  unfold clan_game_node_v8 at hF
  refine ZRs [] [0, 1, 2] [100000] [100000, 100001] [] .nil ?_
  refine Wk_seq ?_
  obtain ⟨h0, hF⟩ := asrt_elim hF
  obtain ⟨h1, hF⟩ := asrt_elim hF
  obtain ⟨x, h2, hF⟩ := ob_elim hF
  refine UR [.av (e_Node (lget row who)), .callE [] [] [] [] (.tup [.agg [.i x.1, .i x.2.1, .i x.2.2.1, .i x.2.2.2.1, .row 20 0, .i x.2.2.2.2.2.1, .i x.2.2.2.2.2.2.1, .row 20020 0, .row 40020 0, .row 60020 0], .sl 9 (x.2.2.2.2.2.2.2.2.2.2.1.map e_Mail), .agg [.i x.2.2.2.2.2.2.2.2.2.2.2.Code, .i x.2.2.2.2.2.2.2.2.2.2.2.At]]) ⟨[], [], [(20, .o 31 2 0 (x.2.2.2.2.1.map e_Entry)), (20020, .z 3 1 0 (x.2.2.2.2.2.2.2.1.map e_i64)), (40020, .z 3 1 0 (x.2.2.2.2.2.2.2.2.1.map e_i64)), (60020, .z 3 1 0 (x.2.2.2.2.2.2.2.2.2.1.map e_i64))], [], []⟩] [0, 1, 7, 8, 9] [7, 9, 100000] [20, 20020, 40020, 60020, 100000, 100001] [] [(7, .ptr 7 0), (8, .sl 9 (x.2.2.2.2.2.2.2.2.2.2.1.map e_Mail)), (9, .ptr 9 0)] [(7, [.i x.1, .i x.2.1, .i x.2.2.1, .i x.2.2.2.1, .row 20 0, .i x.2.2.2.2.2.1, .i x.2.2.2.2.2.2.1, .row 20020 0, .row 40020 0, .row 60020 0]), (9, [.i x.2.2.2.2.2.2.2.2.2.2.2.Code, .i x.2.2.2.2.2.2.2.2.2.2.2.At])] [(20, .o 31 2 0 (x.2.2.2.2.1.map e_Entry)), (20020, .z 3 1 0 (x.2.2.2.2.2.2.2.1.map e_i64)), (40020, .z 3 1 0 (x.2.2.2.2.2.2.2.2.1.map e_i64)), (60020, .z 3 1 0 (x.2.2.2.2.2.2.2.2.2.1.map e_i64))] [] (.cons (ixr_ok e_Node h0) (.cons (ldr_ok e_Node h1) (.cons (Pe.ren (clan_game_does_4_ok (⟨(lget row who).N, (lget row who).ID, (lget row who).Term, (lget row who).Vote, (lget row who).Log, (lget row who).Role, (lget row who).Commit, (lget row who).Votes, (lget row who).Next, (lget row who).Have⟩ : Node) x h2) ⟨[], [(9, 20), (20009, 20020), (40009, 40020), (60009, 60020)], [], []⟩) .nil))) ?_
  refine Wk_seq ?_
  refine ZRs [] [0, 1, 7, 8, 26] [7, 100000] [20, 20020, 40020, 60020, 100000, 100001] [(26, .bool (!decide (x.2.2.2.2.2.2.2.2.2.2.2.Code = 0)))] .nil ?_
  refine Wk_split rfl (fun hb => ?_) (fun hb => ?_)
  · have hF := ite_t hF hb
    refine ZRs [] [6] [100000] [100000, 100001] [(6, .bool false)] .nil ?_
    have hF := some_elim hF
    exact Wk_ret (hfin _ ⟨[100000, 100001], [100000], [100000, 100001], [], [], [(100001, ⟨1, true, true, false⟩)], by first | (rw [← hF]; kernel_rfl) | kernel_rfl⟩)
  · have hF := ite_f hF hb
    refine Wk_skip ?_
    refine Wk_seq ?_
    obtain ⟨h3, hF⟩ := asrt_elim hF
    obtain ⟨h4, hF⟩ := asrt_elim hF
    obtain ⟨h5, hF⟩ := asrt_elim hF
    refine WDL ((lset row who (⟨x.1, x.2.1, x.2.2.1, x.2.2.2.1, x.2.2.2.2.1, x.2.2.2.2.2.1, x.2.2.2.2.2.2.1, x.2.2.2.2.2.2.2.1, x.2.2.2.2.2.2.2.2.1, x.2.2.2.2.2.2.2.2.2.1⟩ : Node))) (fun v : List Node => ⟨[], [(100000, [.row 100000 0, .row 100001 1, .sl 1 (box.map e_str)])], [(100000, ⟨46, 10, 0, 0, rc, rn, 0, [], (v.map e_Node)⟩), (100001, ⟨62, 9, 1, rk1, rc1, rn1, 0, [], ((row1 ++ x.2.2.2.2.2.2.2.2.2.2.1).map e_Mail)⟩)], [], []⟩) [.xs ((row1 ++ x.2.2.2.2.2.2.2.2.2.2.1).map e_Mail), .av (e_Node (lget row who)), .xs ((lset row who (⟨x.1, x.2.1, x.2.2.1, x.2.2.2.1, x.2.2.2.2.1, x.2.2.2.2.2.1, x.2.2.2.2.2.2.1, x.2.2.2.2.2.2.2.1, x.2.2.2.2.2.2.2.2.1, x.2.2.2.2.2.2.2.2.2.1⟩ : Node)).map e_Node)] [] [100000] [100000, 100001] [] [] [] (.cons (app_ok e_Mail row1 x.2.2.2.2.2.2.2.2.2.2.1) (.cons (appl_ok e_Mail h3) (.cons (ixr_ok e_Node h4) (.cons (ldr_ok e_Node h5) (.cons (set_ok e_Node row who (⟨x.1, x.2.1, x.2.2.1, x.2.2.2.1, x.2.2.2.2.1, x.2.2.2.2.2.1, x.2.2.2.2.2.2.1, x.2.2.2.2.2.2.2.1, x.2.2.2.2.2.2.2.2.1, x.2.2.2.2.2.2.2.2.2.1⟩ : Node)) (.cons (Nat.zero_le who.toNat) .nil)))))) (by kernel_rfl) (fun v hv => ?_)
    have hF := lt_elim hF hv
    refine ZRs [] [6] [100000] [100000, 100001] [(6, .bool true)] .nil ?_
    have hF := some_elim hF
    exact Wk_ret (hfin _ ⟨[100000, 100001], [100000], [100000, 100001], [], [], [], by first | (rw [← hF]; kernel_rfl) | kernel_rfl⟩)

/- (*clan.game).does -/
noncomputable def clan_game_does_v1_J2 (v2 : List Node × List Mail × List (List UInt8)) : Option (Int × List Node × List Mail × List (List UInt8)) :=
  if (decide (200 < (v2.2.1.length : Int))) = true then
    some (9, v2.1, v2.2.1, v2.2.2)
  else
    some (0, v2.1, v2.2.1, v2.2.2)
noncomputable def clan_game_does_v1_J1 (d : Deed) (box : List (List UInt8)) (row : List Node) (row1 : List Mail) (v1 : Unit) : Option (Int × List Node × List Mail × List (List UInt8)) :=
  if (decide (d.Kind = 0)) = true then
    ob (clan_game_node_v5 d.Who box row row1) fun x =>
    clan_game_does_v1_J2 (x.2.1, x.2.2.1, x.2.2.2)
  else
    if (decide (d.Kind = 1)) = true then
      if (decide ((box.length : Int) = 0)) = true then
        some (6, row, row1, box)
      else
        ob (clan_game_node_v6 d.Who box row row1) fun x1 =>
        if x1.1 = true then
          asrt (0 ≤ (1 : Int) ∧ (1 : Int) ≤ (x1.2.2.2.length : Int)) <|
          clan_game_does_v1_J2 (x1.2.1, x1.2.2.1, (ldrop x1.2.2.2 1))
        else
          clan_game_does_v1_J2 (x1.2.1, x1.2.2.1, x1.2.2.2)
    else
      if (decide (d.Kind = 2)) = true then
        ob (clan_game_node_v7 d.Who box row row1) fun x2 =>
        clan_game_does_v1_J2 (x2.2.1, x2.2.2.1, x2.2.2.2)
      else
        if (decide (d.Kind = 3)) = true then
          asrt (0 ≤ d.N ∧ d.N < (row1.length : Int)) <|
          asrt (0 ≤ d.N ∧ d.N < (row1.length : Int)) <|
          ob (slices_Delete_api_Mail_api_Mail_v2 d.N (w64 (d.N + 1)) row1) fun x3 =>
          ob (clan_game_node_v3 ((lget row1 d.N).To) box (⟨(lget row1 d.N).Kind, (lget row1 d.N).From, (lget row1 d.N).To, (lget row1 d.N).Term, (lget row1 d.N).A, (lget row1 d.N).B, (lget row1 d.N).C0, (lget row1 d.N).Entries, (lget row1 d.N).Ok⟩ : Mail) row x3) fun x4 =>
          clan_game_does_v1_J2 (x4.2.1, x4.2.2.1, x4.2.2.2)
        else
          if (decide (d.Kind = 4)) = true then
            asrt (0 ≤ d.N ∧ d.N < (row1.length : Int)) <|
            asrt (0 ≤ d.N ∧ d.N < (row1.length : Int)) <|
            asrt (((row1 ++ [(⟨(lget row1 d.N).Kind, (lget row1 d.N).From, (lget row1 d.N).To, (lget row1 d.N).Term, (lget row1 d.N).A, (lget row1 d.N).B, (lget row1 d.N).C0, (lget row1 d.N).Entries, (lget row1 d.N).Ok⟩ : Mail)]).length : Int) * 88 ≤ 140737488351232) <|
            lt ((row1 ++ [(⟨(lget row1 d.N).Kind, (lget row1 d.N).From, (lget row1 d.N).To, (lget row1 d.N).Term, (lget row1 d.N).A, (lget row1 d.N).B, (lget row1 d.N).C0, (lget row1 d.N).Entries, (lget row1 d.N).Ok⟩ : Mail)])) fun (v3 : List Mail) =>
            clan_game_does_v1_J2 (row, v3, box)
          else
            if (decide (d.Kind = 5)) = true then
              ob (slices_Delete_api_Mail_api_Mail_v2 d.N (w64 (d.N + 1)) row1) fun x5 =>
              clan_game_does_v1_J2 (row, x5, box)
            else
              if (decide (d.Kind = 6)) = true then
                ob (clan_game_node_v8 d.Who box row row1) fun x6 =>
                clan_game_does_v1_J2 (x6.2.1, x6.2.2.1, x6.2.2.2)
              else
                clan_game_does_v1_J2 (row, row1, box)
noncomputable def clan_game_does_v1 (d : Deed) (box : List (List UInt8)) (row : List Node) (row1 : List Mail) : Option (Int × List Node × List Mail × List (List UInt8)) :=
  ob (
    if (decide (d.Kind = 0)) = true then
      some (decide (d.Kind = 0))
    else
      if (decide (d.Kind = 1)) = true then
        some (decide (d.Kind = 1))
      else
        if (decide (d.Kind = 2)) = true then
          some (decide (d.Kind = 2))
        else
          some (decide (d.Kind = 6))) fun (v : Bool) =>
  if v = true then
    if ((decide (d.Who < 0)) || (decide ((row.length : Int) ≤ d.Who))) = true then
      some (3, row, row1, box)
    else
      clan_game_does_v1_J1 d box row row1 ()
  else
    ob (
      if (decide (d.Kind = 3)) = true then
        some (decide (d.Kind = 3))
      else
        if (decide (d.Kind = 4)) = true then
          some (decide (d.Kind = 4))
        else
          some (decide (d.Kind = 5))) fun (v4 : Bool) =>
    if v4 = true then
      if ((decide (d.N < 0)) || (decide ((row1.length : Int) ≤ d.N))) = true then
        some (3, row, row1, box)
      else
        clan_game_does_v1_J1 d box row row1 ()
    else
      some (4, row, row1, box)
theorem clan_game_does_v1_ok (d : Deed) (box : List (List UInt8)) (row : List Node) (row1 : List Mail) (rk : Nat) (rc : Nat) (rn : Bool) (rk1 : Nat) (rc1 : Nat) (rn1 : Bool) (r : Int × List Node × List Mail × List (List UInt8)) (hF : clan_game_does_v1 d box row row1 = some r) : Pe Try.prog 85 ⟨[], [(100000, [.row 100000 0, .row 100001 0, .sl 1 (box.map e_str)])], [(100000, ⟨46, 10, 0, 0, rc, rn, 0, [], (row.map e_Node)⟩), (100001, ⟨62, 9, 0, 0, rc1, rn1, 0, [], (row1.map e_Mail)⟩)], [], []⟩ [.ptr 100000 0, .agg (c_Deed d)] (.i r.1) ⟨[], [(100000, [.row 100000 0, .row 100001 1, .sl 1 (r.2.2.2.map e_str)])], [(100000, ⟨46, 10, 0, 0, rc, rn, 0, [], (r.2.1.map e_Node)⟩), (100001, .o 62 9 1 (r.2.2.1.map e_Mail))], [], []⟩ := by
  refine Pe_of (N := 163) (res := [.tmp 4]) (ts := [3]) Ty.ok Fn.b85 Try.func85 rfl rfl rfl rfl rfl rfl ?_
  intro Q g hfin
  unfold clan_game_does_v1 at hF
  refine URs [] [2, 3] [2, 3, 100000] [100000, 100001] [] [(2, .ptr 2 0), (3, .ptr 3 0)] [(2, [.ptr 100000 0]), (3, (c_Deed d))] [] [] .nil ?_
  refine Wk_seq ?_
  refine ZRs [] [2, 3, 7] [2, 3, 100000] [100000, 100001] [(7, .i d.Kind)] .nil ?_
  refine Wk_block ?_
  refine Wk_seq ?_
  refine ZRs [] [2, 3, 7, 8] [2, 3, 100000] [100000, 100001] [(8, .bool (decide (d.Kind = 0)))] .nil ?_
  obtain ⟨v, hv, hF⟩ := ob_elim hF
  refine Wk_meet (⟨[(2, .ptr 2 0), (3, .ptr 3 0), (7, .i d.Kind), (8, .bool v)], [(2, [.ptr 100000 0]), (3, (c_Deed d)), (100000, [.row 100000 0, .row 100001 0, .sl 1 (box.map e_str)])], [(100000, ⟨46, 10, 0, 0, rc, rn, 0, [], (row.map e_Node)⟩), (100001, ⟨62, 9, 0, 0, rc1, rn1, 0, [], (row1.map e_Mail)⟩)], [], []⟩ : S) ?_ ?_
  · have hF := hv
    refine Wk_split rfl (fun hb => ?_) (fun hb => ?_)
    · have hF := ite_t hF hb
      refine Wk_skip ?_
      exact Wk_met (fs := [2, 3, 7, 8]) (bs := [2, 3, 100000]) (rs := [100000, 100001]) (ms := []) (aa := []) (nv := []) (by first | (rw [← some_elim hF]; kernel_rfl) | kernel_rfl)
    · have hF := ite_f hF hb
      refine ZRs [] [2, 3, 7, 8] [2, 3, 100000] [100000, 100001] [(8, .bool (decide (d.Kind = 1)))] .nil ?_
      refine Wk_split rfl (fun hb => ?_) (fun hb => ?_)
      · have hF := ite_t hF hb
        refine Wk_skip ?_
        exact Wk_met (fs := [2, 3, 7, 8]) (bs := [2, 3, 100000]) (rs := [100000, 100001]) (ms := []) (aa := []) (nv := []) (by first | (rw [← some_elim hF]; kernel_rfl) | kernel_rfl)
      · have hF := ite_f hF hb
        refine ZRs [] [2, 3, 7, 8] [2, 3, 100000] [100000, 100001] [(8, .bool (decide (d.Kind = 2)))] .nil ?_
        refine Wk_split rfl (fun hb => ?_) (fun hb => ?_)
        · have hF := ite_t hF hb
          refine Wk_skip ?_
          exact Wk_met (fs := [2, 3, 7, 8]) (bs := [2, 3, 100000]) (rs := [100000, 100001]) (ms := []) (aa := []) (nv := []) (by first | (rw [← some_elim hF]; kernel_rfl) | kernel_rfl)
        · have hF := ite_f hF hb
          refine ZR [] [2, 3, 7, 8] [2, 3, 100000] [100000, 100001] [(8, .bool (decide (d.Kind = 6)))] .nil ?_
          exact Wk_met (fs := [2, 3, 7, 8]) (bs := [2, 3, 100000]) (rs := [100000, 100001]) (ms := []) (aa := []) (nv := []) (by first | (rw [← some_elim hF]; kernel_rfl) | kernel_rfl)
  · refine Wk_meetP (fun v1 : Unit => (⟨[(2, .ptr 2 0), (3, .ptr 3 0)], [(2, [.ptr 100000 0]), (3, (c_Deed d)), (100000, [.row 100000 0, .row 100001 0, .sl 1 (box.map e_str)])], [(100000, ⟨46, 10, 0, 0, rc, rn, 0, [], (row.map e_Node)⟩), (100001, ⟨62, 9, 0, 0, rc1, rn1, 0, [], (row1.map e_Mail)⟩)], [], []⟩ : S)) (fun v1 => clan_game_does_v1_J1 d box row row1 v1 = some r) ?_ ?_
    · refine Wk_split rfl (fun hb => ?_) (fun hb => ?_)
      · have hF := ite_t hF hb
        refine ZDs [.nat (row.length : Int)] [2, 3, 26] [2, 3, 100000] [100000, 100001] [(26, .bool ((decide (d.Who < 0)) || (decide ((row.length : Int) ≤ d.Who))))] (.cons (fun (_ : (!(decide (d.Who < 0))) = true) => (len_ok e_Node row)) .nil) ?_
        refine Wk_split rfl (fun hb => ?_) (fun hb => ?_)
        · have hF := ite_t hF hb
          refine ZRs [] [4] [100000] [100000, 100001] [(4, .i 3)] .nil ?_
          have hF := some_elim hF
          exact Wk_ret (hfin _ ⟨[100000, 100001], [100000], [100000, 100001], [], [], [(100001, ⟨1, false, false, false⟩)], by first | (rw [← hF]; kernel_rfl) | kernel_rfl⟩)
        · have hF := ite_f hF hb
          refine Wk_skip ?_
          exact Wk_metP () [2, 3] [2, 3, 100000] [100000, 100001] [] [] [] hF (by kernel_rfl)
      · have hF := ite_f hF hb
        refine Wk_seq ?_
        refine ZRs [] [2, 3, 7, 27] [2, 3, 100000] [100000, 100001] [(27, .bool (decide (d.Kind = 3)))] .nil ?_
        obtain ⟨v4, hv, hF⟩ := ob_elim hF
        refine Wk_meet (⟨[(2, .ptr 2 0), (3, .ptr 3 0), (27, .bool v4)], [(2, [.ptr 100000 0]), (3, (c_Deed d)), (100000, [.row 100000 0, .row 100001 0, .sl 1 (box.map e_str)])], [(100000, ⟨46, 10, 0, 0, rc, rn, 0, [], (row.map e_Node)⟩), (100001, ⟨62, 9, 0, 0, rc1, rn1, 0, [], (row1.map e_Mail)⟩)], [], []⟩ : S) ?_ ?_
        · have hF := hv
          refine Wk_split rfl (fun hb => ?_) (fun hb => ?_)
          · have hF := ite_t hF hb
            refine Wk_skip ?_
            exact Wk_met (fs := [2, 3, 27]) (bs := [2, 3, 100000]) (rs := [100000, 100001]) (ms := []) (aa := []) (nv := []) (by first | (rw [← some_elim hF]; kernel_rfl) | kernel_rfl)
          · have hF := ite_f hF hb
            refine ZRs [] [2, 3, 7, 27] [2, 3, 100000] [100000, 100001] [(27, .bool (decide (d.Kind = 4)))] .nil ?_
            refine Wk_split rfl (fun hb => ?_) (fun hb => ?_)
            · have hF := ite_t hF hb
              refine Wk_skip ?_
              exact Wk_met (fs := [2, 3, 27]) (bs := [2, 3, 100000]) (rs := [100000, 100001]) (ms := []) (aa := []) (nv := []) (by first | (rw [← some_elim hF]; kernel_rfl) | kernel_rfl)
            · have hF := ite_f hF hb
              refine ZR [] [2, 3, 27] [2, 3, 100000] [100000, 100001] [(27, .bool (decide (d.Kind = 5)))] .nil ?_
              exact Wk_met (fs := [2, 3, 27]) (bs := [2, 3, 100000]) (rs := [100000, 100001]) (ms := []) (aa := []) (nv := []) (by first | (rw [← some_elim hF]; kernel_rfl) | kernel_rfl)
        · refine Wk_split rfl (fun hb => ?_) (fun hb => ?_)
          · have hF := ite_t hF hb
            refine ZDs [.nat (row1.length : Int)] [2, 3, 44] [2, 3, 100000] [100000, 100001] [(44, .bool ((decide (d.N < 0)) || (decide ((row1.length : Int) ≤ d.N))))] (.cons (fun (_ : (!(decide (d.N < 0))) = true) => (len_ok e_Mail row1)) .nil) ?_
            refine Wk_split rfl (fun hb => ?_) (fun hb => ?_)
            · have hF := ite_t hF hb
              refine ZRs [] [4] [100000] [100000, 100001] [(4, .i 3)] .nil ?_
              have hF := some_elim hF
              exact Wk_ret (hfin _ ⟨[100000, 100001], [100000], [100000, 100001], [], [], [(100001, ⟨1, false, false, false⟩)], by first | (rw [← hF]; kernel_rfl) | kernel_rfl⟩)
            · have hF := ite_f hF hb
              refine Wk_skip ?_
              exact Wk_metP () [2, 3] [2, 3, 100000] [100000, 100001] [] [] [] hF (by kernel_rfl)
          · have hF := ite_f hF hb
            refine ZRs [] [4] [100000] [100000, 100001] [(4, .i 4)] .nil ?_
            have hF := some_elim hF
            exact Wk_ret (hfin _ ⟨[100000, 100001], [100000], [100000, 100001], [], [], [(100001, ⟨1, false, false, false⟩)], by first | (rw [← hF]; kernel_rfl) | kernel_rfl⟩)
    · intro v1 hF
      have hF : clan_game_does_v1_J1 d box row row1 v1 = some r := hF
      unfold clan_game_does_v1_J1 at hF
      refine Wk_blk ?_
      refine Wk_seq ?_
      refine ZRs [] [2, 3, 46] [2, 3, 100000] [100000, 100001] [(46, .i d.Kind)] .nil ?_
      refine Wk_block ?_
      refine ZRs [] [2, 3, 46, 47] [2, 3, 100000] [100000, 100001] [(47, .bool (decide (d.Kind = 0)))] .nil ?_
      refine Wk_meetP (fun v2 : List Node × List Mail × List (List UInt8) => (⟨[(2, .ptr 2 0)], [(2, [.ptr 100000 0]), (100000, [.row 100000 0, .row 100001 1, .sl 1 (v2.2.2.map e_str)])], [(100000, ⟨46, 10, 0, 0, rc, rn, 0, [], (v2.1.map e_Node)⟩), (100001, .o 62 9 1 (v2.2.1.map e_Mail))], [], []⟩ : S)) (fun v2 => clan_game_does_v1_J2 v2 = some r) ?_ ?_
      · refine Wk_split rfl (fun hb => ?_) (fun hb => ?_)
        · have hF := ite_t hF hb
          obtain ⟨x, h0, hF⟩ := ob_elim hF
          refine UR [.callE [100000] [100000, 100001] [] [] (.bool x.1) ⟨[], [(100000, [.row 100000 0, .row 100001 1, .sl 1 (x.2.2.2.map e_str)])], [(100000, ⟨46, 10, 0, 0, rc, rn, 0, [], (x.2.1.map e_Node)⟩), (100001, ⟨62, 9, 1, 0, rc1, rn1, 0, [], (x.2.2.1.map e_Mail)⟩)], [], []⟩] [2] [2, 100000] [100000, 100001] [] [] [(100000, [.row 100000 0, .row 100001 1, .sl 1 (x.2.2.2.map e_str)])] [(100000, ⟨46, 10, 0, 0, rc, rn, 0, [], (x.2.1.map e_Node)⟩), (100001, ⟨62, 9, 1, 0, rc1, rn1, 0, [], (x.2.2.1.map e_Mail)⟩)] [] (.cons (Pe.ren (clan_game_node_v5_ok d.Who box row row1 0 rc rn 0 rc1 rn1 x h0) ⟨[], [], [], []⟩) .nil) ?_
          exact Wk_metP (x.2.1, x.2.2.1, x.2.2.2) [2] [2, 100000] [100000, 100001] [] [] [(100001, ⟨1, false, false, false⟩)] hF (by kernel_rfl)
        · have hF := ite_f hF hb
          refine ZRs [] [2, 3, 46, 53] [2, 3, 100000] [100000, 100001] [(53, .bool (decide (d.Kind = 1)))] .nil ?_
          refine Wk_split rfl (fun hb => ?_) (fun hb => ?_)
          · have hF := ite_t hF hb
            refine Wk_seq ?_
            refine ZRs [.nat (box.length : Int)] [2, 3, 60] [2, 3, 100000] [100000, 100001] [(60, .bool (decide ((box.length : Int) = 0)))] (.cons (len_ok e_str box) .nil) ?_
            refine Wk_split rfl (fun hb => ?_) (fun hb => ?_)
            · have hF := ite_t hF hb
              refine ZRs [] [4] [100000] [100000, 100001] [(4, .i 6)] .nil ?_
              have hF := some_elim hF
              exact Wk_ret (hfin _ ⟨[100000, 100001], [100000], [100000, 100001], [], [], [(100001, ⟨1, false, false, false⟩)], by first | (rw [← hF]; kernel_rfl) | kernel_rfl⟩)
            · have hF := ite_f hF hb
              refine Wk_skip ?_
              refine Wk_seq ?_
              obtain ⟨x1, h1, hF⟩ := ob_elim hF
              refine UR [.callE [100000, 2] [100000, 100001] [] [] (.bool x1.1) ⟨[], [(100000, [.row 100000 0, .row 100001 1, .sl 1 (x1.2.2.2.map e_str)]), (2, [.ptr 100000 0])], [(100000, ⟨46, 10, 0, 0, rc, rn, 0, [], (x1.2.1.map e_Node)⟩), (100001, ⟨62, 9, 1, 0, rc1, rn1, 0, [], (x1.2.2.1.map e_Mail)⟩)], [], []⟩] [2, 65] [2, 100000] [100000, 100001] [] [(65, .bool x1.1)] [(100000, [.row 100000 0, .row 100001 1, .sl 1 (x1.2.2.2.map e_str)])] [(100000, ⟨46, 10, 0, 0, rc, rn, 0, [], (x1.2.1.map e_Node)⟩), (100001, ⟨62, 9, 1, 0, rc1, rn1, 0, [], (x1.2.2.1.map e_Mail)⟩)] [] (.cons (Pe.ren (clan_game_node_v6_ok d.Who box row row1 0 rc rn 0 rc1 rn1 x1 h1) ⟨[(100001, 2)], [], [], []⟩) .nil) ?_
              refine Wk_split rfl (fun hb => ?_) (fun hb => ?_)
              · have hF := ite_t hF hb
                obtain ⟨h2, hF⟩ := asrt_elim hF
                refine UD [.xs ((ldrop x1.2.2.2 1).map e_str)] [2] [2, 100000] [100000, 100001] [] [] [(100000, [.row 100000 0, .row 100001 1, .sl 1 ((ldrop x1.2.2.2 1).map e_str)])] [] [] (.cons (sl10_ok e_str h2) .nil) ?_
                exact Wk_metP (x1.2.1, x1.2.2.1, (ldrop x1.2.2.2 1)) [2] [2, 100000] [100000, 100001] [] [] [(100001, ⟨1, false, false, false⟩)] hF (by kernel_rfl)
              · have hF := ite_f hF hb
                refine Wk_skip ?_
                exact Wk_metP (x1.2.1, x1.2.2.1, x1.2.2.2) [2] [2, 100000] [100000, 100001] [] [] [(100001, ⟨1, false, false, false⟩)] hF (by kernel_rfl)
          · have hF := ite_f hF hb
            refine ZRs [] [2, 3, 46, 74] [2, 3, 100000] [100000, 100001] [(74, .bool (decide (d.Kind = 2)))] .nil ?_
            refine Wk_split rfl (fun hb => ?_) (fun hb => ?_)
            · have hF := ite_t hF hb
              obtain ⟨x2, h3, hF⟩ := ob_elim hF
              refine UR [.callE [100000] [100000, 100001] [] [] (.bool x2.1) ⟨[], [(100000, [.row 100000 0, .row 100001 1, .sl 1 (x2.2.2.2.map e_str)])], [(100000, ⟨46, 10, 0, 0, rc, rn, 0, [], (x2.2.1.map e_Node)⟩), (100001, ⟨62, 9, 1, 0, rc1, rn1, 0, [], (x2.2.2.1.map e_Mail)⟩)], [], []⟩] [2] [2, 100000] [100000, 100001] [] [] [(100000, [.row 100000 0, .row 100001 1, .sl 1 (x2.2.2.2.map e_str)])] [(100000, ⟨46, 10, 0, 0, rc, rn, 0, [], (x2.2.1.map e_Node)⟩), (100001, ⟨62, 9, 1, 0, rc1, rn1, 0, [], (x2.2.2.1.map e_Mail)⟩)] [] (.cons (Pe.ren (clan_game_node_v7_ok d.Who box row row1 0 rc rn 0 rc1 rn1 x2 h3) ⟨[], [], [], []⟩) .nil) ?_
              exact Wk_metP (x2.2.1, x2.2.2.1, x2.2.2.2) [2] [2, 100000] [100000, 100001] [] [] [(100001, ⟨1, false, false, false⟩)] hF (by kernel_rfl)
            · have hF := ite_f hF hb
              refine ZRs [] [2, 3, 46, 80] [2, 3, 100000] [100000, 100001] [(80, .bool (decide (d.Kind = 3)))] .nil ?_
              refine Wk_split rfl (fun hb => ?_) (fun hb => ?_)
              · have hF := ite_t hF hb
                refine Wk_seq ?_
                obtain ⟨h4, hF⟩ := asrt_elim hF
                obtain ⟨h5, hF⟩ := asrt_elim hF
                refine UD [.av (e_Mail (lget row1 d.N))] [2, 3, 5] [2, 3, 5, 100000] [100000, 100001] [] [(5, .ptr 5 0)] [(5, (c_Mail (lget row1 d.N)))] [] [] (.cons (ixr_ok e_Mail h4) (.cons (ldr_ok e_Mail h5) .nil)) ?_
                refine Wk_seq ?_
                obtain ⟨x3, h6, hF⟩ := ob_elim hF
                refine UD [.callE [] [100001] [] [] (.row 100001 1) ⟨[], [], [(100001, .o 62 9 1 (x3.map e_Mail))], [], []⟩] [2, 5] [2, 5, 100000] [100000, 100001] [] [] [(100000, [.row 100000 0, .row 100001 1, .sl 1 (box.map e_str)])] [(100001, .o 62 9 1 (x3.map e_Mail))] [] (.cons (Pe.ren (slices_Delete_api_Mail_api_Mail_v2_ok d.N (w64 (d.N + 1)) row1 0 rc1 rn1 x3 h6) ⟨[], [(100000, 100001)], [], []⟩) .nil) ?_
                obtain ⟨x4, h7, hF⟩ := ob_elim hF
                refine UR [.callE [100000, 5] [100000, 100001] [] [] (.bool x4.1) ⟨[], [(100000, [.row 100000 0, .row 100001 2, .sl 1 (x4.2.2.2.map e_str)]), (5, (c_Mail (⟨(lget row1 d.N).Kind, (lget row1 d.N).From, (lget row1 d.N).To, (lget row1 d.N).Term, (lget row1 d.N).A, (lget row1 d.N).B, (lget row1 d.N).C0, (lget row1 d.N).Entries, (lget row1 d.N).Ok⟩ : Mail)))], [(100000, ⟨46, 10, 0, 0, rc, rn, 0, [], (x4.2.1.map e_Node)⟩), (100001, .o 62 9 2 (x4.2.2.1.map e_Mail))], [], []⟩] [2] [2, 100000] [100000, 100001] [] [] [(100000, [.row 100000 0, .row 100001 2, .sl 1 (x4.2.2.2.map e_str)])] [(100000, ⟨46, 10, 0, 0, rc, rn, 0, [], (x4.2.1.map e_Node)⟩), (100001, .o 62 9 2 (x4.2.2.1.map e_Mail))] [] (.cons (Pe.ren (clan_game_node_v3_ok ((lget row1 d.N).To) box (⟨(lget row1 d.N).Kind, (lget row1 d.N).From, (lget row1 d.N).To, (lget row1 d.N).Term, (lget row1 d.N).A, (lget row1 d.N).B, (lget row1 d.N).C0, (lget row1 d.N).Entries, (lget row1 d.N).Ok⟩ : Mail) row x3 0 rc rn 0 0 false x4 h7) ⟨[(100001, 5)], [], [], [(100001, 1)]⟩) .nil) ?_
                exact Wk_metP (x4.2.1, x4.2.2.1, x4.2.2.2) [2] [2, 100000] [100000, 100001] [] [] [(100001, ⟨1, true, true, false⟩)] hF (by kernel_rfl)
              · have hF := ite_f hF hb
                refine ZRs [] [2, 3, 46, 111] [2, 3, 100000] [100000, 100001] [(111, .bool (decide (d.Kind = 4)))] .nil ?_
                refine Wk_split rfl (fun hb => ?_) (fun hb => ?_)
                · have hF := ite_t hF hb
                  obtain ⟨h8, hF⟩ := asrt_elim hF
                  obtain ⟨h9, hF⟩ := asrt_elim hF
                  obtain ⟨h10, hF⟩ := asrt_elim hF
                  refine WDL ((row1 ++ [(⟨(lget row1 d.N).Kind, (lget row1 d.N).From, (lget row1 d.N).To, (lget row1 d.N).Term, (lget row1 d.N).A, (lget row1 d.N).B, (lget row1 d.N).C0, (lget row1 d.N).Entries, (lget row1 d.N).Ok⟩ : Mail)])) (fun v3 : List Mail => ⟨[(2, .ptr 2 0)], [(2, [.ptr 100000 0]), (100000, [.row 100000 0, .row 100001 1, .sl 1 (box.map e_str)])], [(100000, ⟨46, 10, 0, 0, rc, rn, 0, [], (row.map e_Node)⟩), (100001, ⟨62, 9, 1, 0, rc1, rn1, 0, [], (v3.map e_Mail)⟩)], [], []⟩) [.av (e_Mail (lget row1 d.N)), .sealed, .xs ((row1 ++ [(⟨(lget row1 d.N).Kind, (lget row1 d.N).From, (lget row1 d.N).To, (lget row1 d.N).Term, (lget row1 d.N).A, (lget row1 d.N).B, (lget row1 d.N).C0, (lget row1 d.N).Entries, (lget row1 d.N).Ok⟩ : Mail)]).map e_Mail)] [2] [2, 100000] [100000, 100001] [] [] [] (.cons (ixr_ok e_Mail h8) (.cons (ldr_ok e_Mail h9) (.cons (app_ok e_Mail row1 [(⟨(lget row1 d.N).Kind, (lget row1 d.N).From, (lget row1 d.N).To, (lget row1 d.N).Term, (lget row1 d.N).A, (lget row1 d.N).B, (lget row1 d.N).C0, (lget row1 d.N).Entries, (lget row1 d.N).Ok⟩ : Mail)]) (.cons (appl_ok e_Mail h10) .nil)))) (by kernel_rfl) (fun v3 hv => ?_)
                  have hF := lt_elim hF hv
                  exact Wk_metP (row, v3, box) [2] [2, 100000] [100000, 100001] [] [] [(100001, ⟨1, false, false, false⟩)] hF (by kernel_rfl)
                · have hF := ite_f hF hb
                  refine ZRs [] [2, 3, 46, 133] [2, 3, 100000] [100000, 100001] [(133, .bool (decide (d.Kind = 5)))] .nil ?_
                  refine Wk_split rfl (fun hb => ?_) (fun hb => ?_)
                  · have hF := ite_t hF hb
                    obtain ⟨x5, h11, hF⟩ := ob_elim hF
                    refine UD [.callE [] [100001] [] [] (.row 100001 1) ⟨[], [], [(100001, .o 62 9 1 (x5.map e_Mail))], [], []⟩] [2] [2, 100000] [100000, 100001] [] [] [(100000, [.row 100000 0, .row 100001 1, .sl 1 (box.map e_str)])] [(100001, .o 62 9 1 (x5.map e_Mail))] [] (.cons (Pe.ren (slices_Delete_api_Mail_api_Mail_v2_ok d.N (w64 (d.N + 1)) row1 0 rc1 rn1 x5 h11) ⟨[], [(100000, 100001)], [], []⟩) .nil) ?_
                    exact Wk_metP (row, x5, box) [2] [2, 100000] [100000, 100001] [] [] [] hF (by kernel_rfl)
                  · have hF := ite_f hF hb
                    refine ZRs [] [2, 3, 150] [2, 3, 100000] [100000, 100001] [(150, .bool (decide (d.Kind = 6)))] .nil ?_
                    refine Wk_split rfl (fun hb => ?_) (fun hb => ?_)
                    · have hF := ite_t hF hb
                      obtain ⟨x6, h12, hF⟩ := ob_elim hF
                      refine UR [.callE [100000] [100000, 100001] [] [] (.bool x6.1) ⟨[], [(100000, [.row 100000 0, .row 100001 1, .sl 1 (x6.2.2.2.map e_str)])], [(100000, ⟨46, 10, 0, 0, rc, rn, 0, [], (x6.2.1.map e_Node)⟩), (100001, ⟨62, 9, 1, 0, rc1, rn1, 0, [], (x6.2.2.1.map e_Mail)⟩)], [], []⟩] [2] [2, 100000] [100000, 100001] [] [] [(100000, [.row 100000 0, .row 100001 1, .sl 1 (x6.2.2.2.map e_str)])] [(100000, ⟨46, 10, 0, 0, rc, rn, 0, [], (x6.2.1.map e_Node)⟩), (100001, ⟨62, 9, 1, 0, rc1, rn1, 0, [], (x6.2.2.1.map e_Mail)⟩)] [] (.cons (Pe.ren (clan_game_node_v8_ok d.Who box row row1 0 rc rn 0 rc1 rn1 x6 h12) ⟨[], [], [], []⟩) .nil) ?_
                      exact Wk_metP (x6.2.1, x6.2.2.1, x6.2.2.2) [2] [2, 100000] [100000, 100001] [] [] [(100001, ⟨1, false, false, false⟩)] hF (by kernel_rfl)
                    · have hF := ite_f hF hb
                      refine Wk_skip ?_
                      exact Wk_metP (row, row1, box) [2] [2, 100000] [100000, 100001] [] [] [(100001, ⟨1, false, false, false⟩)] hF (by kernel_rfl)
      · intro v2 hF
        have hF : clan_game_does_v1_J2 v2 = some r := hF
        unfold clan_game_does_v1_J2 at hF
        refine Wk_blk ?_
        refine Wk_seq ?_
        refine ZRs [.nat (v2.2.1.length : Int)] [162] [100000] [100000, 100001] [(162, .bool (decide (200 < (v2.2.1.length : Int))))] (.cons (len_ok e_Mail v2.2.1) .nil) ?_
        refine Wk_split rfl (fun hb => ?_) (fun hb => ?_)
        · have hF := ite_t hF hb
          refine ZRs [] [4] [100000] [100000, 100001] [(4, .i 9)] .nil ?_
          have hF := some_elim hF
          exact Wk_ret (hfin _ ⟨[100000, 100001], [100000], [100000, 100001], [], [], [], by first | (rw [← hF]; kernel_rfl) | kernel_rfl⟩)
        · have hF := ite_f hF hb
          refine Wk_skip ?_
          refine ZRs [] [4] [100000] [100000, 100001] [(4, .i 0)] .nil ?_
          have hF := some_elim hF
          exact Wk_ret (hfin _ ⟨[100000, 100001], [100000], [100000, 100001], [], [], [], by first | (rw [← hF]; kernel_rfl) | kernel_rfl⟩)

/- slices.Clone[[]api.Mail,api.Mail] -/
noncomputable def slices_Clone_api_Mail_api_Mail (s0 : List Mail) : Option (List Mail) :=
  ubO (decide (s0.length = 0)) (
    some ([] : List Mail)) (
    asrt (((([] : List Mail) ++ s0).length : Int) * 88 ≤ 140737488351232) <|
    some (([] : List Mail) ++ s0))
theorem slices_Clone_api_Mail_api_Mail_ok (s0 : List Mail) (r : List Mail) (hF : slices_Clone_api_Mail_api_Mail s0 = some r) : Pe Try.prog 101 ⟨[], [], [], [], []⟩ [.sl 9 (s0.map e_Mail)] (.row 5 0) ⟨[], [], [(5, .o 62 9 0 (r.map e_Mail))], [], []⟩ := by
  refine Pe_of (N := 8) (res := [.tmp 2]) (ts := [50]) Ty.ok Fn.b101 Try.func101 rfl rfl rfl rfl rfl rfl ?_
  intro Q g hfin
  unfold slices_Clone_api_Mail_api_Mail at hF
  refine ZRs [] [0] [] [] [] .nil ?_
  refine Wk_seq ?_
  refine ZRs [.bo (decide (s0.length = 0))] [0, 4] [] [] [(4, .ub (decide (s0.length = 0)) true)] (.cons (ubn_ok e_Mail s0) .nil) ?_
  refine Wk_ub 4 rfl fun b hb1 hb2 => ?_
  refine Wk_split rfl (fun hb => ?_) (fun hb => ?_)
  · have hb := hb1 hb
    have hF := (ubO_elim hF).1 hb
    refine ZRs [] [2] [] [] [(2, .nils)] .nil ?_
    have hF := some_elim hF
    refine Wk_nilrow 2 60000 62 9 rfl rfl rfl ?_
    refine Wk_ren' ⟨[], [(60000, 5)], [], []⟩ rfl ?_
    exact Wk_ret (hfin _ ⟨[5], [], [5], [], [], [(5, ⟨0, true, false, false⟩)], by first | (rw [← hF]; kernel_rfl) | kernel_rfl⟩)
  · have hF := (ubO_elim hF).2
    refine Wk_skip ?_
    refine Wk_seq ?_
    obtain ⟨h0, hF⟩ := asrt_elim hF
    refine UR [.xs ((([] : List Mail) ++ s0).map e_Mail)] [2] [] [5] [] [(2, .row 5 1)] [] [(5, .o 62 9 1 ((([] : List Mail) ++ s0).map e_Mail))] [] (.cons (app_ok e_Mail ([] : List Mail) s0) (.cons (appl_ok e_Mail h0) .nil)) ?_
    have hF := some_elim hF
    exact Wk_ret (hfin _ ⟨[5], [], [5], [], [], [(5, ⟨0, true, true, false⟩)], by first | (rw [← hF]; kernel_rfl) | kernel_rfl⟩)

end G
end Go.Proofs.Ytcnngkigpfpalaa
