/- The program's functions as plain functions, and that they are these. Written by a program (dec2.py). -/
import Derived.Test.YtiakadlmebbafaaGf1
namespace Go.Proofs.Ytiakadlmebbafaa
open Go Go.Dm
set_option linter.unusedVariables false
set_option linter.unusedSimpArgs false
set_option maxRecDepth 100000
namespace G
/- tabularylaw.DiskDoes -/
noncomputable def law_DiskDoes (d : Disk) (b : List UInt8) (num : Int) : Option Bool :=
  ob (law_diskBegun) fun x =>
  if (!x) = true then
    some false
  else
    if ((decide (100000 < (d.Bytes.length : Int))) || (decide (100000 < (b.length : Int)))) = true then
      some true
    else
      ob (law_ownDisk d) fun x1 =>
      lt (disk_Check x1) fun x2 =>
      ob (law_ownBytes_v1 b) fun x3 =>
      ob (disk_Append_v1 x1 x3) fun x4 =>
      ob (disk_Sync_v1 x1) fun x5 =>
      ob (disk_Crash_v1 x1 num) fun x6 =>
      ob (disk_Trim_v1 x1 num) fun x7 =>
      ob (disk_Recover_v1 x1) fun x8 =>
      lt (R_DiskFault d) fun x9 =>
      lt (R_SameDisk x1 d) fun x10 =>
      if ((!(decide (x2.Code = x9.Code) && (decide (x2.At = x9.At) && true))) || (!x10)) = true then
        some false
      else
        ob (
          if ((decide (x9.Code = 0)) && (decide (60000 < (w64 ((d.Bytes.length : Int) + (b.length : Int)))))) = true then
            lt (R_F 9 0) fun x11 =>
            some (d, x4.1, x4.2, x5.1, x5.2, x6.1, x6.2, x7.1, x7.2, x8.1, x8.2.2, x9, x11)
          else
            some (d, x4.1, x4.2, x5.1, x5.2, x6.1, x6.2, x7.1, x7.2, x8.1, x8.2.2, x9, x9)) fun (v : Disk × Disk × Fault × Disk × Fault × Disk × Fault × Disk × Fault × Disk × Fault × Fault × Fault) =>
        ob (law_diskAs v.2.1 v.2.2.1 v.2.2.2.2.2.2.2.2.2.2.2.2 v.1 b) fun x12 =>
        if (!x12) = true then
          some false
        else
          lt (law_diskAs_v1 v.2.2.2.1 v.2.2.2.2.1 v.2.2.2.2.2.2.2.2.2.2.2.1 v.1) fun x13 =>
          if (!x13) = true then
            some false
          else
            ob (
              if ((decide (v.2.2.2.2.2.2.2.2.2.2.2.1.Code = 0)) && ((decide (num < 0)) || (decide ((w64 ((v.1.Bytes.length : Int) - v.1.Kept)) < num)))) = true then
                lt (R_F 3 (-1)) fun x14 =>
                some (v.1, v.2.2.2.2.2.1, v.2.2.2.2.2.2.1, v.2.2.2.2.2.2.2.1, v.2.2.2.2.2.2.2.2.1, v.2.2.2.2.2.2.2.2.2.1, v.2.2.2.2.2.2.2.2.2.2.1, v.2.2.2.2.2.2.2.2.2.2.2.1, x14)
              else
                some (v.1, v.2.2.2.2.2.1, v.2.2.2.2.2.2.1, v.2.2.2.2.2.2.2.1, v.2.2.2.2.2.2.2.2.1, v.2.2.2.2.2.2.2.2.2.1, v.2.2.2.2.2.2.2.2.2.2.1, v.2.2.2.2.2.2.2.2.2.2.2.1, v.2.2.2.2.2.2.2.2.2.2.2.1)) fun (v1 : Disk × Disk × Fault × Disk × Fault × Disk × Fault × Fault × Fault) =>
            ob (law_diskAs_v2 v1.2.1 v1.2.2.1 v1.2.2.2.2.2.2.2.2 v1.1 num) fun x15 =>
            if (!x15) = true then
              some false
            else
              ob (
                if ((decide (v1.2.2.2.2.2.2.2.1.Code = 0)) && ((decide (num < 0)) || (decide ((v1.1.Bytes.length : Int) < num)))) = true then
                  lt (R_F 3 (-1)) fun x16 =>
                  some (v1.1, v1.2.2.2.1, v1.2.2.2.2.1, v1.2.2.2.2.2.1, v1.2.2.2.2.2.2.1, v1.2.2.2.2.2.2.2.1, x16)
                else
                  some (v1.1, v1.2.2.2.1, v1.2.2.2.2.1, v1.2.2.2.2.2.1, v1.2.2.2.2.2.2.1, v1.2.2.2.2.2.2.2.1, v1.2.2.2.2.2.2.2.1)) fun (v2 : Disk × Disk × Fault × Disk × Fault × Fault × Fault) =>
              ob (law_diskAs_v3 v2.2.1 v2.2.2.1 v2.2.2.2.2.2.2 v2.1 num) fun x17 =>
              if (!x17) = true then
                some false
              else
                ob (
                  if (decide (v2.2.2.2.2.2.1.Code = 0)) = true then
                    ob (R_Unframed_v1 v2.1.Bytes) fun x18 =>
                    if (decide (1000 < (x18.1.length : Int))) = true then
                      lt (R_F 2 0) fun x19 =>
                      some (v2.1, v2.2.2.2.1, v2.2.2.2.2.1, x19, ([] : List (List UInt8)), x18.2)
                    else
                      some (v2.1, v2.2.2.2.1, v2.2.2.2.2.1, v2.2.2.2.2.2.1, x18.1, x18.2)
                  else
                    some (v2.1, v2.2.2.2.1, v2.2.2.2.2.1, v2.2.2.2.2.2.1, ([] : List (List UInt8)), 0)) fun (v3 : Disk × Disk × Fault × Fault × List (List UInt8) × Int) =>
                ob (R_SameBodies x8.2.1 v3.2.2.2.2.1) fun x20 =>
                ob (if x20 = true then (law_diskAs_v4 v3.2.1 v3.2.2.1 v3.2.2.2.1 v3.1 v3.2.2.2.2.2) else some default) fun x21 =>
                some (x20 && x21)
theorem law_DiskDoes_ok (d : Disk) (b : List UInt8) (num : Int) (r : Bool) (hF : law_DiskDoes d b num = some r) : Pe Try.prog 10 S.none [.agg [.sl 1 (d.Bytes.map e_u8), .int .i64 d.Kept], .sl 1 (b.map e_u8), .int .i64 num] (.bool r) S.none := by
  refine Pe_of (N := 176) (res := [.tmp 6]) (ts := [4]) Ty.ok Fn.b10 Try.func10 rfl rfl rfl rfl rfl rfl ?_
  intro Q g hfin
  unfold law_DiskDoes at hF
  refine Wk_seq ?_
  refine WR [] [3, 4, 5] [3, 4, 5] [] [] [] [] ⟨[(3, .ptr 3 0), (4, .ptr 4 0), (5, .ptr 5 0)], [(3, [.sl 1 (d.Bytes.map e_u8), .int .i64 d.Kept]), (4, [.sl 1 (b.map e_u8)]), (5, [.int .i64 num])], [], [], []⟩ .nil (by kernel_rfl) ?_
  refine Wk_seq ?_
  refine Wk_seq ?_
  obtain ⟨x, h0, hF⟩ := ob_elim hF
  refine WR [.callB (.bool x)] [3, 4, 5, 25] [3, 4, 5] [] [] [] [] ⟨[(3, .ptr 3 0), (4, .ptr 4 0), (5, .ptr 5 0), (25, .bool (!x))], [(3, [.sl 1 (d.Bytes.map e_u8), .int .i64 d.Kept]), (4, [.sl 1 (b.map e_u8)]), (5, [.int .i64 num])], [], [], []⟩ (.cons (law_diskBegun_ok  x h0) .nil) (by kernel_rfl) ?_
  refine Wk_split rfl (fun hb => ?_) (fun hb => ?_)
  · have hF := ite_t hF hb
    refine Wk_seq ?_
    refine WR [] [6] [] [] [] [] [] ⟨[(6, .bool false)], [], [], [], []⟩ .nil (by kernel_rfl) ?_
    have hF := some_elim hF
    exact Wk_ret (hfin _ ⟨[], [], [], [], [], [], by first | (rw [← hF]; kernel_rfl) | kernel_rfl⟩)
  · have hF := ite_f hF hb
    refine Wk_skip ?_
    refine Wk_seq ?_
    refine Wk_seq ?_
    refine WR [.nat (d.Bytes.length : Int), .nat (b.length : Int)] [3, 4, 5, 34] [3, 4, 5] [] [] [] [] ⟨[(3, .ptr 3 0), (4, .ptr 4 0), (5, .ptr 5 0), (34, .bool ((decide (100000 < (d.Bytes.length : Int))) || (decide (100000 < (b.length : Int)))))], [(3, [.sl 1 (d.Bytes.map e_u8), .int .i64 d.Kept]), (4, [.sl 1 (b.map e_u8)]), (5, [.int .i64 num])], [], [], []⟩ (.cons (len_ok e_u8 d.Bytes) (.cons (fun (_ : (!(decide (100000 < (d.Bytes.length : Int)))) = true) => (len_ok e_u8 b)) .nil)) (by kernel_rfl) ?_
    refine Wk_split rfl (fun hb => ?_) (fun hb => ?_)
    · have hF := ite_t hF hb
      refine Wk_seq ?_
      refine WR [] [6] [] [] [] [] [] ⟨[(6, .bool true)], [], [], [], []⟩ .nil (by kernel_rfl) ?_
      have hF := some_elim hF
      exact Wk_ret (hfin _ ⟨[], [], [], [], [], [], by first | (rw [← hF]; kernel_rfl) | kernel_rfl⟩)
    · have hF := ite_f hF hb
      refine Wk_skip ?_
      refine Wk_seq ?_
      obtain ⟨x1, h1, hF⟩ := ob_elim hF
      refine WR [.call (.agg [.sl 1 (x1.Bytes.map e_u8), .int .i64 x1.Kept])] [3, 4, 5, 7] [3, 4, 5, 7] [] [] [] [] ⟨[(3, .ptr 3 0), (4, .ptr 4 0), (5, .ptr 5 0), (7, .ptr 7 0)], [(3, [.sl 1 (d.Bytes.map e_u8), .int .i64 d.Kept]), (4, [.sl 1 (b.map e_u8)]), (5, [.int .i64 num]), (7, [.sl 1 (x1.Bytes.map e_u8), .int .i64 x1.Kept])], [], [], []⟩ (.cons (law_ownDisk_ok d x1 h1) .nil) (by kernel_rfl) ?_
      refine Wk_seq ?_
      obtain ⟨x2, h2, hF⟩ := lt_split hF
      refine WR [.callB (.agg [.int .i64 x2.Code, .int .i64 x2.At])] [3, 4, 5, 7, 8] [3, 4, 5, 7, 8] [] [] [] [] ⟨[(3, .ptr 3 0), (4, .ptr 4 0), (5, .ptr 5 0), (7, .ptr 7 0), (8, .ptr 8 0)], [(3, [.sl 1 (d.Bytes.map e_u8), .int .i64 d.Kept]), (4, [.sl 1 (b.map e_u8)]), (5, [.int .i64 num]), (7, [.sl 1 (x1.Bytes.map e_u8), .int .i64 x1.Kept]), (8, [.int .i64 x2.Code, .int .i64 x2.At])], [], [], []⟩ (.cons (disk_Check_ok x1 x2 h2) .nil) (by kernel_rfl) ?_
      refine Wk_seq ?_
      obtain ⟨x3, h3, hF⟩ := ob_elim hF
      obtain ⟨x4, h4, hF⟩ := ob_elim hF
      refine WD [.call (.sl 1 (x3.map e_u8)), .call (.tup [.agg [.sl 1 (x4.1.Bytes.map e_u8), .int .i64 x4.1.Kept], .agg [.int .i64 x4.2.Code, .int .i64 x4.2.At]])] [3, 4, 5, 7, 8, 9, 10] [3, 4, 5, 7, 8, 9, 10] [] [] [] [] ⟨[(3, .ptr 3 0), (4, .ptr 4 0), (5, .ptr 5 0), (7, .ptr 7 0), (8, .ptr 8 0), (9, .ptr 9 0), (10, .ptr 10 0)], [(3, [.sl 1 (d.Bytes.map e_u8), .int .i64 d.Kept]), (4, [.sl 1 (b.map e_u8)]), (5, [.int .i64 num]), (7, [.sl 1 (x1.Bytes.map e_u8), .int .i64 x1.Kept]), (8, [.int .i64 x2.Code, .int .i64 x2.At]), (9, [.sl 1 (x4.1.Bytes.map e_u8), .int .i64 x4.1.Kept]), (10, [.int .i64 x4.2.Code, .int .i64 x4.2.At])], [], [], []⟩ (.cons (law_ownBytes_v1_ok b x3 h3) (.cons (disk_Append_v1_ok x1 x3 x4 h4) .nil)) (by kernel_rfl) ?_
      refine Wk_seq ?_
      obtain ⟨x5, h5, hF⟩ := ob_elim hF
      refine WR [.call (.tup [.agg [.sl 1 (x5.1.Bytes.map e_u8), .int .i64 x5.1.Kept], .agg [.int .i64 x5.2.Code, .int .i64 x5.2.At]])] [3, 4, 5, 7, 8, 9, 10, 11, 12] [3, 4, 5, 7, 8, 9, 10, 11, 12] [] [] [] [] ⟨[(3, .ptr 3 0), (4, .ptr 4 0), (5, .ptr 5 0), (7, .ptr 7 0), (8, .ptr 8 0), (9, .ptr 9 0), (10, .ptr 10 0), (11, .ptr 11 0), (12, .ptr 12 0)], [(3, [.sl 1 (d.Bytes.map e_u8), .int .i64 d.Kept]), (4, [.sl 1 (b.map e_u8)]), (5, [.int .i64 num]), (7, [.sl 1 (x1.Bytes.map e_u8), .int .i64 x1.Kept]), (8, [.int .i64 x2.Code, .int .i64 x2.At]), (9, [.sl 1 (x4.1.Bytes.map e_u8), .int .i64 x4.1.Kept]), (10, [.int .i64 x4.2.Code, .int .i64 x4.2.At]), (11, [.sl 1 (x5.1.Bytes.map e_u8), .int .i64 x5.1.Kept]), (12, [.int .i64 x5.2.Code, .int .i64 x5.2.At])], [], [], []⟩ (.cons (disk_Sync_v1_ok x1 x5 h5) .nil) (by kernel_rfl) ?_
      refine Wk_seq ?_
      obtain ⟨x6, h6, hF⟩ := ob_elim hF
      refine WR [.call (.tup [.agg [.sl 1 (x6.1.Bytes.map e_u8), .int .i64 x6.1.Kept], .agg [.int .i64 x6.2.Code, .int .i64 x6.2.At]])] [3, 4, 5, 7, 8, 9, 10, 11, 12, 13, 14] [3, 4, 5, 7, 8, 9, 10, 11, 12, 13, 14] [] [] [] [] ⟨[(3, .ptr 3 0), (4, .ptr 4 0), (5, .ptr 5 0), (7, .ptr 7 0), (8, .ptr 8 0), (9, .ptr 9 0), (10, .ptr 10 0), (11, .ptr 11 0), (12, .ptr 12 0), (13, .ptr 13 0), (14, .ptr 14 0)], [(3, [.sl 1 (d.Bytes.map e_u8), .int .i64 d.Kept]), (4, [.sl 1 (b.map e_u8)]), (5, [.int .i64 num]), (7, [.sl 1 (x1.Bytes.map e_u8), .int .i64 x1.Kept]), (8, [.int .i64 x2.Code, .int .i64 x2.At]), (9, [.sl 1 (x4.1.Bytes.map e_u8), .int .i64 x4.1.Kept]), (10, [.int .i64 x4.2.Code, .int .i64 x4.2.At]), (11, [.sl 1 (x5.1.Bytes.map e_u8), .int .i64 x5.1.Kept]), (12, [.int .i64 x5.2.Code, .int .i64 x5.2.At]), (13, [.sl 1 (x6.1.Bytes.map e_u8), .int .i64 x6.1.Kept]), (14, [.int .i64 x6.2.Code, .int .i64 x6.2.At])], [], [], []⟩ (.cons (disk_Crash_v1_ok x1 num x6 h6) .nil) (by kernel_rfl) ?_
      refine Wk_seq ?_
      obtain ⟨x7, h7, hF⟩ := ob_elim hF
      refine WR [.call (.tup [.agg [.sl 1 (x7.1.Bytes.map e_u8), .int .i64 x7.1.Kept], .agg [.int .i64 x7.2.Code, .int .i64 x7.2.At]])] [3, 4, 5, 7, 8, 9, 10, 11, 12, 13, 14, 15, 16] [3, 4, 5, 7, 8, 9, 10, 11, 12, 13, 14, 15, 16] [] [] [] [] ⟨[(3, .ptr 3 0), (4, .ptr 4 0), (5, .ptr 5 0), (7, .ptr 7 0), (8, .ptr 8 0), (9, .ptr 9 0), (10, .ptr 10 0), (11, .ptr 11 0), (12, .ptr 12 0), (13, .ptr 13 0), (14, .ptr 14 0), (15, .ptr 15 0), (16, .ptr 16 0)], [(3, [.sl 1 (d.Bytes.map e_u8), .int .i64 d.Kept]), (4, [.sl 1 (b.map e_u8)]), (5, [.int .i64 num]), (7, [.sl 1 (x1.Bytes.map e_u8), .int .i64 x1.Kept]), (8, [.int .i64 x2.Code, .int .i64 x2.At]), (9, [.sl 1 (x4.1.Bytes.map e_u8), .int .i64 x4.1.Kept]), (10, [.int .i64 x4.2.Code, .int .i64 x4.2.At]), (11, [.sl 1 (x5.1.Bytes.map e_u8), .int .i64 x5.1.Kept]), (12, [.int .i64 x5.2.Code, .int .i64 x5.2.At]), (13, [.sl 1 (x6.1.Bytes.map e_u8), .int .i64 x6.1.Kept]), (14, [.int .i64 x6.2.Code, .int .i64 x6.2.At]), (15, [.sl 1 (x7.1.Bytes.map e_u8), .int .i64 x7.1.Kept]), (16, [.int .i64 x7.2.Code, .int .i64 x7.2.At])], [], [], []⟩ (.cons (disk_Trim_v1_ok x1 num x7 h7) .nil) (by kernel_rfl) ?_
      refine Wk_seq ?_
      obtain ⟨x8, h8, hF⟩ := ob_elim hF
      refine WR [.call (.tup [.agg [.sl 1 (x8.1.Bytes.map e_u8), .int .i64 x8.1.Kept], .sl 1 (x8.2.1.map e_L_u8), .agg [.int .i64 x8.2.2.Code, .int .i64 x8.2.2.At]])] [3, 4, 5, 7, 8, 9, 10, 11, 12, 13, 14, 15, 16, 17, 18, 19] [3, 4, 5, 7, 8, 9, 10, 11, 12, 13, 14, 15, 16, 17, 19] [] [] [] [] ⟨[(3, .ptr 3 0), (4, .ptr 4 0), (5, .ptr 5 0), (7, .ptr 7 0), (8, .ptr 8 0), (9, .ptr 9 0), (10, .ptr 10 0), (11, .ptr 11 0), (12, .ptr 12 0), (13, .ptr 13 0), (14, .ptr 14 0), (15, .ptr 15 0), (16, .ptr 16 0), (17, .ptr 17 0), (18, .sl 1 (x8.2.1.map e_L_u8)), (19, .ptr 19 0)], [(3, [.sl 1 (d.Bytes.map e_u8), .int .i64 d.Kept]), (4, [.sl 1 (b.map e_u8)]), (5, [.int .i64 num]), (7, [.sl 1 (x1.Bytes.map e_u8), .int .i64 x1.Kept]), (8, [.int .i64 x2.Code, .int .i64 x2.At]), (9, [.sl 1 (x4.1.Bytes.map e_u8), .int .i64 x4.1.Kept]), (10, [.int .i64 x4.2.Code, .int .i64 x4.2.At]), (11, [.sl 1 (x5.1.Bytes.map e_u8), .int .i64 x5.1.Kept]), (12, [.int .i64 x5.2.Code, .int .i64 x5.2.At]), (13, [.sl 1 (x6.1.Bytes.map e_u8), .int .i64 x6.1.Kept]), (14, [.int .i64 x6.2.Code, .int .i64 x6.2.At]), (15, [.sl 1 (x7.1.Bytes.map e_u8), .int .i64 x7.1.Kept]), (16, [.int .i64 x7.2.Code, .int .i64 x7.2.At]), (17, [.sl 1 (x8.1.Bytes.map e_u8), .int .i64 x8.1.Kept]), (19, [.int .i64 x8.2.2.Code, .int .i64 x8.2.2.At])], [], [], []⟩ (.cons (disk_Recover_v1_ok x1 x8 h8) .nil) (by kernel_rfl) ?_
      refine Wk_seq ?_
      obtain ⟨x9, h9, hF⟩ := lt_split hF
      refine WR [.callB (.agg [.int .i64 x9.Code, .int .i64 x9.At])] [3, 4, 5, 7, 8, 9, 10, 11, 12, 13, 14, 15, 16, 17, 18, 19, 20] [3, 4, 5, 7, 8, 9, 10, 11, 12, 13, 14, 15, 16, 17, 19, 20] [] [] [] [] ⟨[(3, .ptr 3 0), (4, .ptr 4 0), (5, .ptr 5 0), (7, .ptr 7 0), (8, .ptr 8 0), (9, .ptr 9 0), (10, .ptr 10 0), (11, .ptr 11 0), (12, .ptr 12 0), (13, .ptr 13 0), (14, .ptr 14 0), (15, .ptr 15 0), (16, .ptr 16 0), (17, .ptr 17 0), (18, .sl 1 (x8.2.1.map e_L_u8)), (19, .ptr 19 0), (20, .ptr 20 0)], [(3, [.sl 1 (d.Bytes.map e_u8), .int .i64 d.Kept]), (4, [.sl 1 (b.map e_u8)]), (5, [.int .i64 num]), (7, [.sl 1 (x1.Bytes.map e_u8), .int .i64 x1.Kept]), (8, [.int .i64 x2.Code, .int .i64 x2.At]), (9, [.sl 1 (x4.1.Bytes.map e_u8), .int .i64 x4.1.Kept]), (10, [.int .i64 x4.2.Code, .int .i64 x4.2.At]), (11, [.sl 1 (x5.1.Bytes.map e_u8), .int .i64 x5.1.Kept]), (12, [.int .i64 x5.2.Code, .int .i64 x5.2.At]), (13, [.sl 1 (x6.1.Bytes.map e_u8), .int .i64 x6.1.Kept]), (14, [.int .i64 x6.2.Code, .int .i64 x6.2.At]), (15, [.sl 1 (x7.1.Bytes.map e_u8), .int .i64 x7.1.Kept]), (16, [.int .i64 x7.2.Code, .int .i64 x7.2.At]), (17, [.sl 1 (x8.1.Bytes.map e_u8), .int .i64 x8.1.Kept]), (19, [.int .i64 x8.2.2.Code, .int .i64 x8.2.2.At]), (20, [.int .i64 x9.Code, .int .i64 x9.At])], [], [], []⟩ (.cons (R_DiskFault_ok d x9 h9) .nil) (by kernel_rfl) ?_
      refine Wk_seq ?_
      refine Wk_seq ?_
      obtain ⟨x10, h10, hF⟩ := lt_split hF
      refine WR [.callB (.bool x10)] [3, 4, 5, 9, 10, 11, 12, 13, 14, 15, 16, 17, 18, 19, 20, 79] [3, 4, 5, 9, 10, 11, 12, 13, 14, 15, 16, 17, 19, 20] [] [] [] [] ⟨[(3, .ptr 3 0), (4, .ptr 4 0), (5, .ptr 5 0), (9, .ptr 9 0), (10, .ptr 10 0), (11, .ptr 11 0), (12, .ptr 12 0), (13, .ptr 13 0), (14, .ptr 14 0), (15, .ptr 15 0), (16, .ptr 16 0), (17, .ptr 17 0), (18, .sl 1 (x8.2.1.map e_L_u8)), (19, .ptr 19 0), (20, .ptr 20 0), (79, .bool ((!(decide (x2.Code = x9.Code) && (decide (x2.At = x9.At) && true))) || (!x10)))], [(3, [.sl 1 (d.Bytes.map e_u8), .int .i64 d.Kept]), (4, [.sl 1 (b.map e_u8)]), (5, [.int .i64 num]), (9, [.sl 1 (x4.1.Bytes.map e_u8), .int .i64 x4.1.Kept]), (10, [.int .i64 x4.2.Code, .int .i64 x4.2.At]), (11, [.sl 1 (x5.1.Bytes.map e_u8), .int .i64 x5.1.Kept]), (12, [.int .i64 x5.2.Code, .int .i64 x5.2.At]), (13, [.sl 1 (x6.1.Bytes.map e_u8), .int .i64 x6.1.Kept]), (14, [.int .i64 x6.2.Code, .int .i64 x6.2.At]), (15, [.sl 1 (x7.1.Bytes.map e_u8), .int .i64 x7.1.Kept]), (16, [.int .i64 x7.2.Code, .int .i64 x7.2.At]), (17, [.sl 1 (x8.1.Bytes.map e_u8), .int .i64 x8.1.Kept]), (19, [.int .i64 x8.2.2.Code, .int .i64 x8.2.2.At]), (20, [.int .i64 x9.Code, .int .i64 x9.At])], [], [], []⟩ (.cons (fun (ga0 : (!(!(decide (x2.Code = x9.Code) && (decide (x2.At = x9.At) && true)))) = true) => (R_SameDisk_ok x1 d x10 h10)) .nil) (by kernel_rfl) ?_
      refine Wk_split rfl (fun hb => ?_) (fun hb => ?_)
      · have hF := ite_t hF hb
        refine Wk_seq ?_
        refine WR [] [6] [] [] [] [] [] ⟨[(6, .bool false)], [], [], [], []⟩ .nil (by kernel_rfl) ?_
        have hF := some_elim hF
        exact Wk_ret (hfin _ ⟨[], [], [], [], [], [], by first | (rw [← hF]; kernel_rfl) | kernel_rfl⟩)
      · have hF := ite_f hF hb
        refine Wk_skip ?_
        refine Wk_seq ?_
        refine WR [] [3, 4, 5, 9, 10, 11, 12, 13, 14, 15, 16, 17, 18, 19, 20, 21] [3, 4, 5, 9, 10, 11, 12, 13, 14, 15, 16, 17, 19, 20, 21] [] [] [] [] ⟨[(3, .ptr 3 0), (4, .ptr 4 0), (5, .ptr 5 0), (9, .ptr 9 0), (10, .ptr 10 0), (11, .ptr 11 0), (12, .ptr 12 0), (13, .ptr 13 0), (14, .ptr 14 0), (15, .ptr 15 0), (16, .ptr 16 0), (17, .ptr 17 0), (18, .sl 1 (x8.2.1.map e_L_u8)), (19, .ptr 19 0), (20, .ptr 20 0), (21, .ptr 21 0)], [(3, [.sl 1 (d.Bytes.map e_u8), .int .i64 d.Kept]), (4, [.sl 1 (b.map e_u8)]), (5, [.int .i64 num]), (9, [.sl 1 (x4.1.Bytes.map e_u8), .int .i64 x4.1.Kept]), (10, [.int .i64 x4.2.Code, .int .i64 x4.2.At]), (11, [.sl 1 (x5.1.Bytes.map e_u8), .int .i64 x5.1.Kept]), (12, [.int .i64 x5.2.Code, .int .i64 x5.2.At]), (13, [.sl 1 (x6.1.Bytes.map e_u8), .int .i64 x6.1.Kept]), (14, [.int .i64 x6.2.Code, .int .i64 x6.2.At]), (15, [.sl 1 (x7.1.Bytes.map e_u8), .int .i64 x7.1.Kept]), (16, [.int .i64 x7.2.Code, .int .i64 x7.2.At]), (17, [.sl 1 (x8.1.Bytes.map e_u8), .int .i64 x8.1.Kept]), (19, [.int .i64 x8.2.2.Code, .int .i64 x8.2.2.At]), (20, [.int .i64 x9.Code, .int .i64 x9.At]), (21, [.int .i64 x9.Code, .int .i64 x9.At])], [], [], []⟩ .nil (by kernel_rfl) ?_
        refine Wk_seq ?_
        refine Wk_seq ?_
        refine WR [.nat (d.Bytes.length : Int), .nat (b.length : Int)] [3, 4, 5, 9, 10, 11, 12, 13, 14, 15, 16, 17, 18, 19, 20, 21, 92] [3, 4, 5, 9, 10, 11, 12, 13, 14, 15, 16, 17, 19, 20, 21] [] [] [] [] ⟨[(3, .ptr 3 0), (4, .ptr 4 0), (5, .ptr 5 0), (9, .ptr 9 0), (10, .ptr 10 0), (11, .ptr 11 0), (12, .ptr 12 0), (13, .ptr 13 0), (14, .ptr 14 0), (15, .ptr 15 0), (16, .ptr 16 0), (17, .ptr 17 0), (18, .sl 1 (x8.2.1.map e_L_u8)), (19, .ptr 19 0), (20, .ptr 20 0), (21, .ptr 21 0), (92, .bool ((decide (x9.Code = 0)) && (decide (60000 < (w64 ((d.Bytes.length : Int) + (b.length : Int)))))))], [(3, [.sl 1 (d.Bytes.map e_u8), .int .i64 d.Kept]), (4, [.sl 1 (b.map e_u8)]), (5, [.int .i64 num]), (9, [.sl 1 (x4.1.Bytes.map e_u8), .int .i64 x4.1.Kept]), (10, [.int .i64 x4.2.Code, .int .i64 x4.2.At]), (11, [.sl 1 (x5.1.Bytes.map e_u8), .int .i64 x5.1.Kept]), (12, [.int .i64 x5.2.Code, .int .i64 x5.2.At]), (13, [.sl 1 (x6.1.Bytes.map e_u8), .int .i64 x6.1.Kept]), (14, [.int .i64 x6.2.Code, .int .i64 x6.2.At]), (15, [.sl 1 (x7.1.Bytes.map e_u8), .int .i64 x7.1.Kept]), (16, [.int .i64 x7.2.Code, .int .i64 x7.2.At]), (17, [.sl 1 (x8.1.Bytes.map e_u8), .int .i64 x8.1.Kept]), (19, [.int .i64 x8.2.2.Code, .int .i64 x8.2.2.At]), (20, [.int .i64 x9.Code, .int .i64 x9.At]), (21, [.int .i64 x9.Code, .int .i64 x9.At])], [], [], []⟩ (.cons (fun (_ : (decide (x9.Code = 0)) = true) => (len_ok e_u8 d.Bytes)) (.cons (fun (_ : (decide (x9.Code = 0)) = true) => (len_ok e_u8 b)) .nil)) (by kernel_rfl) ?_
        obtain ⟨v, hv, hF⟩ := ob_elim hF
        refine Wk_meet (⟨[(3, .ptr 3 0), (4, .ptr 4 0), (5, .ptr 5 0), (9, .ptr 9 0), (10, .ptr 10 0), (11, .ptr 11 0), (12, .ptr 12 0), (13, .ptr 13 0), (14, .ptr 14 0), (15, .ptr 15 0), (16, .ptr 16 0), (17, .ptr 17 0), (18, .sl 1 (x8.2.1.map e_L_u8)), (19, .ptr 19 0), (20, .ptr 20 0), (21, .ptr 21 0)], [(3, [.sl 1 (v.1.Bytes.map e_u8), .int .i64 v.1.Kept]), (4, [.sl 1 (b.map e_u8)]), (5, [.int .i64 num]), (9, [.sl 1 (v.2.1.Bytes.map e_u8), .int .i64 v.2.1.Kept]), (10, [.int .i64 v.2.2.1.Code, .int .i64 v.2.2.1.At]), (11, [.sl 1 (v.2.2.2.1.Bytes.map e_u8), .int .i64 v.2.2.2.1.Kept]), (12, [.int .i64 v.2.2.2.2.1.Code, .int .i64 v.2.2.2.2.1.At]), (13, [.sl 1 (v.2.2.2.2.2.1.Bytes.map e_u8), .int .i64 v.2.2.2.2.2.1.Kept]), (14, [.int .i64 v.2.2.2.2.2.2.1.Code, .int .i64 v.2.2.2.2.2.2.1.At]), (15, [.sl 1 (v.2.2.2.2.2.2.2.1.Bytes.map e_u8), .int .i64 v.2.2.2.2.2.2.2.1.Kept]), (16, [.int .i64 v.2.2.2.2.2.2.2.2.1.Code, .int .i64 v.2.2.2.2.2.2.2.2.1.At]), (17, [.sl 1 (v.2.2.2.2.2.2.2.2.2.1.Bytes.map e_u8), .int .i64 v.2.2.2.2.2.2.2.2.2.1.Kept]), (19, [.int .i64 v.2.2.2.2.2.2.2.2.2.2.1.Code, .int .i64 v.2.2.2.2.2.2.2.2.2.2.1.At]), (20, [.int .i64 v.2.2.2.2.2.2.2.2.2.2.2.1.Code, .int .i64 v.2.2.2.2.2.2.2.2.2.2.2.1.At]), (21, [.int .i64 v.2.2.2.2.2.2.2.2.2.2.2.2.Code, .int .i64 v.2.2.2.2.2.2.2.2.2.2.2.2.At])], [], [], []⟩ : S) ?_ ?_
        · have hF := hv
          refine Wk_split rfl (fun hb => ?_) (fun hb => ?_)
          · have hF := ite_t hF hb
            obtain ⟨x11, h11, hF⟩ := lt_split hF
            refine WR [.callB (.agg [.int .i64 x11.Code, .int .i64 x11.At])] [3, 4, 5, 9, 10, 11, 12, 13, 14, 15, 16, 17, 18, 19, 20, 21] [3, 4, 5, 9, 10, 11, 12, 13, 14, 15, 16, 17, 19, 20, 21] [] [] [] [] ⟨[(3, .ptr 3 0), (4, .ptr 4 0), (5, .ptr 5 0), (9, .ptr 9 0), (10, .ptr 10 0), (11, .ptr 11 0), (12, .ptr 12 0), (13, .ptr 13 0), (14, .ptr 14 0), (15, .ptr 15 0), (16, .ptr 16 0), (17, .ptr 17 0), (18, .sl 1 (x8.2.1.map e_L_u8)), (19, .ptr 19 0), (20, .ptr 20 0), (21, .ptr 21 0)], [(3, [.sl 1 (d.Bytes.map e_u8), .int .i64 d.Kept]), (4, [.sl 1 (b.map e_u8)]), (5, [.int .i64 num]), (9, [.sl 1 (x4.1.Bytes.map e_u8), .int .i64 x4.1.Kept]), (10, [.int .i64 x4.2.Code, .int .i64 x4.2.At]), (11, [.sl 1 (x5.1.Bytes.map e_u8), .int .i64 x5.1.Kept]), (12, [.int .i64 x5.2.Code, .int .i64 x5.2.At]), (13, [.sl 1 (x6.1.Bytes.map e_u8), .int .i64 x6.1.Kept]), (14, [.int .i64 x6.2.Code, .int .i64 x6.2.At]), (15, [.sl 1 (x7.1.Bytes.map e_u8), .int .i64 x7.1.Kept]), (16, [.int .i64 x7.2.Code, .int .i64 x7.2.At]), (17, [.sl 1 (x8.1.Bytes.map e_u8), .int .i64 x8.1.Kept]), (19, [.int .i64 x8.2.2.Code, .int .i64 x8.2.2.At]), (20, [.int .i64 x9.Code, .int .i64 x9.At]), (21, [.int .i64 x11.Code, .int .i64 x11.At])], [], [], []⟩ (.cons (R_F_ok 9 0 x11 h11) .nil) (by kernel_rfl) ?_
            exact Wk_met (fs := [3, 4, 5, 9, 10, 11, 12, 13, 14, 15, 16, 17, 18, 19, 20, 21]) (bs := [3, 4, 5, 9, 10, 11, 12, 13, 14, 15, 16, 17, 19, 20, 21]) (rs := []) (ms := []) (aa := []) (nv := []) (by first | (rw [← some_elim hF]; kernel_rfl) | kernel_rfl)
          · have hF := ite_f hF hb
            refine Wk_skip ?_
            exact Wk_met (fs := [3, 4, 5, 9, 10, 11, 12, 13, 14, 15, 16, 17, 18, 19, 20, 21]) (bs := [3, 4, 5, 9, 10, 11, 12, 13, 14, 15, 16, 17, 19, 20, 21]) (rs := []) (ms := []) (aa := []) (nv := []) (by first | (rw [← some_elim hF]; kernel_rfl) | kernel_rfl)
        · refine Wk_seq ?_
          refine Wk_seq ?_
          obtain ⟨x12, h12, hF⟩ := ob_elim hF
          refine WR [.callR [3, 4] [] [] [] (.bool x12)] [3, 5, 11, 12, 13, 14, 15, 16, 17, 18, 19, 20, 21, 99] [3, 5, 11, 12, 13, 14, 15, 16, 17, 19, 20, 21] [] [] [] [] ⟨[(3, .ptr 3 0), (5, .ptr 5 0), (11, .ptr 11 0), (12, .ptr 12 0), (13, .ptr 13 0), (14, .ptr 14 0), (15, .ptr 15 0), (16, .ptr 16 0), (17, .ptr 17 0), (18, .sl 1 (x8.2.1.map e_L_u8)), (19, .ptr 19 0), (20, .ptr 20 0), (21, .ptr 21 0), (99, .bool (!x12))], [(3, [.sl 1 (v.1.Bytes.map e_u8), .int .i64 v.1.Kept]), (5, [.int .i64 num]), (11, [.sl 1 (v.2.2.2.1.Bytes.map e_u8), .int .i64 v.2.2.2.1.Kept]), (12, [.int .i64 v.2.2.2.2.1.Code, .int .i64 v.2.2.2.2.1.At]), (13, [.sl 1 (v.2.2.2.2.2.1.Bytes.map e_u8), .int .i64 v.2.2.2.2.2.1.Kept]), (14, [.int .i64 v.2.2.2.2.2.2.1.Code, .int .i64 v.2.2.2.2.2.2.1.At]), (15, [.sl 1 (v.2.2.2.2.2.2.2.1.Bytes.map e_u8), .int .i64 v.2.2.2.2.2.2.2.1.Kept]), (16, [.int .i64 v.2.2.2.2.2.2.2.2.1.Code, .int .i64 v.2.2.2.2.2.2.2.2.1.At]), (17, [.sl 1 (v.2.2.2.2.2.2.2.2.2.1.Bytes.map e_u8), .int .i64 v.2.2.2.2.2.2.2.2.2.1.Kept]), (19, [.int .i64 v.2.2.2.2.2.2.2.2.2.2.1.Code, .int .i64 v.2.2.2.2.2.2.2.2.2.2.1.At]), (20, [.int .i64 v.2.2.2.2.2.2.2.2.2.2.2.1.Code, .int .i64 v.2.2.2.2.2.2.2.2.2.2.2.1.At]), (21, [.int .i64 v.2.2.2.2.2.2.2.2.2.2.2.2.Code, .int .i64 v.2.2.2.2.2.2.2.2.2.2.2.2.At])], [], [], []⟩ (.cons (Pe.ren (law_diskAs_ok v.2.1 v.2.2.1 v.2.2.2.2.2.2.2.2.2.2.2.2 v.1 b x12 h12) ⟨[(100000, 3), (100001, 4)], [], [], []⟩) .nil) (by kernel_rfl) ?_
          refine Wk_split rfl (fun hb => ?_) (fun hb => ?_)
          · have hF := ite_t hF hb
            refine Wk_seq ?_
            refine WR [] [6] [] [] [] [] [] ⟨[(6, .bool false)], [], [], [], []⟩ .nil (by kernel_rfl) ?_
            have hF := some_elim hF
            exact Wk_ret (hfin _ ⟨[], [], [], [], [], [], by first | (rw [← hF]; kernel_rfl) | kernel_rfl⟩)
          · have hF := ite_f hF hb
            refine Wk_skip ?_
            refine Wk_seq ?_
            refine Wk_seq ?_
            obtain ⟨x13, h13, hF⟩ := lt_split hF
            refine WR [.callR [3] [] [] [] (.bool x13)] [3, 5, 13, 14, 15, 16, 17, 18, 19, 20, 21, 105] [3, 5, 13, 14, 15, 16, 17, 19, 20, 21] [] [] [] [] ⟨[(3, .ptr 3 0), (5, .ptr 5 0), (13, .ptr 13 0), (14, .ptr 14 0), (15, .ptr 15 0), (16, .ptr 16 0), (17, .ptr 17 0), (18, .sl 1 (x8.2.1.map e_L_u8)), (19, .ptr 19 0), (20, .ptr 20 0), (21, .ptr 21 0), (105, .bool (!x13))], [(3, [.sl 1 (v.1.Bytes.map e_u8), .int .i64 v.1.Kept]), (5, [.int .i64 num]), (13, [.sl 1 (v.2.2.2.2.2.1.Bytes.map e_u8), .int .i64 v.2.2.2.2.2.1.Kept]), (14, [.int .i64 v.2.2.2.2.2.2.1.Code, .int .i64 v.2.2.2.2.2.2.1.At]), (15, [.sl 1 (v.2.2.2.2.2.2.2.1.Bytes.map e_u8), .int .i64 v.2.2.2.2.2.2.2.1.Kept]), (16, [.int .i64 v.2.2.2.2.2.2.2.2.1.Code, .int .i64 v.2.2.2.2.2.2.2.2.1.At]), (17, [.sl 1 (v.2.2.2.2.2.2.2.2.2.1.Bytes.map e_u8), .int .i64 v.2.2.2.2.2.2.2.2.2.1.Kept]), (19, [.int .i64 v.2.2.2.2.2.2.2.2.2.2.1.Code, .int .i64 v.2.2.2.2.2.2.2.2.2.2.1.At]), (20, [.int .i64 v.2.2.2.2.2.2.2.2.2.2.2.1.Code, .int .i64 v.2.2.2.2.2.2.2.2.2.2.2.1.At]), (21, [.int .i64 v.2.2.2.2.2.2.2.2.2.2.2.2.Code, .int .i64 v.2.2.2.2.2.2.2.2.2.2.2.2.At])], [], [], []⟩ (.cons (Pe.ren (law_diskAs_v1_ok v.2.2.2.1 v.2.2.2.2.1 v.2.2.2.2.2.2.2.2.2.2.2.1 v.1 x13 h13) ⟨[(100000, 3)], [], [], []⟩) .nil) (by kernel_rfl) ?_
            refine Wk_split rfl (fun hb => ?_) (fun hb => ?_)
            · have hF := ite_t hF hb
              refine Wk_seq ?_
              refine WR [] [6] [] [] [] [] [] ⟨[(6, .bool false)], [], [], [], []⟩ .nil (by kernel_rfl) ?_
              have hF := some_elim hF
              exact Wk_ret (hfin _ ⟨[], [], [], [], [], [], by first | (rw [← hF]; kernel_rfl) | kernel_rfl⟩)
            · have hF := ite_f hF hb
              refine Wk_skip ?_
              refine Wk_seq ?_
              refine WR [] [3, 5, 13, 14, 15, 16, 17, 18, 19, 20, 21] [3, 5, 13, 14, 15, 16, 17, 19, 20, 21] [] [] [] [] ⟨[(3, .ptr 3 0), (5, .ptr 5 0), (13, .ptr 13 0), (14, .ptr 14 0), (15, .ptr 15 0), (16, .ptr 16 0), (17, .ptr 17 0), (18, .sl 1 (x8.2.1.map e_L_u8)), (19, .ptr 19 0), (20, .ptr 20 0), (21, .ptr 21 0)], [(3, [.sl 1 (v.1.Bytes.map e_u8), .int .i64 v.1.Kept]), (5, [.int .i64 num]), (13, [.sl 1 (v.2.2.2.2.2.1.Bytes.map e_u8), .int .i64 v.2.2.2.2.2.1.Kept]), (14, [.int .i64 v.2.2.2.2.2.2.1.Code, .int .i64 v.2.2.2.2.2.2.1.At]), (15, [.sl 1 (v.2.2.2.2.2.2.2.1.Bytes.map e_u8), .int .i64 v.2.2.2.2.2.2.2.1.Kept]), (16, [.int .i64 v.2.2.2.2.2.2.2.2.1.Code, .int .i64 v.2.2.2.2.2.2.2.2.1.At]), (17, [.sl 1 (v.2.2.2.2.2.2.2.2.2.1.Bytes.map e_u8), .int .i64 v.2.2.2.2.2.2.2.2.2.1.Kept]), (19, [.int .i64 v.2.2.2.2.2.2.2.2.2.2.1.Code, .int .i64 v.2.2.2.2.2.2.2.2.2.2.1.At]), (20, [.int .i64 v.2.2.2.2.2.2.2.2.2.2.2.1.Code, .int .i64 v.2.2.2.2.2.2.2.2.2.2.2.1.At]), (21, [.int .i64 v.2.2.2.2.2.2.2.2.2.2.2.1.Code, .int .i64 v.2.2.2.2.2.2.2.2.2.2.2.1.At])], [], [], []⟩ .nil (by kernel_rfl) ?_
              refine Wk_seq ?_
              refine Wk_seq ?_
              refine WR [.nat (v.1.Bytes.length : Int)] [3, 5, 13, 14, 15, 16, 17, 18, 19, 20, 21, 123] [3, 5, 13, 14, 15, 16, 17, 19, 20, 21] [] [] [] [] ⟨[(3, .ptr 3 0), (5, .ptr 5 0), (13, .ptr 13 0), (14, .ptr 14 0), (15, .ptr 15 0), (16, .ptr 16 0), (17, .ptr 17 0), (18, .sl 1 (x8.2.1.map e_L_u8)), (19, .ptr 19 0), (20, .ptr 20 0), (21, .ptr 21 0), (123, .bool ((decide (v.2.2.2.2.2.2.2.2.2.2.2.1.Code = 0)) && ((decide (num < 0)) || (decide ((w64 ((v.1.Bytes.length : Int) - v.1.Kept)) < num)))))], [(3, [.sl 1 (v.1.Bytes.map e_u8), .int .i64 v.1.Kept]), (5, [.int .i64 num]), (13, [.sl 1 (v.2.2.2.2.2.1.Bytes.map e_u8), .int .i64 v.2.2.2.2.2.1.Kept]), (14, [.int .i64 v.2.2.2.2.2.2.1.Code, .int .i64 v.2.2.2.2.2.2.1.At]), (15, [.sl 1 (v.2.2.2.2.2.2.2.1.Bytes.map e_u8), .int .i64 v.2.2.2.2.2.2.2.1.Kept]), (16, [.int .i64 v.2.2.2.2.2.2.2.2.1.Code, .int .i64 v.2.2.2.2.2.2.2.2.1.At]), (17, [.sl 1 (v.2.2.2.2.2.2.2.2.2.1.Bytes.map e_u8), .int .i64 v.2.2.2.2.2.2.2.2.2.1.Kept]), (19, [.int .i64 v.2.2.2.2.2.2.2.2.2.2.1.Code, .int .i64 v.2.2.2.2.2.2.2.2.2.2.1.At]), (20, [.int .i64 v.2.2.2.2.2.2.2.2.2.2.2.1.Code, .int .i64 v.2.2.2.2.2.2.2.2.2.2.2.1.At]), (21, [.int .i64 v.2.2.2.2.2.2.2.2.2.2.2.1.Code, .int .i64 v.2.2.2.2.2.2.2.2.2.2.2.1.At])], [], [], []⟩ (.cons (fun (_ : (!(decide (num < 0))) = true) (_ : (decide (v.2.2.2.2.2.2.2.2.2.2.2.1.Code = 0)) = true) => (len_ok e_u8 v.1.Bytes)) .nil) (by kernel_rfl) ?_
              obtain ⟨v1, hv, hF⟩ := ob_elim hF
              refine Wk_meet (⟨[(3, .ptr 3 0), (5, .ptr 5 0), (13, .ptr 13 0), (14, .ptr 14 0), (15, .ptr 15 0), (16, .ptr 16 0), (17, .ptr 17 0), (18, .sl 1 (x8.2.1.map e_L_u8)), (19, .ptr 19 0), (20, .ptr 20 0), (21, .ptr 21 0)], [(3, [.sl 1 (v1.1.Bytes.map e_u8), .int .i64 v1.1.Kept]), (5, [.int .i64 num]), (13, [.sl 1 (v1.2.1.Bytes.map e_u8), .int .i64 v1.2.1.Kept]), (14, [.int .i64 v1.2.2.1.Code, .int .i64 v1.2.2.1.At]), (15, [.sl 1 (v1.2.2.2.1.Bytes.map e_u8), .int .i64 v1.2.2.2.1.Kept]), (16, [.int .i64 v1.2.2.2.2.1.Code, .int .i64 v1.2.2.2.2.1.At]), (17, [.sl 1 (v1.2.2.2.2.2.1.Bytes.map e_u8), .int .i64 v1.2.2.2.2.2.1.Kept]), (19, [.int .i64 v1.2.2.2.2.2.2.1.Code, .int .i64 v1.2.2.2.2.2.2.1.At]), (20, [.int .i64 v1.2.2.2.2.2.2.2.1.Code, .int .i64 v1.2.2.2.2.2.2.2.1.At]), (21, [.int .i64 v1.2.2.2.2.2.2.2.2.Code, .int .i64 v1.2.2.2.2.2.2.2.2.At])], [], [], []⟩ : S) ?_ ?_
              · have hF := hv
                refine Wk_split rfl (fun hb => ?_) (fun hb => ?_)
                · have hF := ite_t hF hb
                  obtain ⟨x14, h14, hF⟩ := lt_split hF
                  refine WR [.callB (.agg [.int .i64 x14.Code, .int .i64 x14.At])] [3, 5, 13, 14, 15, 16, 17, 18, 19, 20, 21] [3, 5, 13, 14, 15, 16, 17, 19, 20, 21] [] [] [] [] ⟨[(3, .ptr 3 0), (5, .ptr 5 0), (13, .ptr 13 0), (14, .ptr 14 0), (15, .ptr 15 0), (16, .ptr 16 0), (17, .ptr 17 0), (18, .sl 1 (x8.2.1.map e_L_u8)), (19, .ptr 19 0), (20, .ptr 20 0), (21, .ptr 21 0)], [(3, [.sl 1 (v.1.Bytes.map e_u8), .int .i64 v.1.Kept]), (5, [.int .i64 num]), (13, [.sl 1 (v.2.2.2.2.2.1.Bytes.map e_u8), .int .i64 v.2.2.2.2.2.1.Kept]), (14, [.int .i64 v.2.2.2.2.2.2.1.Code, .int .i64 v.2.2.2.2.2.2.1.At]), (15, [.sl 1 (v.2.2.2.2.2.2.2.1.Bytes.map e_u8), .int .i64 v.2.2.2.2.2.2.2.1.Kept]), (16, [.int .i64 v.2.2.2.2.2.2.2.2.1.Code, .int .i64 v.2.2.2.2.2.2.2.2.1.At]), (17, [.sl 1 (v.2.2.2.2.2.2.2.2.2.1.Bytes.map e_u8), .int .i64 v.2.2.2.2.2.2.2.2.2.1.Kept]), (19, [.int .i64 v.2.2.2.2.2.2.2.2.2.2.1.Code, .int .i64 v.2.2.2.2.2.2.2.2.2.2.1.At]), (20, [.int .i64 v.2.2.2.2.2.2.2.2.2.2.2.1.Code, .int .i64 v.2.2.2.2.2.2.2.2.2.2.2.1.At]), (21, [.int .i64 x14.Code, .int .i64 x14.At])], [], [], []⟩ (.cons (R_F_ok 3 (-1) x14 h14) .nil) (by kernel_rfl) ?_
                  exact Wk_met (fs := [3, 5, 13, 14, 15, 16, 17, 18, 19, 20, 21]) (bs := [3, 5, 13, 14, 15, 16, 17, 19, 20, 21]) (rs := []) (ms := []) (aa := []) (nv := []) (by first | (rw [← some_elim hF]; kernel_rfl) | kernel_rfl)
                · have hF := ite_f hF hb
                  refine Wk_skip ?_
                  exact Wk_met (fs := [3, 5, 13, 14, 15, 16, 17, 18, 19, 20, 21]) (bs := [3, 5, 13, 14, 15, 16, 17, 19, 20, 21]) (rs := []) (ms := []) (aa := []) (nv := []) (by first | (rw [← some_elim hF]; kernel_rfl) | kernel_rfl)
              · refine Wk_seq ?_
                refine Wk_seq ?_
                obtain ⟨x15, h15, hF⟩ := ob_elim hF
                refine WR [.callR [3, 5] [] [] [] (.bool x15)] [3, 5, 15, 16, 17, 18, 19, 20, 21, 130] [3, 5, 15, 16, 17, 19, 20, 21] [] [] [] [] ⟨[(3, .ptr 3 0), (5, .ptr 5 0), (15, .ptr 15 0), (16, .ptr 16 0), (17, .ptr 17 0), (18, .sl 1 (x8.2.1.map e_L_u8)), (19, .ptr 19 0), (20, .ptr 20 0), (21, .ptr 21 0), (130, .bool (!x15))], [(3, [.sl 1 (v1.1.Bytes.map e_u8), .int .i64 v1.1.Kept]), (5, [.int .i64 num]), (15, [.sl 1 (v1.2.2.2.1.Bytes.map e_u8), .int .i64 v1.2.2.2.1.Kept]), (16, [.int .i64 v1.2.2.2.2.1.Code, .int .i64 v1.2.2.2.2.1.At]), (17, [.sl 1 (v1.2.2.2.2.2.1.Bytes.map e_u8), .int .i64 v1.2.2.2.2.2.1.Kept]), (19, [.int .i64 v1.2.2.2.2.2.2.1.Code, .int .i64 v1.2.2.2.2.2.2.1.At]), (20, [.int .i64 v1.2.2.2.2.2.2.2.1.Code, .int .i64 v1.2.2.2.2.2.2.2.1.At]), (21, [.int .i64 v1.2.2.2.2.2.2.2.2.Code, .int .i64 v1.2.2.2.2.2.2.2.2.At])], [], [], []⟩ (.cons (Pe.ren (law_diskAs_v2_ok v1.2.1 v1.2.2.1 v1.2.2.2.2.2.2.2.2 v1.1 num x15 h15) ⟨[(100000, 3), (100001, 5)], [], [], []⟩) .nil) (by kernel_rfl) ?_
                refine Wk_split rfl (fun hb => ?_) (fun hb => ?_)
                · have hF := ite_t hF hb
                  refine Wk_seq ?_
                  refine WR [] [6] [] [] [] [] [] ⟨[(6, .bool false)], [], [], [], []⟩ .nil (by kernel_rfl) ?_
                  have hF := some_elim hF
                  exact Wk_ret (hfin _ ⟨[], [], [], [], [], [], by first | (rw [← hF]; kernel_rfl) | kernel_rfl⟩)
                · have hF := ite_f hF hb
                  refine Wk_skip ?_
                  refine Wk_seq ?_
                  refine WR [] [3, 5, 15, 16, 17, 18, 19, 20, 21] [3, 5, 15, 16, 17, 19, 20, 21] [] [] [] [] ⟨[(3, .ptr 3 0), (5, .ptr 5 0), (15, .ptr 15 0), (16, .ptr 16 0), (17, .ptr 17 0), (18, .sl 1 (x8.2.1.map e_L_u8)), (19, .ptr 19 0), (20, .ptr 20 0), (21, .ptr 21 0)], [(3, [.sl 1 (v1.1.Bytes.map e_u8), .int .i64 v1.1.Kept]), (5, [.int .i64 num]), (15, [.sl 1 (v1.2.2.2.1.Bytes.map e_u8), .int .i64 v1.2.2.2.1.Kept]), (16, [.int .i64 v1.2.2.2.2.1.Code, .int .i64 v1.2.2.2.2.1.At]), (17, [.sl 1 (v1.2.2.2.2.2.1.Bytes.map e_u8), .int .i64 v1.2.2.2.2.2.1.Kept]), (19, [.int .i64 v1.2.2.2.2.2.2.1.Code, .int .i64 v1.2.2.2.2.2.2.1.At]), (20, [.int .i64 v1.2.2.2.2.2.2.2.1.Code, .int .i64 v1.2.2.2.2.2.2.2.1.At]), (21, [.int .i64 v1.2.2.2.2.2.2.2.1.Code, .int .i64 v1.2.2.2.2.2.2.2.1.At])], [], [], []⟩ .nil (by kernel_rfl) ?_
                  refine Wk_seq ?_
                  refine Wk_seq ?_
                  refine WR [.nat (v1.1.Bytes.length : Int)] [3, 5, 15, 16, 17, 18, 19, 20, 21, 145] [3, 5, 15, 16, 17, 19, 20, 21] [] [] [] [] ⟨[(3, .ptr 3 0), (5, .ptr 5 0), (15, .ptr 15 0), (16, .ptr 16 0), (17, .ptr 17 0), (18, .sl 1 (x8.2.1.map e_L_u8)), (19, .ptr 19 0), (20, .ptr 20 0), (21, .ptr 21 0), (145, .bool ((decide (v1.2.2.2.2.2.2.2.1.Code = 0)) && ((decide (num < 0)) || (decide ((v1.1.Bytes.length : Int) < num)))))], [(3, [.sl 1 (v1.1.Bytes.map e_u8), .int .i64 v1.1.Kept]), (5, [.int .i64 num]), (15, [.sl 1 (v1.2.2.2.1.Bytes.map e_u8), .int .i64 v1.2.2.2.1.Kept]), (16, [.int .i64 v1.2.2.2.2.1.Code, .int .i64 v1.2.2.2.2.1.At]), (17, [.sl 1 (v1.2.2.2.2.2.1.Bytes.map e_u8), .int .i64 v1.2.2.2.2.2.1.Kept]), (19, [.int .i64 v1.2.2.2.2.2.2.1.Code, .int .i64 v1.2.2.2.2.2.2.1.At]), (20, [.int .i64 v1.2.2.2.2.2.2.2.1.Code, .int .i64 v1.2.2.2.2.2.2.2.1.At]), (21, [.int .i64 v1.2.2.2.2.2.2.2.1.Code, .int .i64 v1.2.2.2.2.2.2.2.1.At])], [], [], []⟩ (.cons (fun (_ : (!(decide (num < 0))) = true) (_ : (decide (v1.2.2.2.2.2.2.2.1.Code = 0)) = true) => (len_ok e_u8 v1.1.Bytes)) .nil) (by kernel_rfl) ?_
                  obtain ⟨v2, hv, hF⟩ := ob_elim hF
                  refine Wk_meet (⟨[(3, .ptr 3 0), (5, .ptr 5 0), (15, .ptr 15 0), (16, .ptr 16 0), (17, .ptr 17 0), (18, .sl 1 (x8.2.1.map e_L_u8)), (19, .ptr 19 0), (20, .ptr 20 0), (21, .ptr 21 0)], [(3, [.sl 1 (v2.1.Bytes.map e_u8), .int .i64 v2.1.Kept]), (5, [.int .i64 num]), (15, [.sl 1 (v2.2.1.Bytes.map e_u8), .int .i64 v2.2.1.Kept]), (16, [.int .i64 v2.2.2.1.Code, .int .i64 v2.2.2.1.At]), (17, [.sl 1 (v2.2.2.2.1.Bytes.map e_u8), .int .i64 v2.2.2.2.1.Kept]), (19, [.int .i64 v2.2.2.2.2.1.Code, .int .i64 v2.2.2.2.2.1.At]), (20, [.int .i64 v2.2.2.2.2.2.1.Code, .int .i64 v2.2.2.2.2.2.1.At]), (21, [.int .i64 v2.2.2.2.2.2.2.Code, .int .i64 v2.2.2.2.2.2.2.At])], [], [], []⟩ : S) ?_ ?_
                  · have hF := hv
                    refine Wk_split rfl (fun hb => ?_) (fun hb => ?_)
                    · have hF := ite_t hF hb
                      obtain ⟨x16, h16, hF⟩ := lt_split hF
                      refine WR [.callB (.agg [.int .i64 x16.Code, .int .i64 x16.At])] [3, 5, 15, 16, 17, 18, 19, 20, 21] [3, 5, 15, 16, 17, 19, 20, 21] [] [] [] [] ⟨[(3, .ptr 3 0), (5, .ptr 5 0), (15, .ptr 15 0), (16, .ptr 16 0), (17, .ptr 17 0), (18, .sl 1 (x8.2.1.map e_L_u8)), (19, .ptr 19 0), (20, .ptr 20 0), (21, .ptr 21 0)], [(3, [.sl 1 (v1.1.Bytes.map e_u8), .int .i64 v1.1.Kept]), (5, [.int .i64 num]), (15, [.sl 1 (v1.2.2.2.1.Bytes.map e_u8), .int .i64 v1.2.2.2.1.Kept]), (16, [.int .i64 v1.2.2.2.2.1.Code, .int .i64 v1.2.2.2.2.1.At]), (17, [.sl 1 (v1.2.2.2.2.2.1.Bytes.map e_u8), .int .i64 v1.2.2.2.2.2.1.Kept]), (19, [.int .i64 v1.2.2.2.2.2.2.1.Code, .int .i64 v1.2.2.2.2.2.2.1.At]), (20, [.int .i64 v1.2.2.2.2.2.2.2.1.Code, .int .i64 v1.2.2.2.2.2.2.2.1.At]), (21, [.int .i64 x16.Code, .int .i64 x16.At])], [], [], []⟩ (.cons (R_F_ok 3 (-1) x16 h16) .nil) (by kernel_rfl) ?_
                      exact Wk_met (fs := [3, 5, 15, 16, 17, 18, 19, 20, 21]) (bs := [3, 5, 15, 16, 17, 19, 20, 21]) (rs := []) (ms := []) (aa := []) (nv := []) (by first | (rw [← some_elim hF]; kernel_rfl) | kernel_rfl)
                    · have hF := ite_f hF hb
                      refine Wk_skip ?_
                      exact Wk_met (fs := [3, 5, 15, 16, 17, 18, 19, 20, 21]) (bs := [3, 5, 15, 16, 17, 19, 20, 21]) (rs := []) (ms := []) (aa := []) (nv := []) (by first | (rw [← some_elim hF]; kernel_rfl) | kernel_rfl)
                  · refine Wk_seq ?_
                    refine Wk_seq ?_
                    obtain ⟨x17, h17, hF⟩ := ob_elim hF
                    refine WR [.callR [3, 5] [] [] [] (.bool x17)] [3, 17, 18, 19, 20, 152] [3, 17, 19, 20] [] [] [] [] ⟨[(3, .ptr 3 0), (17, .ptr 17 0), (18, .sl 1 (x8.2.1.map e_L_u8)), (19, .ptr 19 0), (20, .ptr 20 0), (152, .bool (!x17))], [(3, [.sl 1 (v2.1.Bytes.map e_u8), .int .i64 v2.1.Kept]), (17, [.sl 1 (v2.2.2.2.1.Bytes.map e_u8), .int .i64 v2.2.2.2.1.Kept]), (19, [.int .i64 v2.2.2.2.2.1.Code, .int .i64 v2.2.2.2.2.1.At]), (20, [.int .i64 v2.2.2.2.2.2.1.Code, .int .i64 v2.2.2.2.2.2.1.At])], [], [], []⟩ (.cons (Pe.ren (law_diskAs_v3_ok v2.2.1 v2.2.2.1 v2.2.2.2.2.2.2 v2.1 num x17 h17) ⟨[(100000, 3), (100001, 5)], [], [], []⟩) .nil) (by kernel_rfl) ?_
                    refine Wk_split rfl (fun hb => ?_) (fun hb => ?_)
                    · have hF := ite_t hF hb
                      refine Wk_seq ?_
                      refine WR [] [6] [] [] [] [] [] ⟨[(6, .bool false)], [], [], [], []⟩ .nil (by kernel_rfl) ?_
                      have hF := some_elim hF
                      exact Wk_ret (hfin _ ⟨[], [], [], [], [], [], by first | (rw [← hF]; kernel_rfl) | kernel_rfl⟩)
                    · have hF := ite_f hF hb
                      refine Wk_skip ?_
                      refine Wk_seq ?_
                      refine WR [] [3, 17, 18, 19, 20, 22] [3, 17, 19, 20] [] [] [] [] ⟨[(3, .ptr 3 0), (17, .ptr 17 0), (18, .sl 1 (x8.2.1.map e_L_u8)), (19, .ptr 19 0), (20, .ptr 20 0), (22, .nils)], [(3, [.sl 1 (v2.1.Bytes.map e_u8), .int .i64 v2.1.Kept]), (17, [.sl 1 (v2.2.2.2.1.Bytes.map e_u8), .int .i64 v2.2.2.2.1.Kept]), (19, [.int .i64 v2.2.2.2.2.1.Code, .int .i64 v2.2.2.2.2.1.At]), (20, [.int .i64 v2.2.2.2.2.2.1.Code, .int .i64 v2.2.2.2.2.2.1.At])], [], [], []⟩ .nil (by kernel_rfl) ?_
                      refine Wk_seq ?_
                      refine WR [] [3, 17, 18, 19, 20, 22, 23] [3, 17, 19, 20, 23] [] [] [] [] ⟨[(3, .ptr 3 0), (17, .ptr 17 0), (18, .sl 1 (x8.2.1.map e_L_u8)), (19, .ptr 19 0), (20, .ptr 20 0), (22, .nils), (23, .ptr 23 0)], [(3, [.sl 1 (v2.1.Bytes.map e_u8), .int .i64 v2.1.Kept]), (17, [.sl 1 (v2.2.2.2.1.Bytes.map e_u8), .int .i64 v2.2.2.2.1.Kept]), (19, [.int .i64 v2.2.2.2.2.1.Code, .int .i64 v2.2.2.2.2.1.At]), (20, [.int .i64 v2.2.2.2.2.2.1.Code, .int .i64 v2.2.2.2.2.2.1.At]), (23, [.int .i64 0])], [], [], []⟩ .nil (by kernel_rfl) ?_
                      refine Wk_seq ?_
                      refine Wk_seq ?_
                      refine WR [] [3, 17, 18, 19, 20, 22, 23, 155] [3, 17, 19, 20, 23] [] [] [] [] ⟨[(3, .ptr 3 0), (17, .ptr 17 0), (18, .sl 1 (x8.2.1.map e_L_u8)), (19, .ptr 19 0), (20, .ptr 20 0), (22, .nils), (23, .ptr 23 0), (155, .bool (decide (v2.2.2.2.2.2.1.Code = 0)))], [(3, [.sl 1 (v2.1.Bytes.map e_u8), .int .i64 v2.1.Kept]), (17, [.sl 1 (v2.2.2.2.1.Bytes.map e_u8), .int .i64 v2.2.2.2.1.Kept]), (19, [.int .i64 v2.2.2.2.2.1.Code, .int .i64 v2.2.2.2.2.1.At]), (20, [.int .i64 v2.2.2.2.2.2.1.Code, .int .i64 v2.2.2.2.2.2.1.At]), (23, [.int .i64 0])], [], [], []⟩ .nil (by kernel_rfl) ?_
                      obtain ⟨v3, hv, hF⟩ := ob_elim hF
                      refine Wk_meet (⟨[(3, .ptr 3 0), (17, .ptr 17 0), (18, .sl 1 (x8.2.1.map e_L_u8)), (19, .ptr 19 0), (20, .ptr 20 0), (22, .sl 1 (v3.2.2.2.2.1.map e_L_u8)), (23, .ptr 23 0)], [(3, [.sl 1 (v3.1.Bytes.map e_u8), .int .i64 v3.1.Kept]), (17, [.sl 1 (v3.2.1.Bytes.map e_u8), .int .i64 v3.2.1.Kept]), (19, [.int .i64 v3.2.2.1.Code, .int .i64 v3.2.2.1.At]), (20, [.int .i64 v3.2.2.2.1.Code, .int .i64 v3.2.2.2.1.At]), (23, [.int .i64 v3.2.2.2.2.2])], [], [], []⟩ : S) ?_ ?_
                      · have hF := hv
                        refine Wk_split rfl (fun hb => ?_) (fun hb => ?_)
                        · have hF := ite_t hF hb
                          refine Wk_seq ?_
                          obtain ⟨x18, h18, hF⟩ := ob_elim hF
                          refine WR [.call (.tup [.sl 1 (x18.1.map e_L_u8), .int .i64 x18.2])] [3, 17, 18, 19, 20, 22, 23] [3, 17, 19, 20, 23] [] [] [] [] ⟨[(3, .ptr 3 0), (17, .ptr 17 0), (18, .sl 1 (x8.2.1.map e_L_u8)), (19, .ptr 19 0), (20, .ptr 20 0), (22, .sl 1 (x18.1.map e_L_u8)), (23, .ptr 23 0)], [(3, [.sl 1 (v2.1.Bytes.map e_u8), .int .i64 v2.1.Kept]), (17, [.sl 1 (v2.2.2.2.1.Bytes.map e_u8), .int .i64 v2.2.2.2.1.Kept]), (19, [.int .i64 v2.2.2.2.2.1.Code, .int .i64 v2.2.2.2.2.1.At]), (20, [.int .i64 v2.2.2.2.2.2.1.Code, .int .i64 v2.2.2.2.2.2.1.At]), (23, [.int .i64 x18.2])], [], [], []⟩ (.cons (R_Unframed_v1_ok v2.1.Bytes x18 h18) .nil) (by kernel_rfl) ?_
                          refine Wk_seq ?_
                          refine WR [.nat (x18.1.length : Int)] [3, 17, 18, 19, 20, 22, 23, 164] [3, 17, 19, 20, 23] [] [] [] [] ⟨[(3, .ptr 3 0), (17, .ptr 17 0), (18, .sl 1 (x8.2.1.map e_L_u8)), (19, .ptr 19 0), (20, .ptr 20 0), (22, .sl 1 (x18.1.map e_L_u8)), (23, .ptr 23 0), (164, .bool (decide (1000 < (x18.1.length : Int))))], [(3, [.sl 1 (v2.1.Bytes.map e_u8), .int .i64 v2.1.Kept]), (17, [.sl 1 (v2.2.2.2.1.Bytes.map e_u8), .int .i64 v2.2.2.2.1.Kept]), (19, [.int .i64 v2.2.2.2.2.1.Code, .int .i64 v2.2.2.2.2.1.At]), (20, [.int .i64 v2.2.2.2.2.2.1.Code, .int .i64 v2.2.2.2.2.2.1.At]), (23, [.int .i64 x18.2])], [], [], []⟩ (.cons (len_ok e_L_u8 x18.1) .nil) (by kernel_rfl) ?_
                          refine Wk_split rfl (fun hb => ?_) (fun hb => ?_)
                          · have hF := ite_t hF hb
                            refine Wk_seq ?_
                            obtain ⟨x19, h19, hF⟩ := lt_split hF
                            refine WR [.callB (.agg [.int .i64 x19.Code, .int .i64 x19.At])] [3, 17, 18, 19, 20, 23] [3, 17, 19, 20, 23] [] [] [] [] ⟨[(3, .ptr 3 0), (17, .ptr 17 0), (18, .sl 1 (x8.2.1.map e_L_u8)), (19, .ptr 19 0), (20, .ptr 20 0), (23, .ptr 23 0)], [(3, [.sl 1 (v2.1.Bytes.map e_u8), .int .i64 v2.1.Kept]), (17, [.sl 1 (v2.2.2.2.1.Bytes.map e_u8), .int .i64 v2.2.2.2.1.Kept]), (19, [.int .i64 v2.2.2.2.2.1.Code, .int .i64 v2.2.2.2.2.1.At]), (20, [.int .i64 x19.Code, .int .i64 x19.At]), (23, [.int .i64 x18.2])], [], [], []⟩ (.cons (R_F_ok 2 0 x19 h19) .nil) (by kernel_rfl) ?_
                            refine WR [] [3, 17, 18, 19, 20, 22, 23] [3, 17, 19, 20, 23] [] [] [] [] ⟨[(3, .ptr 3 0), (17, .ptr 17 0), (18, .sl 1 (x8.2.1.map e_L_u8)), (19, .ptr 19 0), (20, .ptr 20 0), (22, .nils), (23, .ptr 23 0)], [(3, [.sl 1 (v2.1.Bytes.map e_u8), .int .i64 v2.1.Kept]), (17, [.sl 1 (v2.2.2.2.1.Bytes.map e_u8), .int .i64 v2.2.2.2.1.Kept]), (19, [.int .i64 v2.2.2.2.2.1.Code, .int .i64 v2.2.2.2.2.1.At]), (20, [.int .i64 x19.Code, .int .i64 x19.At]), (23, [.int .i64 x18.2])], [], [], []⟩ .nil (by kernel_rfl) ?_
                            refine Wk_coe 22 (.sl 1 (([] : List (List UInt8)).map e_L_u8)) rfl (.cell rfl (CoeS.nils 1)) ?_
                            exact Wk_met (fs := [3, 17, 18, 19, 20, 22, 23]) (bs := [3, 17, 19, 20, 23]) (rs := []) (ms := []) (aa := []) (nv := []) (by first | (rw [← some_elim hF]; kernel_rfl) | kernel_rfl)
                          · have hF := ite_f hF hb
                            refine Wk_skip ?_
                            exact Wk_met (fs := [3, 17, 18, 19, 20, 22, 23]) (bs := [3, 17, 19, 20, 23]) (rs := []) (ms := []) (aa := []) (nv := []) (by first | (rw [← some_elim hF]; kernel_rfl) | kernel_rfl)
                        · have hF := ite_f hF hb
                          refine Wk_skip ?_
                          refine Wk_coe 22 (.sl 1 (([] : List (List UInt8)).map e_L_u8)) rfl (.cell rfl (CoeS.nils 1)) ?_
                          exact Wk_met (fs := [3, 17, 18, 19, 20, 22, 23]) (bs := [3, 17, 19, 20, 23]) (rs := []) (ms := []) (aa := []) (nv := []) (by first | (rw [← some_elim hF]; kernel_rfl) | kernel_rfl)
                      · refine Wk_seq ?_
                        obtain ⟨x20, h20, hF⟩ := ob_elim hF
                        obtain ⟨x21, h21, hF⟩ := ob_elim hF
                        refine WR [.callB (.bool x20), .callR [3, 23] [] [] [] (.bool x21)] [6] [] [] [] [] [] ⟨[(6, .bool (x20 && x21))], [], [], [], []⟩ (.cons (R_SameBodies_ok x8.2.1 v3.2.2.2.2.1 x20 h20) (.cons (fun (ga0 : x20 = true) => (Pe.ren (law_diskAs_v4_ok v3.2.1 v3.2.2.1 v3.2.2.2.1 v3.1 v3.2.2.2.2.2 x21 (ite_t h21 ga0)) ⟨[(100000, 3), (100001, 23)], [], [], []⟩)) .nil)) (by kernel_rfl) ?_
                        have hF := some_elim hF
                        exact Wk_ret (hfin _ ⟨[], [], [], [], [], [], by first | (rw [← hF]; kernel_rfl) | kernel_rfl⟩)

end G
end Go.Proofs.Ytiakadlmebbafaa
