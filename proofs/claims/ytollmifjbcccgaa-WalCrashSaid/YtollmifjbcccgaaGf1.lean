/- The program's functions as plain functions, and that they are these. Written by a program (dec2.py). -/
import Derived.Test.YtollmifjbcccgaaGf0
namespace Go.Proofs.Ytollmifjbcccgaa
open Go Go.Dm
set_option linter.unusedVariables false
set_option linter.unusedSimpArgs false
set_option maxRecDepth 100000
namespace G
/- wal.Log -/
noncomputable def wal_Log_v1 (d : Disk) (num : Note) : Option (Disk × Fault) :=
 lt (disk_Check d) fun x =>
 if (!decide (x.Code = 0)) = true then
  some ((⟨([] : List UInt8), 0⟩ : Disk), x)
 else
  ob (wal_Check num) fun x1 =>
  if (!decide (x1.Code = 0)) = true then
   some ((⟨([] : List UInt8), 0⟩ : Disk), x1)
  else
   ob (wal_Notes d) fun x2 =>
   asrt ((decide (0 < (x2.1.length : Int))) = true → (!(!decide (x2.2 = (d.Bytes.length : Int)))) = true → 0 ≤ w64 ((x2.1.length : Int) - 1) ∧ w64 ((x2.1.length : Int) - 1) < (x2.1.length : Int)) <|
   asrt ((decide (0 < (x2.1.length : Int))) = true → (!(!decide (x2.2 = (d.Bytes.length : Int)))) = true → 0 ≤ w64 ((x2.1.length : Int) - 1) ∧ w64 ((x2.1.length : Int) - 1) < (x2.1.length : Int)) <|
   if ((!decide (x2.2 = (d.Bytes.length : Int))) || ((decide (0 < (x2.1.length : Int))) && (!decide (num.Seq = (w64 (((lget x2.1 (w64 ((x2.1.length : Int) - 1))).Seq) + 1)))))) = true then
    lt (wal_fault 11 0) fun x3 =>
    some ((⟨([] : List UInt8), 0⟩ : Disk), x3)
   else
    ob (wal_Frame_v1 num) fun x4 =>
    ob (disk_Append d x4) fun x5 =>
    some ((⟨x5.1, x5.2.1⟩ : Disk), x5.2.2)

/- wal.Replay -/
noncomputable def wal_Replay (d : Disk) : Option (List UInt8 × Int × List Note × Fault) :=
 lt (disk_Check d) fun x =>
 if (!decide (x.Code = 0)) = true then
  some (([] : List UInt8), 0, ([] : List Note), x)
 else
  ob (wal_Notes d) fun x1 =>
  if (decide (1000 < (x1.1.length : Int))) = true then
   lt (wal_fault 2 0) fun x2 =>
   some (([] : List UInt8), 0, ([] : List Note), x2)
  else
   asrt (0 ≤ x1.2 ∧ x1.2 ≤ (d.Bytes.length : Int)) <|
   ob (slices_Clone_byte_byte (ltake d.Bytes x1.2)) fun x3 =>
   some (x3, x1.2, x1.1, (⟨0, 0⟩ : Fault))
theorem wal_Replay_ok (d : Disk) (r : List UInt8 × Int × List Note × Fault) (hF : wal_Replay d = some r) : Pe Try.prog 43 S.none [.agg (c_Disk d)] (.tup [.agg [.row 29 0, .i r.2.1], .row 17 0, .agg (c_Fault r.2.2.2)]) ⟨[], [], [(17, .z 24 2 0 (r.2.2.1.map e_Note)), (29, .o 5 1 0 (r.1.map e_u8))], [], []⟩ := by
 refine PeN 34 [.cell 2 66, .tmp 3, .cell 4 31] [66, 56, 31] Ty.ok Fn.b43 Try.func43 ?_
 intro Q g hfin
 unfold wal_Replay at hF
 refine VR [] [1, 2, 4] [1, 2, 4] [] [] [(1, .ptr 1 0), (2, .ptr 2 0), (4, .ptr 4 0)] [(1, (c_Disk d)), (2, [.nils, .i 0]), (4, [.i 0, .i 0])] [] [] .nil ?_
 obtain ⟨x, h0, hF⟩ := lt_split hF
 refine VR [.callB (.agg (c_Fault x))] [1, 2, 4, 5] [1, 2, 4, 5] [] [] [(5, .ptr 5 0)] [(5, (c_Fault x))] [] [] (hc (disk_Check_ok d x h0) .nil) ?_
 refine NR [] [1, 2, 4, 5, 12] [1, 2, 4, 5] [] [(12, .bool (!decide (x.Code = 0)))] .nil ?_
 refine Nif hF (fun hb hF => ?_) (fun hb hF => ?_)
 ·refine VD [] [2, 3, 4] [2, 4] [] [] [(3, .nils)] [(4, (c_Fault x))] [] [] .nil ?_
  cases hF
  refine Wk_nilrowB 2 0 60000 5 1 rfl rfl rfl rfl rfl ?_
  refine Wk_nilrow 3 60001 24 2 rfl rfl rfl ?_
  refine Wk_ren' ⟨[], [(60000, 29), (60001, 17)], [], []⟩ rfl ?_
  exact Wk_ret (hfin _ ⟨[17, 29], [], [17, 29], [], [], [(29, ⟨0, true, false, false⟩)], by kernel_rfl⟩)
 ·obtain ⟨x1, h1, hF⟩ := ob_elim hF
  refine VR [.callE [] [] [] [] (.tup [.row 17 0, .i x1.2]) ⟨[], [], [(17, .z 24 2 0 (x1.1.map e_Note))], [], []⟩] [1, 2, 4, 6, 7] [1, 2, 4] [17] [] [(6, .row 17 0), (7, .i x1.2)] [] [(17, .z 24 2 0 (x1.1.map e_Note))] [] (hc (Pe.ren (wal_Notes_ok d x1 h1) ⟨[], [(53, 17)], [], []⟩) .nil) ?_
  refine NR [.nat (x1.1.length : Int)] [1, 2, 4, 6, 7, 22] [1, 2, 4] [17] [(22, .bool (decide (1000 < (x1.1.length : Int))))] (hc (len_ok e_Note x1.1) .nil) ?_
  refine Nif hF (fun hb hF => ?_) (fun hb hF => ?_)
  ·obtain ⟨x2, h2, hF⟩ := lt_split hF
   refine VR [.callB (.agg (c_Fault x2))] [2, 3, 4] [2, 4] [] [] [(3, .nils)] [(4, (c_Fault x2))] [] [] (hc (wal_fault_ok 2 0 x2 h2) .nil) ?_
   cases hF
   refine Wk_nilrowB 2 0 60002 5 1 rfl rfl rfl rfl rfl ?_
   refine Wk_nilrow 3 60003 24 2 rfl rfl rfl ?_
   refine Wk_ren' ⟨[], [(60002, 29), (60003, 17)], [], []⟩ rfl ?_
   exact Wk_ret (hfin _ ⟨[17, 29], [], [17, 29], [], [], [(29, ⟨0, true, false, false⟩)], by kernel_rfl⟩)
  ·obtain ⟨h3, hF⟩ := asrt_elim hF
   obtain ⟨x3, h4, hF⟩ := ob_elim hF
   refine VR [.xs ((ltake d.Bytes x1.2).map e_u8), .callE [] [] [] [] (.row 29 0) ⟨[], [], [(29, .o 5 1 0 (x3.map e_u8))], [], []⟩] [2, 3, 4] [2, 4] [17, 29] [] [(3, .row 17 0)] [(2, [.row 29 0, .i x1.2])] [(29, .o 5 1 0 (x3.map e_u8))] [] (hc (sl01_ok e_u8 h3) (hc (Pe.ren (slices_Clone_byte_byte_ok (ltake d.Bytes x1.2) x3 h4) ⟨[], [(5, 29)], [], []⟩) .nil)) ?_
   cases hF
   exact Wk_ret (hfin _ ⟨[17, 29], [], [17, 29], [], [], [], by kernel_rfl⟩)

/- wal.Replay -/
noncomputable def wal_Replay_v1 (d : Disk) : Option (Disk × List Note × Fault) :=
 lt (disk_Check d) fun x =>
 if (!decide (x.Code = 0)) = true then
  some ((⟨([] : List UInt8), 0⟩ : Disk), ([] : List Note), x)
 else
  ob (wal_Notes d) fun x1 =>
  if (decide (1000 < (x1.1.length : Int))) = true then
   lt (wal_fault 2 0) fun x2 =>
   some ((⟨([] : List UInt8), 0⟩ : Disk), ([] : List Note), x2)
  else
   asrt (0 ≤ x1.2 ∧ x1.2 ≤ (d.Bytes.length : Int)) <|
   ob (slices_Clone_byte_byte (ltake d.Bytes x1.2)) fun x3 =>
   some ((⟨x3, x1.2⟩ : Disk), x1.1, (⟨0, 0⟩ : Fault))

/- tabularyref.SameDisk -/
noncomputable def R_SameDisk (a0 : Disk) (b : Disk) : Bool :=
 lt (R_Same a0.Bytes b.Bytes) fun x =>
 (decide (a0.Kept = b.Kept)) && x

/- tabularyref.SameCells -/
noncomputable def R_SameCells_J1 (v : Unit) : Option Bool :=
 some true
noncomputable def R_SameCells_B1 (a0 : List Cell) (b : List Cell) (v1 : Int) : Option (Int ⊕ Bool) :=
 if (decide (v1 < (a0.length : Int))) = true then
  asrt (0 ≤ v1 ∧ v1 < (a0.length : Int)) <|
  asrt (0 ≤ v1 ∧ v1 < (b.length : Int)) <|
  if (!(decide ((lget a0 v1).Row = (lget b v1).Row) && (decide ((lget a0 v1).Col = (lget b v1).Col) && (decide ((lget a0 v1).Time = (lget b v1).Time) && ((((lget a0 v1).Gone) == ((lget b v1).Gone)) && (decide ((lget a0 v1).Value = (lget b v1).Value) && true)))))) = true then
   some (Sum.inr false)
  else
   some (Sum.inl (w64 (v1 + 1)))
 else
  inrO (R_SameCells_J1 ())
noncomputable def R_SameCells_L1 (a0 : List Cell) (b : List Cell) (v0 : Int) : Option Bool :=
 loopO (fun y => R_SameCells_B1 a0 b y) v0
noncomputable def R_SameCells (a0 : List Cell) (b : List Cell) : Option Bool :=
 if (!decide ((a0.length : Int) = (b.length : Int))) = true then
  some false
 else
  R_SameCells_L1 a0 b 0
theorem R_SameCells_ok (a0 : List Cell) (b : List Cell) (r : Bool) (hF : R_SameCells a0 b = some r) : Pe Try.prog 32 S.none [.sl 5 (a0.map e_Cell), .sl 5 (b.map e_Cell)] (.bool r) S.none := by
 refine PeN 26 [.tmp 4] [4] Ty.ok Fn.b32 Try.func32 ?_
 intro Q g hfin
 unfold R_SameCells at hF
 refine NR [] [0, 1] [] [] [] .nil ?_
 refine NR [.nat (a0.length : Int), .nat (b.length : Int)] [0, 1, 10] [] [] [(10, .bool (!decide ((a0.length : Int) = (b.length : Int))))] (hc (len_ok e_Cell a0) (hc (len_ok e_Cell b) .nil)) ?_
 refine Nif hF (fun hb hF => ?_) (fun hb hF => ?_)
 ·refine NR [] [4] [] [] [(4, .bool false)] .nil ?_
  cases hF
  exact Wk_ret (hfin _ ⟨[], [], [], [], [], [], by kernel_rfl⟩)
 ·refine NR [] [0, 1, 5] [] [] [(5, .i 0)] .nil ?_
  refine NmeetP (fun v : Unit => (S.none : S)) (fun v => R_SameCells_J1 v = some r) ?_ ?_
  ·refine Nblk ?_
   unfold R_SameCells_L1 at hF
   refine Niter (fun v1 : Int => (⟨[(0, .sl 5 (a0.map e_Cell)), (1, .sl 5 (b.map e_Cell)), (5, .i v1)], [], [], [], []⟩ : S)) [] hF (by kernel_rfl) ?_
   intro n1 v1 y1 hF ih1 dn1
   unfold R_SameCells_B1 at hF
   refine NR [.nat (a0.length : Int)] [0, 1, 5, 14] [] [] [(14, .bool (decide (v1 < (a0.length : Int))))] (hc (len_ok e_Cell a0) .nil) ?_
   refine Nif hF (fun hb hF => ?_) (fun hb hF => ?_)
   ·refine Nblk ?_
    obtain ⟨h0, h1, hF⟩ := asrt2 hF
    refine ND [.av (e_Cell (lget a0 v1)), .av (e_Cell (lget b v1))] [0, 1, 5, 25] [] [] [(25, .bool (!(decide ((lget a0 v1).Row = (lget b v1).Row) && (decide ((lget a0 v1).Col = (lget b v1).Col) && (decide ((lget a0 v1).Time = (lget b v1).Time) && ((((lget a0 v1).Gone) == ((lget b v1).Gone)) && (decide ((lget a0 v1).Value = (lget b v1).Value) && true)))))))] (hc (idx_ok e_Cell h0) (hc (idx_ok e_Cell h1) .nil)) ?_
    refine Nif hF (fun hb hF => ?_) (fun hb hF => ?_)
    ·refine NR [] [4] [] [] [(4, .bool false)] .nil ?_
     have hF := ret_done hF dn1
     cases hF
     exact Wk_ret (hfin _ ⟨[], [], [], [], [], [], by kernel_rfl⟩)
    ·refine NR [] [0, 1, 5] [] [] [(5, .i (w64 (v1 + 1)))] .nil ?_
     exact Nrnd [] hF ih1 (by kernel_rfl)
   ·refine Nexit rfl ?_
    have hF := inrO_done hF dn1
    exact metP () [] hF (by kernel_rfl)
  ·intro v hF
   have hF : R_SameCells_J1 v = some r := hF
   unfold R_SameCells_J1 at hF
   refine NR [] [4] [] [] [(4, .bool true)] .nil ?_
   cases hF
   exact Wk_ret (hfin _ ⟨[], [], [], [], [], [], by kernel_rfl⟩)

/- tabularyref.SameNote -/
noncomputable def R_SameNote (a0 : Note) (b : Note) : Option Bool :=
 ob (if (decide (a0.Seq = b.Seq)) = true then (R_SameCells a0.Cells b.Cells) else some default) fun x =>
 some ((decide (a0.Seq = b.Seq)) && x)
theorem R_SameNote_ok (a0 : Note) (b : Note) (r : Bool) (hF : R_SameNote a0 b = some r) : Pe Try.prog 17 S.none [.agg (c_Note a0), .agg (c_Note b)] (.bool r) S.none := by
 refine PeN 17 [.tmp 4] [4] Ty.ok Fn.b17 Try.func17 ?_
 intro Q g hfin
 unfold R_SameNote at hF
 refine VR [] [2, 3] [2, 3] [] [] [(2, .ptr 2 0), (3, .ptr 3 0)] [(2, (c_Note a0)), (3, (c_Note b))] [] [] .nil ?_
 obtain ⟨x, h0, hF⟩ := ob_elim hF
 refine NR [.callB (.bool x)] [4] [] [] [(4, .bool ((decide (a0.Seq = b.Seq)) && x))] (hc (fun (ga0 : (decide (a0.Seq = b.Seq)) = true) => (R_SameCells_ok a0.Cells b.Cells x (ite_t h0 ga0))) .nil) ?_
 cases hF
 exact Wk_ret (hfin _ ⟨[], [], [], [], [], [], by kernel_rfl⟩)

/- tabularyref.F -/
noncomputable def R_F (code : Int) (at0 : Int) : Fault :=
 (⟨code, at0⟩ : Fault)

/- tabularyref.DiskFault -/
noncomputable def R_DiskFault (d : Disk) : Fault :=
 if (decide (60000 < (d.Bytes.length : Int))) = true then
  lt (R_F 8 0) fun x =>
  x
 else
  if ((decide (d.Kept < 0)) || (decide ((d.Bytes.length : Int) < d.Kept))) = true then
   lt (R_F 3 0) fun x1 =>
   x1
  else
   (⟨0, 0⟩ : Fault)

/- tabularyref.Rest -/
noncomputable def R_Rest_J1 (v : Int) : Option Int :=
 some (IntKind.u32.wrap (4294967295 - v))
noncomputable def R_Rest_J2 (v1 : Int × Int) (v2 : Int) : Option ((Int × Int) ⊕ Int) :=
 some (Sum.inl (v2, w64 (v1.2 + 1)))
noncomputable def R_Rest_B2 (b : List UInt8) (v1 : Int × Int) (v3 : Int × Int) : Option ((Int × Int) ⊕ ((Int × Int) ⊕ Int)) :=
 if (decide (v3.2 < 8)) = true then
  asrt (0 ≤ v1.2 ∧ v1.2 < (b.length : Int)) <|
  asrt (0 ≤ v3.2) <|
  lt (Int.tmod (IntKind.u32.wrap ((toU8 (Int.fdiv ((lget b v1.2).toNat : Int) (2 ^ (min v3.2.toNat 8)))).toNat : Int)) 2) fun (v4 : Int) =>
  ob (
   if (decide ((Int.tmod (IntKind.u32.wrap (v3.1 + v4)) 2) = 1)) = true then
    some (bitsOp .xor .u32 (IntKind.u32.wrap (Int.tdiv v3.1 2)) 3988292384)
   else
    some (IntKind.u32.wrap (Int.tdiv v3.1 2))) fun (v5 : Int) =>
  some (Sum.inl (v5, w64 (v3.2 + 1)))
 else
  inrO (R_Rest_J2 v1 v3.1)
noncomputable def R_Rest_L2 (b : List UInt8) (v1 : Int × Int) (v0 : Int × Int) : Option ((Int × Int) ⊕ Int) :=
 loopO (fun y => R_Rest_B2 b v1 y) v0
noncomputable def R_Rest_B1 (b : List UInt8) (v1 : Int × Int) : Option ((Int × Int) ⊕ Int) :=
 if (decide (v1.2 < (b.length : Int))) = true then
  R_Rest_L2 b v1 (v1.1, 0)
 else
  inrO (R_Rest_J1 v1.1)
noncomputable def R_Rest_L1 (b : List UInt8) (v0 : Int × Int) : Option Int :=
 loopO (fun y => R_Rest_B1 b y) v0
noncomputable def R_Rest (b : List UInt8) : Option Int :=
 R_Rest_L1 b (4294967295, 0)

/- tabularyref.Framed -/
noncomputable def R_Framed (body : List UInt8) : Option (List UInt8) :=
 asrt (((([toU8 (w64 (Int.tdiv (body.length : Int) 256)), toU8 (Int.tmod (body.length : Int) 256)] : List UInt8) ++ body).length : Int) * 1 ≤ 140737488351232) <|
 lt ((([toU8 (w64 (Int.tdiv (body.length : Int) 256)), toU8 (Int.tmod (body.length : Int) 256)] : List UInt8) ++ body)) fun (v : List UInt8) =>
 ob (R_Rest v) fun x =>
 asrt (((v ++ ([toU8 (IntKind.u32.wrap (Int.tdiv x 16777216)), toU8 (Int.tmod (IntKind.u32.wrap (Int.tdiv x 65536)) 256), toU8 (Int.tmod (IntKind.u32.wrap (Int.tdiv x 256)) 256), toU8 (Int.tmod x 256)] : List UInt8)).length : Int) * 1 ≤ 140737488351232) <|
 lt ((v ++ ([toU8 (IntKind.u32.wrap (Int.tdiv x 16777216)), toU8 (Int.tmod (IntKind.u32.wrap (Int.tdiv x 65536)) 256), toU8 (Int.tmod (IntKind.u32.wrap (Int.tdiv x 256)) 256), toU8 (Int.tmod x 256)] : List UInt8))) fun (v1 : List UInt8) =>
 some v1

/- tabularyref.Unframed -/
noncomputable def R_Unframed_J1 (v : List (List UInt8) × Int) : Option (List (List UInt8) × Int) :=
 some (v.1, v.2)
noncomputable def R_Unframed_B1 (b : List UInt8) (v1 : List (List UInt8) × Int) : Option ((List (List UInt8) × Int) ⊕ (List (List UInt8) × Int)) :=
 if (decide ((w64 (v1.2 + 6)) ≤ (b.length : Int))) = true then
  asrt (0 ≤ v1.2 ∧ v1.2 < (b.length : Int)) <|
  asrt (0 ≤ w64 (v1.2 + 1) ∧ w64 (v1.2 + 1) < (b.length : Int)) <|
  lt (w64 ((w64 ((w64 ((lget b v1.2).toNat : Int)) * 256)) + (w64 ((lget b (w64 (v1.2 + 1))).toNat : Int)))) fun (v2 : Int) =>
  if (decide ((b.length : Int) < (w64 ((w64 (v1.2 + 6)) + v2)))) = true then
   inrO (R_Unframed_J1 (v1.1, v1.2))
  else
   asrt (0 ≤ w64 (v1.2 + 2) ∧ w64 (v1.2 + 2) ≤ w64 ((w64 (v1.2 + 2)) + v2) ∧ w64 ((w64 (v1.2 + 2)) + v2) ≤ (b.length : Int)) <|
   ob (R_Framed (ldrop (ltake b (w64 ((w64 (v1.2 + 2)) + v2))) (w64 (v1.2 + 2)))) fun x =>
   asrt (0 ≤ v1.2 ∧ v1.2 ≤ w64 ((w64 (v1.2 + 6)) + v2) ∧ w64 ((w64 (v1.2 + 6)) + v2) ≤ (b.length : Int)) <|
   lt (R_Same x (ldrop (ltake b (w64 ((w64 (v1.2 + 6)) + v2))) v1.2)) fun x1 =>
   if (!x1) = true then
    inrO (R_Unframed_J1 (v1.1, v1.2))
   else
    asrt (((ldrop (ltake b (w64 ((w64 (v1.2 + 2)) + v2))) (w64 (v1.2 + 2))).length : Int) * 1 ≤ 140737488351232) <|
    asrt (((v1.1 ++ ([(ldrop (ltake b (w64 ((w64 (v1.2 + 2)) + v2))) (w64 (v1.2 + 2)))] : List (List UInt8))).length : Int) * 24 ≤ 140737488351232) <|
    lt ((v1.1 ++ ([(ldrop (ltake b (w64 ((w64 (v1.2 + 2)) + v2))) (w64 (v1.2 + 2)))] : List (List UInt8)))) fun (v3 : List (List UInt8)) =>
    some (Sum.inl (v3, w64 ((w64 (v1.2 + 6)) + v2)))
 else
  inrO (R_Unframed_J1 (v1.1, v1.2))
noncomputable def R_Unframed_L1 (b : List UInt8) (v0 : List (List UInt8) × Int) : Option (List (List UInt8) × Int) :=
 loopO (fun y => R_Unframed_B1 b y) v0
noncomputable def R_Unframed (b : List UInt8) : Option (List (List UInt8) × Int) :=
 R_Unframed_L1 b (([] : List (List UInt8)), 0)

/- tabularyref.Number -/
noncomputable def R_Number_S (rec : Int → Option (List UInt8)) (num : Int) : Option (List UInt8) :=
 if (decide (num < 128)) = true then
  some ([toU8 num] : List UInt8)
 else
  ob (rec (w64 (Int.tdiv num 128))) fun x =>
  asrt (((([toU8 (w64 ((Int.tmod num 128) + 128))] : List UInt8) ++ x).length : Int) * 1 ≤ 140737488351232) <|
  some (([toU8 (w64 ((Int.tmod num 128) + 128))] : List UInt8) ++ x)
noncomputable def R_Number (num : Int) : Option (List UInt8) := recO (fun rec (x : Int) => R_Number_S rec x) num

/- tabularyref.Number -/
noncomputable def R_Number_v1 (num : Int) : Option (List UInt8) :=
 if (decide (num < 128)) = true then
  some ([toU8 num] : List UInt8)
 else
  ob (R_Number (w64 (Int.tdiv num 128))) fun x =>
  asrt (((([toU8 (w64 ((Int.tmod num 128) + 128))] : List UInt8) ++ x).length : Int) * 1 ≤ 140737488351232) <|
  some (([toU8 (w64 ((Int.tmod num 128) + 128))] : List UInt8) ++ x)

/- tabularyref.NumberAt -/
noncomputable def R_NumberAt_J1 (v : Unit) : Option (Int × Int) :=
 some (0, 0)
noncomputable def R_NumberAt_J2 (b : List UInt8) (v1 : Int) (v2 : Int) : Option (Int ⊕ (Int × Int)) :=
 ob (if (decide (v2 ≤ 1000000000)) = true then (R_Number_v1 v2) else some default) fun x =>
 asrt ((decide (v2 ≤ 1000000000)) = true → 0 ≤ v1 ∧ v1 ≤ (b.length : Int)) <|
 lt (R_Same x (ltake b v1)) fun x1 =>
 if ((decide (v2 ≤ 1000000000)) && x1) = true then
  some (Sum.inr (v2, v1))
 else
  some (Sum.inl (w64 (v1 + 1)))
noncomputable def R_NumberAt_B2 (b : List UInt8) (v1 : Int) (v3 : Int × Int) : Option ((Int × Int) ⊕ (Int ⊕ (Int × Int))) :=
 if (decide (0 ≤ v3.2)) = true then
  asrt (0 ≤ v3.2 ∧ v3.2 < (b.length : Int)) <|
  lt (w64 ((w64 (v3.1 * 128)) + (Int.tmod (w64 ((lget b v3.2).toNat : Int)) 128))) fun (v4 : Int) =>
  some (Sum.inl (v4, w64 (v3.2 - 1)))
 else
  inrO (R_NumberAt_J2 b v1 v3.1)
noncomputable def R_NumberAt_L2 (b : List UInt8) (v1 : Int) (v0 : Int × Int) : Option (Int ⊕ (Int × Int)) :=
 loopO (fun y => R_NumberAt_B2 b v1 y) v0
noncomputable def R_NumberAt_B1 (b : List UInt8) (v1 : Int) : Option (Int ⊕ (Int × Int)) :=
 if ((decide (v1 ≤ 5)) && (decide (v1 ≤ (b.length : Int)))) = true then
  R_NumberAt_L2 b v1 (0, w64 (v1 - 1))
 else
  inrO (R_NumberAt_J1 ())
noncomputable def R_NumberAt_L1 (b : List UInt8) (v0 : Int) : Option (Int × Int) :=
 loopO (fun y => R_NumberAt_B1 b y) v0
noncomputable def R_NumberAt (b : List UInt8) : Option (Int × Int) :=
 R_NumberAt_L1 b 1

/- tabularyref.CellCode -/
noncomputable def R_CellCode (c : Cell) : Int :=
 if ((((decide (c.Row = ([] : List UInt8))) || (decide (40 < (c.Row.length : Int)))) || (decide (40 < (c.Col.length : Int)))) || (decide (200 < (c.Value.length : Int)))) = true then
  8
 else
  if ((decide (c.Time < 0)) || (decide (1000000000 < c.Time))) = true then
   3
  else
   if (c.Gone && (!decide (c.Value = ([] : List UInt8)))) = true then
    5
   else
    0

/- tabularyref.CellAt -/
noncomputable def R_CellAt_J1 (v : Cell × List (List UInt8) × List Int × Int) : Option (Cell × Int) :=
 asrt (0 ≤ (0 : Int) ∧ 0 < (v.2.1.length : Int)) <|
 asrt (0 ≤ (0 : Int) ∧ 0 < (v.2.1.length : Int)) <|
 asrt (0 ≤ (1 : Int) ∧ 1 < (v.2.1.length : Int)) <|
 asrt (0 ≤ (1 : Int) ∧ 1 < (v.2.1.length : Int)) <|
 asrt (0 ≤ (0 : Int) ∧ 0 < (v.2.2.1.length : Int)) <|
 asrt (0 ≤ (0 : Int) ∧ 0 < (v.2.2.1.length : Int)) <|
 asrt (0 ≤ (1 : Int) ∧ 1 < (v.2.2.1.length : Int)) <|
 asrt (0 ≤ (1 : Int) ∧ 1 < (v.2.2.1.length : Int)) <|
 asrt (0 ≤ (2 : Int) ∧ 2 < (v.2.1.length : Int)) <|
 asrt (0 ≤ (2 : Int) ∧ 2 < (v.2.1.length : Int)) <|
 asrt (0 ≤ (1 : Int) ∧ 1 < (v.2.2.1.length : Int)) <|
 asrt (0 ≤ (1 : Int) ∧ 1 < (v.2.2.1.length : Int)) <|
 lt (R_CellCode (⟨(lget v.2.1 0), (lget v.2.1 1), (lget v.2.2.1 0), decide ((lget v.2.2.1 1) = 1), (lget v.2.1 2)⟩ : Cell)) fun x =>
 if ((decide (1 < (lget v.2.2.1 1))) || (!decide (x = 0))) = true then
  some ((⟨([] : List UInt8), ([] : List UInt8), 0, false, ([] : List UInt8)⟩ : Cell), 0)
 else
  some ((⟨(lget v.2.1 0), (lget v.2.1 1), (lget v.2.2.1 0), decide ((lget v.2.2.1 1) = 1), (lget v.2.1 2)⟩ : Cell), v.2.2.2)
noncomputable def R_CellAt_J2 (v1 : Cell × List (List UInt8) × List Int × Int × Int) (v2 : Cell × List (List UInt8) × List Int × Int) : Option ((Cell × List (List UInt8) × List Int × Int × Int) ⊕ (Cell × Int)) :=
 some (Sum.inl (v2.1, v2.2.1, v2.2.2.1, v2.2.2.2, w64 (v1.2.2.2.2 + 1)))
noncomputable def R_CellAt_B1 (b : List UInt8) (v1 : Cell × List (List UInt8) × List Int × Int × Int) : Option ((Cell × List (List UInt8) × List Int × Int × Int) ⊕ (Cell × Int)) :=
 if (decide (v1.2.2.2.2 < 5)) = true then
  asrt (0 ≤ v1.2.2.2.1 ∧ v1.2.2.2.1 ≤ (b.length : Int)) <|
  ob (R_NumberAt (ldrop b v1.2.2.2.1)) fun x1 =>
  if (decide (x1.2 = 0)) = true then
   some (Sum.inr ((⟨([] : List UInt8), ([] : List UInt8), 0, false, ([] : List UInt8)⟩ : Cell), 0))
  else
   if ((decide (v1.2.2.2.2 = 2)) || (decide (v1.2.2.2.2 = 3))) = true then
    asrt (((v1.2.2.1 ++ ([x1.1] : List Int)).length : Int) * 8 ≤ 140737488351232) <|
    R_CellAt_J2 v1 (v1.1, v1.2.1, (v1.2.2.1 ++ ([x1.1] : List Int)), w64 (v1.2.2.2.1 + x1.2))
   else
    if (decide ((w64 ((b.length : Int) - (w64 (v1.2.2.2.1 + x1.2)))) < x1.1)) = true then
     some (Sum.inr ((⟨([] : List UInt8), ([] : List UInt8), 0, false, ([] : List UInt8)⟩ : Cell), 0))
    else
     asrt (0 ≤ w64 (v1.2.2.2.1 + x1.2) ∧ w64 (v1.2.2.2.1 + x1.2) ≤ w64 ((w64 (v1.2.2.2.1 + x1.2)) + x1.1) ∧ w64 ((w64 (v1.2.2.2.1 + x1.2)) + x1.1) ≤ (b.length : Int)) <|
     asrt (((v1.2.1 ++ ([(ldrop (ltake b (w64 ((w64 (v1.2.2.2.1 + x1.2)) + x1.1))) (w64 (v1.2.2.2.1 + x1.2)))] : List (List UInt8))).length : Int) * 16 ≤ 140737488351232) <|
     lt ((v1.2.1 ++ ([(ldrop (ltake b (w64 ((w64 (v1.2.2.2.1 + x1.2)) + x1.1))) (w64 (v1.2.2.2.1 + x1.2)))] : List (List UInt8)))) fun (v3 : List (List UInt8)) =>
     R_CellAt_J2 v1 (v1.1, v3, v1.2.2.1, w64 ((w64 (v1.2.2.2.1 + x1.2)) + x1.1))
 else
  inrO (R_CellAt_J1 (v1.1, v1.2.1, v1.2.2.1, v1.2.2.2.1))
noncomputable def R_CellAt_L1 (b : List UInt8) (v0 : Cell × List (List UInt8) × List Int × Int × Int) : Option (Cell × Int) :=
 loopO (fun y => R_CellAt_B1 b y) v0
noncomputable def R_CellAt (b : List UInt8) : Option (Cell × Int) :=
 R_CellAt_L1 b ((⟨([] : List UInt8), ([] : List UInt8), 0, false, ([] : List UInt8)⟩ : Cell), ([] : List (List UInt8)), ([] : List Int), 0, 0)

/- tabularyref.Ahead -/
noncomputable def R_Ahead (a0 : Cell) (b : Cell) : Bool :=
 if (!decide (a0.Row = b.Row)) = true then
  Op.bytesLess a0.Row b.Row
 else
  if (!decide (a0.Col = b.Col)) = true then
   Op.bytesLess a0.Col b.Col
  else
   decide (b.Time < a0.Time)

/- tabularyref.CellsFault -/
noncomputable def R_CellsFault_J1 (v : Fault) : Option Fault :=
 some (⟨0, 0⟩ : Fault)
noncomputable def R_CellsFault_B1 (l : List Cell) (v1 : Fault × Int) : Option ((Fault × Int) ⊕ Fault) :=
 if (decide (v1.2 < (l.length : Int))) = true then
  asrt (0 ≤ v1.2 ∧ v1.2 < (l.length : Int)) <|
  lt (R_CellCode (⟨(lget l v1.2).Row, (lget l v1.2).Col, (lget l v1.2).Time, (lget l v1.2).Gone, (lget l v1.2).Value⟩ : Cell)) fun x1 =>
  if (!decide (x1 = 0)) = true then
   lt (R_F x1 v1.2) fun x2 =>
   some (Sum.inr x2)
  else
   asrt ((decide (0 < v1.2)) = true → 0 ≤ w64 (v1.2 - 1) ∧ w64 (v1.2 - 1) < (l.length : Int)) <|
   asrt ((decide (0 < v1.2)) = true → 0 ≤ v1.2 ∧ v1.2 < (l.length : Int)) <|
   lt (R_Ahead (⟨(lget l (w64 (v1.2 - 1))).Row, (lget l (w64 (v1.2 - 1))).Col, (lget l (w64 (v1.2 - 1))).Time, (lget l (w64 (v1.2 - 1))).Gone, (lget l (w64 (v1.2 - 1))).Value⟩ : Cell) (⟨(lget l v1.2).Row, (lget l v1.2).Col, (lget l v1.2).Time, (lget l v1.2).Gone, (lget l v1.2).Value⟩ : Cell)) fun x3 =>
   if ((decide (0 < v1.2)) && (!x3)) = true then
    lt (R_F 10 v1.2) fun x4 =>
    some (Sum.inr x4)
   else
    some (Sum.inl (v1.1, w64 (v1.2 + 1)))
 else
  inrO (R_CellsFault_J1 v1.1)
noncomputable def R_CellsFault_L1 (l : List Cell) (v0 : Fault × Int) : Option Fault :=
 loopO (fun y => R_CellsFault_B1 l y) v0
noncomputable def R_CellsFault (l : List Cell) : Option Fault :=
 if (decide (1000 < (l.length : Int))) = true then
  lt (R_F 2 0) fun x =>
  some x
 else
  R_CellsFault_L1 l ((⟨0, 0⟩ : Fault), 0)

/- tabularyref.CellsOf -/
noncomputable def R_CellsOf_J1 (v : Fault × List Cell) : Option (List Cell × Fault) :=
 ob (R_CellsFault v.2) fun x1 =>
 if (!decide (x1.Code = 0)) = true then
  some (([] : List Cell), x1)
 else
  some (v.2, (⟨0, 0⟩ : Fault))
noncomputable def R_CellsOf_B1 (v1 : List UInt8 × Fault × List Cell) : Option ((List UInt8 × Fault × List Cell) ⊕ (List Cell × Fault)) :=
 if (decide (0 < (v1.1.length : Int))) = true then
  ob (R_CellAt v1.1) fun x2 =>
  if (decide (x2.2 = 0)) = true then
   lt (R_F 5 (v1.2.2.length : Int)) fun x3 =>
   some (Sum.inr (([] : List Cell), x3))
  else
   asrt (((v1.2.2 ++ [x2.1]).length : Int) * 64 ≤ 140737488351232) <|
   asrt (0 ≤ x2.2 ∧ x2.2 ≤ (v1.1.length : Int)) <|
   some (Sum.inl ((ldrop v1.1 x2.2), v1.2.1, (v1.2.2 ++ [x2.1])))
 else
  inrO (R_CellsOf_J1 (v1.2.1, v1.2.2))
noncomputable def R_CellsOf_L1 (v0 : List UInt8 × Fault × List Cell) : Option (List Cell × Fault) :=
 loopO (fun y => R_CellsOf_B1 y) v0
noncomputable def R_CellsOf (b : List UInt8) : Option (List Cell × Fault) :=
 if (decide (60000 < (b.length : Int))) = true then
  lt (R_F 8 0) fun x =>
  some (([] : List Cell), x)
 else
  R_CellsOf_L1 (b, (⟨0, 0⟩ : Fault), ([] : List Cell))

/- tabularyref.NoteFault -/
noncomputable def R_NoteFault (num : Note) : Option Fault :=
 if ((decide (num.Seq < 1)) || (decide (1000000000 < num.Seq))) = true then
  lt (R_F 3 (-1)) fun x =>
  some x
 else
  if ((decide ((num.Cells.length : Int) = 0)) || (decide (20 < (num.Cells.length : Int)))) = true then
   lt (R_F 2 (-1)) fun x1 =>
   some x1
  else
   ob (R_CellsFault num.Cells) fun x2 =>
   some x2

/- tabularyref.NoteOf -/
noncomputable def R_NoteOf (b : List UInt8) : Option (Int × List Cell × Fault) :=
 if (decide (60000 < (b.length : Int))) = true then
  lt (R_F 8 0) fun x =>
  some (0, ([] : List Cell), x)
 else
  ob (R_NumberAt b) fun x1 =>
  if (decide (x1.2 = 0)) = true then
   lt (R_F 5 (-1)) fun x2 =>
   some (0, ([] : List Cell), x2)
  else
   asrt (0 ≤ x1.2 ∧ x1.2 ≤ (b.length : Int)) <|
   ob (R_CellsOf (ldrop b x1.2)) fun x3 =>
   if (!decide (x3.2.Code = 0)) = true then
    some (0, ([] : List Cell), x3.2)
   else
    ob (R_NoteFault (⟨x1.1, x3.1⟩ : Note)) fun x4 =>
    if (!decide (x4.Code = 0)) = true then
     some (0, ([] : List Cell), x4)
    else
     some (x1.1, x3.1, (⟨0, 0⟩ : Fault))

/- tabularyref.Logged -/
noncomputable def R_Logged_v1_J1 (v : List Note × Int) : Option (List Note × Int) :=
 some (v.1, v.2)
noncomputable def R_Logged_v1_B1 (x : List (List UInt8) × Int) (v1 : List Note × Int × Int) : Option ((List Note × Int × Int) ⊕ (List Note × Int)) :=
 if (decide (v1.2.2 < (x.1.length : Int))) = true then
  asrt (0 ≤ v1.2.2 ∧ v1.2.2 < (x.1.length : Int)) <|
  asrt (0 ≤ v1.2.2 ∧ v1.2.2 < (x.1.length : Int)) <|
  ob (R_NoteOf (lget x.1 v1.2.2)) fun x1 =>
  asrt ((decide (0 < v1.2.2)) = true → (!(!decide (x1.2.2.Code = 0))) = true → 0 ≤ w64 (v1.2.2 - 1) ∧ w64 (v1.2.2 - 1) < (v1.1.length : Int)) <|
  asrt ((decide (0 < v1.2.2)) = true → (!(!decide (x1.2.2.Code = 0))) = true → 0 ≤ w64 (v1.2.2 - 1) ∧ w64 (v1.2.2 - 1) < (v1.1.length : Int)) <|
  if ((!decide (x1.2.2.Code = 0)) || ((decide (0 < v1.2.2)) && (!decide ((w64 (x1.1 - 1)) = ((lget v1.1 (w64 (v1.2.2 - 1))).Seq))))) = true then
   inrO (R_Logged_v1_J1 (v1.1, v1.2.1))
  else
   asrt (((v1.1 ++ [(⟨x1.1, x1.2.1⟩ : Note)]).length : Int) * 32 ≤ 140737488351232) <|
   asrt (0 ≤ v1.2.2 ∧ v1.2.2 < (x.1.length : Int)) <|
   asrt (0 ≤ v1.2.2 ∧ v1.2.2 < (x.1.length : Int)) <|
   some (Sum.inl ((v1.1 ++ [(⟨x1.1, x1.2.1⟩ : Note)]), w64 ((w64 (v1.2.1 + 6)) + ((lget x.1 v1.2.2).length : Int)), w64 (v1.2.2 + 1)))
 else
  inrO (R_Logged_v1_J1 (v1.1, v1.2.1))
noncomputable def R_Logged_v1_L1 (x : List (List UInt8) × Int) (v0 : List Note × Int × Int) : Option (List Note × Int) :=
 loopO (fun y => R_Logged_v1_B1 x y) v0
noncomputable def R_Logged_v1 (b : List UInt8) : Option (List Note × Int) :=
 ob (R_Unframed b) fun x =>
 R_Logged_v1_L1 x (([] : List Note), 0, 0)

/- tabularyref.Written -/
noncomputable def R_Written (s0 : List UInt8) : Option (List UInt8) :=
 ob (R_Number (s0.length : Int)) fun x =>
 asrt (((x ++ s0).length : Int) * 1 ≤ 140737488351232) <|
 some (x ++ s0)

/- tabularyref.CellBytes -/
noncomputable def R_CellBytes (c : Cell) : Option (List UInt8) :=
 ob (R_Written c.Row) fun x =>
 ob (R_Written c.Col) fun x1 =>
 asrt (((x ++ x1).length : Int) * 1 ≤ 140737488351232) <|
 ob (R_Number c.Time) fun x2 =>
 asrt ((((x ++ x1) ++ x2).length : Int) * 1 ≤ 140737488351232) <|
 ob (
  if c.Gone = true then
   asrt (((((x ++ x1) ++ x2) ++ ([(1 : UInt8)] : List UInt8)).length : Int) * 1 ≤ 140737488351232) <|
   some (c, (((x ++ x1) ++ x2) ++ ([(1 : UInt8)] : List UInt8)))
  else
   asrt (((((x ++ x1) ++ x2) ++ ([(0 : UInt8)] : List UInt8)).length : Int) * 1 ≤ 140737488351232) <|
   some (c, (((x ++ x1) ++ x2) ++ ([(0 : UInt8)] : List UInt8)))) fun (v : Cell × List UInt8) =>
 ob (R_Written v.1.Value) fun x3 =>
 asrt (((v.2 ++ x3).length : Int) * 1 ≤ 140737488351232) <|
 some (v.2 ++ x3)

/- tabularyref.NoteBytes -/
noncomputable def R_NoteBytes_v1_J1 (v : List UInt8) : Option (List UInt8) :=
 some v
noncomputable def R_NoteBytes_v1_B1 (v1 : Note × List UInt8 × Int) : Option ((Note × List UInt8 × Int) ⊕ (List UInt8)) :=
 if (decide (v1.2.2 < (v1.1.Cells.length : Int))) = true then
  asrt (0 ≤ v1.2.2 ∧ v1.2.2 < (v1.1.Cells.length : Int)) <|
  ob (R_CellBytes (⟨(lget v1.1.Cells v1.2.2).Row, (lget v1.1.Cells v1.2.2).Col, (lget v1.1.Cells v1.2.2).Time, (lget v1.1.Cells v1.2.2).Gone, (lget v1.1.Cells v1.2.2).Value⟩ : Cell)) fun x1 =>
  asrt (((v1.2.1 ++ x1).length : Int) * 1 ≤ 140737488351232) <|
  some (Sum.inl (v1.1, (v1.2.1 ++ x1), w64 (v1.2.2 + 1)))
 else
  inrO (R_NoteBytes_v1_J1 v1.2.1)
noncomputable def R_NoteBytes_v1_L1 (v0 : Note × List UInt8 × Int) : Option (List UInt8) :=
 loopO (fun y => R_NoteBytes_v1_B1 y) v0
noncomputable def R_NoteBytes_v1 (num : Note) : Option (List UInt8) :=
 ob (R_Number num.Seq) fun x =>
 R_NoteBytes_v1_L1 (num, x, 0)

/- tabularyref.Framed -/
noncomputable def R_Framed_v1 (body : List UInt8) : Option (List UInt8) :=
 asrt (((([toU8 (w64 (Int.tdiv (body.length : Int) 256)), toU8 (Int.tmod (body.length : Int) 256)] : List UInt8) ++ body).length : Int) * 1 ≤ 140737488351232) <|
 lt ((([toU8 (w64 (Int.tdiv (body.length : Int) 256)), toU8 (Int.tmod (body.length : Int) 256)] : List UInt8) ++ body)) fun (v : List UInt8) =>
 ob (R_Rest v) fun x =>
 asrt (((v ++ ([toU8 (IntKind.u32.wrap (Int.tdiv x 16777216)), toU8 (Int.tmod (IntKind.u32.wrap (Int.tdiv x 65536)) 256), toU8 (Int.tmod (IntKind.u32.wrap (Int.tdiv x 256)) 256), toU8 (Int.tmod x 256)] : List UInt8)).length : Int) * 1 ≤ 140737488351232) <|
 lt ((v ++ ([toU8 (IntKind.u32.wrap (Int.tdiv x 16777216)), toU8 (Int.tmod (IntKind.u32.wrap (Int.tdiv x 65536)) 256), toU8 (Int.tmod (IntKind.u32.wrap (Int.tdiv x 256)) 256), toU8 (Int.tmod x 256)] : List UInt8))) fun (v1 : List UInt8) =>
 some v1

/- tabularylaw.WalLogs$1 -/
noncomputable def law_WalLogs_1_v1 (box : Disk) (box1 : List UInt8) : Option Disk :=
 ob (law_ownBytes box.Bytes) fun x =>
 asrt (((x ++ box1).length : Int) * 1 ≤ 140737488351232) <|
 some (⟨(x ++ box1), box.Kept⟩ : Disk)

/- tabularylaw.diskAs -/
noncomputable def law_diskAs (d : Disk) (f : Fault) (w0 : Fault) (box : Disk) (box1 : List UInt8) : Option Bool :=
 if (!(decide (f.Code = w0.Code) && (decide (f.At = w0.At) && true))) = true then
  some false
 else
  if (!decide (w0.Code = 0)) = true then
   lt (R_SameDisk d (⟨([] : List UInt8), 0⟩ : Disk)) fun x =>
   some x
  else
   ob (law_WalLogs_1_v1 box box1) fun x1 =>
   lt (R_SameDisk d x1) fun x2 =>
   some x2

/- tabularyref.SameNotes -/
noncomputable def R_SameNotes_J1 (v : Unit) : Option Bool :=
 some true
noncomputable def R_SameNotes_B1 (a0 : List Note) (b : List Note) (v1 : Int) : Option (Int ⊕ Bool) :=
 if (decide (v1 < (a0.length : Int))) = true then
  asrt (0 ≤ v1 ∧ v1 < (a0.length : Int)) <|
  asrt (0 ≤ v1 ∧ v1 < (b.length : Int)) <|
  ob (R_SameNote (⟨(lget a0 v1).Seq, (lget a0 v1).Cells⟩ : Note) (⟨(lget b v1).Seq, (lget b v1).Cells⟩ : Note)) fun x =>
  if (!x) = true then
   some (Sum.inr false)
  else
   some (Sum.inl (w64 (v1 + 1)))
 else
  inrO (R_SameNotes_J1 ())
noncomputable def R_SameNotes_L1 (a0 : List Note) (b : List Note) (v0 : Int) : Option Bool :=
 loopO (fun y => R_SameNotes_B1 a0 b y) v0
noncomputable def R_SameNotes (a0 : List Note) (b : List Note) : Option Bool :=
 if (!decide ((a0.length : Int) = (b.length : Int))) = true then
  some false
 else
  R_SameNotes_L1 a0 b 0
theorem R_SameNotes_ok (a0 : List Note) (b : List Note) (r : Bool) (hF : R_SameNotes a0 b = some r) : Pe Try.prog 37 S.none [.sl 2 (a0.map e_Note), .sl 2 (b.map e_Note)] (.bool r) S.none := by
 refine PeN 27 [.tmp 4] [4] Ty.ok Fn.b37 Try.func37 ?_
 intro Q g hfin
 unfold R_SameNotes at hF
 refine NR [] [0, 1] [] [] [] .nil ?_
 refine NR [.nat (a0.length : Int), .nat (b.length : Int)] [0, 1, 10] [] [] [(10, .bool (!decide ((a0.length : Int) = (b.length : Int))))] (hc (len_ok e_Note a0) (hc (len_ok e_Note b) .nil)) ?_
 refine Nif hF (fun hb hF => ?_) (fun hb hF => ?_)
 ·refine NR [] [4] [] [] [(4, .bool false)] .nil ?_
  cases hF
  exact Wk_ret (hfin _ ⟨[], [], [], [], [], [], by kernel_rfl⟩)
 ·refine NR [] [0, 1, 5] [] [] [(5, .i 0)] .nil ?_
  refine NmeetP (fun v : Unit => (S.none : S)) (fun v => R_SameNotes_J1 v = some r) ?_ ?_
  ·refine Nblk ?_
   unfold R_SameNotes_L1 at hF
   refine Niter (fun v1 : Int => (⟨[(0, .sl 2 (a0.map e_Note)), (1, .sl 2 (b.map e_Note)), (5, .i v1)], [], [], [], []⟩ : S)) [] hF (by kernel_rfl) ?_
   intro n1 v1 y1 hF ih1 dn1
   unfold R_SameNotes_B1 at hF
   refine NR [.nat (a0.length : Int)] [0, 1, 5, 14] [] [] [(14, .bool (decide (v1 < (a0.length : Int))))] (hc (len_ok e_Note a0) .nil) ?_
   refine Nif hF (fun hb hF => ?_) (fun hb hF => ?_)
   ·refine Nblk ?_
    obtain ⟨h0, h1, hF⟩ := asrt2 hF
    obtain ⟨x, h2, hF⟩ := ob_elim hF
    refine ND [.av (e_Note (lget a0 v1)), .av (e_Note (lget b v1)), .callB (.bool x)] [0, 1, 5, 26] [] [] [(26, .bool (!x))] (hc (idx_ok e_Note h0) (hc (idx_ok e_Note h1) (hc (R_SameNote_ok (⟨(lget a0 v1).Seq, (lget a0 v1).Cells⟩ : Note) (⟨(lget b v1).Seq, (lget b v1).Cells⟩ : Note) x h2) .nil))) ?_
    refine Nif hF (fun hb hF => ?_) (fun hb hF => ?_)
    ·refine NR [] [4] [] [] [(4, .bool false)] .nil ?_
     have hF := ret_done hF dn1
     cases hF
     exact Wk_ret (hfin _ ⟨[], [], [], [], [], [], by kernel_rfl⟩)
    ·refine NR [] [0, 1, 5] [] [] [(5, .i (w64 (v1 + 1)))] .nil ?_
     exact Nrnd [] hF ih1 (by kernel_rfl)
   ·refine Nexit rfl ?_
    have hF := inrO_done hF dn1
    exact metP () [] hF (by kernel_rfl)
  ·intro v hF
   have hF : R_SameNotes_J1 v = some r := hF
   unfold R_SameNotes_J1 at hF
   refine NR [] [4] [] [] [(4, .bool true)] .nil ?_
   cases hF
   exact Wk_ret (hfin _ ⟨[], [], [], [], [], [], by kernel_rfl⟩)

/- tabularylaw.WalLogs -/
noncomputable def law_WalLogs (d : Disk) (num : Note) : Option Bool :=
 ob (law_walBegun) fun x =>
 if (!x) = true then
  some false
 else
  lt (law_many (num.Cells.length : Int)) fun x1 =>
  if (x1 || (decide (100000 < (d.Bytes.length : Int)))) = true then
   some true
  else
   ob (law_ownDisk d) fun x2 =>
   ob (law_ownNote num) fun x3 =>
   ob (wal_Log_v1 x2 x3) fun x4 =>
   ob (wal_Replay_v1 x2) fun x5 =>
   lt (R_SameDisk x2 d) fun x6 =>
   ob (if (!(!x6)) = true then (R_SameNote x3 num) else some default) fun x7 =>
   if ((!x6) || (!x7)) = true then
    some false
   else
    lt (R_DiskFault d) fun x8 =>
    if (!decide (x8.Code = 0)) = true then
     lt (R_SameDisk x4.1 (⟨([] : List UInt8), 0⟩ : Disk)) fun x9 =>
     lt (R_SameDisk x5.1 (⟨([] : List UInt8), 0⟩ : Disk)) fun x10 =>
     lt (((((decide (x4.2.Code = x8.Code) && (decide (x4.2.At = x8.At) && true)) && (decide (x5.2.2.Code = x8.Code) && (decide (x5.2.2.At = x8.At) && true))) && x9) && x10) && (decide ((x5.2.1.length : Int) = 0))) fun (v : Bool) =>
     some v
    else
     ob (R_Logged_v1 d.Bytes) fun x11 =>
     ob (R_NoteFault num) fun x12 =>
     ob (
      if (decide (x12.Code = 0)) = true then
       ob (R_NoteBytes_v1 num) fun x13 =>
       ob (R_Framed_v1 x13) fun x14 =>
       asrt ((decide (0 < (x11.1.length : Int))) = true → (!(!decide (x11.2 = (d.Bytes.length : Int)))) = true → 0 ≤ w64 ((x11.1.length : Int) - 1) ∧ w64 ((x11.1.length : Int) - 1) < (x11.1.length : Int)) <|
       if ((!decide (x11.2 = (d.Bytes.length : Int))) || ((decide (0 < (x11.1.length : Int))) && (!decide (((lget x11.1 (w64 ((x11.1.length : Int) - 1))).Seq) = (w64 (num.Seq - 1)))))) = true then
        lt (R_F 11 0) fun x15 =>
        some (d, x4.1, x4.2, x5.1, x5.2.2, x15, x14)
       else
        if (decide (60000 < (w64 ((d.Bytes.length : Int) + (x14.length : Int))))) = true then
         lt (R_F 9 0) fun x16 =>
         some (d, x4.1, x4.2, x5.1, x5.2.2, x16, x14)
        else
         some (d, x4.1, x4.2, x5.1, x5.2.2, x12, x14)
      else
       some (d, x4.1, x4.2, x5.1, x5.2.2, x12, ([] : List UInt8))) fun (v1 : Disk × Disk × Fault × Disk × Fault × Fault × List UInt8) =>
     ob (law_diskAs v1.2.1 v1.2.2.1 v1.2.2.2.2.2.1 v1.1 v1.2.2.2.2.2.2) fun x17 =>
     if (!x17) = true then
      some false
     else
      if (decide (1000 < (x11.1.length : Int))) = true then
       lt (R_F 2 0) fun x18 =>
       lt (R_SameDisk v1.2.2.2.1 (⟨([] : List UInt8), 0⟩ : Disk)) fun x19 =>
       lt (((decide (v1.2.2.2.2.1.Code = x18.Code) && (decide (v1.2.2.2.2.1.At = x18.At) && true)) && x19) && (decide ((x5.2.1.length : Int) = 0))) fun (v2 : Bool) =>
       some v2
      else
       ob (if (decide (v1.2.2.2.2.1.Code = 0)) = true then (R_SameNotes x5.2.1 x11.1) else some default) fun x20 =>
       asrt (((decide (v1.2.2.2.2.1.Code = 0)) && x20) = true → 0 ≤ x11.2 ∧ x11.2 ≤ (v1.1.Bytes.length : Int)) <|
       lt (R_SameDisk v1.2.2.2.1 (⟨(ltake v1.1.Bytes x11.2), x11.2⟩ : Disk)) fun x21 =>
       some (((decide (v1.2.2.2.2.1.Code = 0)) && x20) && x21)

/- disk.Copy -/
noncomputable def disk_Copy (d : Disk) : Option (List UInt8 × Int) :=
 ob (slices_Clone_byte_byte d.Bytes) fun x =>
 some (x, d.Kept)
theorem disk_Copy_ok (d : Disk) (r : List UInt8 × Int) (hF : disk_Copy d = some r) : Pe Try.prog 97 S.none [.agg (c_Disk d)] (.agg [.row 5 0, .i r.2]) ⟨[], [], [(5, .o 5 1 0 (r.1.map e_u8))], [], []⟩ := by
 refine PeN 9 [.cell 2 66] [66] Ty.ok Fn.b97 Try.func97 ?_
 intro Q g hfin
 unfold disk_Copy at hF
 refine VR [] [1, 2] [1, 2] [] [] [(1, .ptr 1 0), (2, .ptr 2 0)] [(1, (c_Disk d)), (2, [.nils, .i 0])] [] [] .nil ?_
 obtain ⟨x, h0, hF⟩ := ob_elim hF
 refine VD [.callE [] [] [] [] (.row 5 0) ⟨[], [], [(5, .o 5 1 0 (x.map e_u8))], [], []⟩] [2] [2] [5] [] [] [(2, [.row 5 0, .i d.Kept])] [(5, .o 5 1 0 (x.map e_u8))] [] (hc (Pe.ren (slices_Clone_byte_byte_ok d.Bytes x h0) ⟨[], [], [], []⟩) .nil) ?_
 cases hF
 exact Wk_ret (hfin _ ⟨[5], [], [5], [], [], [], by kernel_rfl⟩)

/- disk.Sync -/
noncomputable def disk_Sync (d : Disk) : Option (List UInt8 × Int × Fault) :=
 lt (disk_Check d) fun x =>
 if (!decide (x.Code = 0)) = true then
  some (([] : List UInt8), 0, x)
 else
  ob (disk_Copy d) fun x1 =>
  some (x1.1, (x1.1.length : Int), (⟨0, 0⟩ : Fault))
theorem disk_Sync_ok (d : Disk) (r : List UInt8 × Int × Fault) (hF : disk_Sync d = some r) : Pe Try.prog 50 S.none [.agg (c_Disk d)] (.tup [.agg [.row 14 0, .i r.2.1], .agg (c_Fault r.2.2)]) ⟨[], [], [(14, .o 5 1 0 (r.1.map e_u8))], [], []⟩ := by
 refine PeN 21 [.cell 2 66, .cell 3 31] [66, 31] Ty.ok Fn.b50 Try.func50 ?_
 intro Q g hfin
 unfold disk_Sync at hF
 refine VR [] [1, 2, 3] [1, 2, 3] [] [] [(1, .ptr 1 0), (2, .ptr 2 0), (3, .ptr 3 0)] [(1, (c_Disk d)), (2, [.nils, .i 0]), (3, [.i 0, .i 0])] [] [] .nil ?_
 obtain ⟨x, h0, hF⟩ := lt_split hF
 refine VR [.callB (.agg (c_Fault x))] [1, 2, 3, 4] [1, 2, 3, 4] [] [] [(4, .ptr 4 0)] [(4, (c_Fault x))] [] [] (hc (disk_Check_ok d x h0) .nil) ?_
 refine NR [] [1, 2, 3, 4, 10] [1, 2, 3, 4] [] [(10, .bool (!decide (x.Code = 0)))] .nil ?_
 refine Nif hF (fun hb hF => ?_) (fun hb hF => ?_)
 ·refine VD [] [2, 3] [2, 3] [] [] [] [(3, (c_Fault x))] [] [] .nil ?_
  cases hF
  refine Wk_nilrowB 2 0 60000 5 1 rfl rfl rfl rfl rfl ?_
  refine Wk_ren' ⟨[], [(60000, 14)], [], []⟩ rfl ?_
  exact Wk_ret (hfin _ ⟨[14], [], [14], [], [], [(14, ⟨0, true, false, false⟩)], by kernel_rfl⟩)
 ·obtain ⟨x1, h1, hF⟩ := ob_elim hF
  refine VR [.callE [] [] [] [] (.agg [.row 14 0, .i x1.2]) ⟨[], [], [(14, .o 5 1 0 (x1.1.map e_u8))], [], []⟩] [2, 3, 5] [2, 3, 5] [14] [] [(5, .ptr 5 0)] [(5, [.row 14 0, .i x1.2])] [(14, .o 5 1 0 (x1.1.map e_u8))] [] (hc (Pe.ren (disk_Copy_ok d x1 h1) ⟨[], [(5, 14)], [], []⟩) .nil) ?_
  refine VR [.nat (x1.1.length : Int)] [2, 3, 5] [2, 3, 5] [14] [] [] [(5, [.row 14 0, .i (x1.1.length : Int)])] [] [] (hc (len_ok e_u8 x1.1) .nil) ?_
  refine VR [] [2, 3] [2, 3] [14] [] [] [(2, [.row 14 0, .i (x1.1.length : Int)])] [] [] .nil ?_
  cases hF
  exact Wk_ret (hfin _ ⟨[14], [], [14], [], [], [], by kernel_rfl⟩)

/- disk.cut -/
noncomputable def disk_cut (d : Disk) (num : Int) : Option (List UInt8 × Int) :=
 asrt (0 ≤ num ∧ num ≤ (d.Bytes.length : Int)) <|
 ob (slices_Clone_byte_byte (ltake d.Bytes num)) fun x =>
 some (x, num)
theorem disk_cut_ok (d : Disk) (num : Int) (r : List UInt8 × Int) (hF : disk_cut d num = some r) : Pe Try.prog 99 S.none [.agg (c_Disk d), .i num] (.agg [.row 9 0, .i r.2]) ⟨[], [], [(9, .o 5 1 0 (r.1.map e_u8))], [], []⟩ := by
 refine PeN 12 [.cell 4 66] [66] Ty.ok Fn.b99 Try.func99 ?_
 intro Q g hfin
 unfold disk_cut at hF
 refine VR [] [1, 2, 4] [2, 4] [] [] [(2, .ptr 2 0), (4, .ptr 4 0)] [(2, (c_Disk d)), (4, [.nils, .i 0])] [] [] .nil ?_
 obtain ⟨h0, hF⟩ := asrt_elim hF
 obtain ⟨x, h1, hF⟩ := ob_elim hF
 refine VR [.xs ((ltake d.Bytes num).map e_u8), .callE [] [] [] [] (.row 9 0) ⟨[], [], [(9, .o 5 1 0 (x.map e_u8))], [], []⟩] [4] [4] [9] [] [] [(4, [.row 9 0, .i num])] [(9, .o 5 1 0 (x.map e_u8))] [] (hc (sl01_ok e_u8 h0) (hc (Pe.ren (slices_Clone_byte_byte_ok (ltake d.Bytes num) x h1) ⟨[], [(5, 9)], [], []⟩) .nil)) ?_
 cases hF
 exact Wk_ret (hfin _ ⟨[9], [], [9], [], [], [], by kernel_rfl⟩)

/- disk.Crash -/
noncomputable def disk_Crash (d : Disk) (num : Int) : Option (List UInt8 × Int × Fault) :=
 lt (disk_Check d) fun x =>
 if (!decide (x.Code = 0)) = true then
  some (([] : List UInt8), 0, x)
 else
  if ((decide (num < 0)) || (decide ((w64 ((d.Bytes.length : Int) - d.Kept)) < num))) = true then
   lt (disk_fault 3 (-1)) fun x1 =>
   some (([] : List UInt8), 0, x1)
  else
   ob (disk_cut d (w64 (d.Kept + num))) fun x2 =>
   some (x2.1, x2.2, (⟨0, 0⟩ : Fault))
theorem disk_Crash_ok (d : Disk) (num : Int) (r : List UInt8 × Int × Fault) (hF : disk_Crash d num = some r) : Pe Try.prog 51 S.none [.agg (c_Disk d), .i num] (.tup [.agg [.row 33 0, .i r.2.1], .agg (c_Fault r.2.2)]) ⟨[], [], [(33, .o 5 1 0 (r.1.map e_u8))], [], []⟩ := by
 refine PeN 35 [.cell 4 66, .cell 5 31] [66, 31] Ty.ok Fn.b51 Try.func51 ?_
 intro Q g hfin
 unfold disk_Crash at hF
 refine VR [] [1, 2, 4, 5] [2, 4, 5] [] [] [(2, .ptr 2 0), (4, .ptr 4 0), (5, .ptr 5 0)] [(2, (c_Disk d)), (4, [.nils, .i 0]), (5, [.i 0, .i 0])] [] [] .nil ?_
 obtain ⟨x, h0, hF⟩ := lt_split hF
 refine VR [.callB (.agg (c_Fault x))] [1, 2, 4, 5, 6] [2, 4, 5, 6] [] [] [(6, .ptr 6 0)] [(6, (c_Fault x))] [] [] (hc (disk_Check_ok d x h0) .nil) ?_
 refine NR [] [1, 2, 4, 5, 6, 11] [2, 4, 5, 6] [] [(11, .bool (!decide (x.Code = 0)))] .nil ?_
 refine Nif hF (fun hb hF => ?_) (fun hb hF => ?_)
 ·refine VD [] [4, 5] [4, 5] [] [] [] [(5, (c_Fault x))] [] [] .nil ?_
  cases hF
  refine Wk_nilrowB 4 0 60000 5 1 rfl rfl rfl rfl rfl ?_
  refine Wk_ren' ⟨[], [(60000, 33)], [], []⟩ rfl ?_
  exact Wk_ret (hfin _ ⟨[33], [], [33], [], [], [(33, ⟨0, true, false, false⟩)], by kernel_rfl⟩)
 ·refine NR [.nat (d.Bytes.length : Int)] [1, 2, 4, 5, 25] [2, 4, 5] [] [(25, .bool ((decide (num < 0)) || (decide ((w64 ((d.Bytes.length : Int) - d.Kept)) < num))))] (hc (fun (_ : (!(decide (num < 0))) = true) => (len_ok e_u8 d.Bytes)) .nil) ?_
  refine Nif hF (fun hb hF => ?_) (fun hb hF => ?_)
  ·obtain ⟨x1, h1, hF⟩ := lt_split hF
   refine VR [.callB (.agg (c_Fault x1))] [4, 5] [4, 5] [] [] [] [(5, (c_Fault x1))] [] [] (hc (disk_fault_ok 3 (-1) x1 h1) .nil) ?_
   cases hF
   refine Wk_nilrowB 4 0 60001 5 1 rfl rfl rfl rfl rfl ?_
   refine Wk_ren' ⟨[], [(60001, 33)], [], []⟩ rfl ?_
   exact Wk_ret (hfin _ ⟨[33], [], [33], [], [], [(33, ⟨0, true, false, false⟩)], by kernel_rfl⟩)
  ·obtain ⟨x2, h2, hF⟩ := ob_elim hF
   refine VR [.callE [] [] [] [] (.agg [.row 33 0, .i x2.2]) ⟨[], [], [(33, .o 5 1 0 (x2.1.map e_u8))], [], []⟩] [4, 5] [4, 5] [33] [] [] [(4, [.row 33 0, .i x2.2])] [(33, .o 5 1 0 (x2.1.map e_u8))] [] (hc (Pe.ren (disk_cut_ok d (w64 (d.Kept + num)) x2 h2) ⟨[], [(9, 33)], [], []⟩) .nil) ?_
   cases hF
   exact Wk_ret (hfin _ ⟨[33], [], [33], [], [], [], by kernel_rfl⟩)

/- tabularylaw.ownNotes -/
noncomputable def law_ownNotes_J1 (v : List Note) : Option (List Note) :=
 some v
noncomputable def law_ownNotes_B1 (l : List Note) (v1 : List Note × Int) : Option ((List Note × Int) ⊕ (List Note)) :=
 if (decide (v1.2 < (l.length : Int))) = true then
  asrt (0 ≤ v1.2 ∧ v1.2 < (l.length : Int)) <|
  ob (law_ownNote (⟨(lget l v1.2).Seq, (lget l v1.2).Cells⟩ : Note)) fun x =>
  asrt (((v1.1 ++ [x]).length : Int) * 32 ≤ 140737488351232) <|
  some (Sum.inl ((v1.1 ++ [x]), w64 (v1.2 + 1)))
 else
  inrO (law_ownNotes_J1 v1.1)
noncomputable def law_ownNotes_L1 (l : List Note) (v0 : List Note × Int) : Option (List Note) :=
 loopO (fun y => law_ownNotes_B1 l y) v0
noncomputable def law_ownNotes (l : List Note) : Option (List Note) :=
 law_ownNotes_L1 l (([] : List Note), 0)
theorem law_ownNotes_ok (l : List Note) (r : List Note) (hF : law_ownNotes l = some r) : Pe Try.prog 35 S.none [.sl 2 (l.map e_Note)] (.row 18 0) ⟨[], [], [(18, .z 24 2 0 (r.map e_Note))], [], []⟩ := by
 refine PeN 20 [.tmp 2] [56] Ty.ok Fn.b35 Try.func35 ?_
 intro Q g hfin
 unfold law_ownNotes at hF
 refine NR [] [0] [] [] [] .nil ?_
 refine NR [] [0, 3] [] [] [(3, .nils)] .nil ?_
 refine NR [] [0, 3, 4] [] [] [(4, .i 0)] .nil ?_
 refine NmeetP (fun v : List Note => (⟨[(3, .row 18 0)], [], [(18, .z 24 2 0 (v.map e_Note))], [], []⟩ : S)) (fun v => law_ownNotes_J1 v = some r) ?_ ?_
 ·refine Nblk ?_
  unfold law_ownNotes_L1 at hF
  refine Wk_nilrow 3 60000 24 2 rfl rfl rfl ?_
  refine Wk_trim (fs := [0, 3, 4]) (bs := []) (rs := [60000]) (ms := []) (aa := []) (nv := []) rfl ?_
  refine Wk_ren' ⟨[], [(60000, 18)], [], []⟩ rfl ?_
  refine Niter (fun v1 : List Note × Int => (⟨[(0, .sl 2 (l.map e_Note)), (3, .row 18 0), (4, .i v1.2)], [], [(18, .z 24 2 0 (v1.1.map e_Note))], [], []⟩ : S)) [] hF (by kernel_rfl) ?_
  intro n1 v1 y1 hF ih1 dn1
  unfold law_ownNotes_B1 at hF
  refine NR [.nat (l.length : Int)] [0, 3, 4, 8] [] [18] [(8, .bool (decide (v1.2 < (l.length : Int))))] (hc (len_ok e_Note l) .nil) ?_
  refine Nif hF (fun hb hF => ?_) (fun hb hF => ?_)
  ·refine Nblk ?_
   obtain ⟨h0, hF⟩ := asrt_elim hF
   obtain ⟨x, h1, hF⟩ := ob_elim hF
   obtain ⟨h2, hF⟩ := asrt_elim hF
   refine VR [.av (e_Note (lget l v1.2)), .call (.agg (c_Note x)), .sealed, .xs ((v1.1 ++ [x]).map e_Note)] [0, 3, 4] [] [18] [] [(3, .row 18 1)] [] [(18, .z 24 2 1 ((v1.1 ++ [x]).map e_Note))] [] (hc (idx_ok e_Note h0) (hc (law_ownNote_ok (⟨(lget l v1.2).Seq, (lget l v1.2).Cells⟩ : Note) x h1) (hc (app_ok e_Note v1.1 [x]) (hc (appl_ok e_Note h2) .nil)))) ?_
   refine NR [] [0, 3, 4] [] [18] [(4, .i (w64 (v1.2 + 1)))] .nil ?_
   exact Nrnd [(18, ⟨0, true, true, false⟩)] hF ih1 (by kernel_rfl)
  ·refine Nexit rfl ?_
   have hF := inrO_done hF dn1
   exact metP v1.1 [] hF (by kernel_rfl)
 ·intro v hF
  have hF : law_ownNotes_J1 v = some r := hF
  unfold law_ownNotes_J1 at hF
  refine NR [] [2] [] [18] [(2, .row 18 0)] .nil ?_
  cases hF
  exact Wk_ret (hfin _ ⟨[18], [], [18], [], [], [], by kernel_rfl⟩)

/- tabularylaw.WalCrash -/
noncomputable def law_WalCrash_J1 (first : Int) (num : Int) (v : List Note × Disk × Int) : Option Bool :=
 if ((decide (v.2.1.Kept < 0)) || (decide ((v.2.1.Bytes.length : Int) < v.2.1.Kept))) = true then
  some false
 else
  asrt ((IntKind.u64.wrap (w64 ((w64 ((v.2.1.Bytes.length : Int) - v.2.1.Kept)) + 1))) ≠ 0) <|
  ob (disk_Crash v.2.1 (w64 (Int.tmod (IntKind.u64.wrap num) (IntKind.u64.wrap (w64 ((w64 ((v.2.1.Bytes.length : Int) - v.2.1.Kept)) + 1)))))) fun x1 =>
  if (!decide (x1.2.2.Code = 0)) = true then
   some false
  else
   ob (wal_Replay (⟨x1.1, x1.2.1⟩ : Disk)) fun x2 =>
   asrt ((!(((!decide (x2.2.2.2.Code = 0)) || (decide ((x2.2.2.1.length : Int) < v.2.2))) || (decide ((v.1.length : Int) < (x2.2.2.1.length : Int))))) = true → 0 ≤ (x2.2.2.1.length : Int) ∧ (x2.2.2.1.length : Int) ≤ (v.1.length : Int)) <|
   ob (if (!(((!decide (x2.2.2.2.Code = 0)) || (decide ((x2.2.2.1.length : Int) < v.2.2))) || (decide ((v.1.length : Int) < (x2.2.2.1.length : Int))))) = true then (R_SameNotes x2.2.2.1 (ltake v.1 (x2.2.2.1.length : Int))) else some default) fun x3 =>
   if (((((!decide (x2.2.2.2.Code = 0)) || (decide ((x2.2.2.1.length : Int) < v.2.2))) || (decide ((v.1.length : Int) < (x2.2.2.1.length : Int)))) || (!x3)) || (!decide (x2.2.1 = (x2.1.length : Int)))) = true then
    some false
   else
    lt (law_oneNote) fun x4 =>
    ob (wal_Log (⟨x2.1, x2.2.1⟩ : Disk) (⟨w64 (first + (x2.2.2.1.length : Int)), x4.Cells⟩ : Note)) fun x5 =>
    if (!decide (x5.2.2.Code = 0)) = true then
     some (decide (x5.2.2.Code = 9))
    else
     ob (wal_Replay (⟨x5.1, x5.2.1⟩ : Disk)) fun x6 =>
     if (decide (x6.2.2.2.Code = 0)) = true then
      ob (law_ownNotes x2.2.2.1) fun x7 =>
      asrt (((x7 ++ [(⟨w64 (first + (x2.2.2.1.length : Int)), x4.Cells⟩ : Note)]).length : Int) * 32 ≤ 140737488351232) <|
      ob (R_SameNotes x6.2.2.1 (x7 ++ [(⟨w64 (first + (x2.2.2.1.length : Int)), x4.Cells⟩ : Note)])) fun x8 =>
      some x8
     else
      some false
noncomputable def law_WalCrash_J2 (v1 : List Note × Disk × Int × Int) (v2 : List Note × List UInt8 × Int × Int) : Option ((List Note × Disk × Int × Int) ⊕ Bool) :=
 some (Sum.inl (v2.1, (⟨v2.2.1, v2.2.2.1⟩ : Disk), v2.2.2.2, w64 (v1.2.2.2 + 1)))
noncomputable def law_WalCrash_B1 (cells : List (List Cell)) (first : Int) (keeps : List Bool) (num : Int) (v1 : List Note × Disk × Int × Int) : Option ((List Note × Disk × Int × Int) ⊕ Bool) :=
 if (decide (v1.2.2.2 < (cells.length : Int))) = true then
  asrt (0 ≤ v1.2.2.2 ∧ v1.2.2.2 < (cells.length : Int)) <|
  ob (wal_Log v1.2.1 (⟨w64 (first + (v1.1.length : Int)), (lget cells v1.2.2.2)⟩ : Note)) fun x9 =>
  if (!decide (x9.2.2.Code = 0)) = true then
   law_WalCrash_J2 v1 (v1.1, v1.2.1.Bytes, v1.2.1.Kept, v1.2.2.1)
  else
   asrt (((v1.1 ++ [(⟨w64 (first + (v1.1.length : Int)), (lget cells v1.2.2.2)⟩ : Note)]).length : Int) * 32 ≤ 140737488351232) <|
   lt ((v1.1 ++ [(⟨w64 (first + (v1.1.length : Int)), (lget cells v1.2.2.2)⟩ : Note)])) fun (v3 : List Note) =>
   asrt ((decide (v1.2.2.2 < (keeps.length : Int))) = true → 0 ≤ v1.2.2.2 ∧ v1.2.2.2 < (keeps.length : Int)) <|
   if ((decide (v1.2.2.2 < (keeps.length : Int))) && (lget keeps v1.2.2.2)) = true then
    ob (disk_Sync (⟨x9.1, x9.2.1⟩ : Disk)) fun x10 =>
    if (!decide (x10.2.2.Code = 0)) = true then
     some (Sum.inr false)
    else
     law_WalCrash_J2 v1 (v3, x10.1, x10.2.1, (v3.length : Int))
   else
    law_WalCrash_J2 v1 (v3, x9.1, x9.2.1, v1.2.2.1)
 else
  inrO (law_WalCrash_J1 first num (v1.1, v1.2.1, v1.2.2.1))
noncomputable def law_WalCrash_L1 (cells : List (List Cell)) (first : Int) (keeps : List Bool) (num : Int) (v0 : List Note × Disk × Int × Int) : Option Bool :=
 loopO (fun y => law_WalCrash_B1 cells first keeps num y) v0
noncomputable def law_WalCrash (cells : List (List Cell)) (first : Int) (keeps : List Bool) (num : Int) : Option Bool :=
 ob (law_walBegun) fun x =>
 if (!x) = true then
  some false
 else
  if (((decide (200 < (cells.length : Int))) || (decide (first < 1))) || (decide (999999000 < first))) = true then
   some true
  else
   law_WalCrash_L1 cells first keeps num (([] : List Note), (⟨([] : List UInt8), 0⟩ : Disk), 0, 0)
theorem law_WalCrash_ok (cells : List (List Cell)) (first : Int) (keeps : List Bool) (num : Int) (r : Bool) (hF : law_WalCrash cells first keeps num = some r) : Pe Try.prog 8 S.none [.sl 1 (cells.map e_L_Cell), .i first, .sl 1 (keeps.map e_bool), .i num] (.bool r) S.none := by
 refine PeN 189 [.tmp 8] [4] Ty.ok Fn.b8 Try.func8 ?_
 intro Q g hfin
 unfold law_WalCrash at hF
 refine NR [] [0, 1, 2, 3] [] [] [] .nil ?_
 obtain ⟨x, h0, hF⟩ := ob_elim hF
 refine NR [.callB (.bool x)] [0, 1, 2, 3, 22] [] [] [(22, .bool (!x))] (hc (law_walBegun_ok  x h0) .nil) ?_
 refine Nif hF (fun hb hF => ?_) (fun hb hF => ?_)
 ·refine NR [] [8] [] [] [(8, .bool false)] .nil ?_
  cases hF
  exact Wk_ret (hfin _ ⟨[], [], [], [], [], [], by kernel_rfl⟩)
 ·refine NR [.nat (cells.length : Int)] [0, 1, 2, 3, 33] [] [] [(33, .bool (((decide (200 < (cells.length : Int))) || (decide (first < 1))) || (decide (999999000 < first))))] (hc (len_ok e_L_Cell cells) .nil) ?_
  refine Nif hF (fun hb hF => ?_) (fun hb hF => ?_)
  ·refine NR [] [8] [] [] [(8, .bool true)] .nil ?_
   cases hF
   exact Wk_ret (hfin _ ⟨[], [], [], [], [], [], by kernel_rfl⟩)
  ·refine NR [] [0, 1, 2, 3, 9] [] [] [(9, .nils)] .nil ?_
   refine VR [] [0, 1, 2, 3, 9, 10] [10] [] [] [(10, .ptr 10 0)] [(10, [.nils, .i 0])] [] [] .nil ?_
   refine NR [] [0, 1, 2, 3, 9, 10, 11] [10] [] [(11, .i 0)] .nil ?_
   refine NR [] [0, 1, 2, 3, 9, 10, 11, 12] [10] [] [(12, .i 0)] .nil ?_
   refine NmeetP (fun v : List Note × Disk × Int => (⟨[(1, .i first), (3, .i num), (9, .row 62 0), (10, .ptr 10 0), (11, .i v.2.2)], [(10, (c_Disk v.2.1))], [(62, .z 24 2 0 (v.1.map e_Note))], [], []⟩ : S)) (fun v => law_WalCrash_J1 first num v = some r) ?_ ?_
   ·refine Nblk ?_
    unfold law_WalCrash_L1 at hF
    refine Wk_nilrow 9 60000 24 2 rfl rfl rfl ?_
    refine Wk_coeB 10 [.sl 1 (([] : List UInt8).map e_u8), .i 0] rfl (.cons (CoeS.nils 1) (.cons (CoeS.refl _) .nil)) ?_
    refine Wk_trim (fs := [0, 1, 2, 3, 9, 10, 11, 12]) (bs := [10]) (rs := [60000]) (ms := []) (aa := []) (nv := []) rfl ?_
    refine Wk_ren' ⟨[], [(60000, 62)], [], []⟩ rfl ?_
    refine Niter (fun v1 : List Note × Disk × Int × Int => (⟨[(0, .sl 1 (cells.map e_L_Cell)), (1, .i first), (2, .sl 1 (keeps.map e_bool)), (3, .i num), (9, .row 62 0), (10, .ptr 10 0), (11, .i v1.2.2.1), (12, .i v1.2.2.2)], [(10, (c_Disk v1.2.1))], [(62, .z 24 2 0 (v1.1.map e_Note))], [], []⟩ : S)) [] hF (by kernel_rfl) ?_
    intro n1 v1 y1 hF ih1 dn1
    unfold law_WalCrash_B1 at hF
    refine NR [.nat (cells.length : Int)] [0, 1, 2, 3, 9, 10, 11, 12, 37] [10] [62] [(37, .bool (decide (v1.2.2.2 < (cells.length : Int))))] (hc (len_ok e_L_Cell cells) .nil) ?_
    refine Nif hF (fun hb hF => ?_) (fun hb hF => ?_)
    ·refine NmeetP (fun v2 : List Note × List UInt8 × Int × Int => (⟨[(0, .sl 1 (cells.map e_L_Cell)), (1, .i first), (2, .sl 1 (keeps.map e_bool)), (3, .i num), (9, .row 62 0), (10, .ptr 10 0), (11, .i v2.2.2.2), (12, .i v1.2.2.2)], [(10, [.sl 1 (v2.2.1.map e_u8), .i v2.2.2.1])], [(62, .z 24 2 0 (v2.1.map e_Note))], [], []⟩ : S)) (fun v2 => law_WalCrash_J2 v1 v2 = some y1) ?_ ?_
     ·refine Nblk ?_
      obtain ⟨h12, hF⟩ := asrt_elim hF
      refine VR [.nat (v1.1.length : Int), .av (e_L_Cell (lget cells v1.2.2.2))] [0, 1, 2, 3, 9, 10, 11, 12, 13] [10, 13] [62] [] [(13, .ptr 13 0)] [(13, [.i (w64 (first + (v1.1.length : Int))), .sl 5 ((lget cells v1.2.2.2).map e_Cell)])] [] [] (hc (len_ok e_Note v1.1) (hc (idx_ok e_L_Cell h12) .nil)) ?_
      obtain ⟨x9, h13, hF⟩ := ob_elim hF
      refine VR [.callE [] [] [] [] (.tup [.agg [.row 52 0, .i x9.2.1], .agg (c_Fault x9.2.2)]) ⟨[], [], [(52, .o 5 1 0 (x9.1.map e_u8))], [], []⟩] [0, 1, 2, 3, 9, 10, 11, 12, 13, 14, 15] [10, 13, 14, 15] [52, 62] [] [(14, .ptr 14 0), (15, .ptr 15 0)] [(14, [.row 52 0, .i x9.2.1]), (15, (c_Fault x9.2.2))] [(52, .o 5 1 0 (x9.1.map e_u8))] [] (hc (Pe.ren (wal_Log_ok v1.2.1 (⟨w64 (first + (v1.1.length : Int)), (lget cells v1.2.2.2)⟩ : Note) x9 h13) ⟨[], [(57, 52)], [], []⟩) .nil) ?_
      refine NR [] [0, 1, 2, 3, 9, 10, 11, 12, 13, 14, 15, 57] [10, 13, 14, 15] [52, 62] [(57, .bool (!decide (x9.2.2.Code = 0)))] .nil ?_
      refine Nif hF (fun hb hF => ?_) (fun hb hF => ?_)
      ·refine Nexit rfl ?_
       exact metP (v1.1, v1.2.1.Bytes, v1.2.1.Kept, v1.2.2.1) [] hF (by kernel_rfl)
      ·refine VR [] [0, 1, 2, 3, 9, 10, 11, 12, 13, 15] [10, 13, 15] [52, 62] [] [] [(10, [.row 52 0, .i x9.2.1])] [] [] .nil ?_
       obtain ⟨h14, hF⟩ := asrt_elim hF
       refine NRL ((v1.1 ++ [(⟨w64 (first + (v1.1.length : Int)), (lget cells v1.2.2.2)⟩ : Note)])) (fun v3 : List Note => ([(9, .row 62 1)], [], [(62, .z 24 2 1 (v3.map e_Note))], [])) [.sealed, .xs ((v1.1 ++ [(⟨w64 (first + (v1.1.length : Int)), (lget cells v1.2.2.2)⟩ : Note)]).map e_Note)] [0, 1, 2, 3, 9, 10, 11, 12, 15] [10, 15] [52, 62] [] (hc (app_ok e_Note v1.1 [(⟨w64 (first + (v1.1.length : Int)), (lget cells v1.2.2.2)⟩ : Note)]) (hc (appl_ok e_Note h14) .nil)) (fun v3 hv => ?_)
       have hF := lt_elim hF hv
       obtain ⟨h15, hF⟩ := asrt_elim hF
       refine NR [.nat (keeps.length : Int), .av (e_bool (lget keeps v1.2.2.2))] [0, 1, 2, 3, 9, 10, 11, 12, 15, 72] [10, 15] [52, 62] [(72, .bool ((decide (v1.2.2.2 < (keeps.length : Int))) && (lget keeps v1.2.2.2)))] (hc (len_ok e_bool keeps) (hc (fun (ga0 : (decide (v1.2.2.2 < (keeps.length : Int))) = true) => (idx_ok e_bool (h15 ga0))) .nil)) ?_
       refine Nif hF (fun hb hF => ?_) (fun hb hF => ?_)
       ·obtain ⟨x10, h16, hF⟩ := ob_elim hF
        refine VR [.callE [] [] [] [] (.tup [.agg [.row 75 0, .i x10.2.1], .agg (c_Fault x10.2.2)]) ⟨[], [], [(75, .o 5 1 0 (x10.1.map e_u8))], [], []⟩] [0, 1, 2, 3, 9, 10, 12, 15] [10, 15] [62, 75] [] [] [(10, [.row 75 0, .i x10.2.1]), (15, (c_Fault x10.2.2))] [(75, .o 5 1 0 (x10.1.map e_u8))] [] (hc (Pe.ren (disk_Sync_ok (⟨x9.1, x9.2.1⟩ : Disk) x10 h16) ⟨[], [(14, 75)], [], []⟩) .nil) ?_
        refine NR [.nat (v3.length : Int)] [0, 1, 2, 3, 9, 10, 11, 12, 15] [10, 15] [62, 75] [(11, .i (v3.length : Int))] (hc (len_ok e_Note v3) .nil) ?_
        refine NR [] [0, 1, 2, 3, 9, 10, 11, 12, 82] [10] [62, 75] [(82, .bool (!decide (x10.2.2.Code = 0)))] .nil ?_
        refine Nif hF (fun hb hF => ?_) (fun hb hF => ?_)
        ·refine NR [] [8] [] [] [(8, .bool false)] .nil ?_
         have hF := ret_done hF dn1
         cases hF
         exact Wk_ret (hfin _ ⟨[], [], [], [], [], [], by kernel_rfl⟩)
        ·refine Wk_sealBX [] 10 rfl rfl ?_
         exact metP (v3, x10.1, x10.2.1, (v3.length : Int)) [(62, ⟨0, true, true, false⟩)] hF (by kernel_rfl)
       ·refine Wk_sealBX [] 10 rfl rfl ?_
        exact metP (v3, x9.1, x9.2.1, v1.2.2.1) [(62, ⟨0, true, true, false⟩)] hF (by kernel_rfl)
     ·intro v2 hF
      have hF : law_WalCrash_J2 v1 v2 = some y1 := hF
      unfold law_WalCrash_J2 at hF
      refine NR [] [0, 1, 2, 3, 9, 10, 11, 12] [10] [62] [(12, .i (w64 (v1.2.2.2 + 1)))] .nil ?_
      exact Nrnd [] hF ih1 (by kernel_rfl)
    ·refine Nexit rfl ?_
     have hF := inrO_done hF dn1
     exact metP (v1.1, v1.2.1, v1.2.2.1) [] hF (by kernel_rfl)
   ·intro v hF
    have hF : law_WalCrash_J1 first num v = some r := hF
    unfold law_WalCrash_J1 at hF
    refine NR [.nat (v.2.1.Bytes.length : Int)] [1, 3, 9, 10, 11, 93] [10] [62] [(93, .bool ((decide (v.2.1.Kept < 0)) || (decide ((v.2.1.Bytes.length : Int) < v.2.1.Kept))))] (hc (fun (_ : (!(decide (v.2.1.Kept < 0))) = true) => (len_ok e_u8 v.2.1.Bytes)) .nil) ?_
    refine Nif hF (fun hb hF => ?_) (fun hb hF => ?_)
    ·refine NR [] [8] [] [] [(8, .bool false)] .nil ?_
     cases hF
     exact Wk_ret (hfin _ ⟨[], [], [], [], [], [], by kernel_rfl⟩)
    ·obtain ⟨h1, hF⟩ := asrt_elim hF
     obtain ⟨x1, h2, hF⟩ := ob_elim hF
     refine VD [.nat (v.2.1.Bytes.length : Int), .callE [] [] [] [] (.tup [.agg [.row 108 0, .i x1.2.1], .agg (c_Fault x1.2.2)]) ⟨[], [], [(108, .o 5 1 0 (x1.1.map e_u8))], [], []⟩] [1, 9, 10, 11, 16] [10, 16] [62, 108] [] [(16, .ptr 16 0)] [(10, [.row 108 0, .i x1.2.1]), (16, (c_Fault x1.2.2))] [(108, .o 5 1 0 (x1.1.map e_u8))] [] (hc (len_ok e_u8 v.2.1.Bytes) (hc h1 (hc (Pe.ren (disk_Crash_ok v.2.1 (w64 (Int.tmod (IntKind.u64.wrap num) (IntKind.u64.wrap (w64 ((w64 ((v.2.1.Bytes.length : Int) - v.2.1.Kept)) + 1))))) x1 h2) ⟨[], [(33, 108)], [], []⟩) .nil))) ?_
     refine NR [] [1, 9, 10, 11, 16, 113] [10, 16] [62, 108] [(113, .bool (!decide (x1.2.2.Code = 0)))] .nil ?_
     refine Nif hF (fun hb hF => ?_) (fun hb hF => ?_)
     ·refine NR [] [8] [] [] [(8, .bool false)] .nil ?_
      cases hF
      exact Wk_ret (hfin _ ⟨[], [], [], [], [], [], by kernel_rfl⟩)
     ·obtain ⟨x2, h3, hF⟩ := ob_elim hF
      refine VR [.callE [] [] [] [] (.tup [.agg [.row 20116 0, .i x2.2.1], .row 116 0, .agg (c_Fault x2.2.2.2)]) ⟨[], [], [(116, .z 24 2 0 (x2.2.2.1.map e_Note)), (20116, .o 5 1 0 (x2.1.map e_u8))], [], []⟩] [1, 9, 10, 11, 16, 17] [10, 16] [62, 116, 20116] [] [(17, .row 116 0)] [(10, [.row 20116 0, .i x2.2.1]), (16, (c_Fault x2.2.2.2))] [(116, .z 24 2 0 (x2.2.2.1.map e_Note)), (20116, .o 5 1 0 (x2.1.map e_u8))] [] (hc (Pe.ren (wal_Replay_ok (⟨x1.1, x1.2.1⟩ : Disk) x2 h3) ⟨[], [(17, 116), (29, 20116)], [], []⟩) .nil) ?_
      refine Wk_sealX [] 9 rfl rfl ?_
      obtain ⟨h4, hF⟩ := asrt_elim hF
      obtain ⟨x3, h5, hF⟩ := ob_elim hF
      refine NR [.nat (x2.2.2.1.length : Int), .nat (x2.2.2.1.length : Int), .nat (v.1.length : Int), .nat (x2.2.2.1.length : Int), .xs ((ltake v.1 (x2.2.2.1.length : Int)).map e_Note), .callB (.bool x3), .nat (x2.1.length : Int)] [1, 10, 16, 17, 152] [10, 16] [116, 20116] [(152, .bool (((((!decide (x2.2.2.2.Code = 0)) || (decide ((x2.2.2.1.length : Int) < v.2.2))) || (decide ((v.1.length : Int) < (x2.2.2.1.length : Int)))) || (!x3)) || (!decide (x2.2.1 = (x2.1.length : Int)))))] (hc (fun (_ : (!(!decide (x2.2.2.2.Code = 0))) = true) => (len_ok e_Note x2.2.2.1)) (hc (fun (_ : (!((!decide (x2.2.2.2.Code = 0)) || (decide ((x2.2.2.1.length : Int) < v.2.2)))) = true) => (len_ok e_Note x2.2.2.1)) (hc (fun (_ : (!((!decide (x2.2.2.2.Code = 0)) || (decide ((x2.2.2.1.length : Int) < v.2.2)))) = true) => (len_ok e_Note v.1)) (hc (fun (_ : (!(((!decide (x2.2.2.2.Code = 0)) || (decide ((x2.2.2.1.length : Int) < v.2.2))) || (decide ((v.1.length : Int) < (x2.2.2.1.length : Int))))) = true) => (len_ok e_Note x2.2.2.1)) (hc (fun (ga0 : (!(((!decide (x2.2.2.2.Code = 0)) || (decide ((x2.2.2.1.length : Int) < v.2.2))) || (decide ((v.1.length : Int) < (x2.2.2.1.length : Int))))) = true) => (sl01_ok e_Note (h4 ga0))) (hc (fun (ga0 : (!(((!decide (x2.2.2.2.Code = 0)) || (decide ((x2.2.2.1.length : Int) < v.2.2))) || (decide ((v.1.length : Int) < (x2.2.2.1.length : Int))))) = true) => (R_SameNotes_ok x2.2.2.1 (ltake v.1 (x2.2.2.1.length : Int)) x3 (ite_t h5 ga0))) (hc (fun (_ : (!((((!decide (x2.2.2.2.Code = 0)) || (decide ((x2.2.2.1.length : Int) < v.2.2))) || (decide ((v.1.length : Int) < (x2.2.2.1.length : Int)))) || (!x3))) = true) => (len_ok e_u8 x2.1)) .nil))))))) ?_
      refine Nif hF (fun hb hF => ?_) (fun hb hF => ?_)
      ·refine NR [] [8] [] [] [(8, .bool false)] .nil ?_
       cases hF
       exact Wk_ret (hfin _ ⟨[], [], [], [], [], [], by kernel_rfl⟩)
      ·obtain ⟨x4, h6, hF⟩ := lt_split hF
       refine VR [.call (.agg (c_Note x4))] [1, 10, 16, 17, 18] [10, 16, 18] [116, 20116] [] [(18, .ptr 18 0)] [(18, (c_Note x4))] [] [] (hc (law_oneNote_ok  x4 h6) .nil) ?_
       refine VR [.nat (x2.2.2.1.length : Int)] [10, 16, 17, 18] [10, 16, 18] [116, 20116] [] [] [(18, [.i (w64 (first + (x2.2.2.1.length : Int))), .sl 5 (x4.Cells.map e_Cell)])] [] [] (hc (len_ok e_Note x2.2.2.1) .nil) ?_
       obtain ⟨x5, h7, hF⟩ := ob_elim hF
       refine VR [.callE [] [] [] [] (.tup [.agg [.row 162 0, .i x5.2.1], .agg (c_Fault x5.2.2)]) ⟨[], [], [(162, .o 5 1 0 (x5.1.map e_u8))], [], []⟩] [10, 16, 17, 18] [10, 16, 18] [116, 162] [] [] [(10, [.row 162 0, .i x5.2.1]), (16, (c_Fault x5.2.2))] [(162, .o 5 1 0 (x5.1.map e_u8))] [] (hc (Pe.ren (wal_Log_ok (⟨x2.1, x2.2.1⟩ : Disk) (⟨w64 (first + (x2.2.2.1.length : Int)), x4.Cells⟩ : Note) x5 h7) ⟨[], [(57, 162)], [], []⟩) .nil) ?_
       refine NR [] [10, 16, 17, 18, 167] [10, 16, 18] [116, 162] [(167, .bool (!decide (x5.2.2.Code = 0)))] .nil ?_
       refine Nif hF (fun hb hF => ?_) (fun hb hF => ?_)
       ·refine NR [] [8] [] [] [(8, .bool (decide (x5.2.2.Code = 9)))] .nil ?_
        cases hF
        exact Wk_ret (hfin _ ⟨[], [], [], [], [], [], by kernel_rfl⟩)
       ·obtain ⟨x6, h8, hF⟩ := ob_elim hF
        refine VR [.callE [] [] [] [] (.tup [.agg [.row 20173 0, .i x6.2.1], .row 173 0, .agg (c_Fault x6.2.2.2)]) ⟨[], [], [(173, .z 24 2 0 (x6.2.2.1.map e_Note)), (20173, .o 5 1 0 (x6.1.map e_u8))], [], []⟩] [16, 17, 18, 20] [16, 18] [116, 173] [] [(20, .row 173 0)] [(16, (c_Fault x6.2.2.2))] [(173, .z 24 2 0 (x6.2.2.1.map e_Note))] [] (hc (Pe.ren (wal_Replay_ok (⟨x5.1, x5.2.1⟩ : Disk) x6 h8) ⟨[], [(17, 173), (29, 20173)], [], []⟩) .nil) ?_
        cases hk2 : (decide (x6.2.2.2.Code = 0))
        ·have hF := ite_f hF hk2
         refine NK [(180, false)] [] [8] [] [] [] ⟨[(8, .bool false)], [], [], [], []⟩ (hc hk2 (hc hk2 (hc hk2 (hc hk2 (hc hk2 (hc hk2 (hc hk2 (hc hk2 .nil)))))))) ?_
         cases hF
         exact Wk_ret (hfin _ ⟨[], [], [], [], [], [], by kernel_rfl⟩)
        ·have hF := ite_t hF hk2
         obtain ⟨x7, h9, hF⟩ := ob_elim hF
         obtain ⟨h10, hF⟩ := asrt_elim hF
         obtain ⟨x8, h11, hF⟩ := ob_elim hF
         refine NK [(180, true)] [.callE [] [] [] [] (.row 183 0) ⟨[], [], [(183, .z 24 2 0 (x7.map e_Note))], [], []⟩, .sealed, .xs ((x7 ++ [(⟨w64 (first + (x2.2.2.1.length : Int)), x4.Cells⟩ : Note)]).map e_Note), .callB (.bool x8)] [8] [] [] [] ⟨[(8, .bool x8)], [], [], [], []⟩ (hc hk2 (hc hk2 (hc hk2 (hc (Pe.ren (law_ownNotes_ok x2.2.2.1 x7 h9) ⟨[], [(18, 183)], [], []⟩) (hc hk2 (hc hk2 (hc hk2 (hc (app_ok e_Note x7 [(⟨w64 (first + (x2.2.2.1.length : Int)), x4.Cells⟩ : Note)]) (hc (appl_ok e_Note h10) (hc hk2 (hc (R_SameNotes_ok x6.2.2.1 (x7 ++ [(⟨w64 (first + (x2.2.2.1.length : Int)), x4.Cells⟩ : Note)]) x8 h11) (hc hk2 .nil)))))))))))) ?_
         cases hF
         exact Wk_ret (hfin _ ⟨[], [], [], [], [], [], by kernel_rfl⟩)

end G
end Go.Proofs.Ytollmifjbcccgaa
