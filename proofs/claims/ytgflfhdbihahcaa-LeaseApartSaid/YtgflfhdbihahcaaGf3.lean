/- The program's functions as plain functions, and that they are these. Written by a program (dec2.py). -/
import Derived.Test.YtgflfhdbihahcaaGf2
namespace Go.Proofs.Ytgflfhdbihahcaa
open Go Go.Dm
set_option linter.unusedVariables false
set_option linter.unusedSimpArgs false
set_option maxRecDepth 100000
namespace G
/- tabularyref.CourtStep -/
noncomputable def R_CourtStep_J1 (v : Int × Int × Int × Int × List Int × List Trust × List Wish × List Reply) (v11 : Bool) : Option (Int × Int × Int × Int × List Int × List Trust × List Wish × List Reply × Int) :=
  if v11 = true then
    some (v.1, v.2.1, v.2.2.1, v.2.2.2.1, v.2.2.2.2.1, v.2.2.2.2.2.1, v.2.2.2.2.2.2.1, v.2.2.2.2.2.2.2, 9)
  else
    some (v.1, v.2.1, v.2.2.1, v.2.2.2.1, v.2.2.2.2.1, v.2.2.2.2.2.1, v.2.2.2.2.2.2.1, v.2.2.2.2.2.2.2, 0)
noncomputable def R_CourtStep_B1 (v : Int × Int × Int × Int × List Int × List Trust × List Wish × List Reply) (v12 : Bool × Int) : Option ((Bool × Int) ⊕ (Int × Int × Int × Int × List Int × List Trust × List Wish × List Reply × Int)) :=
  if (decide (v12.2 < (v.2.2.2.2.1.length : Int))) = true then
    asrt ((!v12.1) = true → 0 ≤ v12.2 ∧ v12.2 < (v.2.2.2.2.1.length : Int)) <|
    asrt ((!v12.1) = true → 0 ≤ v12.2 ∧ v12.2 < (v.2.2.2.2.1.length : Int)) <|
    some (Sum.inl (v12.1 || (decide (900000000 < (lget v.2.2.2.2.1 v12.2))), w64 (v12.2 + 1)))
  else
    inrO (R_CourtStep_J1 v v12.1)
noncomputable def R_CourtStep_L1 (v : Int × Int × Int × Int × List Int × List Trust × List Wish × List Reply) (v0 : Bool × Int) : Option (Int × Int × Int × Int × List Int × List Trust × List Wish × List Reply × Int) :=
  loopO (fun y => R_CourtStep_B1 v y) v0
noncomputable def R_CourtStep (c : Court) (span : Int) (d : Deed) : Option (Int × Int × Int × Int × List Int × List Trust × List Wish × List Reply × Int) :=
  ob (R_CopyCourt c) fun x =>
  if ((decide (d.Kind < 0)) || (decide (8 < d.Kind))) = true then
    some (x.1, x.2.1, x.2.2.1, x.2.2.2.1, x.2.2.2.2.1, x.2.2.2.2.2.1, x.2.2.2.2.2.2.1, x.2.2.2.2.2.2.2, 4)
  else
    if ((((decide (d.Kind = 1)) || (decide (d.Kind = 2))) || (decide (d.Kind = 5))) && ((decide (d.Who < 0)) || (decide ((x.2.2.2.2.1.length : Int) ≤ d.Who)))) = true then
      some (x.1, x.2.1, x.2.2.1, x.2.2.2.1, x.2.2.2.2.1, x.2.2.2.2.2.1, x.2.2.2.2.2.2.1, x.2.2.2.2.2.2.2, 3)
    else
      if ((decide (d.Kind < 2)) && ((decide (d.N < 0)) || (decide (1000000 < d.N)))) = true then
        some (x.1, x.2.1, x.2.2.1, x.2.2.2.1, x.2.2.2.2.1, x.2.2.2.2.2.1, x.2.2.2.2.2.2.1, x.2.2.2.2.2.2.2, 3)
      else
        if ((((decide (d.Kind = 3)) || (decide (d.Kind = 6))) || (decide (d.Kind = 7))) && ((decide (d.N < 0)) || (decide ((x.2.2.2.2.2.2.1.length : Int) ≤ d.N)))) = true then
          some (x.1, x.2.1, x.2.2.1, x.2.2.2.1, x.2.2.2.2.1, x.2.2.2.2.2.1, x.2.2.2.2.2.2.1, x.2.2.2.2.2.2.2, 3)
        else
          if (((decide (d.Kind = 4)) || (decide (d.Kind = 8))) && ((decide (d.N < 0)) || (decide ((x.2.2.2.2.2.2.2.length : Int) ≤ d.N)))) = true then
            some (x.1, x.2.1, x.2.2.1, x.2.2.2.1, x.2.2.2.2.1, x.2.2.2.2.2.1, x.2.2.2.2.2.2.1, x.2.2.2.2.2.2.2, 3)
          else
            ob (
              if (decide (d.Kind = 0)) = true then
                some (w64 (x.1 + d.N), x.2.1, x.2.2.1, x.2.2.2.1, x.2.2.2.2.1, x.2.2.2.2.2.1, x.2.2.2.2.2.2.1, x.2.2.2.2.2.2.2)
              else
                if (decide (d.Kind = 1)) = true then
                  asrt (0 ≤ d.Who ∧ d.Who < (x.2.2.2.2.1.length : Int)) <|
                  asrt (0 ≤ d.Who ∧ d.Who < (x.2.2.2.2.1.length : Int)) <|
                  asrt (0 ≤ d.Who ∧ d.Who < (x.2.2.2.2.1.length : Int)) <|
                  asrt (0 ≤ d.Who ∧ d.Who < (x.2.2.2.2.1.length : Int)) <|
                  some (x.1, x.2.1, x.2.2.1, x.2.2.2.1, (lset x.2.2.2.2.1 d.Who (w64 ((lget x.2.2.2.2.1 d.Who) + d.N))), x.2.2.2.2.2.1, x.2.2.2.2.2.2.1, x.2.2.2.2.2.2.2)
                else
                  if (decide (d.Kind = 2)) = true then
                    asrt (0 ≤ d.Who ∧ d.Who < (x.2.2.2.2.1.length : Int)) <|
                    asrt (0 ≤ d.Who ∧ d.Who < (x.2.2.2.2.1.length : Int)) <|
                    asrt (0 ≤ d.Who ∧ d.Who < (x.2.2.2.2.1.length : Int)) <|
                    asrt (0 ≤ d.Who ∧ d.Who < (x.2.2.2.2.1.length : Int)) <|
                    asrt (0 ≤ d.Who ∧ d.Who < (x.2.2.2.2.2.1.length : Int)) <|
                    asrt (0 ≤ d.Who ∧ d.Who < (x.2.2.2.2.2.1.length : Int)) <|
                    ob (
                      if (decide ((lget x.2.2.2.2.1 d.Who) < ((lget x.2.2.2.2.2.1 d.Who).Until))) = true then
                        asrt (0 ≤ d.Who ∧ d.Who < (x.2.2.2.2.2.1.length : Int)) <|
                        asrt (0 ≤ d.Who ∧ d.Who < (x.2.2.2.2.2.1.length : Int)) <|
                        some (⟨d.Who, (lget x.2.2.2.2.1 d.Who), (lget x.2.2.2.2.2.1 d.Who).Epoch⟩ : Wish)
                      else
                        some (⟨d.Who, (lget x.2.2.2.2.1 d.Who), 0⟩ : Wish)) fun (v1 : Wish) =>
                    asrt (((x.2.2.2.2.2.2.1 ++ [v1]).length : Int) * 24 ≤ 140737488351232) <|
                    some (x.1, x.2.1, x.2.2.1, x.2.2.2.1, x.2.2.2.2.1, x.2.2.2.2.2.1, (x.2.2.2.2.2.2.1 ++ [v1]), x.2.2.2.2.2.2.2)
                  else
                    ob (
                      if (decide (d.Kind = 3)) = true then
                        some (decide (d.Kind = 3))
                      else
                        some (decide (d.Kind = 7))) fun (v2 : Bool) =>
                    if v2 = true then
                      asrt (0 ≤ d.N ∧ d.N < (x.2.2.2.2.2.2.1.length : Int)) <|
                      asrt (0 ≤ d.N ∧ d.N < (x.2.2.2.2.2.2.1.length : Int)) <|
                      asrt (0 ≤ d.N ∧ d.N ≤ (x.2.2.2.2.2.2.1.length : Int)) <|
                      asrt (0 ≤ w64 (d.N + 1) ∧ w64 (d.N + 1) ≤ (x.2.2.2.2.2.2.1.length : Int)) <|
                      asrt (((x.2.2.2.2.2.2.1.take d.N.toNat ++ ((x.2.2.2.2.2.2.1.drop ((w64 (d.N + 1)).toNat)).take (x.2.2.2.2.2.2.1.length - (w64 (d.N + 1)).toNat))).length : Int) * 24 ≤ 140737488351232) <|
                      asrt (d.N.toNat ≤ x.2.2.2.2.2.2.1.length) <|
                      asrt (((w64 (d.N + 1)).toNat) + (x.2.2.2.2.2.2.1.length - (w64 (d.N + 1)).toNat) ≤ x.2.2.2.2.2.2.1.length) <|
                      lt ((x.2.2.2.2.2.2.1.take d.N.toNat ++ ((x.2.2.2.2.2.2.1.drop ((w64 (d.N + 1)).toNat)).take (x.2.2.2.2.2.2.1.length - (w64 (d.N + 1)).toNat)))) fun (v3 : List Wish) =>
                      if (decide (d.Kind = 7)) = true then
                        some (x.1, x.2.1, x.2.2.1, x.2.2.2.1, x.2.2.2.2.1, x.2.2.2.2.2.1, v3, x.2.2.2.2.2.2.2)
                      else
                        lt (R_Granted (⟨x.2.1, x.2.2.1, x.2.2.2.1⟩ : Lease) (w64 (((lget x.2.2.2.2.2.2.1 d.N).Who) + 1)) x.1 span) fun x1 =>
                        ob (
                          if (decide (0 < ((lget x.2.2.2.2.2.2.1 d.N).Epoch))) = true then
                            lt (R_Renewed (⟨x.2.1, x.2.2.1, x.2.2.2.1⟩ : Lease) (w64 (((lget x.2.2.2.2.2.2.1 d.N).Who) + 1)) ((lget x.2.2.2.2.2.2.1 d.N).Epoch) x.1 span) fun x2 =>
                            some (x2.1, x2.2)
                          else
                            some (x1.1, x1.2)) fun (v4 : Lease × Fault) =>
                        if (decide (v4.2.Code = 0)) = true then
                          asrt (((x.2.2.2.2.2.2.2 ++ [(⟨(lget x.2.2.2.2.2.2.1 d.N).Who, (⟨v4.1.Epoch, w64 ((w64 (((lget x.2.2.2.2.2.2.1 d.N).Sent) + span)) - (w64 (Int.tdiv span 4)))⟩ : Trust)⟩ : Reply)]).length : Int) * 24 ≤ 140737488351232) <|
                          lt ((x.2.2.2.2.2.2.2 ++ [(⟨(lget x.2.2.2.2.2.2.1 d.N).Who, (⟨v4.1.Epoch, w64 ((w64 (((lget x.2.2.2.2.2.2.1 d.N).Sent) + span)) - (w64 (Int.tdiv span 4)))⟩ : Trust)⟩ : Reply)])) fun (v5 : List Reply) =>
                          some (x.1, v4.1.Holder, v4.1.Epoch, v4.1.Until, x.2.2.2.2.1, x.2.2.2.2.2.1, v3, v5)
                        else
                          some (x.1, x.2.1, x.2.2.1, x.2.2.2.1, x.2.2.2.2.1, x.2.2.2.2.2.1, v3, x.2.2.2.2.2.2.2)
                    else
                      ob (
                        if (decide (d.Kind = 4)) = true then
                          some (decide (d.Kind = 4))
                        else
                          some (decide (d.Kind = 8))) fun (v6 : Bool) =>
                      if v6 = true then
                        asrt (0 ≤ d.N ∧ d.N < (x.2.2.2.2.2.2.2.length : Int)) <|
                        asrt (0 ≤ d.N ∧ d.N < (x.2.2.2.2.2.2.2.length : Int)) <|
                        asrt (0 ≤ d.N ∧ d.N ≤ (x.2.2.2.2.2.2.2.length : Int)) <|
                        asrt (0 ≤ w64 (d.N + 1) ∧ w64 (d.N + 1) ≤ (x.2.2.2.2.2.2.2.length : Int)) <|
                        asrt (((x.2.2.2.2.2.2.2.take d.N.toNat ++ ((x.2.2.2.2.2.2.2.drop ((w64 (d.N + 1)).toNat)).take (x.2.2.2.2.2.2.2.length - (w64 (d.N + 1)).toNat))).length : Int) * 24 ≤ 140737488351232) <|
                        asrt (d.N.toNat ≤ x.2.2.2.2.2.2.2.length) <|
                        asrt (((w64 (d.N + 1)).toNat) + (x.2.2.2.2.2.2.2.length - (w64 (d.N + 1)).toNat) ≤ x.2.2.2.2.2.2.2.length) <|
                        lt ((x.2.2.2.2.2.2.2.take d.N.toNat ++ ((x.2.2.2.2.2.2.2.drop ((w64 (d.N + 1)).toNat)).take (x.2.2.2.2.2.2.2.length - (w64 (d.N + 1)).toNat)))) fun (v7 : List Reply) =>
                        asrt (0 ≤ (lget x.2.2.2.2.2.2.2 d.N).Who ∧ (lget x.2.2.2.2.2.2.2 d.N).Who < (x.2.2.2.2.2.1.length : Int)) <|
                        asrt (0 ≤ (lget x.2.2.2.2.2.2.2 d.N).Who ∧ (lget x.2.2.2.2.2.2.2 d.N).Who < (x.2.2.2.2.2.1.length : Int)) <|
                        if ((decide (d.Kind = 4)) && ((decide (((lget x.2.2.2.2.2.1 ((lget x.2.2.2.2.2.2.2 d.N).Who)).Epoch) < (((lget x.2.2.2.2.2.2.2 d.N).Trust).Epoch))) || ((decide ((((lget x.2.2.2.2.2.2.2 d.N).Trust).Epoch) = ((lget x.2.2.2.2.2.1 ((lget x.2.2.2.2.2.2.2 d.N).Who)).Epoch))) && (decide (((lget x.2.2.2.2.2.1 ((lget x.2.2.2.2.2.2.2 d.N).Who)).Until) < (((lget x.2.2.2.2.2.2.2 d.N).Trust).Until)))))) = true then
                          asrt (0 ≤ (lget x.2.2.2.2.2.2.2 d.N).Who ∧ (lget x.2.2.2.2.2.2.2 d.N).Who < (x.2.2.2.2.2.1.length : Int)) <|
                          asrt (0 ≤ (lget x.2.2.2.2.2.2.2 d.N).Who ∧ (lget x.2.2.2.2.2.2.2 d.N).Who < (x.2.2.2.2.2.1.length : Int)) <|
                          lt ((lset x.2.2.2.2.2.1 ((lget x.2.2.2.2.2.2.2 d.N).Who) (⟨((lget x.2.2.2.2.2.2.2 d.N).Trust).Epoch, ((lget x.2.2.2.2.2.2.2 d.N).Trust).Until⟩ : Trust))) fun (v8 : List Trust) =>
                          some (x.1, x.2.1, x.2.2.1, x.2.2.2.1, x.2.2.2.2.1, v8, x.2.2.2.2.2.2.1, v7)
                        else
                          some (x.1, x.2.1, x.2.2.1, x.2.2.2.1, x.2.2.2.2.1, x.2.2.2.2.2.1, x.2.2.2.2.2.2.1, v7)
                      else
                        if (decide (d.Kind = 5)) = true then
                          asrt (0 ≤ d.Who ∧ d.Who < (x.2.2.2.2.2.1.length : Int)) <|
                          asrt (0 ≤ d.Who ∧ d.Who < (x.2.2.2.2.2.1.length : Int)) <|
                          some (x.1, x.2.1, x.2.2.1, x.2.2.2.1, x.2.2.2.2.1, (lset x.2.2.2.2.2.1 d.Who (⟨0, 0⟩ : Trust)), x.2.2.2.2.2.2.1, x.2.2.2.2.2.2.2)
                        else
                          if (decide (d.Kind = 6)) = true then
                            asrt (0 ≤ d.N ∧ d.N < (x.2.2.2.2.2.2.1.length : Int)) <|
                            asrt (0 ≤ d.N ∧ d.N < (x.2.2.2.2.2.2.1.length : Int)) <|
                            asrt (((x.2.2.2.2.2.2.1 ++ [(⟨(lget x.2.2.2.2.2.2.1 d.N).Who, (lget x.2.2.2.2.2.2.1 d.N).Sent, (lget x.2.2.2.2.2.2.1 d.N).Epoch⟩ : Wish)]).length : Int) * 24 ≤ 140737488351232) <|
                            lt ((x.2.2.2.2.2.2.1 ++ [(⟨(lget x.2.2.2.2.2.2.1 d.N).Who, (lget x.2.2.2.2.2.2.1 d.N).Sent, (lget x.2.2.2.2.2.2.1 d.N).Epoch⟩ : Wish)])) fun (v9 : List Wish) =>
                            some (x.1, x.2.1, x.2.2.1, x.2.2.2.1, x.2.2.2.2.1, x.2.2.2.2.2.1, v9, x.2.2.2.2.2.2.2)
                          else
                            some (x.1, x.2.1, x.2.2.1, x.2.2.2.1, x.2.2.2.2.1, x.2.2.2.2.2.1, x.2.2.2.2.2.2.1, x.2.2.2.2.2.2.2)) fun (v : Int × Int × Int × Int × List Int × List Trust × List Wish × List Reply) =>
            lt (((decide (900000000 < v.1)) || (decide (100 < (v.2.2.2.2.2.2.1.length : Int)))) || (decide (100 < (v.2.2.2.2.2.2.2.length : Int)))) fun (v10 : Bool) =>
            R_CourtStep_L1 v (v10, 0)
theorem R_CourtStep_ok (c : Court) (span : Int) (d : Deed) (r : Int × Int × Int × Int × List Int × List Trust × List Wish × List Reply × Int) (hF : R_CourtStep c span d = some r) : Pe Try.prog 59 ⟨[], [], [], [], []⟩ [.agg (c_Court c), .int .i64 span, .agg (c_Deed d)] (.tup [.agg [.int .i64 r.1, .int .i64 r.2.1, .int .i64 r.2.2.1, .int .i64 r.2.2.2.1, .row 17 1, .row 20017 1, .row 40017 0, .row 60017 0], .int .i64 r.2.2.2.2.2.2.2.2]) ⟨[], [], [(17, ⟨3, 1, 1, 0, 0, true, 0, [], (r.2.2.2.2.1.map e_i64)⟩), (20017, ⟨60, 2, 1, 0, 0, true, 0, [], (r.2.2.2.2.2.1.map e_Trust)⟩), (40017, ⟨103, 3, 0, 0, 0, false, 0, [], (r.2.2.2.2.2.2.1.map e_Wish)⟩), (60017, ⟨105, 3, 0, 0, 0, false, 0, [], (r.2.2.2.2.2.2.2.1.map e_Reply)⟩)], [], []⟩ := by
  refine Pe_of (N := 376) (res := [.cell 6 44, .tmp 7]) (ts := [44, 3]) Ty.ok Fn.b59 Try.func59 rfl rfl rfl rfl rfl rfl ?_
  intro Q g hfin
  unfold R_CourtStep at hF
  refine Wk_seq ?_
  refine WR [] [1, 3, 5, 6] [3, 5, 6] [] [] [] [] ⟨[(1, .int .i64 span), (3, .ptr 3 0), (5, .ptr 5 0), (6, .ptr 6 0)], [(3, (c_Court c)), (5, (c_Deed d)), (6, [.int .i64 0, .int .i64 0, .int .i64 0, .int .i64 0, .nils, .nils, .nils, .nils])], [], [], []⟩ .nil (by kernel_rfl) ?_
  refine Wk_seq ?_
  obtain ⟨x, h0, hF⟩ := ob_elim hF
  refine WR [.callE [] [] [] [] (.agg [.int .i64 x.1, .int .i64 x.2.1, .int .i64 x.2.2.1, .int .i64 x.2.2.2.1, .row 17 1, .row 20017 1, .row 40017 1, .row 60017 1]) ⟨[], [], [(17, ⟨3, 1, 1, 0, 0, true, 0, [], (x.2.2.2.2.1.map e_i64)⟩), (20017, ⟨60, 2, 1, 0, 0, true, 0, [], (x.2.2.2.2.2.1.map e_Trust)⟩), (40017, ⟨103, 3, 1, 0, 0, true, 0, [], (x.2.2.2.2.2.2.1.map e_Wish)⟩), (60017, ⟨105, 3, 1, 0, 0, true, 0, [], (x.2.2.2.2.2.2.2.map e_Reply)⟩)], [], []⟩] [1, 3, 5, 6] [3, 5, 6] [17, 20017, 40017, 60017] [] [] [] ⟨[(1, .int .i64 span), (3, .ptr 3 0), (5, .ptr 5 0), (6, .ptr 6 0)], [(3, [.int .i64 x.1, .int .i64 x.2.1, .int .i64 x.2.2.1, .int .i64 x.2.2.2.1, .row 17 1, .row 20017 1, .row 40017 1, .row 60017 1]), (5, (c_Deed d)), (6, [.int .i64 0, .int .i64 0, .int .i64 0, .int .i64 0, .nils, .nils, .nils, .nils])], [(17, ⟨3, 1, 1, 0, 0, true, 0, [], (x.2.2.2.2.1.map e_i64)⟩), (20017, ⟨60, 2, 1, 0, 0, true, 0, [], (x.2.2.2.2.2.1.map e_Trust)⟩), (40017, ⟨103, 3, 1, 0, 0, true, 0, [], (x.2.2.2.2.2.2.1.map e_Wish)⟩), (60017, ⟨105, 3, 1, 0, 0, true, 0, [], (x.2.2.2.2.2.2.2.map e_Reply)⟩)], [], []⟩ (.cons (Pe.ren (R_CopyCourt_ok c x h0) ⟨[], [(5, 17), (9, 20017), (13, 40017), (5, 60017)], [], []⟩) .nil) (by kernel_rfl) ?_
  refine Wk_seq ?_
  refine Wk_seq ?_
  refine WR [] [1, 3, 5, 6, 25] [3, 5, 6] [17, 20017, 40017, 60017] [] [] [] ⟨[(1, .int .i64 span), (3, .ptr 3 0), (5, .ptr 5 0), (6, .ptr 6 0), (25, .bool ((decide (d.Kind < 0)) || (decide (8 < d.Kind))))], [(3, [.int .i64 x.1, .int .i64 x.2.1, .int .i64 x.2.2.1, .int .i64 x.2.2.2.1, .row 17 1, .row 20017 1, .row 40017 1, .row 60017 1]), (5, (c_Deed d)), (6, [.int .i64 0, .int .i64 0, .int .i64 0, .int .i64 0, .nils, .nils, .nils, .nils])], [(17, ⟨3, 1, 1, 0, 0, true, 0, [], (x.2.2.2.2.1.map e_i64)⟩), (20017, ⟨60, 2, 1, 0, 0, true, 0, [], (x.2.2.2.2.2.1.map e_Trust)⟩), (40017, ⟨103, 3, 1, 0, 0, true, 0, [], (x.2.2.2.2.2.2.1.map e_Wish)⟩), (60017, ⟨105, 3, 1, 0, 0, true, 0, [], (x.2.2.2.2.2.2.2.map e_Reply)⟩)], [], []⟩ .nil (by kernel_rfl) ?_
  refine Wk_split rfl (fun hb => ?_) (fun hb => ?_)
  · have hF := ite_t hF hb
    refine Wk_seq ?_
    refine WR [] [6, 7] [6] [17, 20017, 40017, 60017] [] [] [] ⟨[(6, .ptr 6 0), (7, .int .i64 4)], [(6, [.int .i64 x.1, .int .i64 x.2.1, .int .i64 x.2.2.1, .int .i64 x.2.2.2.1, .row 17 1, .row 20017 1, .row 40017 1, .row 60017 1])], [(17, ⟨3, 1, 1, 0, 0, true, 0, [], (x.2.2.2.2.1.map e_i64)⟩), (20017, ⟨60, 2, 1, 0, 0, true, 0, [], (x.2.2.2.2.2.1.map e_Trust)⟩), (40017, ⟨103, 3, 1, 0, 0, true, 0, [], (x.2.2.2.2.2.2.1.map e_Wish)⟩), (60017, ⟨105, 3, 1, 0, 0, true, 0, [], (x.2.2.2.2.2.2.2.map e_Reply)⟩)], [], []⟩ .nil (by kernel_rfl) ?_
    have hF := some_elim hF
    exact Wk_ret (hfin _ ⟨[17, 20017, 40017, 60017], [], [17, 20017, 40017, 60017], [], [], [(40017, ⟨0, true, false, false⟩), (60017, ⟨0, true, false, false⟩)], by first | (rw [← hF]; kernel_rfl) | kernel_rfl⟩)
  · have hF := ite_f hF hb
    refine Wk_skip ?_
    refine Wk_seq ?_
    refine Wk_seq ?_
    refine WR [.nat (x.2.2.2.2.1.length : Int)] [1, 3, 5, 6, 52] [3, 5, 6] [17, 20017, 40017, 60017] [] [] [] ⟨[(1, .int .i64 span), (3, .ptr 3 0), (5, .ptr 5 0), (6, .ptr 6 0), (52, .bool ((((decide (d.Kind = 1)) || (decide (d.Kind = 2))) || (decide (d.Kind = 5))) && ((decide (d.Who < 0)) || (decide ((x.2.2.2.2.1.length : Int) ≤ d.Who)))))], [(3, [.int .i64 x.1, .int .i64 x.2.1, .int .i64 x.2.2.1, .int .i64 x.2.2.2.1, .row 17 1, .row 20017 1, .row 40017 1, .row 60017 1]), (5, (c_Deed d)), (6, [.int .i64 0, .int .i64 0, .int .i64 0, .int .i64 0, .nils, .nils, .nils, .nils])], [(17, ⟨3, 1, 1, 0, 0, true, 0, [], (x.2.2.2.2.1.map e_i64)⟩), (20017, ⟨60, 2, 1, 0, 0, true, 0, [], (x.2.2.2.2.2.1.map e_Trust)⟩), (40017, ⟨103, 3, 1, 0, 0, true, 0, [], (x.2.2.2.2.2.2.1.map e_Wish)⟩), (60017, ⟨105, 3, 1, 0, 0, true, 0, [], (x.2.2.2.2.2.2.2.map e_Reply)⟩)], [], []⟩ (.cons (fun (_ : (!(decide (d.Who < 0))) = true) (_ : (((decide (d.Kind = 1)) || (decide (d.Kind = 2))) || (decide (d.Kind = 5))) = true) => (len_ok e_i64 x.2.2.2.2.1)) .nil) (by kernel_rfl) ?_
    refine Wk_split rfl (fun hb => ?_) (fun hb => ?_)
    · have hF := ite_t hF hb
      refine Wk_seq ?_
      refine WR [] [6, 7] [6] [17, 20017, 40017, 60017] [] [] [] ⟨[(6, .ptr 6 0), (7, .int .i64 3)], [(6, [.int .i64 x.1, .int .i64 x.2.1, .int .i64 x.2.2.1, .int .i64 x.2.2.2.1, .row 17 1, .row 20017 1, .row 40017 1, .row 60017 1])], [(17, ⟨3, 1, 1, 0, 0, true, 0, [], (x.2.2.2.2.1.map e_i64)⟩), (20017, ⟨60, 2, 1, 0, 0, true, 0, [], (x.2.2.2.2.2.1.map e_Trust)⟩), (40017, ⟨103, 3, 1, 0, 0, true, 0, [], (x.2.2.2.2.2.2.1.map e_Wish)⟩), (60017, ⟨105, 3, 1, 0, 0, true, 0, [], (x.2.2.2.2.2.2.2.map e_Reply)⟩)], [], []⟩ .nil (by kernel_rfl) ?_
      have hF := some_elim hF
      exact Wk_ret (hfin _ ⟨[17, 20017, 40017, 60017], [], [17, 20017, 40017, 60017], [], [], [(40017, ⟨0, true, false, false⟩), (60017, ⟨0, true, false, false⟩)], by first | (rw [← hF]; kernel_rfl) | kernel_rfl⟩)
    · have hF := ite_f hF hb
      refine Wk_skip ?_
      refine Wk_seq ?_
      refine Wk_seq ?_
      refine WR [] [1, 3, 5, 6, 66] [3, 5, 6] [17, 20017, 40017, 60017] [] [] [] ⟨[(1, .int .i64 span), (3, .ptr 3 0), (5, .ptr 5 0), (6, .ptr 6 0), (66, .bool ((decide (d.Kind < 2)) && ((decide (d.N < 0)) || (decide (1000000 < d.N)))))], [(3, [.int .i64 x.1, .int .i64 x.2.1, .int .i64 x.2.2.1, .int .i64 x.2.2.2.1, .row 17 1, .row 20017 1, .row 40017 1, .row 60017 1]), (5, (c_Deed d)), (6, [.int .i64 0, .int .i64 0, .int .i64 0, .int .i64 0, .nils, .nils, .nils, .nils])], [(17, ⟨3, 1, 1, 0, 0, true, 0, [], (x.2.2.2.2.1.map e_i64)⟩), (20017, ⟨60, 2, 1, 0, 0, true, 0, [], (x.2.2.2.2.2.1.map e_Trust)⟩), (40017, ⟨103, 3, 1, 0, 0, true, 0, [], (x.2.2.2.2.2.2.1.map e_Wish)⟩), (60017, ⟨105, 3, 1, 0, 0, true, 0, [], (x.2.2.2.2.2.2.2.map e_Reply)⟩)], [], []⟩ .nil (by kernel_rfl) ?_
      refine Wk_split rfl (fun hb => ?_) (fun hb => ?_)
      · have hF := ite_t hF hb
        refine Wk_seq ?_
        refine WR [] [6, 7] [6] [17, 20017, 40017, 60017] [] [] [] ⟨[(6, .ptr 6 0), (7, .int .i64 3)], [(6, [.int .i64 x.1, .int .i64 x.2.1, .int .i64 x.2.2.1, .int .i64 x.2.2.2.1, .row 17 1, .row 20017 1, .row 40017 1, .row 60017 1])], [(17, ⟨3, 1, 1, 0, 0, true, 0, [], (x.2.2.2.2.1.map e_i64)⟩), (20017, ⟨60, 2, 1, 0, 0, true, 0, [], (x.2.2.2.2.2.1.map e_Trust)⟩), (40017, ⟨103, 3, 1, 0, 0, true, 0, [], (x.2.2.2.2.2.2.1.map e_Wish)⟩), (60017, ⟨105, 3, 1, 0, 0, true, 0, [], (x.2.2.2.2.2.2.2.map e_Reply)⟩)], [], []⟩ .nil (by kernel_rfl) ?_
        have hF := some_elim hF
        exact Wk_ret (hfin _ ⟨[17, 20017, 40017, 60017], [], [17, 20017, 40017, 60017], [], [], [(40017, ⟨0, true, false, false⟩), (60017, ⟨0, true, false, false⟩)], by first | (rw [← hF]; kernel_rfl) | kernel_rfl⟩)
      · have hF := ite_f hF hb
        refine Wk_skip ?_
        refine Wk_seq ?_
        refine Wk_seq ?_
        refine WR [.nat (x.2.2.2.2.2.2.1.length : Int)] [1, 3, 5, 6, 93] [3, 5, 6] [17, 20017, 40017, 60017] [] [] [] ⟨[(1, .int .i64 span), (3, .ptr 3 0), (5, .ptr 5 0), (6, .ptr 6 0), (93, .bool ((((decide (d.Kind = 3)) || (decide (d.Kind = 6))) || (decide (d.Kind = 7))) && ((decide (d.N < 0)) || (decide ((x.2.2.2.2.2.2.1.length : Int) ≤ d.N)))))], [(3, [.int .i64 x.1, .int .i64 x.2.1, .int .i64 x.2.2.1, .int .i64 x.2.2.2.1, .row 17 1, .row 20017 1, .row 40017 1, .row 60017 1]), (5, (c_Deed d)), (6, [.int .i64 0, .int .i64 0, .int .i64 0, .int .i64 0, .nils, .nils, .nils, .nils])], [(17, ⟨3, 1, 1, 0, 0, true, 0, [], (x.2.2.2.2.1.map e_i64)⟩), (20017, ⟨60, 2, 1, 0, 0, true, 0, [], (x.2.2.2.2.2.1.map e_Trust)⟩), (40017, ⟨103, 3, 1, 0, 0, true, 0, [], (x.2.2.2.2.2.2.1.map e_Wish)⟩), (60017, ⟨105, 3, 1, 0, 0, true, 0, [], (x.2.2.2.2.2.2.2.map e_Reply)⟩)], [], []⟩ (.cons (fun (_ : (!(decide (d.N < 0))) = true) (_ : (((decide (d.Kind = 3)) || (decide (d.Kind = 6))) || (decide (d.Kind = 7))) = true) => (len_ok e_Wish x.2.2.2.2.2.2.1)) .nil) (by kernel_rfl) ?_
        refine Wk_split rfl (fun hb => ?_) (fun hb => ?_)
        · have hF := ite_t hF hb
          refine Wk_seq ?_
          refine WR [] [6, 7] [6] [17, 20017, 40017, 60017] [] [] [] ⟨[(6, .ptr 6 0), (7, .int .i64 3)], [(6, [.int .i64 x.1, .int .i64 x.2.1, .int .i64 x.2.2.1, .int .i64 x.2.2.2.1, .row 17 1, .row 20017 1, .row 40017 1, .row 60017 1])], [(17, ⟨3, 1, 1, 0, 0, true, 0, [], (x.2.2.2.2.1.map e_i64)⟩), (20017, ⟨60, 2, 1, 0, 0, true, 0, [], (x.2.2.2.2.2.1.map e_Trust)⟩), (40017, ⟨103, 3, 1, 0, 0, true, 0, [], (x.2.2.2.2.2.2.1.map e_Wish)⟩), (60017, ⟨105, 3, 1, 0, 0, true, 0, [], (x.2.2.2.2.2.2.2.map e_Reply)⟩)], [], []⟩ .nil (by kernel_rfl) ?_
          have hF := some_elim hF
          exact Wk_ret (hfin _ ⟨[17, 20017, 40017, 60017], [], [17, 20017, 40017, 60017], [], [], [(40017, ⟨0, true, false, false⟩), (60017, ⟨0, true, false, false⟩)], by first | (rw [← hF]; kernel_rfl) | kernel_rfl⟩)
        · have hF := ite_f hF hb
          refine Wk_skip ?_
          refine Wk_seq ?_
          refine Wk_seq ?_
          refine WR [.nat (x.2.2.2.2.2.2.2.length : Int)] [1, 3, 5, 6, 115] [3, 5, 6] [17, 20017, 40017, 60017] [] [] [] ⟨[(1, .int .i64 span), (3, .ptr 3 0), (5, .ptr 5 0), (6, .ptr 6 0), (115, .bool (((decide (d.Kind = 4)) || (decide (d.Kind = 8))) && ((decide (d.N < 0)) || (decide ((x.2.2.2.2.2.2.2.length : Int) ≤ d.N)))))], [(3, [.int .i64 x.1, .int .i64 x.2.1, .int .i64 x.2.2.1, .int .i64 x.2.2.2.1, .row 17 1, .row 20017 1, .row 40017 1, .row 60017 1]), (5, (c_Deed d)), (6, [.int .i64 0, .int .i64 0, .int .i64 0, .int .i64 0, .nils, .nils, .nils, .nils])], [(17, ⟨3, 1, 1, 0, 0, true, 0, [], (x.2.2.2.2.1.map e_i64)⟩), (20017, ⟨60, 2, 1, 0, 0, true, 0, [], (x.2.2.2.2.2.1.map e_Trust)⟩), (40017, ⟨103, 3, 1, 0, 0, true, 0, [], (x.2.2.2.2.2.2.1.map e_Wish)⟩), (60017, ⟨105, 3, 1, 0, 0, true, 0, [], (x.2.2.2.2.2.2.2.map e_Reply)⟩)], [], []⟩ (.cons (fun (_ : (!(decide (d.N < 0))) = true) (_ : ((decide (d.Kind = 4)) || (decide (d.Kind = 8))) = true) => (len_ok e_Reply x.2.2.2.2.2.2.2)) .nil) (by kernel_rfl) ?_
          refine Wk_split rfl (fun hb => ?_) (fun hb => ?_)
          · have hF := ite_t hF hb
            refine Wk_seq ?_
            refine WR [] [6, 7] [6] [17, 20017, 40017, 60017] [] [] [] ⟨[(6, .ptr 6 0), (7, .int .i64 3)], [(6, [.int .i64 x.1, .int .i64 x.2.1, .int .i64 x.2.2.1, .int .i64 x.2.2.2.1, .row 17 1, .row 20017 1, .row 40017 1, .row 60017 1])], [(17, ⟨3, 1, 1, 0, 0, true, 0, [], (x.2.2.2.2.1.map e_i64)⟩), (20017, ⟨60, 2, 1, 0, 0, true, 0, [], (x.2.2.2.2.2.1.map e_Trust)⟩), (40017, ⟨103, 3, 1, 0, 0, true, 0, [], (x.2.2.2.2.2.2.1.map e_Wish)⟩), (60017, ⟨105, 3, 1, 0, 0, true, 0, [], (x.2.2.2.2.2.2.2.map e_Reply)⟩)], [], []⟩ .nil (by kernel_rfl) ?_
            have hF := some_elim hF
            exact Wk_ret (hfin _ ⟨[17, 20017, 40017, 60017], [], [17, 20017, 40017, 60017], [], [], [(40017, ⟨0, true, false, false⟩), (60017, ⟨0, true, false, false⟩)], by first | (rw [← hF]; kernel_rfl) | kernel_rfl⟩)
          · have hF := ite_f hF hb
            refine Wk_skip ?_
            refine Wk_seq ?_
            refine Wk_seq ?_
            refine WR [] [1, 3, 5, 6, 118] [3, 5, 6] [17, 20017, 40017, 60017] [] [] [] ⟨[(1, .int .i64 span), (3, .ptr 3 0), (5, .ptr 5 0), (6, .ptr 6 0), (118, .int .i64 d.Kind)], [(3, [.int .i64 x.1, .int .i64 x.2.1, .int .i64 x.2.2.1, .int .i64 x.2.2.2.1, .row 17 1, .row 20017 1, .row 40017 1, .row 60017 1]), (5, (c_Deed d)), (6, [.int .i64 0, .int .i64 0, .int .i64 0, .int .i64 0, .nils, .nils, .nils, .nils])], [(17, ⟨3, 1, 1, 0, 0, true, 0, [], (x.2.2.2.2.1.map e_i64)⟩), (20017, ⟨60, 2, 1, 0, 0, true, 0, [], (x.2.2.2.2.2.1.map e_Trust)⟩), (40017, ⟨103, 3, 1, 0, 0, true, 0, [], (x.2.2.2.2.2.2.1.map e_Wish)⟩), (60017, ⟨105, 3, 1, 0, 0, true, 0, [], (x.2.2.2.2.2.2.2.map e_Reply)⟩)], [], []⟩ .nil (by kernel_rfl) ?_
            obtain ⟨v, hv, hF⟩ := ob_elim hF
            refine Wk_meet (⟨[(3, .ptr 3 0), (6, .ptr 6 0)], [(3, [.int .i64 v.1, .int .i64 v.2.1, .int .i64 v.2.2.1, .int .i64 v.2.2.2.1, .row 17 1, .row 20017 1, .row 40017 0, .row 60017 0]), (6, [.int .i64 0, .int .i64 0, .int .i64 0, .int .i64 0, .nils, .nils, .nils, .nils])], [(17, ⟨3, 1, 1, 0, 0, true, 0, [], (v.2.2.2.2.1.map e_i64)⟩), (20017, ⟨60, 2, 1, 0, 0, true, 0, [], (v.2.2.2.2.2.1.map e_Trust)⟩), (40017, ⟨103, 3, 0, 0, 0, false, 0, [], (v.2.2.2.2.2.2.1.map e_Wish)⟩), (60017, ⟨105, 3, 0, 0, 0, false, 0, [], (v.2.2.2.2.2.2.2.map e_Reply)⟩)], [], []⟩ : S) ?_ ?_
            · have hF := hv
              refine Wk_block ?_
              refine Wk_seq ?_
              refine WR [] [1, 3, 5, 6, 118, 119] [3, 5, 6] [17, 20017, 40017, 60017] [] [] [] ⟨[(1, .int .i64 span), (3, .ptr 3 0), (5, .ptr 5 0), (6, .ptr 6 0), (118, .int .i64 d.Kind), (119, .bool (decide (d.Kind = 0)))], [(3, [.int .i64 x.1, .int .i64 x.2.1, .int .i64 x.2.2.1, .int .i64 x.2.2.2.1, .row 17 1, .row 20017 1, .row 40017 1, .row 60017 1]), (5, (c_Deed d)), (6, [.int .i64 0, .int .i64 0, .int .i64 0, .int .i64 0, .nils, .nils, .nils, .nils])], [(17, ⟨3, 1, 1, 0, 0, true, 0, [], (x.2.2.2.2.1.map e_i64)⟩), (20017, ⟨60, 2, 1, 0, 0, true, 0, [], (x.2.2.2.2.2.1.map e_Trust)⟩), (40017, ⟨103, 3, 1, 0, 0, true, 0, [], (x.2.2.2.2.2.2.1.map e_Wish)⟩), (60017, ⟨105, 3, 1, 0, 0, true, 0, [], (x.2.2.2.2.2.2.2.map e_Reply)⟩)], [], []⟩ .nil (by kernel_rfl) ?_
              refine Wk_split rfl (fun hb => ?_) (fun hb => ?_)
              · have hF := ite_t hF hb
                refine WR [] [3, 6] [3, 6] [17, 20017, 40017, 60017] [] [] [] ⟨[(3, .ptr 3 0), (6, .ptr 6 0)], [(3, [.int .i64 (w64 (x.1 + d.N)), .int .i64 x.2.1, .int .i64 x.2.2.1, .int .i64 x.2.2.2.1, .row 17 1, .row 20017 1, .row 40017 1, .row 60017 1]), (6, [.int .i64 0, .int .i64 0, .int .i64 0, .int .i64 0, .nils, .nils, .nils, .nils])], [(17, ⟨3, 1, 1, 0, 0, true, 0, [], (x.2.2.2.2.1.map e_i64)⟩), (20017, ⟨60, 2, 1, 0, 0, true, 0, [], (x.2.2.2.2.2.1.map e_Trust)⟩), (40017, ⟨103, 3, 1, 0, 0, true, 0, [], (x.2.2.2.2.2.2.1.map e_Wish)⟩), (60017, ⟨105, 3, 1, 0, 0, true, 0, [], (x.2.2.2.2.2.2.2.map e_Reply)⟩)], [], []⟩ .nil (by kernel_rfl) ?_
                refine Wk_blk ?_
                exact Wk_met (fs := [3, 6]) (bs := [3, 6]) (rs := [17, 20017, 40017, 60017]) (ms := []) (aa := []) (nv := [(40017, ⟨0, true, false, false⟩), (60017, ⟨0, true, false, false⟩)]) (by first | (rw [← some_elim hF]; kernel_rfl) | kernel_rfl)
              · have hF := ite_f hF hb
                refine Wk_seq ?_
                refine WR [] [1, 3, 5, 6, 118, 127] [3, 5, 6] [17, 20017, 40017, 60017] [] [] [] ⟨[(1, .int .i64 span), (3, .ptr 3 0), (5, .ptr 5 0), (6, .ptr 6 0), (118, .int .i64 d.Kind), (127, .bool (decide (d.Kind = 1)))], [(3, [.int .i64 x.1, .int .i64 x.2.1, .int .i64 x.2.2.1, .int .i64 x.2.2.2.1, .row 17 1, .row 20017 1, .row 40017 1, .row 60017 1]), (5, (c_Deed d)), (6, [.int .i64 0, .int .i64 0, .int .i64 0, .int .i64 0, .nils, .nils, .nils, .nils])], [(17, ⟨3, 1, 1, 0, 0, true, 0, [], (x.2.2.2.2.1.map e_i64)⟩), (20017, ⟨60, 2, 1, 0, 0, true, 0, [], (x.2.2.2.2.2.1.map e_Trust)⟩), (40017, ⟨103, 3, 1, 0, 0, true, 0, [], (x.2.2.2.2.2.2.1.map e_Wish)⟩), (60017, ⟨105, 3, 1, 0, 0, true, 0, [], (x.2.2.2.2.2.2.2.map e_Reply)⟩)], [], []⟩ .nil (by kernel_rfl) ?_
                refine Wk_split rfl (fun hb => ?_) (fun hb => ?_)
                · have hF := ite_t hF hb
                  obtain ⟨h1, hF⟩ := asrt_elim hF
                  obtain ⟨h2, hF⟩ := asrt_elim hF
                  obtain ⟨h3, hF⟩ := asrt_elim hF
                  obtain ⟨h4, hF⟩ := asrt_elim hF
                  refine WD [.av (e_i64 (lget x.2.2.2.2.1 d.Who)), .av (e_i64 (lget x.2.2.2.2.1 d.Who)), .xs ((lset x.2.2.2.2.1 d.Who (w64 ((lget x.2.2.2.2.1 d.Who) + d.N))).map e_i64)] [3, 6] [3, 6] [17, 20017, 40017, 60017] [] [] [] ⟨[(3, .ptr 3 0), (6, .ptr 6 0)], [(3, [.int .i64 x.1, .int .i64 x.2.1, .int .i64 x.2.2.1, .int .i64 x.2.2.2.1, .row 17 1, .row 20017 1, .row 40017 1, .row 60017 1]), (6, [.int .i64 0, .int .i64 0, .int .i64 0, .int .i64 0, .nils, .nils, .nils, .nils])], [(17, ⟨3, 1, 1, 0, 0, true, 0, [], ((lset x.2.2.2.2.1 d.Who (w64 ((lget x.2.2.2.2.1 d.Who) + d.N))).map e_i64)⟩), (20017, ⟨60, 2, 1, 0, 0, true, 0, [], (x.2.2.2.2.2.1.map e_Trust)⟩), (40017, ⟨103, 3, 1, 0, 0, true, 0, [], (x.2.2.2.2.2.2.1.map e_Wish)⟩), (60017, ⟨105, 3, 1, 0, 0, true, 0, [], (x.2.2.2.2.2.2.2.map e_Reply)⟩)], [], []⟩ (.cons (ixr_ok e_i64 h1) (.cons (ldr_ok e_i64 h2) (.cons (ixr_ok e_i64 h3) (.cons (ldr_ok e_i64 h4) (.cons (set_ok e_i64 x.2.2.2.2.1 d.Who (w64 ((lget x.2.2.2.2.1 d.Who) + d.N))) (.cons (Nat.zero_le d.Who.toNat) .nil)))))) (by kernel_rfl) ?_
                  refine Wk_blk ?_
                  exact Wk_met (fs := [3, 6]) (bs := [3, 6]) (rs := [17, 20017, 40017, 60017]) (ms := []) (aa := []) (nv := [(40017, ⟨0, true, false, false⟩), (60017, ⟨0, true, false, false⟩)]) (by first | (rw [← some_elim hF]; kernel_rfl) | kernel_rfl)
                · have hF := ite_f hF hb
                  refine Wk_seq ?_
                  refine WR [] [1, 3, 5, 6, 118, 143] [3, 5, 6] [17, 20017, 40017, 60017] [] [] [] ⟨[(1, .int .i64 span), (3, .ptr 3 0), (5, .ptr 5 0), (6, .ptr 6 0), (118, .int .i64 d.Kind), (143, .bool (decide (d.Kind = 2)))], [(3, [.int .i64 x.1, .int .i64 x.2.1, .int .i64 x.2.2.1, .int .i64 x.2.2.2.1, .row 17 1, .row 20017 1, .row 40017 1, .row 60017 1]), (5, (c_Deed d)), (6, [.int .i64 0, .int .i64 0, .int .i64 0, .int .i64 0, .nils, .nils, .nils, .nils])], [(17, ⟨3, 1, 1, 0, 0, true, 0, [], (x.2.2.2.2.1.map e_i64)⟩), (20017, ⟨60, 2, 1, 0, 0, true, 0, [], (x.2.2.2.2.2.1.map e_Trust)⟩), (40017, ⟨103, 3, 1, 0, 0, true, 0, [], (x.2.2.2.2.2.2.1.map e_Wish)⟩), (60017, ⟨105, 3, 1, 0, 0, true, 0, [], (x.2.2.2.2.2.2.2.map e_Reply)⟩)], [], []⟩ .nil (by kernel_rfl) ?_
                  refine Wk_split rfl (fun hb => ?_) (fun hb => ?_)
                  · have hF := ite_t hF hb
                    refine Wk_seq ?_
                    obtain ⟨h5, hF⟩ := asrt_elim hF
                    obtain ⟨h6, hF⟩ := asrt_elim hF
                    refine WD [.av (e_i64 (lget x.2.2.2.2.1 d.Who))] [3, 5, 6, 8] [3, 5, 6, 8] [17, 20017, 40017, 60017] [] [] [] ⟨[(3, .ptr 3 0), (5, .ptr 5 0), (6, .ptr 6 0), (8, .ptr 8 0)], [(3, [.int .i64 x.1, .int .i64 x.2.1, .int .i64 x.2.2.1, .int .i64 x.2.2.2.1, .row 17 1, .row 20017 1, .row 40017 1, .row 60017 1]), (5, (c_Deed d)), (6, [.int .i64 0, .int .i64 0, .int .i64 0, .int .i64 0, .nils, .nils, .nils, .nils]), (8, [.int .i64 d.Who, .int .i64 (lget x.2.2.2.2.1 d.Who), .int .i64 0])], [(17, ⟨3, 1, 1, 0, 0, true, 0, [], (x.2.2.2.2.1.map e_i64)⟩), (20017, ⟨60, 2, 1, 0, 0, true, 0, [], (x.2.2.2.2.2.1.map e_Trust)⟩), (40017, ⟨103, 3, 1, 0, 0, true, 0, [], (x.2.2.2.2.2.2.1.map e_Wish)⟩), (60017, ⟨105, 3, 1, 0, 0, true, 0, [], (x.2.2.2.2.2.2.2.map e_Reply)⟩)], [], []⟩ (.cons (ixr_ok e_i64 h5) (.cons (ldr_ok e_i64 h6) .nil)) (by kernel_rfl) ?_
                    refine Wk_seq ?_
                    refine Wk_seq ?_
                    obtain ⟨h7, hF⟩ := asrt_elim hF
                    obtain ⟨h8, hF⟩ := asrt_elim hF
                    obtain ⟨h9, hF⟩ := asrt_elim hF
                    obtain ⟨h10, hF⟩ := asrt_elim hF
                    refine WD [.av (e_i64 (lget x.2.2.2.2.1 d.Who)), .av (e_Trust (lget x.2.2.2.2.2.1 d.Who))] [3, 5, 6, 8, 167] [3, 5, 6, 8] [17, 20017, 40017, 60017] [] [] [] ⟨[(3, .ptr 3 0), (5, .ptr 5 0), (6, .ptr 6 0), (8, .ptr 8 0), (167, .bool (decide ((lget x.2.2.2.2.1 d.Who) < ((lget x.2.2.2.2.2.1 d.Who).Until))))], [(3, [.int .i64 x.1, .int .i64 x.2.1, .int .i64 x.2.2.1, .int .i64 x.2.2.2.1, .row 17 1, .row 20017 1, .row 40017 1, .row 60017 1]), (5, (c_Deed d)), (6, [.int .i64 0, .int .i64 0, .int .i64 0, .int .i64 0, .nils, .nils, .nils, .nils]), (8, [.int .i64 d.Who, .int .i64 (lget x.2.2.2.2.1 d.Who), .int .i64 0])], [(17, ⟨3, 1, 1, 0, 0, true, 0, [], (x.2.2.2.2.1.map e_i64)⟩), (20017, ⟨60, 2, 1, 0, 0, true, 0, [], (x.2.2.2.2.2.1.map e_Trust)⟩), (40017, ⟨103, 3, 1, 0, 0, true, 0, [], (x.2.2.2.2.2.2.1.map e_Wish)⟩), (60017, ⟨105, 3, 1, 0, 0, true, 0, [], (x.2.2.2.2.2.2.2.map e_Reply)⟩)], [], []⟩ (.cons (ixr_ok e_i64 h7) (.cons (ldr_ok e_i64 h8) (.cons (ixr_ok e_Trust h9) (.cons (ldr_ok e_Trust h10) .nil)))) (by kernel_rfl) ?_
                    obtain ⟨v1, hv, hF⟩ := ob_elim hF
                    refine Wk_meet (⟨[(3, .ptr 3 0), (6, .ptr 6 0), (8, .ptr 8 0)], [(3, [.int .i64 x.1, .int .i64 x.2.1, .int .i64 x.2.2.1, .int .i64 x.2.2.2.1, .row 17 1, .row 20017 1, .row 40017 1, .row 60017 1]), (6, [.int .i64 0, .int .i64 0, .int .i64 0, .int .i64 0, .nils, .nils, .nils, .nils]), (8, (c_Wish v1))], [(17, ⟨3, 1, 1, 0, 0, true, 0, [], (x.2.2.2.2.1.map e_i64)⟩), (20017, ⟨60, 2, 1, 0, 0, true, 0, [], (x.2.2.2.2.2.1.map e_Trust)⟩), (40017, ⟨103, 3, 1, 0, 0, true, 0, [], (x.2.2.2.2.2.2.1.map e_Wish)⟩), (60017, ⟨105, 3, 1, 0, 0, true, 0, [], (x.2.2.2.2.2.2.2.map e_Reply)⟩)], [], []⟩ : S) ?_ ?_
                    · have hF := hv
                      refine Wk_split rfl (fun hb => ?_) (fun hb => ?_)
                      · have hF := ite_t hF hb
                        obtain ⟨h11, hF⟩ := asrt_elim hF
                        obtain ⟨h12, hF⟩ := asrt_elim hF
                        refine WR [.av (e_Trust (lget x.2.2.2.2.2.1 d.Who))] [3, 6, 8] [3, 6, 8] [17, 20017, 40017, 60017] [] [] [] ⟨[(3, .ptr 3 0), (6, .ptr 6 0), (8, .ptr 8 0)], [(3, [.int .i64 x.1, .int .i64 x.2.1, .int .i64 x.2.2.1, .int .i64 x.2.2.2.1, .row 17 1, .row 20017 1, .row 40017 1, .row 60017 1]), (6, [.int .i64 0, .int .i64 0, .int .i64 0, .int .i64 0, .nils, .nils, .nils, .nils]), (8, [.int .i64 d.Who, .int .i64 (lget x.2.2.2.2.1 d.Who), .int .i64 ((lget x.2.2.2.2.2.1 d.Who).Epoch)])], [(17, ⟨3, 1, 1, 0, 0, true, 0, [], (x.2.2.2.2.1.map e_i64)⟩), (20017, ⟨60, 2, 1, 0, 0, true, 0, [], (x.2.2.2.2.2.1.map e_Trust)⟩), (40017, ⟨103, 3, 1, 0, 0, true, 0, [], (x.2.2.2.2.2.2.1.map e_Wish)⟩), (60017, ⟨105, 3, 1, 0, 0, true, 0, [], (x.2.2.2.2.2.2.2.map e_Reply)⟩)], [], []⟩ (.cons (ixr_ok e_Trust h11) (.cons (ldr_ok e_Trust h12) .nil)) (by kernel_rfl) ?_
                        exact Wk_met (fs := [3, 6, 8]) (bs := [3, 6, 8]) (rs := [17, 20017, 40017, 60017]) (ms := []) (aa := []) (nv := []) (by first | (rw [← some_elim hF]; kernel_rfl) | kernel_rfl)
                      · have hF := ite_f hF hb
                        refine Wk_skip ?_
                        exact Wk_met (fs := [3, 6, 8]) (bs := [3, 6, 8]) (rs := [17, 20017, 40017, 60017]) (ms := []) (aa := []) (nv := []) (by first | (rw [← some_elim hF]; kernel_rfl) | kernel_rfl)
                    · obtain ⟨h13, hF⟩ := asrt_elim hF
                      refine WR [.sealed, .xs ((x.2.2.2.2.2.2.1 ++ [v1]).map e_Wish)] [3, 6] [3, 6] [17, 20017, 40017, 60017] [] [] [] ⟨[(3, .ptr 3 0), (6, .ptr 6 0)], [(3, [.int .i64 x.1, .int .i64 x.2.1, .int .i64 x.2.2.1, .int .i64 x.2.2.2.1, .row 17 1, .row 20017 1, .row 40017 2, .row 60017 1]), (6, [.int .i64 0, .int .i64 0, .int .i64 0, .int .i64 0, .nils, .nils, .nils, .nils])], [(17, ⟨3, 1, 1, 0, 0, true, 0, [], (x.2.2.2.2.1.map e_i64)⟩), (20017, ⟨60, 2, 1, 0, 0, true, 0, [], (x.2.2.2.2.2.1.map e_Trust)⟩), (40017, ⟨103, 3, 2, 0, 0, true, 0, [], ((x.2.2.2.2.2.2.1 ++ [v1]).map e_Wish)⟩), (60017, ⟨105, 3, 1, 0, 0, true, 0, [], (x.2.2.2.2.2.2.2.map e_Reply)⟩)], [], []⟩ (.cons (app_ok e_Wish x.2.2.2.2.2.2.1 [v1]) (.cons (appl_ok e_Wish h13) .nil)) (by kernel_rfl) ?_
                      refine Wk_blk ?_
                      exact Wk_met (fs := [3, 6]) (bs := [3, 6]) (rs := [17, 20017, 40017, 60017]) (ms := []) (aa := []) (nv := [(40017, ⟨0, true, false, false⟩), (60017, ⟨0, true, false, false⟩)]) (by first | (rw [← some_elim hF]; kernel_rfl) | kernel_rfl)
                  · have hF := ite_f hF hb
                    refine Wk_seq ?_
                    refine Wk_seq ?_
                    refine WR [] [1, 3, 5, 6, 118, 182] [3, 5, 6] [17, 20017, 40017, 60017] [] [] [] ⟨[(1, .int .i64 span), (3, .ptr 3 0), (5, .ptr 5 0), (6, .ptr 6 0), (118, .int .i64 d.Kind), (182, .bool (decide (d.Kind = 3)))], [(3, [.int .i64 x.1, .int .i64 x.2.1, .int .i64 x.2.2.1, .int .i64 x.2.2.2.1, .row 17 1, .row 20017 1, .row 40017 1, .row 60017 1]), (5, (c_Deed d)), (6, [.int .i64 0, .int .i64 0, .int .i64 0, .int .i64 0, .nils, .nils, .nils, .nils])], [(17, ⟨3, 1, 1, 0, 0, true, 0, [], (x.2.2.2.2.1.map e_i64)⟩), (20017, ⟨60, 2, 1, 0, 0, true, 0, [], (x.2.2.2.2.2.1.map e_Trust)⟩), (40017, ⟨103, 3, 1, 0, 0, true, 0, [], (x.2.2.2.2.2.2.1.map e_Wish)⟩), (60017, ⟨105, 3, 1, 0, 0, true, 0, [], (x.2.2.2.2.2.2.2.map e_Reply)⟩)], [], []⟩ .nil (by kernel_rfl) ?_
                    obtain ⟨v2, hv, hF⟩ := ob_elim hF
                    refine Wk_meet (⟨[(1, .int .i64 span), (3, .ptr 3 0), (5, .ptr 5 0), (6, .ptr 6 0), (118, .int .i64 d.Kind), (182, .bool v2)], [(3, [.int .i64 x.1, .int .i64 x.2.1, .int .i64 x.2.2.1, .int .i64 x.2.2.2.1, .row 17 1, .row 20017 1, .row 40017 1, .row 60017 1]), (5, (c_Deed d)), (6, [.int .i64 0, .int .i64 0, .int .i64 0, .int .i64 0, .nils, .nils, .nils, .nils])], [(17, ⟨3, 1, 1, 0, 0, true, 0, [], (x.2.2.2.2.1.map e_i64)⟩), (20017, ⟨60, 2, 1, 0, 0, true, 0, [], (x.2.2.2.2.2.1.map e_Trust)⟩), (40017, ⟨103, 3, 1, 0, 0, true, 0, [], (x.2.2.2.2.2.2.1.map e_Wish)⟩), (60017, ⟨105, 3, 1, 0, 0, true, 0, [], (x.2.2.2.2.2.2.2.map e_Reply)⟩)], [], []⟩ : S) ?_ ?_
                    · have hF := hv
                      refine Wk_split rfl (fun hb => ?_) (fun hb => ?_)
                      · have hF := ite_t hF hb
                        refine Wk_skip ?_
                        exact Wk_met (fs := [1, 3, 5, 6, 118, 182]) (bs := [3, 5, 6]) (rs := [17, 20017, 40017, 60017]) (ms := []) (aa := []) (nv := []) (by first | (rw [← some_elim hF]; kernel_rfl) | kernel_rfl)
                      · have hF := ite_f hF hb
                        refine WR [] [1, 3, 5, 6, 118, 182] [3, 5, 6] [17, 20017, 40017, 60017] [] [] [] ⟨[(1, .int .i64 span), (3, .ptr 3 0), (5, .ptr 5 0), (6, .ptr 6 0), (118, .int .i64 d.Kind), (182, .bool (decide (d.Kind = 7)))], [(3, [.int .i64 x.1, .int .i64 x.2.1, .int .i64 x.2.2.1, .int .i64 x.2.2.2.1, .row 17 1, .row 20017 1, .row 40017 1, .row 60017 1]), (5, (c_Deed d)), (6, [.int .i64 0, .int .i64 0, .int .i64 0, .int .i64 0, .nils, .nils, .nils, .nils])], [(17, ⟨3, 1, 1, 0, 0, true, 0, [], (x.2.2.2.2.1.map e_i64)⟩), (20017, ⟨60, 2, 1, 0, 0, true, 0, [], (x.2.2.2.2.2.1.map e_Trust)⟩), (40017, ⟨103, 3, 1, 0, 0, true, 0, [], (x.2.2.2.2.2.2.1.map e_Wish)⟩), (60017, ⟨105, 3, 1, 0, 0, true, 0, [], (x.2.2.2.2.2.2.2.map e_Reply)⟩)], [], []⟩ .nil (by kernel_rfl) ?_
                        exact Wk_met (fs := [1, 3, 5, 6, 118, 182]) (bs := [3, 5, 6]) (rs := [17, 20017, 40017, 60017]) (ms := []) (aa := []) (nv := []) (by first | (rw [← some_elim hF]; kernel_rfl) | kernel_rfl)
                    · refine Wk_split rfl (fun hb => ?_) (fun hb => ?_)
                      · have hF := ite_t hF hb
                        refine Wk_seq ?_
                        obtain ⟨h14, hF⟩ := asrt_elim hF
                        obtain ⟨h15, hF⟩ := asrt_elim hF
                        refine WR [.av (e_Wish (lget x.2.2.2.2.2.2.1 d.N))] [1, 3, 5, 6, 9] [3, 5, 6, 9] [17, 20017, 40017, 60017] [] [] [] ⟨[(1, .int .i64 span), (3, .ptr 3 0), (5, .ptr 5 0), (6, .ptr 6 0), (9, .ptr 9 0)], [(3, [.int .i64 x.1, .int .i64 x.2.1, .int .i64 x.2.2.1, .int .i64 x.2.2.2.1, .row 17 1, .row 20017 1, .row 40017 1, .row 60017 1]), (5, (c_Deed d)), (6, [.int .i64 0, .int .i64 0, .int .i64 0, .int .i64 0, .nils, .nils, .nils, .nils]), (9, (c_Wish (lget x.2.2.2.2.2.2.1 d.N)))], [(17, ⟨3, 1, 1, 0, 0, true, 0, [], (x.2.2.2.2.1.map e_i64)⟩), (20017, ⟨60, 2, 1, 0, 0, true, 0, [], (x.2.2.2.2.2.1.map e_Trust)⟩), (40017, ⟨103, 3, 1, 0, 0, true, 0, [], (x.2.2.2.2.2.2.1.map e_Wish)⟩), (60017, ⟨105, 3, 1, 0, 0, true, 0, [], (x.2.2.2.2.2.2.2.map e_Reply)⟩)], [], []⟩ (.cons (ixr_ok e_Wish h14) (.cons (ldr_ok e_Wish h15) .nil)) (by kernel_rfl) ?_
                        refine Wk_seq ?_
                        obtain ⟨h16, hF⟩ := asrt_elim hF
                        obtain ⟨h17, hF⟩ := asrt_elim hF
                        obtain ⟨h18, hF⟩ := asrt_elim hF
                        obtain ⟨h19, hF⟩ := asrt_elim hF
                        obtain ⟨h20, hF⟩ := asrt_elim hF
                        refine WDL ((x.2.2.2.2.2.2.1.take d.N.toNat ++ ((x.2.2.2.2.2.2.1.drop ((w64 (d.N + 1)).toNat)).take (x.2.2.2.2.2.2.1.length - (w64 (d.N + 1)).toNat)))) (fun v3 : List Wish => ⟨[(1, .int .i64 span), (3, .ptr 3 0), (5, .ptr 5 0), (6, .ptr 6 0), (9, .ptr 9 0)], [(3, [.int .i64 x.1, .int .i64 x.2.1, .int .i64 x.2.2.1, .int .i64 x.2.2.2.1, .row 17 1, .row 20017 1, .row 40017 2, .row 60017 1]), (5, (c_Deed d)), (6, [.int .i64 0, .int .i64 0, .int .i64 0, .int .i64 0, .nils, .nils, .nils, .nils]), (9, (c_Wish (lget x.2.2.2.2.2.2.1 d.N)))], [(17, ⟨3, 1, 1, 0, 0, true, 0, [], (x.2.2.2.2.1.map e_i64)⟩), (20017, ⟨60, 2, 1, 0, 0, true, 0, [], (x.2.2.2.2.2.1.map e_Trust)⟩), (40017, ⟨103, 3, 2, 0, (x.2.2.2.2.2.2.1.map e_Wish).length, false, 0, [], (v3.map e_Wish)⟩), (60017, ⟨105, 3, 1, 0, 0, true, 0, [], (x.2.2.2.2.2.2.2.map e_Reply)⟩)], [], []⟩) [.vw d.N.toNat, .vw (x.2.2.2.2.2.2.1.length - (w64 (d.N + 1)).toNat), .xs ((x.2.2.2.2.2.2.1.take d.N.toNat ++ ((x.2.2.2.2.2.2.1.drop ((w64 (d.N + 1)).toNat)).take (x.2.2.2.2.2.2.1.length - (w64 (d.N + 1)).toNat))).map e_Wish)] [1, 3, 5, 6, 9] [3, 5, 6, 9] [17, 20017, 40017, 60017] [] [] [] (.cons (vw01_ok (cm := 0) e_Wish h16) (.cons (vw10_ok e_Wish h17) (.cons (tapv_ok e_Wish x.2.2.2.2.2.2.1 d.N.toNat x.2.2.2.2.2.2.1 ((w64 (d.N + 1)).toNat) (x.2.2.2.2.2.2.1.length - (w64 (d.N + 1)).toNat)) (.cons (appl_ok e_Wish h18) (.cons (tk_ok e_Wish h19) (.cons (srcv_ok e_Wish h20) .nil)))))) (by kernel_rfl) (fun v3 hv => ?_)
                        have hF := lt_elim hF hv
                        refine Wk_seq ?_
                        refine Wk_seq ?_
                        refine WR [] [1, 3, 6, 9, 206] [3, 6, 9] [17, 20017, 40017, 60017] [] [] [] ⟨[(1, .int .i64 span), (3, .ptr 3 0), (6, .ptr 6 0), (9, .ptr 9 0), (206, .bool (decide (d.Kind = 7)))], [(3, [.int .i64 x.1, .int .i64 x.2.1, .int .i64 x.2.2.1, .int .i64 x.2.2.2.1, .row 17 1, .row 20017 1, .row 40017 2, .row 60017 1]), (6, [.int .i64 0, .int .i64 0, .int .i64 0, .int .i64 0, .nils, .nils, .nils, .nils]), (9, (c_Wish (lget x.2.2.2.2.2.2.1 d.N)))], [(17, ⟨3, 1, 1, 0, 0, true, 0, [], (x.2.2.2.2.1.map e_i64)⟩), (20017, ⟨60, 2, 1, 0, 0, true, 0, [], (x.2.2.2.2.2.1.map e_Trust)⟩), (40017, ⟨103, 3, 2, 0, (x.2.2.2.2.2.2.1.map e_Wish).length, false, 0, [], (v3.map e_Wish)⟩), (60017, ⟨105, 3, 1, 0, 0, true, 0, [], (x.2.2.2.2.2.2.2.map e_Reply)⟩)], [], []⟩ .nil (by kernel_rfl) ?_
                        refine Wk_split rfl (fun hb => ?_) (fun hb => ?_)
                        · have hF := ite_t hF hb
                          refine Wk_exit rfl ?_
                          exact Wk_met (fs := [3, 6]) (bs := [3, 6]) (rs := [17, 20017, 40017, 60017]) (ms := []) (aa := []) (nv := [(40017, ⟨0, false, true, false⟩), (60017, ⟨0, true, false, false⟩)]) (by first | (rw [← some_elim hF]; kernel_rfl) | kernel_rfl)
                        · have hF := ite_f hF hb
                          refine Wk_skip ?_
                          refine Wk_seq ?_
                          obtain ⟨x1, h21, hF⟩ := lt_split hF
                          refine WR [.callB (.tup [.agg (c_Lease x1.1), .agg [.int .i64 x1.2.Code, .int .i64 x1.2.At]])] [1, 3, 6, 9, 10, 11] [3, 6, 9, 10, 11] [17, 20017, 40017, 60017] [] [] [] ⟨[(1, .int .i64 span), (3, .ptr 3 0), (6, .ptr 6 0), (9, .ptr 9 0), (10, .ptr 10 0), (11, .ptr 11 0)], [(3, [.int .i64 x.1, .int .i64 x.2.1, .int .i64 x.2.2.1, .int .i64 x.2.2.2.1, .row 17 1, .row 20017 1, .row 40017 2, .row 60017 1]), (6, [.int .i64 0, .int .i64 0, .int .i64 0, .int .i64 0, .nils, .nils, .nils, .nils]), (9, (c_Wish (lget x.2.2.2.2.2.2.1 d.N))), (10, (c_Lease x1.1)), (11, [.int .i64 x1.2.Code, .int .i64 x1.2.At])], [(17, ⟨3, 1, 1, 0, 0, true, 0, [], (x.2.2.2.2.1.map e_i64)⟩), (20017, ⟨60, 2, 1, 0, 0, true, 0, [], (x.2.2.2.2.2.1.map e_Trust)⟩), (40017, ⟨103, 3, 2, 0, (x.2.2.2.2.2.2.1.map e_Wish).length, false, 0, [], (v3.map e_Wish)⟩), (60017, ⟨105, 3, 1, 0, 0, true, 0, [], (x.2.2.2.2.2.2.2.map e_Reply)⟩)], [], []⟩ (.cons (R_Granted_ok (⟨x.2.1, x.2.2.1, x.2.2.2.1⟩ : Lease) (w64 (((lget x.2.2.2.2.2.2.1 d.N).Who) + 1)) x.1 span x1 h21) .nil) (by kernel_rfl) ?_
                          refine Wk_seq ?_
                          refine Wk_seq ?_
                          refine WR [] [1, 3, 6, 9, 10, 11, 221] [3, 6, 9, 10, 11] [17, 20017, 40017, 60017] [] [] [] ⟨[(1, .int .i64 span), (3, .ptr 3 0), (6, .ptr 6 0), (9, .ptr 9 0), (10, .ptr 10 0), (11, .ptr 11 0), (221, .bool (decide (0 < ((lget x.2.2.2.2.2.2.1 d.N).Epoch))))], [(3, [.int .i64 x.1, .int .i64 x.2.1, .int .i64 x.2.2.1, .int .i64 x.2.2.2.1, .row 17 1, .row 20017 1, .row 40017 2, .row 60017 1]), (6, [.int .i64 0, .int .i64 0, .int .i64 0, .int .i64 0, .nils, .nils, .nils, .nils]), (9, (c_Wish (lget x.2.2.2.2.2.2.1 d.N))), (10, (c_Lease x1.1)), (11, [.int .i64 x1.2.Code, .int .i64 x1.2.At])], [(17, ⟨3, 1, 1, 0, 0, true, 0, [], (x.2.2.2.2.1.map e_i64)⟩), (20017, ⟨60, 2, 1, 0, 0, true, 0, [], (x.2.2.2.2.2.1.map e_Trust)⟩), (40017, ⟨103, 3, 2, 0, (x.2.2.2.2.2.2.1.map e_Wish).length, false, 0, [], (v3.map e_Wish)⟩), (60017, ⟨105, 3, 1, 0, 0, true, 0, [], (x.2.2.2.2.2.2.2.map e_Reply)⟩)], [], []⟩ .nil (by kernel_rfl) ?_
                          obtain ⟨v4, hv, hF⟩ := ob_elim hF
                          refine Wk_meet (⟨[(1, .int .i64 span), (3, .ptr 3 0), (6, .ptr 6 0), (9, .ptr 9 0), (10, .ptr 10 0), (11, .ptr 11 0)], [(3, [.int .i64 x.1, .int .i64 x.2.1, .int .i64 x.2.2.1, .int .i64 x.2.2.2.1, .row 17 1, .row 20017 1, .row 40017 2, .row 60017 1]), (6, [.int .i64 0, .int .i64 0, .int .i64 0, .int .i64 0, .nils, .nils, .nils, .nils]), (9, (c_Wish (lget x.2.2.2.2.2.2.1 d.N))), (10, (c_Lease v4.1)), (11, [.int .i64 v4.2.Code, .int .i64 v4.2.At])], [(17, ⟨3, 1, 1, 0, 0, true, 0, [], (x.2.2.2.2.1.map e_i64)⟩), (20017, ⟨60, 2, 1, 0, 0, true, 0, [], (x.2.2.2.2.2.1.map e_Trust)⟩), (40017, ⟨103, 3, 2, 0, 0, false, 0, [], (v3.map e_Wish)⟩), (60017, ⟨105, 3, 1, 0, 0, true, 0, [], (x.2.2.2.2.2.2.2.map e_Reply)⟩)], [], []⟩ : S) ?_ ?_
                          · have hF := hv
                            refine Wk_split rfl (fun hb => ?_) (fun hb => ?_)
                            · have hF := ite_t hF hb
                              obtain ⟨x2, h22, hF⟩ := lt_split hF
                              refine WR [.callB (.tup [.agg (c_Lease x2.1), .agg [.int .i64 x2.2.Code, .int .i64 x2.2.At]])] [1, 3, 6, 9, 10, 11] [3, 6, 9, 10, 11] [17, 20017, 40017, 60017] [] [] [] ⟨[(1, .int .i64 span), (3, .ptr 3 0), (6, .ptr 6 0), (9, .ptr 9 0), (10, .ptr 10 0), (11, .ptr 11 0)], [(3, [.int .i64 x.1, .int .i64 x.2.1, .int .i64 x.2.2.1, .int .i64 x.2.2.2.1, .row 17 1, .row 20017 1, .row 40017 2, .row 60017 1]), (6, [.int .i64 0, .int .i64 0, .int .i64 0, .int .i64 0, .nils, .nils, .nils, .nils]), (9, (c_Wish (lget x.2.2.2.2.2.2.1 d.N))), (10, (c_Lease x2.1)), (11, [.int .i64 x2.2.Code, .int .i64 x2.2.At])], [(17, ⟨3, 1, 1, 0, 0, true, 0, [], (x.2.2.2.2.1.map e_i64)⟩), (20017, ⟨60, 2, 1, 0, 0, true, 0, [], (x.2.2.2.2.2.1.map e_Trust)⟩), (40017, ⟨103, 3, 2, 0, (x.2.2.2.2.2.2.1.map e_Wish).length, false, 0, [], (v3.map e_Wish)⟩), (60017, ⟨105, 3, 1, 0, 0, true, 0, [], (x.2.2.2.2.2.2.2.map e_Reply)⟩)], [], []⟩ (.cons (R_Renewed_ok (⟨x.2.1, x.2.2.1, x.2.2.2.1⟩ : Lease) (w64 (((lget x.2.2.2.2.2.2.1 d.N).Who) + 1)) ((lget x.2.2.2.2.2.2.1 d.N).Epoch) x.1 span x2 h22) .nil) (by kernel_rfl) ?_
                              exact Wk_met (fs := [1, 3, 6, 9, 10, 11]) (bs := [3, 6, 9, 10, 11]) (rs := [17, 20017, 40017, 60017]) (ms := []) (aa := []) (nv := [(40017, ⟨2, false, true, false⟩)]) (by first | (rw [← some_elim hF]; kernel_rfl) | kernel_rfl)
                            · have hF := ite_f hF hb
                              refine Wk_skip ?_
                              exact Wk_met (fs := [1, 3, 6, 9, 10, 11]) (bs := [3, 6, 9, 10, 11]) (rs := [17, 20017, 40017, 60017]) (ms := []) (aa := []) (nv := [(40017, ⟨2, false, true, false⟩)]) (by first | (rw [← some_elim hF]; kernel_rfl) | kernel_rfl)
                          · refine Wk_seq ?_
                            refine WR [] [1, 3, 6, 9, 10, 238] [3, 6, 9, 10] [17, 20017, 40017, 60017] [] [] [] ⟨[(1, .int .i64 span), (3, .ptr 3 0), (6, .ptr 6 0), (9, .ptr 9 0), (10, .ptr 10 0), (238, .bool (decide (v4.2.Code = 0)))], [(3, [.int .i64 x.1, .int .i64 x.2.1, .int .i64 x.2.2.1, .int .i64 x.2.2.2.1, .row 17 1, .row 20017 1, .row 40017 2, .row 60017 1]), (6, [.int .i64 0, .int .i64 0, .int .i64 0, .int .i64 0, .nils, .nils, .nils, .nils]), (9, (c_Wish (lget x.2.2.2.2.2.2.1 d.N))), (10, (c_Lease v4.1))], [(17, ⟨3, 1, 1, 0, 0, true, 0, [], (x.2.2.2.2.1.map e_i64)⟩), (20017, ⟨60, 2, 1, 0, 0, true, 0, [], (x.2.2.2.2.2.1.map e_Trust)⟩), (40017, ⟨103, 3, 2, 0, 0, false, 0, [], (v3.map e_Wish)⟩), (60017, ⟨105, 3, 1, 0, 0, true, 0, [], (x.2.2.2.2.2.2.2.map e_Reply)⟩)], [], []⟩ .nil (by kernel_rfl) ?_
                            refine Wk_split rfl (fun hb => ?_) (fun hb => ?_)
                            · have hF := ite_t hF hb
                              refine Wk_seq ?_
                              refine WR [] [1, 3, 6, 9, 10] [3, 6, 9, 10] [17, 20017, 40017, 60017] [] [] [] ⟨[(1, .int .i64 span), (3, .ptr 3 0), (6, .ptr 6 0), (9, .ptr 9 0), (10, .ptr 10 0)], [(3, [.int .i64 x.1, .int .i64 v4.1.Holder, .int .i64 v4.1.Epoch, .int .i64 v4.1.Until, .row 17 1, .row 20017 1, .row 40017 2, .row 60017 1]), (6, [.int .i64 0, .int .i64 0, .int .i64 0, .int .i64 0, .nils, .nils, .nils, .nils]), (9, (c_Wish (lget x.2.2.2.2.2.2.1 d.N))), (10, (c_Lease v4.1))], [(17, ⟨3, 1, 1, 0, 0, true, 0, [], (x.2.2.2.2.1.map e_i64)⟩), (20017, ⟨60, 2, 1, 0, 0, true, 0, [], (x.2.2.2.2.2.1.map e_Trust)⟩), (40017, ⟨103, 3, 2, 0, 0, false, 0, [], (v3.map e_Wish)⟩), (60017, ⟨105, 3, 1, 0, 0, true, 0, [], (x.2.2.2.2.2.2.2.map e_Reply)⟩)], [], []⟩ .nil (by kernel_rfl) ?_
                              obtain ⟨h23, hF⟩ := asrt_elim hF
                              refine WRL ((x.2.2.2.2.2.2.2 ++ [(⟨(lget x.2.2.2.2.2.2.1 d.N).Who, (⟨v4.1.Epoch, w64 ((w64 (((lget x.2.2.2.2.2.2.1 d.N).Sent) + span)) - (w64 (Int.tdiv span 4)))⟩ : Trust)⟩ : Reply)])) (fun v5 : List Reply => ⟨[(3, .ptr 3 0), (6, .ptr 6 0)], [(3, [.int .i64 x.1, .int .i64 v4.1.Holder, .int .i64 v4.1.Epoch, .int .i64 v4.1.Until, .row 17 1, .row 20017 1, .row 40017 2, .row 60017 2]), (6, [.int .i64 0, .int .i64 0, .int .i64 0, .int .i64 0, .nils, .nils, .nils, .nils])], [(17, ⟨3, 1, 1, 0, 0, true, 0, [], (x.2.2.2.2.1.map e_i64)⟩), (20017, ⟨60, 2, 1, 0, 0, true, 0, [], (x.2.2.2.2.2.1.map e_Trust)⟩), (40017, ⟨103, 3, 2, 0, 0, false, 0, [], (v3.map e_Wish)⟩), (60017, ⟨105, 3, 2, 0, 0, true, 0, [], (v5.map e_Reply)⟩)], [], []⟩) [.sealed, .xs ((x.2.2.2.2.2.2.2 ++ [(⟨(lget x.2.2.2.2.2.2.1 d.N).Who, (⟨v4.1.Epoch, w64 ((w64 (((lget x.2.2.2.2.2.2.1 d.N).Sent) + span)) - (w64 (Int.tdiv span 4)))⟩ : Trust)⟩ : Reply)]).map e_Reply)] [3, 6] [3, 6] [17, 20017, 40017, 60017] [] [] [] (.cons (by decide : (4 : Int) ≠ 0) (.cons (app_ok e_Reply x.2.2.2.2.2.2.2 [(⟨(lget x.2.2.2.2.2.2.1 d.N).Who, (⟨v4.1.Epoch, w64 ((w64 (((lget x.2.2.2.2.2.2.1 d.N).Sent) + span)) - (w64 (Int.tdiv span 4)))⟩ : Trust)⟩ : Reply)]) (.cons (appl_ok e_Reply h23) .nil))) (by kernel_rfl) (fun v5 hv => ?_)
                              have hF := lt_elim hF hv
                              refine Wk_blk ?_
                              exact Wk_met (fs := [3, 6]) (bs := [3, 6]) (rs := [17, 20017, 40017, 60017]) (ms := []) (aa := []) (nv := [(40017, ⟨0, true, true, false⟩), (60017, ⟨0, true, false, false⟩)]) (by first | (rw [← some_elim hF]; kernel_rfl) | kernel_rfl)
                            · have hF := ite_f hF hb
                              refine Wk_skip ?_
                              refine Wk_blk ?_
                              exact Wk_met (fs := [3, 6]) (bs := [3, 6]) (rs := [17, 20017, 40017, 60017]) (ms := []) (aa := []) (nv := [(40017, ⟨0, true, true, false⟩), (60017, ⟨0, true, false, false⟩)]) (by first | (rw [← some_elim hF]; kernel_rfl) | kernel_rfl)
                      · have hF := ite_f hF hb
                        refine Wk_seq ?_
                        refine Wk_seq ?_
                        refine WR [] [3, 5, 6, 118, 259] [3, 5, 6] [17, 20017, 40017, 60017] [] [] [] ⟨[(3, .ptr 3 0), (5, .ptr 5 0), (6, .ptr 6 0), (118, .int .i64 d.Kind), (259, .bool (decide (d.Kind = 4)))], [(3, [.int .i64 x.1, .int .i64 x.2.1, .int .i64 x.2.2.1, .int .i64 x.2.2.2.1, .row 17 1, .row 20017 1, .row 40017 1, .row 60017 1]), (5, (c_Deed d)), (6, [.int .i64 0, .int .i64 0, .int .i64 0, .int .i64 0, .nils, .nils, .nils, .nils])], [(17, ⟨3, 1, 1, 0, 0, true, 0, [], (x.2.2.2.2.1.map e_i64)⟩), (20017, ⟨60, 2, 1, 0, 0, true, 0, [], (x.2.2.2.2.2.1.map e_Trust)⟩), (40017, ⟨103, 3, 1, 0, 0, true, 0, [], (x.2.2.2.2.2.2.1.map e_Wish)⟩), (60017, ⟨105, 3, 1, 0, 0, true, 0, [], (x.2.2.2.2.2.2.2.map e_Reply)⟩)], [], []⟩ .nil (by kernel_rfl) ?_
                        obtain ⟨v6, hv, hF⟩ := ob_elim hF
                        refine Wk_meet (⟨[(3, .ptr 3 0), (5, .ptr 5 0), (6, .ptr 6 0), (118, .int .i64 d.Kind), (259, .bool v6)], [(3, [.int .i64 x.1, .int .i64 x.2.1, .int .i64 x.2.2.1, .int .i64 x.2.2.2.1, .row 17 1, .row 20017 1, .row 40017 1, .row 60017 1]), (5, (c_Deed d)), (6, [.int .i64 0, .int .i64 0, .int .i64 0, .int .i64 0, .nils, .nils, .nils, .nils])], [(17, ⟨3, 1, 1, 0, 0, true, 0, [], (x.2.2.2.2.1.map e_i64)⟩), (20017, ⟨60, 2, 1, 0, 0, true, 0, [], (x.2.2.2.2.2.1.map e_Trust)⟩), (40017, ⟨103, 3, 1, 0, 0, true, 0, [], (x.2.2.2.2.2.2.1.map e_Wish)⟩), (60017, ⟨105, 3, 1, 0, 0, true, 0, [], (x.2.2.2.2.2.2.2.map e_Reply)⟩)], [], []⟩ : S) ?_ ?_
                        · have hF := hv
                          refine Wk_split rfl (fun hb => ?_) (fun hb => ?_)
                          · have hF := ite_t hF hb
                            refine Wk_skip ?_
                            exact Wk_met (fs := [3, 5, 6, 118, 259]) (bs := [3, 5, 6]) (rs := [17, 20017, 40017, 60017]) (ms := []) (aa := []) (nv := []) (by first | (rw [← some_elim hF]; kernel_rfl) | kernel_rfl)
                          · have hF := ite_f hF hb
                            refine WR [] [3, 5, 6, 118, 259] [3, 5, 6] [17, 20017, 40017, 60017] [] [] [] ⟨[(3, .ptr 3 0), (5, .ptr 5 0), (6, .ptr 6 0), (118, .int .i64 d.Kind), (259, .bool (decide (d.Kind = 8)))], [(3, [.int .i64 x.1, .int .i64 x.2.1, .int .i64 x.2.2.1, .int .i64 x.2.2.2.1, .row 17 1, .row 20017 1, .row 40017 1, .row 60017 1]), (5, (c_Deed d)), (6, [.int .i64 0, .int .i64 0, .int .i64 0, .int .i64 0, .nils, .nils, .nils, .nils])], [(17, ⟨3, 1, 1, 0, 0, true, 0, [], (x.2.2.2.2.1.map e_i64)⟩), (20017, ⟨60, 2, 1, 0, 0, true, 0, [], (x.2.2.2.2.2.1.map e_Trust)⟩), (40017, ⟨103, 3, 1, 0, 0, true, 0, [], (x.2.2.2.2.2.2.1.map e_Wish)⟩), (60017, ⟨105, 3, 1, 0, 0, true, 0, [], (x.2.2.2.2.2.2.2.map e_Reply)⟩)], [], []⟩ .nil (by kernel_rfl) ?_
                            exact Wk_met (fs := [3, 5, 6, 118, 259]) (bs := [3, 5, 6]) (rs := [17, 20017, 40017, 60017]) (ms := []) (aa := []) (nv := []) (by first | (rw [← some_elim hF]; kernel_rfl) | kernel_rfl)
                        · refine Wk_split rfl (fun hb => ?_) (fun hb => ?_)
                          · have hF := ite_t hF hb
                            refine Wk_seq ?_
                            obtain ⟨h24, hF⟩ := asrt_elim hF
                            obtain ⟨h25, hF⟩ := asrt_elim hF
                            refine WR [.av (e_Reply (lget x.2.2.2.2.2.2.2 d.N))] [3, 5, 6, 12] [3, 5, 6, 12] [17, 20017, 40017, 60017] [] [] [] ⟨[(3, .ptr 3 0), (5, .ptr 5 0), (6, .ptr 6 0), (12, .ptr 12 0)], [(3, [.int .i64 x.1, .int .i64 x.2.1, .int .i64 x.2.2.1, .int .i64 x.2.2.2.1, .row 17 1, .row 20017 1, .row 40017 1, .row 60017 1]), (5, (c_Deed d)), (6, [.int .i64 0, .int .i64 0, .int .i64 0, .int .i64 0, .nils, .nils, .nils, .nils]), (12, (c_Reply (lget x.2.2.2.2.2.2.2 d.N)))], [(17, ⟨3, 1, 1, 0, 0, true, 0, [], (x.2.2.2.2.1.map e_i64)⟩), (20017, ⟨60, 2, 1, 0, 0, true, 0, [], (x.2.2.2.2.2.1.map e_Trust)⟩), (40017, ⟨103, 3, 1, 0, 0, true, 0, [], (x.2.2.2.2.2.2.1.map e_Wish)⟩), (60017, ⟨105, 3, 1, 0, 0, true, 0, [], (x.2.2.2.2.2.2.2.map e_Reply)⟩)], [], []⟩ (.cons (ixr_ok e_Reply h24) (.cons (ldr_ok e_Reply h25) .nil)) (by kernel_rfl) ?_
                            refine Wk_seq ?_
                            obtain ⟨h26, hF⟩ := asrt_elim hF
                            obtain ⟨h27, hF⟩ := asrt_elim hF
                            obtain ⟨h28, hF⟩ := asrt_elim hF
                            obtain ⟨h29, hF⟩ := asrt_elim hF
                            obtain ⟨h30, hF⟩ := asrt_elim hF
                            refine WDL ((x.2.2.2.2.2.2.2.take d.N.toNat ++ ((x.2.2.2.2.2.2.2.drop ((w64 (d.N + 1)).toNat)).take (x.2.2.2.2.2.2.2.length - (w64 (d.N + 1)).toNat)))) (fun v7 : List Reply => ⟨[(3, .ptr 3 0), (5, .ptr 5 0), (6, .ptr 6 0), (12, .ptr 12 0)], [(3, [.int .i64 x.1, .int .i64 x.2.1, .int .i64 x.2.2.1, .int .i64 x.2.2.2.1, .row 17 1, .row 20017 1, .row 40017 1, .row 60017 2]), (5, (c_Deed d)), (6, [.int .i64 0, .int .i64 0, .int .i64 0, .int .i64 0, .nils, .nils, .nils, .nils]), (12, (c_Reply (lget x.2.2.2.2.2.2.2 d.N)))], [(17, ⟨3, 1, 1, 0, 0, true, 0, [], (x.2.2.2.2.1.map e_i64)⟩), (20017, ⟨60, 2, 1, 0, 0, true, 0, [], (x.2.2.2.2.2.1.map e_Trust)⟩), (40017, ⟨103, 3, 1, 0, 0, true, 0, [], (x.2.2.2.2.2.2.1.map e_Wish)⟩), (60017, ⟨105, 3, 2, 0, (x.2.2.2.2.2.2.2.map e_Reply).length, false, 0, [], (v7.map e_Reply)⟩)], [], []⟩) [.vw d.N.toNat, .vw (x.2.2.2.2.2.2.2.length - (w64 (d.N + 1)).toNat), .xs ((x.2.2.2.2.2.2.2.take d.N.toNat ++ ((x.2.2.2.2.2.2.2.drop ((w64 (d.N + 1)).toNat)).take (x.2.2.2.2.2.2.2.length - (w64 (d.N + 1)).toNat))).map e_Reply)] [3, 5, 6, 12] [3, 5, 6, 12] [17, 20017, 40017, 60017] [] [] [] (.cons (vw01_ok (cm := 0) e_Reply h26) (.cons (vw10_ok e_Reply h27) (.cons (tapv_ok e_Reply x.2.2.2.2.2.2.2 d.N.toNat x.2.2.2.2.2.2.2 ((w64 (d.N + 1)).toNat) (x.2.2.2.2.2.2.2.length - (w64 (d.N + 1)).toNat)) (.cons (appl_ok e_Reply h28) (.cons (tk_ok e_Reply h29) (.cons (srcv_ok e_Reply h30) .nil)))))) (by kernel_rfl) (fun v7 hv => ?_)
                            have hF := lt_elim hF hv
                            refine Wk_seq ?_
                            obtain ⟨h31, hF⟩ := asrt_elim hF
                            obtain ⟨h32, hF⟩ := asrt_elim hF
                            refine WR [.av (e_Trust (lget x.2.2.2.2.2.1 ((lget x.2.2.2.2.2.2.2 d.N).Who)))] [3, 5, 6, 12, 13] [3, 5, 6, 12, 13] [17, 20017, 40017, 60017] [] [] [] ⟨[(3, .ptr 3 0), (5, .ptr 5 0), (6, .ptr 6 0), (12, .ptr 12 0), (13, .ptr 13 0)], [(3, [.int .i64 x.1, .int .i64 x.2.1, .int .i64 x.2.2.1, .int .i64 x.2.2.2.1, .row 17 1, .row 20017 1, .row 40017 1, .row 60017 2]), (5, (c_Deed d)), (6, [.int .i64 0, .int .i64 0, .int .i64 0, .int .i64 0, .nils, .nils, .nils, .nils]), (12, (c_Reply (lget x.2.2.2.2.2.2.2 d.N))), (13, [.int .i64 ((lget x.2.2.2.2.2.1 ((lget x.2.2.2.2.2.2.2 d.N).Who)).Epoch), .int .i64 ((lget x.2.2.2.2.2.1 ((lget x.2.2.2.2.2.2.2 d.N).Who)).Until)])], [(17, ⟨3, 1, 1, 0, 0, true, 0, [], (x.2.2.2.2.1.map e_i64)⟩), (20017, ⟨60, 2, 1, 0, 0, true, 0, [], (x.2.2.2.2.2.1.map e_Trust)⟩), (40017, ⟨103, 3, 1, 0, 0, true, 0, [], (x.2.2.2.2.2.2.1.map e_Wish)⟩), (60017, ⟨105, 3, 2, 0, (x.2.2.2.2.2.2.2.map e_Reply).length, false, 0, [], (v7.map e_Reply)⟩)], [], []⟩ (.cons (ixr_ok e_Trust h31) (.cons (ldr_ok e_Trust h32) .nil)) (by kernel_rfl) ?_
                            refine Wk_seq ?_
                            refine WR [] [3, 6, 12, 313] [3, 6, 12] [17, 20017, 40017, 60017] [] [] [] ⟨[(3, .ptr 3 0), (6, .ptr 6 0), (12, .ptr 12 0), (313, .bool ((decide (d.Kind = 4)) && ((decide (((lget x.2.2.2.2.2.1 ((lget x.2.2.2.2.2.2.2 d.N).Who)).Epoch) < (((lget x.2.2.2.2.2.2.2 d.N).Trust).Epoch))) || ((decide ((((lget x.2.2.2.2.2.2.2 d.N).Trust).Epoch) = ((lget x.2.2.2.2.2.1 ((lget x.2.2.2.2.2.2.2 d.N).Who)).Epoch))) && (decide (((lget x.2.2.2.2.2.1 ((lget x.2.2.2.2.2.2.2 d.N).Who)).Until) < (((lget x.2.2.2.2.2.2.2 d.N).Trust).Until)))))))], [(3, [.int .i64 x.1, .int .i64 x.2.1, .int .i64 x.2.2.1, .int .i64 x.2.2.2.1, .row 17 1, .row 20017 1, .row 40017 1, .row 60017 2]), (6, [.int .i64 0, .int .i64 0, .int .i64 0, .int .i64 0, .nils, .nils, .nils, .nils]), (12, (c_Reply (lget x.2.2.2.2.2.2.2 d.N)))], [(17, ⟨3, 1, 1, 0, 0, true, 0, [], (x.2.2.2.2.1.map e_i64)⟩), (20017, ⟨60, 2, 1, 0, 0, true, 0, [], (x.2.2.2.2.2.1.map e_Trust)⟩), (40017, ⟨103, 3, 1, 0, 0, true, 0, [], (x.2.2.2.2.2.2.1.map e_Wish)⟩), (60017, ⟨105, 3, 2, 0, (x.2.2.2.2.2.2.2.map e_Reply).length, false, 0, [], (v7.map e_Reply)⟩)], [], []⟩ .nil (by kernel_rfl) ?_
                            refine Wk_split rfl (fun hb => ?_) (fun hb => ?_)
                            · have hF := ite_t hF hb
                              obtain ⟨h33, hF⟩ := asrt_elim hF
                              obtain ⟨h34, hF⟩ := asrt_elim hF
                              refine WRL ((lset x.2.2.2.2.2.1 ((lget x.2.2.2.2.2.2.2 d.N).Who) (⟨((lget x.2.2.2.2.2.2.2 d.N).Trust).Epoch, ((lget x.2.2.2.2.2.2.2 d.N).Trust).Until⟩ : Trust))) (fun v8 : List Trust => ⟨[(3, .ptr 3 0), (6, .ptr 6 0)], [(3, [.int .i64 x.1, .int .i64 x.2.1, .int .i64 x.2.2.1, .int .i64 x.2.2.2.1, .row 17 1, .row 20017 1, .row 40017 1, .row 60017 2]), (6, [.int .i64 0, .int .i64 0, .int .i64 0, .int .i64 0, .nils, .nils, .nils, .nils])], [(17, ⟨3, 1, 1, 0, 0, true, 0, [], (x.2.2.2.2.1.map e_i64)⟩), (20017, ⟨60, 2, 1, 0, 0, true, 0, [], (v8.map e_Trust)⟩), (40017, ⟨103, 3, 1, 0, 0, true, 0, [], (x.2.2.2.2.2.2.1.map e_Wish)⟩), (60017, ⟨105, 3, 2, 0, (x.2.2.2.2.2.2.2.map e_Reply).length, false, 0, [], (v7.map e_Reply)⟩)], [], []⟩) [.av (e_Trust (lget x.2.2.2.2.2.1 ((lget x.2.2.2.2.2.2.2 d.N).Who))), .xs ((lset x.2.2.2.2.2.1 ((lget x.2.2.2.2.2.2.2 d.N).Who) (⟨((lget x.2.2.2.2.2.2.2 d.N).Trust).Epoch, ((lget x.2.2.2.2.2.2.2 d.N).Trust).Until⟩ : Trust)).map e_Trust)] [3, 6] [3, 6] [17, 20017, 40017, 60017] [] [] [] (.cons (ixr_ok e_Trust h33) (.cons (ldr_ok e_Trust h34) (.cons (set_ok e_Trust x.2.2.2.2.2.1 ((lget x.2.2.2.2.2.2.2 d.N).Who) (⟨((lget x.2.2.2.2.2.2.2 d.N).Trust).Epoch, ((lget x.2.2.2.2.2.2.2 d.N).Trust).Until⟩ : Trust)) (.cons (Nat.zero_le (((lget x.2.2.2.2.2.2.2 d.N).Who).toNat)) .nil)))) (by kernel_rfl) (fun v8 hv => ?_)
                              have hF := lt_elim hF hv
                              refine Wk_blk ?_
                              exact Wk_met (fs := [3, 6]) (bs := [3, 6]) (rs := [17, 20017, 40017, 60017]) (ms := []) (aa := []) (nv := [(40017, ⟨0, true, false, false⟩), (60017, ⟨0, false, true, false⟩)]) (by first | (rw [← some_elim hF]; kernel_rfl) | kernel_rfl)
                            · have hF := ite_f hF hb
                              refine Wk_skip ?_
                              refine Wk_blk ?_
                              exact Wk_met (fs := [3, 6]) (bs := [3, 6]) (rs := [17, 20017, 40017, 60017]) (ms := []) (aa := []) (nv := [(40017, ⟨0, true, false, false⟩), (60017, ⟨0, false, true, false⟩)]) (by first | (rw [← some_elim hF]; kernel_rfl) | kernel_rfl)
                          · have hF := ite_f hF hb
                            refine Wk_seq ?_
                            refine WR [] [3, 5, 6, 118, 321] [3, 5, 6] [17, 20017, 40017, 60017] [] [] [] ⟨[(3, .ptr 3 0), (5, .ptr 5 0), (6, .ptr 6 0), (118, .int .i64 d.Kind), (321, .bool (decide (d.Kind = 5)))], [(3, [.int .i64 x.1, .int .i64 x.2.1, .int .i64 x.2.2.1, .int .i64 x.2.2.2.1, .row 17 1, .row 20017 1, .row 40017 1, .row 60017 1]), (5, (c_Deed d)), (6, [.int .i64 0, .int .i64 0, .int .i64 0, .int .i64 0, .nils, .nils, .nils, .nils])], [(17, ⟨3, 1, 1, 0, 0, true, 0, [], (x.2.2.2.2.1.map e_i64)⟩), (20017, ⟨60, 2, 1, 0, 0, true, 0, [], (x.2.2.2.2.2.1.map e_Trust)⟩), (40017, ⟨103, 3, 1, 0, 0, true, 0, [], (x.2.2.2.2.2.2.1.map e_Wish)⟩), (60017, ⟨105, 3, 1, 0, 0, true, 0, [], (x.2.2.2.2.2.2.2.map e_Reply)⟩)], [], []⟩ .nil (by kernel_rfl) ?_
                            refine Wk_split rfl (fun hb => ?_) (fun hb => ?_)
                            · have hF := ite_t hF hb
                              obtain ⟨h35, hF⟩ := asrt_elim hF
                              obtain ⟨h36, hF⟩ := asrt_elim hF
                              refine WR [.av (e_Trust (lget x.2.2.2.2.2.1 d.Who)), .xs ((lset x.2.2.2.2.2.1 d.Who (⟨0, 0⟩ : Trust)).map e_Trust)] [3, 6] [3, 6] [17, 20017, 40017, 60017] [] [] [] ⟨[(3, .ptr 3 0), (6, .ptr 6 0)], [(3, [.int .i64 x.1, .int .i64 x.2.1, .int .i64 x.2.2.1, .int .i64 x.2.2.2.1, .row 17 1, .row 20017 1, .row 40017 1, .row 60017 1]), (6, [.int .i64 0, .int .i64 0, .int .i64 0, .int .i64 0, .nils, .nils, .nils, .nils])], [(17, ⟨3, 1, 1, 0, 0, true, 0, [], (x.2.2.2.2.1.map e_i64)⟩), (20017, ⟨60, 2, 1, 0, 0, true, 0, [], ((lset x.2.2.2.2.2.1 d.Who (⟨0, 0⟩ : Trust)).map e_Trust)⟩), (40017, ⟨103, 3, 1, 0, 0, true, 0, [], (x.2.2.2.2.2.2.1.map e_Wish)⟩), (60017, ⟨105, 3, 1, 0, 0, true, 0, [], (x.2.2.2.2.2.2.2.map e_Reply)⟩)], [], []⟩ (.cons (ixr_ok e_Trust h35) (.cons (ldr_ok e_Trust h36) (.cons (set_ok e_Trust x.2.2.2.2.2.1 d.Who (⟨0, 0⟩ : Trust)) (.cons (Nat.zero_le d.Who.toNat) .nil)))) (by kernel_rfl) ?_
                              refine Wk_blk ?_
                              exact Wk_met (fs := [3, 6]) (bs := [3, 6]) (rs := [17, 20017, 40017, 60017]) (ms := []) (aa := []) (nv := [(40017, ⟨0, true, false, false⟩), (60017, ⟨0, true, false, false⟩)]) (by first | (rw [← some_elim hF]; kernel_rfl) | kernel_rfl)
                            · have hF := ite_f hF hb
                              refine Wk_seq ?_
                              refine WR [] [3, 5, 6, 329] [3, 5, 6] [17, 20017, 40017, 60017] [] [] [] ⟨[(3, .ptr 3 0), (5, .ptr 5 0), (6, .ptr 6 0), (329, .bool (decide (d.Kind = 6)))], [(3, [.int .i64 x.1, .int .i64 x.2.1, .int .i64 x.2.2.1, .int .i64 x.2.2.2.1, .row 17 1, .row 20017 1, .row 40017 1, .row 60017 1]), (5, (c_Deed d)), (6, [.int .i64 0, .int .i64 0, .int .i64 0, .int .i64 0, .nils, .nils, .nils, .nils])], [(17, ⟨3, 1, 1, 0, 0, true, 0, [], (x.2.2.2.2.1.map e_i64)⟩), (20017, ⟨60, 2, 1, 0, 0, true, 0, [], (x.2.2.2.2.2.1.map e_Trust)⟩), (40017, ⟨103, 3, 1, 0, 0, true, 0, [], (x.2.2.2.2.2.2.1.map e_Wish)⟩), (60017, ⟨105, 3, 1, 0, 0, true, 0, [], (x.2.2.2.2.2.2.2.map e_Reply)⟩)], [], []⟩ .nil (by kernel_rfl) ?_
                              refine Wk_split rfl (fun hb => ?_) (fun hb => ?_)
                              · have hF := ite_t hF hb
                                obtain ⟨h37, hF⟩ := asrt_elim hF
                                obtain ⟨h38, hF⟩ := asrt_elim hF
                                obtain ⟨h39, hF⟩ := asrt_elim hF
                                refine WDL ((x.2.2.2.2.2.2.1 ++ [(⟨(lget x.2.2.2.2.2.2.1 d.N).Who, (lget x.2.2.2.2.2.2.1 d.N).Sent, (lget x.2.2.2.2.2.2.1 d.N).Epoch⟩ : Wish)])) (fun v9 : List Wish => ⟨[(3, .ptr 3 0), (6, .ptr 6 0)], [(3, [.int .i64 x.1, .int .i64 x.2.1, .int .i64 x.2.2.1, .int .i64 x.2.2.2.1, .row 17 1, .row 20017 1, .row 40017 2, .row 60017 1]), (6, [.int .i64 0, .int .i64 0, .int .i64 0, .int .i64 0, .nils, .nils, .nils, .nils])], [(17, ⟨3, 1, 1, 0, 0, true, 0, [], (x.2.2.2.2.1.map e_i64)⟩), (20017, ⟨60, 2, 1, 0, 0, true, 0, [], (x.2.2.2.2.2.1.map e_Trust)⟩), (40017, ⟨103, 3, 2, 0, 0, true, 0, [], (v9.map e_Wish)⟩), (60017, ⟨105, 3, 1, 0, 0, true, 0, [], (x.2.2.2.2.2.2.2.map e_Reply)⟩)], [], []⟩) [.av (e_Wish (lget x.2.2.2.2.2.2.1 d.N)), .sealed, .xs ((x.2.2.2.2.2.2.1 ++ [(⟨(lget x.2.2.2.2.2.2.1 d.N).Who, (lget x.2.2.2.2.2.2.1 d.N).Sent, (lget x.2.2.2.2.2.2.1 d.N).Epoch⟩ : Wish)]).map e_Wish)] [3, 6] [3, 6] [17, 20017, 40017, 60017] [] [] [] (.cons (ixr_ok e_Wish h37) (.cons (ldr_ok e_Wish h38) (.cons (app_ok e_Wish x.2.2.2.2.2.2.1 [(⟨(lget x.2.2.2.2.2.2.1 d.N).Who, (lget x.2.2.2.2.2.2.1 d.N).Sent, (lget x.2.2.2.2.2.2.1 d.N).Epoch⟩ : Wish)]) (.cons (appl_ok e_Wish h39) .nil)))) (by kernel_rfl) (fun v9 hv => ?_)
                                have hF := lt_elim hF hv
                                refine Wk_blk ?_
                                exact Wk_met (fs := [3, 6]) (bs := [3, 6]) (rs := [17, 20017, 40017, 60017]) (ms := []) (aa := []) (nv := [(40017, ⟨0, true, false, false⟩), (60017, ⟨0, true, false, false⟩)]) (by first | (rw [← some_elim hF]; kernel_rfl) | kernel_rfl)
                              · have hF := ite_f hF hb
                                refine Wk_skip ?_
                                refine Wk_blk ?_
                                exact Wk_met (fs := [3, 6]) (bs := [3, 6]) (rs := [17, 20017, 40017, 60017]) (ms := []) (aa := []) (nv := [(40017, ⟨0, true, false, false⟩), (60017, ⟨0, true, false, false⟩)]) (by first | (rw [← some_elim hF]; kernel_rfl) | kernel_rfl)
            · refine Wk_seq ?_
              refine WRL (((decide (900000000 < v.1)) || (decide (100 < (v.2.2.2.2.2.2.1.length : Int)))) || (decide (100 < (v.2.2.2.2.2.2.2.length : Int)))) (fun v10 : Bool => ⟨[(3, .ptr 3 0), (6, .ptr 6 0), (14, .bool v10)], [(3, [.int .i64 v.1, .int .i64 v.2.1, .int .i64 v.2.2.1, .int .i64 v.2.2.2.1, .row 17 1, .row 20017 1, .row 40017 0, .row 60017 0]), (6, [.int .i64 0, .int .i64 0, .int .i64 0, .int .i64 0, .nils, .nils, .nils, .nils])], [(17, ⟨3, 1, 1, 0, 0, true, 0, [], (v.2.2.2.2.1.map e_i64)⟩), (20017, ⟨60, 2, 1, 0, 0, true, 0, [], (v.2.2.2.2.2.1.map e_Trust)⟩), (40017, ⟨103, 3, 0, 0, 0, false, 0, [], (v.2.2.2.2.2.2.1.map e_Wish)⟩), (60017, ⟨105, 3, 0, 0, 0, false, 0, [], (v.2.2.2.2.2.2.2.map e_Reply)⟩)], [], []⟩) [.nat (v.2.2.2.2.2.2.1.length : Int), .nat (v.2.2.2.2.2.2.2.length : Int)] [3, 6, 14] [3, 6] [17, 20017, 40017, 60017] [] [] [] (.cons (fun (_ : (!(decide (900000000 < v.1))) = true) => (len_ok e_Wish v.2.2.2.2.2.2.1)) (.cons (fun (_ : (!((decide (900000000 < v.1)) || (decide (100 < (v.2.2.2.2.2.2.1.length : Int))))) = true) => (len_ok e_Reply v.2.2.2.2.2.2.2)) .nil)) (by kernel_rfl) (fun v10 hv => ?_)
              have hF := lt_elim hF hv
              refine Wk_seq ?_
              refine Wk_seq ?_
              refine WR [] [3, 6, 14, 15] [3, 6] [17, 20017, 40017, 60017] [] [] [] ⟨[(3, .ptr 3 0), (6, .ptr 6 0), (14, .bool v10), (15, .int .i64 0)], [(3, [.int .i64 v.1, .int .i64 v.2.1, .int .i64 v.2.2.1, .int .i64 v.2.2.2.1, .row 17 1, .row 20017 1, .row 40017 0, .row 60017 0]), (6, [.int .i64 0, .int .i64 0, .int .i64 0, .int .i64 0, .nils, .nils, .nils, .nils])], [(17, ⟨3, 1, 1, 0, 0, true, 0, [], (v.2.2.2.2.1.map e_i64)⟩), (20017, ⟨60, 2, 1, 0, 0, true, 0, [], (v.2.2.2.2.2.1.map e_Trust)⟩), (40017, ⟨103, 3, 0, 0, 0, false, 0, [], (v.2.2.2.2.2.2.1.map e_Wish)⟩), (60017, ⟨105, 3, 0, 0, 0, false, 0, [], (v.2.2.2.2.2.2.2.map e_Reply)⟩)], [], []⟩ .nil (by kernel_rfl) ?_
              refine Wk_meetP (fun v11 : Bool => (⟨[(3, .ptr 3 0), (6, .ptr 6 0), (14, .bool v11)], [(3, [.int .i64 v.1, .int .i64 v.2.1, .int .i64 v.2.2.1, .int .i64 v.2.2.2.1, .row 17 1, .row 20017 1, .row 40017 0, .row 60017 0]), (6, [.int .i64 0, .int .i64 0, .int .i64 0, .int .i64 0, .nils, .nils, .nils, .nils])], [(17, ⟨3, 1, 1, 0, 0, true, 0, [], (v.2.2.2.2.1.map e_i64)⟩), (20017, ⟨60, 2, 1, 0, 0, true, 0, [], (v.2.2.2.2.2.1.map e_Trust)⟩), (40017, ⟨103, 3, 0, 0, 0, false, 0, [], (v.2.2.2.2.2.2.1.map e_Wish)⟩), (60017, ⟨105, 3, 0, 0, 0, false, 0, [], (v.2.2.2.2.2.2.2.map e_Reply)⟩)], [], []⟩ : S)) (fun v11 => R_CourtStep_J1 v v11 = some r) ?_ ?_
              · refine Wk_block ?_
                unfold R_CourtStep_L1 at hF
                refine Wk_trim (fs := [3, 6, 14, 15]) (bs := [3, 6]) (rs := [17, 20017, 40017, 60017]) (ms := []) (aa := []) (nv := []) (t := (fun v12 : Bool × Int => (⟨[(3, .ptr 3 0), (6, .ptr 6 0), (14, .bool v12.1), (15, .int .i64 v12.2)], [(3, [.int .i64 v.1, .int .i64 v.2.1, .int .i64 v.2.2.1, .int .i64 v.2.2.2.1, .row 17 1, .row 20017 1, .row 40017 0, .row 60017 0]), (6, [.int .i64 0, .int .i64 0, .int .i64 0, .int .i64 0, .nils, .nils, .nils, .nils])], [(17, ⟨3, 1, 1, 0, 0, true, 0, [], (v.2.2.2.2.1.map e_i64)⟩), (20017, ⟨60, 2, 1, 0, 0, true, 0, [], (v.2.2.2.2.2.1.map e_Trust)⟩), (40017, ⟨103, 3, 0, 0, 0, false, 0, [], (v.2.2.2.2.2.2.1.map e_Wish)⟩), (60017, ⟨105, 3, 0, 0, 0, false, 0, [], (v.2.2.2.2.2.2.2.map e_Reply)⟩)], [], []⟩ : S)) (v10, 0)) (by kernel_rfl) ?_
                refine Wk_iter (step := fun y => R_CourtStep_B1 v y) (r := r) (fun v12 : Bool × Int => (⟨[(3, .ptr 3 0), (6, .ptr 6 0), (14, .bool v12.1), (15, .int .i64 v12.2)], [(3, [.int .i64 v.1, .int .i64 v.2.1, .int .i64 v.2.2.1, .int .i64 v.2.2.2.1, .row 17 1, .row 20017 1, .row 40017 0, .row 60017 0]), (6, [.int .i64 0, .int .i64 0, .int .i64 0, .int .i64 0, .nils, .nils, .nils, .nils])], [(17, ⟨3, 1, 1, 0, 0, true, 0, [], (v.2.2.2.2.1.map e_i64)⟩), (20017, ⟨60, 2, 1, 0, 0, true, 0, [], (v.2.2.2.2.2.1.map e_Trust)⟩), (40017, ⟨103, 3, 0, 0, 0, false, 0, [], (v.2.2.2.2.2.2.1.map e_Wish)⟩), (60017, ⟨105, 3, 0, 0, 0, false, 0, [], (v.2.2.2.2.2.2.2.map e_Reply)⟩)], [], []⟩ : S)) (v10, 0) hF ?_
                intro n1 v12 y1 hF ih1 dn1
                have hF : R_CourtStep_B1 v v12 = some y1 := hF
                unfold R_CourtStep_B1 at hF
                refine Wk_seq ?_
                refine Wk_seq ?_
                refine WR [.nat (v.2.2.2.2.1.length : Int)] [3, 6, 14, 15, 361] [3, 6] [17, 20017, 40017, 60017] [] [] [] ⟨[(3, .ptr 3 0), (6, .ptr 6 0), (14, .bool v12.1), (15, .int .i64 v12.2), (361, .bool (decide (v12.2 < (v.2.2.2.2.1.length : Int))))], [(3, [.int .i64 v.1, .int .i64 v.2.1, .int .i64 v.2.2.1, .int .i64 v.2.2.2.1, .row 17 1, .row 20017 1, .row 40017 0, .row 60017 0]), (6, [.int .i64 0, .int .i64 0, .int .i64 0, .int .i64 0, .nils, .nils, .nils, .nils])], [(17, ⟨3, 1, 1, 0, 0, true, 0, [], (v.2.2.2.2.1.map e_i64)⟩), (20017, ⟨60, 2, 1, 0, 0, true, 0, [], (v.2.2.2.2.2.1.map e_Trust)⟩), (40017, ⟨103, 3, 0, 0, 0, false, 0, [], (v.2.2.2.2.2.2.1.map e_Wish)⟩), (60017, ⟨105, 3, 0, 0, 0, false, 0, [], (v.2.2.2.2.2.2.2.map e_Reply)⟩)], [], []⟩ (.cons (len_ok e_i64 v.2.2.2.2.1) .nil) (by kernel_rfl) ?_
                refine Wk_split rfl (fun hb => ?_) (fun hb => ?_)
                · have hF := ite_t hF hb
                  refine Wk_skip ?_
                  refine Wk_seq ?_
                  refine Wk_block ?_
                  obtain ⟨h40, hF⟩ := asrt_elim hF
                  obtain ⟨h41, hF⟩ := asrt_elim hF
                  refine WR [.av (e_i64 (lget v.2.2.2.2.1 v12.2))] [3, 6, 14, 15] [3, 6] [17, 20017, 40017, 60017] [] [] [] ⟨[(3, .ptr 3 0), (6, .ptr 6 0), (14, .bool (v12.1 || (decide (900000000 < (lget v.2.2.2.2.1 v12.2))))), (15, .int .i64 v12.2)], [(3, [.int .i64 v.1, .int .i64 v.2.1, .int .i64 v.2.2.1, .int .i64 v.2.2.2.1, .row 17 1, .row 20017 1, .row 40017 0, .row 60017 0]), (6, [.int .i64 0, .int .i64 0, .int .i64 0, .int .i64 0, .nils, .nils, .nils, .nils])], [(17, ⟨3, 1, 1, 0, 0, true, 0, [], (v.2.2.2.2.1.map e_i64)⟩), (20017, ⟨60, 2, 1, 0, 0, true, 0, [], (v.2.2.2.2.2.1.map e_Trust)⟩), (40017, ⟨103, 3, 0, 0, 0, false, 0, [], (v.2.2.2.2.2.2.1.map e_Wish)⟩), (60017, ⟨105, 3, 0, 0, 0, false, 0, [], (v.2.2.2.2.2.2.2.map e_Reply)⟩)], [], []⟩ (.cons (fun (ga0 : (!v12.1) = true) => (ixr_ok e_i64 (h40 ga0))) (.cons (fun (ga0 : (!v12.1) = true) => (ldr_ok e_i64 (h41 ga0))) .nil)) (by kernel_rfl) ?_
                  refine Wk_blk ?_
                  refine WR [] [3, 6, 14, 15] [3, 6] [17, 20017, 40017, 60017] [] [] [] ⟨[(3, .ptr 3 0), (6, .ptr 6 0), (14, .bool (v12.1 || (decide (900000000 < (lget v.2.2.2.2.1 v12.2))))), (15, .int .i64 (w64 (v12.2 + 1)))], [(3, [.int .i64 v.1, .int .i64 v.2.1, .int .i64 v.2.2.1, .int .i64 v.2.2.2.1, .row 17 1, .row 20017 1, .row 40017 0, .row 60017 0]), (6, [.int .i64 0, .int .i64 0, .int .i64 0, .int .i64 0, .nils, .nils, .nils, .nils])], [(17, ⟨3, 1, 1, 0, 0, true, 0, [], (v.2.2.2.2.1.map e_i64)⟩), (20017, ⟨60, 2, 1, 0, 0, true, 0, [], (v.2.2.2.2.2.1.map e_Trust)⟩), (40017, ⟨103, 3, 0, 0, 0, false, 0, [], (v.2.2.2.2.2.2.1.map e_Wish)⟩), (60017, ⟨105, 3, 0, 0, 0, false, 0, [], (v.2.2.2.2.2.2.2.map e_Reply)⟩)], [], []⟩ .nil (by kernel_rfl) ?_
                  refine Wk_trim (fs := [3, 6, 14, 15]) (bs := [3, 6]) (rs := [17, 20017, 40017, 60017]) (ms := []) (aa := []) (nv := []) ?_ (ih1 _ (some_elim hF).symm)
                  kernel_rfl
                · have hF := ite_f hF hb
                  refine Wk_exit rfl ?_
                  have hF := inrO_done hF dn1
                  exact Wk_metP v12.1 [3, 6, 14] [3, 6] [17, 20017, 40017, 60017] [] [] [] hF (by kernel_rfl)
              · intro v11 hF
                have hF : R_CourtStep_J1 v v11 = some r := hF
                unfold R_CourtStep_J1 at hF
                refine Wk_seq ?_
                refine Wk_seq ?_
                refine WR [] [3, 6, 373] [3, 6] [17, 20017, 40017, 60017] [] [] [] ⟨[(3, .ptr 3 0), (6, .ptr 6 0), (373, .bool v11)], [(3, [.int .i64 v.1, .int .i64 v.2.1, .int .i64 v.2.2.1, .int .i64 v.2.2.2.1, .row 17 1, .row 20017 1, .row 40017 0, .row 60017 0]), (6, [.int .i64 0, .int .i64 0, .int .i64 0, .int .i64 0, .nils, .nils, .nils, .nils])], [(17, ⟨3, 1, 1, 0, 0, true, 0, [], (v.2.2.2.2.1.map e_i64)⟩), (20017, ⟨60, 2, 1, 0, 0, true, 0, [], (v.2.2.2.2.2.1.map e_Trust)⟩), (40017, ⟨103, 3, 0, 0, 0, false, 0, [], (v.2.2.2.2.2.2.1.map e_Wish)⟩), (60017, ⟨105, 3, 0, 0, 0, false, 0, [], (v.2.2.2.2.2.2.2.map e_Reply)⟩)], [], []⟩ .nil (by kernel_rfl) ?_
                refine Wk_split rfl (fun hb => ?_) (fun hb => ?_)
                · have hF := ite_t hF hb
                  refine Wk_seq ?_
                  refine WR [] [6, 7] [6] [17, 20017, 40017, 60017] [] [] [] ⟨[(6, .ptr 6 0), (7, .int .i64 9)], [(6, [.int .i64 v.1, .int .i64 v.2.1, .int .i64 v.2.2.1, .int .i64 v.2.2.2.1, .row 17 1, .row 20017 1, .row 40017 0, .row 60017 0])], [(17, ⟨3, 1, 1, 0, 0, true, 0, [], (v.2.2.2.2.1.map e_i64)⟩), (20017, ⟨60, 2, 1, 0, 0, true, 0, [], (v.2.2.2.2.2.1.map e_Trust)⟩), (40017, ⟨103, 3, 0, 0, 0, false, 0, [], (v.2.2.2.2.2.2.1.map e_Wish)⟩), (60017, ⟨105, 3, 0, 0, 0, false, 0, [], (v.2.2.2.2.2.2.2.map e_Reply)⟩)], [], []⟩ .nil (by kernel_rfl) ?_
                  have hF := some_elim hF
                  exact Wk_ret (hfin _ ⟨[17, 20017, 40017, 60017], [], [17, 20017, 40017, 60017], [], [], [], by first | (rw [← hF]; kernel_rfl) | kernel_rfl⟩)
                · have hF := ite_f hF hb
                  refine Wk_skip ?_
                  refine Wk_seq ?_
                  refine WR [] [6, 7] [6] [17, 20017, 40017, 60017] [] [] [] ⟨[(6, .ptr 6 0), (7, .int .i64 0)], [(6, [.int .i64 v.1, .int .i64 v.2.1, .int .i64 v.2.2.1, .int .i64 v.2.2.2.1, .row 17 1, .row 20017 1, .row 40017 0, .row 60017 0])], [(17, ⟨3, 1, 1, 0, 0, true, 0, [], (v.2.2.2.2.1.map e_i64)⟩), (20017, ⟨60, 2, 1, 0, 0, true, 0, [], (v.2.2.2.2.2.1.map e_Trust)⟩), (40017, ⟨103, 3, 0, 0, 0, false, 0, [], (v.2.2.2.2.2.2.1.map e_Wish)⟩), (60017, ⟨105, 3, 0, 0, 0, false, 0, [], (v.2.2.2.2.2.2.2.map e_Reply)⟩)], [], []⟩ .nil (by kernel_rfl) ?_
                  have hF := some_elim hF
                  exact Wk_ret (hfin _ ⟨[17, 20017, 40017, 60017], [], [17, 20017, 40017, 60017], [], [], [], by first | (rw [← hF]; kernel_rfl) | kernel_rfl⟩)

/- tabularyref.Courts -/
noncomputable def R_Courts_v1_J1 (v1 : List Court) : Option (List Court × Fault) :=
  some (v1, (⟨0, 0⟩ : Fault))
noncomputable def R_Courts_v1_B1 (span : Int) (deeds : List Deed) (v2 : List Court × Int) : Option ((List Court × Int) ⊕ (List Court × Fault)) :=
  if (decide (v2.2 < (deeds.length : Int))) = true then
    asrt (0 ≤ v2.2 ∧ v2.2 < (v2.1.length : Int)) <|
    asrt (0 ≤ v2.2 ∧ v2.2 < (v2.1.length : Int)) <|
    asrt (0 ≤ v2.2 ∧ v2.2 < (deeds.length : Int)) <|
    ob (R_CourtStep (⟨(lget v2.1 v2.2).Now, (⟨((lget v2.1 v2.2).Lease).Holder, ((lget v2.1 v2.2).Lease).Epoch, ((lget v2.1 v2.2).Lease).Until⟩ : Lease), (lget v2.1 v2.2).Clocks, (lget v2.1 v2.2).Trusts, (lget v2.1 v2.2).Wishes, (lget v2.1 v2.2).Replies⟩ : Court) span (⟨(lget deeds v2.2).Kind, (lget deeds v2.2).Who, (lget deeds v2.2).N⟩ : Deed)) fun x3 =>
    if (!decide (x3.2.2.2.2.2.2.2.2 = 0)) = true then
      lt (R_F x3.2.2.2.2.2.2.2.2 v2.2) fun x4 =>
      some (Sum.inr (([] : List Court), x4))
    else
      asrt (((v2.1 ++ [(⟨x3.1, (⟨x3.2.1, x3.2.2.1, x3.2.2.2.1⟩ : Lease), x3.2.2.2.2.1, x3.2.2.2.2.2.1, x3.2.2.2.2.2.2.1, x3.2.2.2.2.2.2.2.1⟩ : Court)]).length : Int) * 128 ≤ 140737488351232) <|
      lt ((v2.1 ++ [(⟨x3.1, (⟨x3.2.1, x3.2.2.1, x3.2.2.2.1⟩ : Lease), x3.2.2.2.2.1, x3.2.2.2.2.2.1, x3.2.2.2.2.2.2.1, x3.2.2.2.2.2.2.2.1⟩ : Court)])) fun (v3 : List Court) =>
      some (Sum.inl (v3, w64 (v2.2 + 1)))
  else
    inrO (R_Courts_v1_J1 v2.1)
noncomputable def R_Courts_v1_L1 (span : Int) (deeds : List Deed) (v0 : List Court × Int) : Option (List Court × Fault) :=
  loopO (fun y => R_Courts_v1_B1 span deeds y) v0
noncomputable def R_Courts_v1 (span : Int) (clients : Int) (deeds : List Deed) : Option (List Court × Fault) :=
  lt (R_Spanned span) fun x =>
  if (!decide (x.Code = 0)) = true then
    some (([] : List Court), x)
  else
    if ((decide (clients < 1)) || (decide (8 < clients))) = true then
      lt (R_F 3 (-1)) fun x1 =>
      some (([] : List Court), x1)
    else
      if (decide (2000 < (deeds.length : Int))) = true then
        lt (R_F 2 (-1)) fun x2 =>
        some (([] : List Court), x2)
      else
        asrt (0 ≤ (clients : Int) ∧ clients ≤ clients ∧ clients * 8 ≤ 140737488351232) <|
        asrt (0 ≤ (clients : Int) ∧ clients ≤ clients ∧ clients * 16 ≤ 140737488351232) <|
        lt ([(⟨0, (⟨0, 0, 0⟩ : Lease), (List.replicate clients.toNat (0 : Int)), (List.replicate clients.toNat ((⟨0, 0⟩ : Trust) : Trust)), ([] : List Wish), ([] : List Reply)⟩ : Court)]) fun (v : List Court) =>
        R_Courts_v1_L1 span deeds (v, 0)
theorem R_Courts_v1_ok (span : Int) (clients : Int) (deeds : List Deed) (r : List Court × Fault) (hF : R_Courts_v1 span clients deeds = some r) : Pe Try.prog 24 S.none [.int .i64 span, .int .i64 clients, .sl 3 (deeds.map e_Deed)] (.tup [.sl 8 (r.1.map e_Court), .agg [.int .i64 r.2.Code, .int .i64 r.2.At]]) S.none := by
  refine Pe_of (N := 66) (res := [.tmp 6, .cell 7 25]) (ts := [51, 25]) Ty.ok Fn.b24 Try.func24 rfl rfl rfl rfl rfl rfl ?_
  intro Q g hfin
  unfold R_Courts_v1 at hF
  refine Wk_seq ?_
  refine WR [] [0, 1, 2, 7] [7] [] [] [] [] ⟨[(0, .int .i64 span), (1, .int .i64 clients), (2, .sl 3 (deeds.map e_Deed)), (7, .ptr 7 0)], [(7, [.int .i64 0, .int .i64 0])], [], [], []⟩ .nil (by kernel_rfl) ?_
  refine Wk_seq ?_
  obtain ⟨x, h0, hF⟩ := lt_split hF
  refine WR [.callB (.agg [.int .i64 x.Code, .int .i64 x.At])] [0, 1, 2, 7, 8] [7, 8] [] [] [] [] ⟨[(0, .int .i64 span), (1, .int .i64 clients), (2, .sl 3 (deeds.map e_Deed)), (7, .ptr 7 0), (8, .ptr 8 0)], [(7, [.int .i64 0, .int .i64 0]), (8, [.int .i64 x.Code, .int .i64 x.At])], [], [], []⟩ (.cons (R_Spanned_ok span x h0) .nil) (by kernel_rfl) ?_
  refine Wk_seq ?_
  refine Wk_seq ?_
  refine WR [] [0, 1, 2, 7, 8, 17] [7, 8] [] [] [] [] ⟨[(0, .int .i64 span), (1, .int .i64 clients), (2, .sl 3 (deeds.map e_Deed)), (7, .ptr 7 0), (8, .ptr 8 0), (17, .bool (!decide (x.Code = 0)))], [(7, [.int .i64 0, .int .i64 0]), (8, [.int .i64 x.Code, .int .i64 x.At])], [], [], []⟩ .nil (by kernel_rfl) ?_
  refine Wk_split rfl (fun hb => ?_) (fun hb => ?_)
  · have hF := ite_t hF hb
    refine Wk_seq ?_
    refine WD [] [6, 7] [7] [] [] [] [] ⟨[(6, .nils), (7, .ptr 7 0)], [(7, [.int .i64 x.Code, .int .i64 x.At])], [], [], []⟩ .nil (by kernel_rfl) ?_
    have hF := some_elim hF
    exact Wk_ret (hfin _ ⟨[], [], [], [], [], [], by first | (rw [← hF]; kernel_rfl) | kernel_rfl⟩)
  · have hF := ite_f hF hb
    refine Wk_skip ?_
    refine Wk_seq ?_
    refine Wk_seq ?_
    refine WR [] [0, 1, 2, 7, 24] [7] [] [] [] [] ⟨[(0, .int .i64 span), (1, .int .i64 clients), (2, .sl 3 (deeds.map e_Deed)), (7, .ptr 7 0), (24, .bool ((decide (clients < 1)) || (decide (8 < clients))))], [(7, [.int .i64 0, .int .i64 0])], [], [], []⟩ .nil (by kernel_rfl) ?_
    refine Wk_split rfl (fun hb => ?_) (fun hb => ?_)
    · have hF := ite_t hF hb
      refine Wk_seq ?_
      obtain ⟨x1, h1, hF⟩ := lt_split hF
      refine WR [.callB (.agg [.int .i64 x1.Code, .int .i64 x1.At])] [6, 7] [7] [] [] [] [] ⟨[(6, .nils), (7, .ptr 7 0)], [(7, [.int .i64 x1.Code, .int .i64 x1.At])], [], [], []⟩ (.cons (R_F_ok 3 (-1) x1 h1) .nil) (by kernel_rfl) ?_
      have hF := some_elim hF
      exact Wk_ret (hfin _ ⟨[], [], [], [], [], [], by first | (rw [← hF]; kernel_rfl) | kernel_rfl⟩)
    · have hF := ite_f hF hb
      refine Wk_skip ?_
      refine Wk_seq ?_
      refine Wk_seq ?_
      refine WR [.nat (deeds.length : Int)] [0, 1, 2, 7, 28] [7] [] [] [] [] ⟨[(0, .int .i64 span), (1, .int .i64 clients), (2, .sl 3 (deeds.map e_Deed)), (7, .ptr 7 0), (28, .bool (decide (2000 < (deeds.length : Int))))], [(7, [.int .i64 0, .int .i64 0])], [], [], []⟩ (.cons (len_ok e_Deed deeds) .nil) (by kernel_rfl) ?_
      refine Wk_split rfl (fun hb => ?_) (fun hb => ?_)
      · have hF := ite_t hF hb
        refine Wk_seq ?_
        obtain ⟨x2, h2, hF⟩ := lt_split hF
        refine WR [.callB (.agg [.int .i64 x2.Code, .int .i64 x2.At])] [6, 7] [7] [] [] [] [] ⟨[(6, .nils), (7, .ptr 7 0)], [(7, [.int .i64 x2.Code, .int .i64 x2.At])], [], [], []⟩ (.cons (R_F_ok 2 (-1) x2 h2) .nil) (by kernel_rfl) ?_
        have hF := some_elim hF
        exact Wk_ret (hfin _ ⟨[], [], [], [], [], [], by first | (rw [← hF]; kernel_rfl) | kernel_rfl⟩)
      · have hF := ite_f hF hb
        refine Wk_skip ?_
        refine Wk_seq ?_
        obtain ⟨h3, hF⟩ := asrt_elim hF
        obtain ⟨h4, hF⟩ := asrt_elim hF
        refine WDL ([(⟨0, (⟨0, 0, 0⟩ : Lease), (List.replicate clients.toNat (0 : Int)), (List.replicate clients.toNat ((⟨0, 0⟩ : Trust) : Trust)), ([] : List Wish), ([] : List Reply)⟩ : Court)]) (fun v : List Court => ⟨[(0, .int .i64 span), (2, .sl 3 (deeds.map e_Deed)), (7, .ptr 7 0), (9, .row 35 0)], [(7, [.int .i64 0, .int .i64 0])], [(35, ⟨44, 8, 0, 0, 0, true, 0, [], (v.map e_Court)⟩)], [], []⟩) [.xs ((List.replicate clients.toNat (0 : Int)).map e_i64), .xs ((List.replicate clients.toNat ((⟨0, 0⟩ : Trust) : Trust)).map e_Trust)] [0, 2, 7, 9] [7] [35] [] [] [] (.cons (mk_ok h3) (.cons (rep_ok e_i64 clients (0 : Int)) (.cons (mk_ok h4) (.cons (rep_ok e_Trust clients ((⟨0, 0⟩ : Trust) : Trust)) .nil)))) (by kernel_rfl) (fun v hv => ?_)
        have hF := lt_elim hF hv
        refine Wk_seq ?_
        refine Wk_seq ?_
        refine WR [] [0, 2, 7, 9, 10] [7] [35] [] [] [] ⟨[(0, .int .i64 span), (2, .sl 3 (deeds.map e_Deed)), (7, .ptr 7 0), (9, .row 35 0), (10, .int .i64 0)], [(7, [.int .i64 0, .int .i64 0])], [(35, ⟨44, 8, 0, 0, 0, true, 0, [], (v.map e_Court)⟩)], [], []⟩ .nil (by kernel_rfl) ?_
        refine Wk_meetP (fun v1 : List Court => (⟨[(7, .ptr 7 0), (9, .row 35 0)], [(7, [.int .i64 0, .int .i64 0])], [(35, ⟨44, 8, 0, 0, 0, true, 0, [], (v1.map e_Court)⟩)], [], []⟩ : S)) (fun v1 => R_Courts_v1_J1 v1 = some r) ?_ ?_
        · refine Wk_block ?_
          unfold R_Courts_v1_L1 at hF
          refine Wk_trim (fs := [0, 2, 7, 9, 10]) (bs := [7]) (rs := [35]) (ms := []) (aa := []) (nv := []) (t := (fun v2 : List Court × Int => (⟨[(0, .int .i64 span), (2, .sl 3 (deeds.map e_Deed)), (7, .ptr 7 0), (9, .row 35 0), (10, .int .i64 v2.2)], [(7, [.int .i64 0, .int .i64 0])], [(35, ⟨44, 8, 0, 0, 0, true, 0, [], (v2.1.map e_Court)⟩)], [], []⟩ : S)) (v, 0)) (by kernel_rfl) ?_
          refine Wk_iter (step := fun y => R_Courts_v1_B1 span deeds y) (r := r) (fun v2 : List Court × Int => (⟨[(0, .int .i64 span), (2, .sl 3 (deeds.map e_Deed)), (7, .ptr 7 0), (9, .row 35 0), (10, .int .i64 v2.2)], [(7, [.int .i64 0, .int .i64 0])], [(35, ⟨44, 8, 0, 0, 0, true, 0, [], (v2.1.map e_Court)⟩)], [], []⟩ : S)) (v, 0) hF ?_
          intro n1 v2 y1 hF ih1 dn1
          have hF : R_Courts_v1_B1 span deeds v2 = some y1 := hF
          unfold R_Courts_v1_B1 at hF
          refine Wk_seq ?_
          refine Wk_seq ?_
          refine WR [.nat (deeds.length : Int)] [0, 2, 7, 9, 10, 39] [7] [35] [] [] [] ⟨[(0, .int .i64 span), (2, .sl 3 (deeds.map e_Deed)), (7, .ptr 7 0), (9, .row 35 0), (10, .int .i64 v2.2), (39, .bool (decide (v2.2 < (deeds.length : Int))))], [(7, [.int .i64 0, .int .i64 0])], [(35, ⟨44, 8, 0, 0, 0, true, 0, [], (v2.1.map e_Court)⟩)], [], []⟩ (.cons (len_ok e_Deed deeds) .nil) (by kernel_rfl) ?_
          refine Wk_split rfl (fun hb => ?_) (fun hb => ?_)
          · have hF := ite_t hF hb
            refine Wk_skip ?_
            refine Wk_seq ?_
            refine Wk_block ?_
            refine Wk_seq ?_
            obtain ⟨h5, hF⟩ := asrt_elim hF
            obtain ⟨h6, hF⟩ := asrt_elim hF
            obtain ⟨h7, hF⟩ := asrt_elim hF
            obtain ⟨x3, h8, hF⟩ := ob_elim hF
            refine WD [.av (e_Court (lget v2.1 v2.2)), .av (e_Deed (lget deeds v2.2)), .callE [] [] [] [] (.tup [.agg [.int .i64 x3.1, .int .i64 x3.2.1, .int .i64 x3.2.2.1, .int .i64 x3.2.2.2.1, .row 52 1, .row 20052 1, .row 40052 0, .row 60052 0], .int .i64 x3.2.2.2.2.2.2.2.2]) ⟨[], [], [(52, ⟨3, 1, 1, 0, 0, true, 0, [], (x3.2.2.2.2.1.map e_i64)⟩), (20052, ⟨60, 2, 1, 0, 0, true, 0, [], (x3.2.2.2.2.2.1.map e_Trust)⟩), (40052, ⟨103, 3, 0, 0, 0, false, 0, [], (x3.2.2.2.2.2.2.1.map e_Wish)⟩), (60052, ⟨105, 3, 0, 0, 0, false, 0, [], (x3.2.2.2.2.2.2.2.1.map e_Reply)⟩)], [], []⟩] [0, 2, 7, 9, 10, 11, 12] [7, 11] [35, 52, 20052, 40052, 60052] [] [] [] ⟨[(0, .int .i64 span), (2, .sl 3 (deeds.map e_Deed)), (7, .ptr 7 0), (9, .row 35 0), (10, .int .i64 v2.2), (11, .ptr 11 0), (12, .int .i64 x3.2.2.2.2.2.2.2.2)], [(7, [.int .i64 0, .int .i64 0]), (11, [.int .i64 x3.1, .int .i64 x3.2.1, .int .i64 x3.2.2.1, .int .i64 x3.2.2.2.1, .row 52 1, .row 20052 1, .row 40052 0, .row 60052 0])], [(35, ⟨44, 8, 0, 0, 0, true, 0, [], (v2.1.map e_Court)⟩), (52, ⟨3, 1, 1, 0, 0, true, 0, [], (x3.2.2.2.2.1.map e_i64)⟩), (20052, ⟨60, 2, 1, 0, 0, true, 0, [], (x3.2.2.2.2.2.1.map e_Trust)⟩), (40052, ⟨103, 3, 0, 0, 0, false, 0, [], (x3.2.2.2.2.2.2.1.map e_Wish)⟩), (60052, ⟨105, 3, 0, 0, 0, false, 0, [], (x3.2.2.2.2.2.2.2.1.map e_Reply)⟩)], [], []⟩ (.cons (ixr_ok e_Court h5) (.cons (ldr_ok e_Court h6) (.cons (idx_ok e_Deed h7) (.cons (Pe.ren (R_CourtStep_ok (⟨(lget v2.1 v2.2).Now, (⟨((lget v2.1 v2.2).Lease).Holder, ((lget v2.1 v2.2).Lease).Epoch, ((lget v2.1 v2.2).Lease).Until⟩ : Lease), (lget v2.1 v2.2).Clocks, (lget v2.1 v2.2).Trusts, (lget v2.1 v2.2).Wishes, (lget v2.1 v2.2).Replies⟩ : Court) span (⟨(lget deeds v2.2).Kind, (lget deeds v2.2).Who, (lget deeds v2.2).N⟩ : Deed) x3 h8) ⟨[], [(17, 52), (20017, 20052), (40017, 40052), (60017, 60052)], [], []⟩) .nil)))) (by kernel_rfl) ?_
            refine Wk_seq ?_
            refine Wk_seq ?_
            refine WR [] [0, 2, 7, 9, 10, 11, 12, 56] [7, 11] [35, 52, 20052, 40052, 60052] [] [] [] ⟨[(0, .int .i64 span), (2, .sl 3 (deeds.map e_Deed)), (7, .ptr 7 0), (9, .row 35 0), (10, .int .i64 v2.2), (11, .ptr 11 0), (12, .int .i64 x3.2.2.2.2.2.2.2.2), (56, .bool (!decide (x3.2.2.2.2.2.2.2.2 = 0)))], [(7, [.int .i64 0, .int .i64 0]), (11, [.int .i64 x3.1, .int .i64 x3.2.1, .int .i64 x3.2.2.1, .int .i64 x3.2.2.2.1, .row 52 1, .row 20052 1, .row 40052 0, .row 60052 0])], [(35, ⟨44, 8, 0, 0, 0, true, 0, [], (v2.1.map e_Court)⟩), (52, ⟨3, 1, 1, 0, 0, true, 0, [], (x3.2.2.2.2.1.map e_i64)⟩), (20052, ⟨60, 2, 1, 0, 0, true, 0, [], (x3.2.2.2.2.2.1.map e_Trust)⟩), (40052, ⟨103, 3, 0, 0, 0, false, 0, [], (x3.2.2.2.2.2.2.1.map e_Wish)⟩), (60052, ⟨105, 3, 0, 0, 0, false, 0, [], (x3.2.2.2.2.2.2.2.1.map e_Reply)⟩)], [], []⟩ .nil (by kernel_rfl) ?_
            refine Wk_split rfl (fun hb => ?_) (fun hb => ?_)
            · have hF := ite_t hF hb
              refine Wk_seq ?_
              obtain ⟨x4, h9, hF⟩ := lt_split hF
              refine WR [.callB (.agg [.int .i64 x4.Code, .int .i64 x4.At])] [6, 7] [7] [] [] [] [] ⟨[(6, .nils), (7, .ptr 7 0)], [(7, [.int .i64 x4.Code, .int .i64 x4.At])], [], [], []⟩ (.cons (R_F_ok x3.2.2.2.2.2.2.2.2 v2.2 x4 h9) .nil) (by kernel_rfl) ?_
              have hF := ret_done hF dn1
              have hF := some_elim hF
              exact Wk_ret (hfin _ ⟨[], [], [], [], [], [], by first | (rw [← hF]; kernel_rfl) | kernel_rfl⟩)
            · have hF := ite_f hF hb
              refine Wk_skip ?_
              obtain ⟨h10, hF⟩ := asrt_elim hF
              refine WRL ((v2.1 ++ [(⟨x3.1, (⟨x3.2.1, x3.2.2.1, x3.2.2.2.1⟩ : Lease), x3.2.2.2.2.1, x3.2.2.2.2.2.1, x3.2.2.2.2.2.2.1, x3.2.2.2.2.2.2.2.1⟩ : Court)])) (fun v3 : List Court => ⟨[(0, .int .i64 span), (2, .sl 3 (deeds.map e_Deed)), (7, .ptr 7 0), (9, .row 35 1), (10, .int .i64 v2.2)], [(7, [.int .i64 0, .int .i64 0])], [(35, ⟨44, 8, 1, 0, 0, true, 0, [], (v3.map e_Court)⟩)], [], []⟩) [.sealed, .xs ((v2.1 ++ [(⟨x3.1, (⟨x3.2.1, x3.2.2.1, x3.2.2.2.1⟩ : Lease), x3.2.2.2.2.1, x3.2.2.2.2.2.1, x3.2.2.2.2.2.2.1, x3.2.2.2.2.2.2.2.1⟩ : Court)]).map e_Court)] [0, 2, 7, 9, 10] [7] [35] [] [] [] (.cons (app_ok e_Court v2.1 [(⟨x3.1, (⟨x3.2.1, x3.2.2.1, x3.2.2.2.1⟩ : Lease), x3.2.2.2.2.1, x3.2.2.2.2.2.1, x3.2.2.2.2.2.2.1, x3.2.2.2.2.2.2.2.1⟩ : Court)]) (.cons (appl_ok e_Court h10) .nil)) (by kernel_rfl) (fun v3 hv => ?_)
              have hF := lt_elim hF hv
              refine Wk_blk ?_
              refine WR [] [0, 2, 7, 9, 10] [7] [35] [] [] [] ⟨[(0, .int .i64 span), (2, .sl 3 (deeds.map e_Deed)), (7, .ptr 7 0), (9, .row 35 1), (10, .int .i64 (w64 (v2.2 + 1)))], [(7, [.int .i64 0, .int .i64 0])], [(35, ⟨44, 8, 1, 0, 0, true, 0, [], (v3.map e_Court)⟩)], [], []⟩ .nil (by kernel_rfl) ?_
              refine Wk_trim (fs := [0, 2, 7, 9, 10]) (bs := [7]) (rs := [35]) (ms := []) (aa := []) (nv := [(35, ⟨0, true, true, false⟩)]) ?_ (ih1 _ (some_elim hF).symm)
              kernel_rfl
          · have hF := ite_f hF hb
            refine Wk_exit rfl ?_
            have hF := inrO_done hF dn1
            exact Wk_metP v2.1 [7, 9] [7] [35] [] [] [] hF (by kernel_rfl)
        · intro v1 hF
          have hF : R_Courts_v1_J1 v1 = some r := hF
          unfold R_Courts_v1_J1 at hF
          refine Wk_seq ?_
          refine WR [] [6, 7] [7] [35] [] [] [] ⟨[(6, .row 35 0), (7, .ptr 7 0)], [(7, [.int .i64 0, .int .i64 0])], [(35, ⟨44, 8, 0, 0, 0, true, 0, [], (v1.map e_Court)⟩)], [], []⟩ .nil (by kernel_rfl) ?_
          have hF := some_elim hF
          exact Wk_ret (hfin _ ⟨[], [], [], [], [], [], by first | (rw [← hF]; kernel_rfl) | kernel_rfl⟩)

/- tabularyref.Ints -/
noncomputable def R_Ints_J1 (v : Unit) : Option Bool :=
  some true
noncomputable def R_Ints_B1 (a0 : List Int) (b : List Int) (v1 : Int) : Option (Int ⊕ Bool) :=
  if (decide (v1 < (a0.length : Int))) = true then
    asrt (0 ≤ v1 ∧ v1 < (a0.length : Int)) <|
    asrt (0 ≤ v1 ∧ v1 < (b.length : Int)) <|
    if (!decide ((lget a0 v1) = (lget b v1))) = true then
      some (Sum.inr false)
    else
      some (Sum.inl (w64 (v1 + 1)))
  else
    inrO (R_Ints_J1 ())
noncomputable def R_Ints_L1 (a0 : List Int) (b : List Int) (v0 : Int) : Option Bool :=
  loopO (fun y => R_Ints_B1 a0 b y) v0
noncomputable def R_Ints (a0 : List Int) (b : List Int) : Option Bool :=
  if (!decide ((a0.length : Int) = (b.length : Int))) = true then
    some false
  else
    R_Ints_L1 a0 b 0
theorem R_Ints_ok (a0 : List Int) (b : List Int) (r : Bool) (hF : R_Ints a0 b = some r) : Pe Try.prog 60 S.none [.sl 1 (a0.map e_i64), .sl 1 (b.map e_i64)] (.bool r) S.none := by
  refine Pe_of (N := 26) (res := [.tmp 4]) (ts := [4]) Ty.ok Fn.b60 Try.func60 rfl rfl rfl rfl rfl rfl ?_
  intro Q g hfin
  unfold R_Ints at hF
  refine Wk_seq ?_
  refine WR [] [0, 1] [] [] [] [] [] ⟨[(0, .sl 1 (a0.map e_i64)), (1, .sl 1 (b.map e_i64))], [], [], [], []⟩ .nil (by kernel_rfl) ?_
  refine Wk_seq ?_
  refine Wk_seq ?_
  refine WR [.nat (a0.length : Int), .nat (b.length : Int)] [0, 1, 10] [] [] [] [] [] ⟨[(0, .sl 1 (a0.map e_i64)), (1, .sl 1 (b.map e_i64)), (10, .bool (!decide ((a0.length : Int) = (b.length : Int))))], [], [], [], []⟩ (.cons (len_ok e_i64 a0) (.cons (len_ok e_i64 b) .nil)) (by kernel_rfl) ?_
  refine Wk_split rfl (fun hb => ?_) (fun hb => ?_)
  · have hF := ite_t hF hb
    refine Wk_seq ?_
    refine WR [] [4] [] [] [] [] [] ⟨[(4, .bool false)], [], [], [], []⟩ .nil (by kernel_rfl) ?_
    have hF := some_elim hF
    exact Wk_ret (hfin _ ⟨[], [], [], [], [], [], by first | (rw [← hF]; kernel_rfl) | kernel_rfl⟩)
  · have hF := ite_f hF hb
    refine Wk_skip ?_
    refine Wk_seq ?_
    refine Wk_seq ?_
    refine WR [] [0, 1, 5] [] [] [] [] [] ⟨[(0, .sl 1 (a0.map e_i64)), (1, .sl 1 (b.map e_i64)), (5, .int .i64 0)], [], [], [], []⟩ .nil (by kernel_rfl) ?_
    refine Wk_meetP (fun v : Unit => (⟨[], [], [], [], []⟩ : S)) (fun v => R_Ints_J1 v = some r) ?_ ?_
    · refine Wk_block ?_
      unfold R_Ints_L1 at hF
      refine Wk_trim (fs := [0, 1, 5]) (bs := []) (rs := []) (ms := []) (aa := []) (nv := []) (t := (fun v1 : Int => (⟨[(0, .sl 1 (a0.map e_i64)), (1, .sl 1 (b.map e_i64)), (5, .int .i64 v1)], [], [], [], []⟩ : S)) 0) (by kernel_rfl) ?_
      refine Wk_iter (step := fun y => R_Ints_B1 a0 b y) (r := r) (fun v1 : Int => (⟨[(0, .sl 1 (a0.map e_i64)), (1, .sl 1 (b.map e_i64)), (5, .int .i64 v1)], [], [], [], []⟩ : S)) 0 hF ?_
      intro n1 v1 y1 hF ih1 dn1
      have hF : R_Ints_B1 a0 b v1 = some y1 := hF
      unfold R_Ints_B1 at hF
      refine Wk_seq ?_
      refine Wk_seq ?_
      refine WR [.nat (a0.length : Int)] [0, 1, 5, 14] [] [] [] [] [] ⟨[(0, .sl 1 (a0.map e_i64)), (1, .sl 1 (b.map e_i64)), (5, .int .i64 v1), (14, .bool (decide (v1 < (a0.length : Int))))], [], [], [], []⟩ (.cons (len_ok e_i64 a0) .nil) (by kernel_rfl) ?_
      refine Wk_split rfl (fun hb => ?_) (fun hb => ?_)
      · have hF := ite_t hF hb
        refine Wk_skip ?_
        refine Wk_seq ?_
        refine Wk_block ?_
        refine Wk_seq ?_
        obtain ⟨h0, hF⟩ := asrt_elim hF
        obtain ⟨h1, hF⟩ := asrt_elim hF
        refine WD [.av (e_i64 (lget a0 v1)), .av (e_i64 (lget b v1))] [0, 1, 5, 25] [] [] [] [] [] ⟨[(0, .sl 1 (a0.map e_i64)), (1, .sl 1 (b.map e_i64)), (5, .int .i64 v1), (25, .bool (!decide ((lget a0 v1) = (lget b v1))))], [], [], [], []⟩ (.cons (idx_ok e_i64 h0) (.cons (idx_ok e_i64 h1) .nil)) (by kernel_rfl) ?_
        refine Wk_split rfl (fun hb => ?_) (fun hb => ?_)
        · have hF := ite_t hF hb
          refine Wk_seq ?_
          refine WR [] [4] [] [] [] [] [] ⟨[(4, .bool false)], [], [], [], []⟩ .nil (by kernel_rfl) ?_
          have hF := ret_done hF dn1
          have hF := some_elim hF
          exact Wk_ret (hfin _ ⟨[], [], [], [], [], [], by first | (rw [← hF]; kernel_rfl) | kernel_rfl⟩)
        · have hF := ite_f hF hb
          refine Wk_skip ?_
          refine Wk_blk ?_
          refine WR [] [0, 1, 5] [] [] [] [] [] ⟨[(0, .sl 1 (a0.map e_i64)), (1, .sl 1 (b.map e_i64)), (5, .int .i64 (w64 (v1 + 1)))], [], [], [], []⟩ .nil (by kernel_rfl) ?_
          refine Wk_trim (fs := [0, 1, 5]) (bs := []) (rs := []) (ms := []) (aa := []) (nv := []) ?_ (ih1 _ (some_elim hF).symm)
          kernel_rfl
      · have hF := ite_f hF hb
        refine Wk_exit rfl ?_
        have hF := inrO_done hF dn1
        exact Wk_metP () [] [] [] [] [] [] hF (by kernel_rfl)
    · intro v hF
      have hF : R_Ints_J1 v = some r := hF
      unfold R_Ints_J1 at hF
      refine Wk_seq ?_
      refine WR [] [4] [] [] [] [] [] ⟨[(4, .bool true)], [], [], [], []⟩ .nil (by kernel_rfl) ?_
      have hF := some_elim hF
      exact Wk_ret (hfin _ ⟨[], [], [], [], [], [], by first | (rw [← hF]; kernel_rfl) | kernel_rfl⟩)

end G
end Go.Proofs.Ytgflfhdbihahcaa
