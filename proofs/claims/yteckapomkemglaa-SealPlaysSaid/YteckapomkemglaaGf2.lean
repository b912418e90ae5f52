/- The program's functions as plain functions, and that they are these. Written by a program (dec2.py). -/
import Derived.Test.YteckapomkemglaaGf1
namespace Go.Proofs.Yteckapomkemglaa
open Go Go.Dm
set_option linter.unusedVariables false
set_option linter.unusedSimpArgs false
set_option maxRecDepth 100000
namespace G
noncomputable section
/- tabularyref.VaultStep -/
def R_VaultStep_v1_J1 (v2 : List Copy × List (List UInt8) × List (List Int) × List Heal) : Option (Vault × Int) :=
 some ((⟨v2.1, v2.2.1, v2.2.2.1, v2.2.2.2⟩ : Vault), 0)
def R_VaultStep_v1_J2 (d : Deed) (x : List Copy × List (List UInt8) × List (List Int) × List Heal) (v3 : Unit) : Option (Vault × Int) :=
 if (decide (20 ≤ (x.2.2.2.length : Int))) = true then
  some ((⟨x.1, x.2.1, x.2.2.1, x.2.2.2⟩ : Vault), 9)
 else
  asrt (((x.2.2.2 ++ [(⟨d.N, ([] : List Int), ([] : List Copy), false, ([] : List (List UInt8)), ([] : List Int)⟩ : Heal)]).length : Int) * 112 ≤ 140737488351232) <|
  lt ((x.2.2.2 ++ [(⟨d.N, ([] : List Int), ([] : List Copy), false, ([] : List (List UInt8)), ([] : List Int)⟩ : Heal)])) fun v4 =>
  R_VaultStep_v1_J1 (x.1, x.2.1, x.2.2.1, v4)
def R_VaultStep_v1_B1 (d : Deed) (x : List Copy × List (List UInt8) × List (List Int) × List Heal) (v5 : Int) : Option (Int ⊕ (Vault × Int)) :=
 if (decide (v5 < (x.2.2.2.length : Int))) = true then
  asrt (0 ≤ v5 ∧ v5 < (x.2.2.2.length : Int)) <|
  asrt (0 ≤ v5 ∧ v5 < (x.2.2.2.length : Int)) <|
  if (decide (((lget x.2.2.2 v5).Epoch) = d.N)) = true then
   some (Sum.inr ((⟨x.1, x.2.1, x.2.2.1, x.2.2.2⟩ : Vault), 10))
  else
   some (Sum.inl (w64 (v5 + 1)))
 else
  inrO (R_VaultStep_v1_J2 d x ())
def R_VaultStep_v1_L1 (d : Deed) (x : List Copy × List (List UInt8) × List (List Int) × List Heal) (v0 : Int) : Option (Vault × Int) :=
 loopO (fun y => R_VaultStep_v1_B1 d x y) v0
def R_VaultStep_v1 (v : Vault) (recs : List (List UInt8)) (d : Deed) : Option (Vault × Int) :=
 ob (R_CopyVault v) fun x =>
 if ((decide (d.Kind < 0)) || (decide (5 < d.Kind))) = true then
  some ((⟨x.1, x.2.1, x.2.2.1, x.2.2.2⟩ : Vault), 4)
 else
  lt (((decide (d.Kind = 1)) || (decide (d.Kind = 3))) || (decide (d.Kind = 5))) fun v1 =>
  if (v1 && ((decide (d.Who < 0)) || (decide ((x.1.length : Int) ≤ d.Who)))) = true then
   some ((⟨x.1, x.2.1, x.2.2.1, x.2.2.2⟩ : Vault), 3)
  else
   if ((((decide (d.Kind = 1)) && ((decide (d.N < 0)) || (decide ((x.2.1.length : Int) ≤ d.N)))) || ((decide (3 ≤ d.Kind)) && ((decide (d.N < 0)) || (decide ((x.2.2.2.length : Int) ≤ d.N))))) || ((decide (d.Kind = 2)) && ((decide (d.N < 2)) || (decide (1000000000 < d.N))))) = true then
    some ((⟨x.1, x.2.1, x.2.2.1, x.2.2.2⟩ : Vault), 3)
   else
    if (decide (d.Kind = 0)) = true then
     if (decide ((recs.length : Int) ≤ (x.2.1.length : Int))) = true then
      some ((⟨x.1, x.2.1, x.2.2.1, x.2.2.2⟩ : Vault), 6)
     else
      asrt (0 ≤ (x.2.1.length : Int) ∧ (x.2.1.length : Int) < (recs.length : Int)) <|
      asrt (((x.2.1 ++ ([(lget recs (x.2.1.length : Int))] : List (List UInt8))).length : Int) * 16 ≤ 140737488351232) <|
      asrt (((x.2.2.1 ++ [([] : List Int)]).length : Int) * 24 ≤ 140737488351232) <|
      R_VaultStep_v1_J1 (x.1, (x.2.1 ++ ([(lget recs (x.2.1.length : Int))] : List (List UInt8))), (x.2.2.1 ++ [([] : List Int)]), x.2.2.2)
    else
     if (decide (d.Kind = 1)) = true then
      asrt (0 ≤ d.Who ∧ d.Who < (x.1.length : Int)) <|
      asrt (0 ≤ d.Who ∧ d.Who < (x.1.length : Int)) <|
      asrt (0 ≤ d.N ∧ d.N < (x.2.1.length : Int)) <|
      asrt (0 ≤ d.N ∧ d.N < (x.2.1.length : Int)) <|
      ob (R_Appended (⟨(lget x.1 d.Who).Epoch, (lget x.1 d.Who).Closed, (lget x.1 d.Who).Recs, (lget x.1 d.Who).Ended⟩ : Copy) 1 d.N (lget x.2.1 d.N)) fun x1 =>
      if (decide (x1.2.2.2.2.Code = 0)) = true then
       asrt (0 ≤ d.Who ∧ d.Who < (x.1.length : Int)) <|
       asrt (0 ≤ d.Who ∧ d.Who < (x.1.length : Int)) <|
       asrt (0 ≤ d.N ∧ d.N < (x.2.2.1.length : Int)) <|
       asrt (0 ≤ d.N ∧ d.N < (x.2.2.1.length : Int)) <|
       ob (R_Has (lget x.2.2.1 d.N) d.Who) fun x2 =>
       if (!x2) = true then
        asrt (0 ≤ d.N ∧ d.N < (x.2.2.1.length : Int)) <|
        asrt (0 ≤ d.N ∧ d.N < (x.2.2.1.length : Int)) <|
        asrt ((((lget x.2.2.1 d.N) ++ ([d.Who] : List Int)).length : Int) * 8 ≤ 140737488351232) <|
        asrt (0 ≤ d.N ∧ d.N < (x.2.2.1.length : Int)) <|
        asrt (0 ≤ d.N ∧ d.N < (x.2.2.1.length : Int)) <|
        R_VaultStep_v1_J1 ((lset x.1 d.Who (⟨x1.1, x1.2.1, x1.2.2.1, x1.2.2.2.1⟩ : Copy)), x.2.1, (lset x.2.2.1 d.N ((lget x.2.2.1 d.N) ++ ([d.Who] : List Int))), x.2.2.2)
       else
        R_VaultStep_v1_J1 ((lset x.1 d.Who (⟨x1.1, x1.2.1, x1.2.2.1, x1.2.2.2.1⟩ : Copy)), x.2.1, x.2.2.1, x.2.2.2)
      else
       R_VaultStep_v1_J1 (x.1, x.2.1, x.2.2.1, x.2.2.2)
     else
      if (decide (d.Kind = 2)) = true then
       R_VaultStep_v1_L1 d x 0
      else
       if (decide (d.Kind = 3)) = true then
        asrt (0 ≤ d.Who ∧ d.Who < (x.1.length : Int)) <|
        asrt (0 ≤ d.Who ∧ d.Who < (x.1.length : Int)) <|
        asrt (0 ≤ d.N ∧ d.N < (x.2.2.2.length : Int)) <|
        asrt (0 ≤ d.N ∧ d.N < (x.2.2.2.length : Int)) <|
        ob (R_ClosedCopy (⟨(lget x.1 d.Who).Epoch, (lget x.1 d.Who).Closed, (lget x.1 d.Who).Recs, (lget x.1 d.Who).Ended⟩ : Copy) ((lget x.2.2.2 d.N).Epoch)) fun x3 =>
        if (decide (x3.2.2.2.2.Code = 0)) = true then
         asrt (0 ≤ d.Who ∧ d.Who < (x.1.length : Int)) <|
         asrt (0 ≤ d.Who ∧ d.Who < (x.1.length : Int)) <|
         asrt (0 ≤ d.N ∧ d.N < (x.2.2.2.length : Int)) <|
         asrt (0 ≤ d.N ∧ d.N < (x.2.2.2.length : Int)) <|
         asrt ((!((lget x.2.2.2 d.N).Has)) = true → 0 ≤ d.N ∧ d.N < (x.2.2.2.length : Int)) <|
         asrt ((!((lget x.2.2.2 d.N).Has)) = true → 0 ≤ d.N ∧ d.N < (x.2.2.2.length : Int)) <|
         ob (if (!((lget x.2.2.2 d.N).Has)) = true then (R_Has ((lget x.2.2.2 d.N).Heard) d.Who) else some default) fun x4 =>
         if ((!((lget x.2.2.2 d.N).Has)) && (!x4)) = true then
          asrt (0 ≤ d.N ∧ d.N < (x.2.2.2.length : Int)) <|
          asrt (0 ≤ d.N ∧ d.N < (x.2.2.2.length : Int)) <|
          asrt (((((lget x.2.2.2 d.N).Heard) ++ ([d.Who] : List Int)).length : Int) * 8 ≤ 140737488351232) <|
          asrt (0 ≤ d.N ∧ d.N < (x.2.2.2.length : Int)) <|
          asrt (0 ≤ d.N ∧ d.N < (x.2.2.2.length : Int)) <|
          lt ((lset x.2.2.2 d.N (⟨(lget x.2.2.2 d.N).Epoch, (((lget x.2.2.2 d.N).Heard) ++ ([d.Who] : List Int)), (lget x.2.2.2 d.N).Said, (lget x.2.2.2 d.N).Has, (lget x.2.2.2 d.N).Recs, (lget x.2.2.2 d.N).Ends⟩ : Heal))) fun v6 =>
          asrt (0 ≤ d.N ∧ d.N < (v6.length : Int)) <|
          asrt (0 ≤ d.N ∧ d.N < (v6.length : Int)) <|
          asrt (((((lget v6 d.N).Said) ++ [(⟨x3.1, x3.2.1, x3.2.2.1, x3.2.2.2.1⟩ : Copy)]).length : Int) * 48 ≤ 140737488351232) <|
          asrt (0 ≤ d.N ∧ d.N < (v6.length : Int)) <|
          asrt (0 ≤ d.N ∧ d.N < (v6.length : Int)) <|
          lt ((((lget v6 d.N).Said) ++ [(⟨x3.1, x3.2.1, x3.2.2.1, x3.2.2.2.1⟩ : Copy)])) fun v7 =>
          lt ((lset v6 d.N (⟨(lget v6 d.N).Epoch, (lget v6 d.N).Heard, v7, (lget v6 d.N).Has, (lget v6 d.N).Recs, (lget v6 d.N).Ends⟩ : Heal))) fun v8 =>
          R_VaultStep_v1_J1 ((lset x.1 d.Who (⟨x3.1, x3.2.1, x3.2.2.1, x3.2.2.2.1⟩ : Copy)), x.2.1, x.2.2.1, v8)
         else
          R_VaultStep_v1_J1 ((lset x.1 d.Who (⟨x3.1, x3.2.1, x3.2.2.1, x3.2.2.2.1⟩ : Copy)), x.2.1, x.2.2.1, x.2.2.2)
        else
         R_VaultStep_v1_J1 (x.1, x.2.1, x.2.2.1, x.2.2.2)
       else
        if (decide (d.Kind = 4)) = true then
         asrt (0 ≤ d.N ∧ d.N < (x.2.2.2.length : Int)) <|
         asrt (0 ≤ d.N ∧ d.N < (x.2.2.2.length : Int)) <|
         ob (R_Chosen (x.1.length : Int) ((lget x.2.2.2 d.N).Said)) fun x5 =>
         asrt ((decide (x5.2.Code = 0)) = true → 0 ≤ d.N ∧ d.N < (x.2.2.2.length : Int)) <|
         asrt ((decide (x5.2.Code = 0)) = true → 0 ≤ d.N ∧ d.N < (x.2.2.2.length : Int)) <|
         if ((decide (x5.2.Code = 0)) && (!((lget x.2.2.2 d.N).Has))) = true then
          asrt (0 ≤ d.N ∧ d.N < (x.2.2.2.length : Int)) <|
          asrt (0 ≤ d.N ∧ d.N < (x.2.2.2.length : Int)) <|
          lt ((lset x.2.2.2 d.N (⟨(lget x.2.2.2 d.N).Epoch, (lget x.2.2.2 d.N).Heard, (lget x.2.2.2 d.N).Said, true, (lget x.2.2.2 d.N).Recs, (lget x.2.2.2 d.N).Ends⟩ : Heal))) fun v9 =>
          asrt (0 ≤ d.N ∧ d.N < (v9.length : Int)) <|
          asrt (0 ≤ d.N ∧ d.N < (v9.length : Int)) <|
          lt ((lset v9 d.N (⟨(lget v9 d.N).Epoch, (lget v9 d.N).Heard, (lget v9 d.N).Said, (lget v9 d.N).Has, x5.1, (lget v9 d.N).Ends⟩ : Heal))) fun v10 =>
          R_VaultStep_v1_J1 (x.1, x.2.1, x.2.2.1, v10)
         else
          R_VaultStep_v1_J1 (x.1, x.2.1, x.2.2.1, x.2.2.2)
        else
         if (decide (d.Kind = 5)) = true then
          asrt (0 ≤ d.N ∧ d.N < (x.2.2.2.length : Int)) <|
          asrt (0 ≤ d.N ∧ d.N < (x.2.2.2.length : Int)) <|
          if (!((lget x.2.2.2 d.N).Has)) = true then
           some ((⟨x.1, x.2.1, x.2.2.1, x.2.2.2⟩ : Vault), 0)
          else
           asrt (0 ≤ d.Who ∧ d.Who < (x.1.length : Int)) <|
           asrt (0 ≤ d.Who ∧ d.Who < (x.1.length : Int)) <|
           asrt (0 ≤ d.N ∧ d.N < (x.2.2.2.length : Int)) <|
           asrt (0 ≤ d.N ∧ d.N < (x.2.2.2.length : Int)) <|
           asrt (0 ≤ d.N ∧ d.N < (x.2.2.2.length : Int)) <|
           asrt (0 ≤ d.N ∧ d.N < (x.2.2.2.length : Int)) <|
           ob (R_EndedCopy (⟨(lget x.1 d.Who).Epoch, (lget x.1 d.Who).Closed, (lget x.1 d.Who).Recs, (lget x.1 d.Who).Ended⟩ : Copy) ((lget x.2.2.2 d.N).Epoch) ((lget x.2.2.2 d.N).Recs)) fun x6 =>
           if (decide (x6.2.2.2.2.Code = 0)) = true then
            asrt (0 ≤ d.Who ∧ d.Who < (x.1.length : Int)) <|
            asrt (0 ≤ d.Who ∧ d.Who < (x.1.length : Int)) <|
            asrt (0 ≤ d.N ∧ d.N < (x.2.2.2.length : Int)) <|
            asrt (0 ≤ d.N ∧ d.N < (x.2.2.2.length : Int)) <|
            ob (R_Has ((lget x.2.2.2 d.N).Ends) d.Who) fun x7 =>
            if (!x7) = true then
             asrt (0 ≤ d.N ∧ d.N < (x.2.2.2.length : Int)) <|
             asrt (0 ≤ d.N ∧ d.N < (x.2.2.2.length : Int)) <|
             asrt (((((lget x.2.2.2 d.N).Ends) ++ ([d.Who] : List Int)).length : Int) * 8 ≤ 140737488351232) <|
             asrt (0 ≤ d.N ∧ d.N < (x.2.2.2.length : Int)) <|
             asrt (0 ≤ d.N ∧ d.N < (x.2.2.2.length : Int)) <|
             lt ((lset x.2.2.2 d.N (⟨(lget x.2.2.2 d.N).Epoch, (lget x.2.2.2 d.N).Heard, (lget x.2.2.2 d.N).Said, (lget x.2.2.2 d.N).Has, (lget x.2.2.2 d.N).Recs, (((lget x.2.2.2 d.N).Ends) ++ ([d.Who] : List Int))⟩ : Heal))) fun v11 =>
             R_VaultStep_v1_J1 ((lset x.1 d.Who (⟨x6.1, x6.2.1, x6.2.2.1, x6.2.2.2.1⟩ : Copy)), x.2.1, x.2.2.1, v11)
            else
             R_VaultStep_v1_J1 ((lset x.1 d.Who (⟨x6.1, x6.2.1, x6.2.2.1, x6.2.2.2.1⟩ : Copy)), x.2.1, x.2.2.1, x.2.2.2)
           else
            R_VaultStep_v1_J1 (x.1, x.2.1, x.2.2.1, x.2.2.2)
         else
          R_VaultStep_v1_J1 (x.1, x.2.1, x.2.2.1, x.2.2.2)
theorem R_VaultStep_v1_ok {v recs d r} (hF : R_VaultStep_v1 v recs d = some r) : Pe Try.prog 39 S.none [.agg (c_Vault v), .sl 1 (recs.map e_str), .agg (c_Deed d)] (.tup [.agg (c_Vault r.1), .i r.2]) S.none := by
 refine PT 417 [.cell 6 46, .tmp 7] [46, 3] Try.func39 ?_
 intro Q g hfin
 unfold R_VaultStep_v1 at hF
 refine LR0 ?_
 obtain ⟨x, h0, hF⟩ := oE hF
 have p1 := (Pe.ren (R_CopyVault_ok h0) ⟨[], [(29, 19), (33, 20019), (60002, 40019), (60003, 60019)], [], []⟩)
 refine RJ (.e [] [] p1 .z) ?_
 refine LR0 ?_
 refine Nif hF ?_ ?_ <;> intro hb hF
 ·refine LR0 ?_
  refine L_freeze 40019 (zs := (x.2.2.1.map e_L_i64)) (.cons (okcL (f := o_L_i64) (fun _ => rfl) x.2.2.1) (.cons (frzL (f := o_L_i64) (g := e_L_i64) (fun _ => rfl) x.2.2.1) .nil)) (hk := ?_)
  refine L_freeze 60019 (zs := (x.2.2.2.map e_Heal)) (.cons (okcL (f := o_Heal) (fun _ => rfl) x.2.2.2) (.cons (frzL (f := o_Heal) (g := e_Heal) (fun _ => rfl) x.2.2.2) .nil)) (hk := ?_)
  cases hF
  exact Wz [] hfin
 ·refine NRL (((decide (d.Kind = 1)) || (decide (d.Kind = 3))) || (decide (d.Kind = 5))) (fun v1 : Bool => ([(8, .bool v1)], [], [], [])) [] [1, 3, 5, 6, 8] [3, 5, 6] [19, 20019, 40019, 60019] [] .nil (fun v1 hv => ?_)
  have hF := lt_elim hF hv
  refine RJ (.a (.nat (x.1.length : Int)) (.g (fun (_ : (!(decide (d.Who < 0))) = true) (_ : v1 = true) => (len_ok e_Copy x.1)) .z)) ?_
  refine Nif hF ?_ ?_ <;> intro hb hF
  ·refine LR0 ?_
   refine L_freeze 40019 (zs := (x.2.2.1.map e_L_i64)) (.cons (okcL (f := o_L_i64) (fun _ => rfl) x.2.2.1) (.cons (frzL (f := o_L_i64) (g := e_L_i64) (fun _ => rfl) x.2.2.1) .nil)) (hk := ?_)
   refine L_freeze 60019 (zs := (x.2.2.2.map e_Heal)) (.cons (okcL (f := o_Heal) (fun _ => rfl) x.2.2.2) (.cons (frzL (f := o_Heal) (g := e_Heal) (fun _ => rfl) x.2.2.2) .nil)) (hk := ?_)
   cases hF
   exact Wz [] hfin
  ·refine RJ (.a (.nat (x.2.1.length : Int)) (.g (fun (_ : (!(decide (d.N < 0))) = true) (_ : (decide (d.Kind = 1)) = true) => (len_ok e_str x.2.1)) (.a (.nat (x.2.2.2.length : Int)) (.g (fun (_ : (!(decide (d.N < 0))) = true) (_ : (decide (3 ≤ d.Kind)) = true) (_ : (!((decide (d.Kind = 1)) && ((decide (d.N < 0)) || (decide ((x.2.1.length : Int) ≤ d.N))))) = true) => (len_ok o_Heal x.2.2.2)) .z)))) ?_
   refine Nif hF ?_ ?_ <;> intro hb hF
   ·refine LR0 ?_
    refine L_freeze 40019 (zs := (x.2.2.1.map e_L_i64)) (.cons (okcL (f := o_L_i64) (fun _ => rfl) x.2.2.1) (.cons (frzL (f := o_L_i64) (g := e_L_i64) (fun _ => rfl) x.2.2.1) .nil)) (hk := ?_)
    refine L_freeze 60019 (zs := (x.2.2.2.map e_Heal)) (.cons (okcL (f := o_Heal) (fun _ => rfl) x.2.2.2) (.cons (frzL (f := o_Heal) (g := e_Heal) (fun _ => rfl) x.2.2.2) .nil)) (hk := ?_)
    cases hF
    exact Wz [] hfin
   ·refine LR0 ?_
    refine Nblk ?_
    refine LR0 ?_
    refine NmS (fun v2 => R_VaultStep_v1_J1 v2 = some r) (fun Z v2 => Z.up [3, 6] [3, 6] [19, 20019, 40019, 60019] [] [] [(3, [.row 19 0, .row 20019 0, .row 40019 0, .row 60019 0])] [(19, .z 24 4 0 (v2.1.map e_Copy)), (20019, .z 9 1 0 (v2.2.1.map e_str)), (40019, ⟨54, 1, 0, 0, 0, true, 2, [], (v2.2.2.1.map o_L_i64)⟩), (60019, ⟨58, 6, 0, 0, 0, true, 2, [], (v2.2.2.2.map o_Heal)⟩)] []) ?_ ?_
    ·refine Nif hF ?_ ?_ <;> intro hb hF
     ·refine RJ (.l e_str x.2.1 (.l e_str recs .z)) ?_
      refine Nif hF ?_ ?_ <;> intro hb hF
      ·refine LR0 ?_
       refine L_freeze 40019 (zs := (x.2.2.1.map e_L_i64)) (.cons (okcL (f := o_L_i64) (fun _ => rfl) x.2.2.1) (.cons (frzL (f := o_L_i64) (g := e_L_i64) (fun _ => rfl) x.2.2.1) .nil)) (hk := ?_)
       refine L_freeze 60019 (zs := (x.2.2.2.map e_Heal)) (.cons (okcL (f := o_Heal) (fun _ => rfl) x.2.2.2) (.cons (frzL (f := o_Heal) (g := e_Heal) (fun _ => rfl) x.2.2.2) .nil)) (hk := ?_)
       cases hF
       exact Wz [] hfin
      ·obtain ⟨h2, hF⟩ := aE hF
       obtain ⟨h3, hF⟩ := aE hF
       refine DJ (.l e_str x.2.1 (.i e_str h2 (.a (.sealed) (.p e_str h3 .z)))) ?_
       obtain ⟨h4, hF⟩ := aE hF
       refine L_raise 40019 (hk := ?_)
       refine RJ (.a (.rows) (.a (.xs (x.2.2.1.map o_L_i64 ++ [.nils])) (.g (rfl : (x.2.2.1.map o_L_i64 ++ [.nils]) = (x.2.2.1.map o_L_i64 ++ [.nils])) (.g (opB o_L_i64 (.nils) h4) .z)))) ?_
       refine L_close 40019 x.2.2.1.length [(0, 3, 1)] [] (u := .nils) (zs := ((x.2.2.1 ++ [([] : List Int)]).map o_L_i64)) (.cons (opA o_L_i64 x.2.2.1 (.nils)) (.cons (clA o_L_i64 (.nils) (rfl : (x.2.2.1 ++ [([] : List Int)]) = (x.2.2.1 ++ [([] : List Int)]))) (.cons (stl (f := o_L_i64) (fun _ => rfl) (x.2.2.1 ++ [([] : List Int)])) .nil))) (hk := ?_)
       exact metQ (x.1, (x.2.1 ++ ([(lget recs (x.2.1.length : Int))] : List (List UInt8))), (x.2.2.1 ++ [([] : List Int)]), x.2.2.2) [(20019, ⟨0, true, true, false⟩), (40019, ⟨0, true, true, false⟩)] hF
     ·refine LR0 ?_
      refine Nif hF ?_ ?_ <;> intro hb hF
      ·obtain ⟨h5, hF⟩ := aE hF
       obtain ⟨h6, h7, hF⟩ := asrt2 hF
       obtain ⟨h8, hF⟩ := aE hF
       obtain ⟨x1, h9, hF⟩ := oE hF
       have p10 := (Pe.ren (R_Appended_ok h9) ⟨[], [(91, 151)], [], []⟩)
       refine DJ (.x e_Copy h5 (.r e_Copy h6 (.x e_str h7 (.r e_str h8 (.e [] [] p10 .z))))) ?_
       refine LR0 ?_
       refine Nif hF ?_ ?_ <;> intro hb hF
       ·obtain ⟨h11, hF⟩ := aE hF
        obtain ⟨h12, hF⟩ := aE hF
        refine RJ (.x e_Copy h11 (.w e_Copy h12 (⟨x1.1, x1.2.1, x1.2.2.1, x1.2.2.2.1⟩ : Copy) .z)) ?_
        obtain ⟨h13, h14, hF⟩ := asrt2 hF
        obtain ⟨x2, h15, hF⟩ := oE hF
        refine L_open 40019 d.N.toNat [(80025, 0)] (u := o_L_i64 (lget x.2.2.1 d.N)) (.cons (ldr_ok o_L_i64 h14) .nil) (hk := ?_)
        refine DJ (.g (opX o_L_i64 (.row 80025 0) d.N.toNat h13) (.a (.av (.row 80025 0)) (.g (opL o_L_i64 (.row 80025 0) h14) (.b (R_Has_ok h15) .z)))) ?_
        refine L_close 40019 d.N.toNat [(0, 3, 1)] [] (u := .row 80025 0) (zs := (x.2.2.1.map o_L_i64)) (.cons (opL o_L_i64 (.row 80025 0) h14) (.cons (clU o_L_i64 (.row 80025 0) h14) (.cons (stl (f := o_L_i64) (fun _ => rfl) x.2.2.1) .nil))) (hk := ?_)
        refine Nif hF ?_ ?_ <;> intro hb hF
        ·obtain ⟨h16, hF⟩ := aE hF
         obtain ⟨h17, h18, h19, h20, hF⟩ := asrt4 hF
         refine L_open 40019 d.N.toNat [(80026, 0)] (u := o_L_i64 (lget x.2.2.1 d.N)) (.cons (ldr_ok o_L_i64 h17) .nil) (hk := ?_)
         refine DJ (.g (opX o_L_i64 (.row 80026 0) d.N.toNat h16) (.a (.av (.row 80026 0)) (.g (opL o_L_i64 (.row 80026 0) h17) (.a (.sealed) (.p e_i64 h18 (.g (opX o_L_i64 (.row 80026 0) d.N.toNat h19) (.a (.rows) (.a (.av (.row 80026 0)) (.a (.xs ((x.2.2.1.map o_L_i64).set d.N.toNat (.row 80026 1))) (.g (opL o_L_i64 (.row 80026 0) h20) (.g (opS o_L_i64 x.2.2.1 d.N (.row 80026 0) (.row 80026 1)) (.g (Nat.zero_le d.N.toNat) .z)))))))))))) ?_
         refine L_close 40019 d.N.toNat [(0, 3, 1)] [] (u := .row 80026 1) (zs := ((lset x.2.2.1 d.N ((lget x.2.2.1 d.N) ++ ([d.Who] : List Int))).map o_L_i64)) (.cons (opL o_L_i64 (.row 80026 1) h17) (.cons (clS o_L_i64 (.row 80026 1) (rfl : (lset x.2.2.1 d.N ((lget x.2.2.1 d.N) ++ ([d.Who] : List Int))) = (lset x.2.2.1 d.N ((lget x.2.2.1 d.N) ++ ([d.Who] : List Int))))) (.cons (stl (f := o_L_i64) (fun _ => rfl) (lset x.2.2.1 d.N ((lget x.2.2.1 d.N) ++ ([d.Who] : List Int)))) .nil))) (hk := ?_)
         exact metQ ((lset x.1 d.Who (⟨x1.1, x1.2.1, x1.2.2.1, x1.2.2.2.1⟩ : Copy)), x.2.1, (lset x.2.2.1 d.N ((lget x.2.2.1 d.N) ++ ([d.Who] : List Int))), x.2.2.2) [(20019, ⟨0, true, true, false⟩)] hF
        ·exact metQ ((lset x.1 d.Who (⟨x1.1, x1.2.1, x1.2.2.1, x1.2.2.2.1⟩ : Copy)), x.2.1, x.2.2.1, x.2.2.2) [(20019, ⟨0, true, true, false⟩)] hF
       ·exact metQ (x.1, x.2.1, x.2.2.1, x.2.2.2) [(20019, ⟨0, true, true, false⟩)] hF
      ·refine LR0 ?_
       refine Nif hF ?_ ?_ <;> intro hb hF
       ·refine LR0 ?_
        refine NmS (fun v3 => R_VaultStep_v1_J2 d x v3 = some r) (fun Z v3 => Z.up [3, 5, 6] [3, 5, 6] [19, 20019, 40019, 60019] [] [] [] [] []) ?_ ?_
        ·refine Nblk ?_
         unfold R_VaultStep_v1_L1 at hF
         refine Nits hF [] (fun Z v5 => Z.up [3, 5, 6, 11] [3, 5, 6] [19, 20019, 40019, 60019] [] [(11, .i v5)] [] [] []) ?_
         intro n1 v5 y1 hF ih1 dn1
         unfold R_VaultStep_v1_B1 at hF
         refine RJ (.l o_Heal x.2.2.2 .z) ?_
         refine Nif hF ?_ ?_ <;> intro hb hF
         ·refine Nblk ?_
          obtain ⟨h23, h24, hF⟩ := asrt2 hF
          refine DJ (.x o_Heal h23 (.r o_Heal h24 .z)) ?_
          refine Nif hF ?_ ?_ <;> intro hb hF
          ·refine LR0 ?_
           refine L_freeze 40019 (zs := (x.2.2.1.map e_L_i64)) (.cons (okcL (f := o_L_i64) (fun _ => rfl) x.2.2.1) (.cons (frzL (f := o_L_i64) (g := e_L_i64) (fun _ => rfl) x.2.2.1) .nil)) (hk := ?_)
           refine L_freeze 60019 (zs := (x.2.2.2.map e_Heal)) (.cons (okcL (f := o_Heal) (fun _ => rfl) x.2.2.2) (.cons (frzL (f := o_Heal) (g := e_Heal) (fun _ => rfl) x.2.2.2) .nil)) (hk := ?_)
           have hF := ret_done hF dn1
           cases hF
           exact Wz [] hfin
          ·refine LR0 ?_
           exact Nrnq [] hF ih1
         ·refine Nexit rfl ?_
          have hF := inrO_done hF dn1
          exact metQ () [] hF
        ·intro v3 hF
         unfold R_VaultStep_v1_J2 at hF
         refine RJ (.l o_Heal x.2.2.2 .z) ?_
         refine Nif hF ?_ ?_ <;> intro hb hF
         ·refine LR0 ?_
          refine L_freeze 40019 (zs := (x.2.2.1.map e_L_i64)) (.cons (okcL (f := o_L_i64) (fun _ => rfl) x.2.2.1) (.cons (frzL (f := o_L_i64) (g := e_L_i64) (fun _ => rfl) x.2.2.1) .nil)) (hk := ?_)
          refine L_freeze 60019 (zs := (x.2.2.2.map e_Heal)) (.cons (okcL (f := o_Heal) (fun _ => rfl) x.2.2.2) (.cons (frzL (f := o_Heal) (g := e_Heal) (fun _ => rfl) x.2.2.2) .nil)) (hk := ?_)
          cases hF
          exact Wz [] hfin
         ·obtain ⟨h21, hF⟩ := aE hF
          refine L_raise 60019 (hk := ?_)
          refine RJ (.a (.rows) (.a (.xs (x.2.2.2.map o_Heal ++ [.agg [.i d.N, .nils, .nils, .bool false, .nils, .nils]])) (.g (rfl : (x.2.2.2.map o_Heal ++ [.agg [.i d.N, .nils, .nils, .bool false, .nils, .nils]]) = (x.2.2.2.map o_Heal ++ [.agg [.i d.N, .nils, .nils, .bool false, .nils, .nils]])) (.g (opB o_Heal (.agg [.i d.N, .nils, .nils, .bool false, .nils, .nils]) h21) .z)))) ?_
          obtain ⟨v4, h22, hF⟩ := lS hF
          refine L_close 60019 x.2.2.2.length [(1, 3, 1), (2, 24, 4), (5, 3, 1)] [(4, 1)] (u := .agg [.i d.N, .nils, .nils, .bool false, .nils, .nils]) (zs := (v4.map o_Heal)) (.cons (opA o_Heal x.2.2.2 (.agg [.i d.N, .nils, .nils, .bool false, .nils, .nils])) (.cons (clA o_Heal (.agg [.i d.N, .nils, .nils, .bool false, .nils, .nils]) h22) (.cons (stl (f := o_Heal) (fun _ => rfl) v4) .nil))) (hk := ?_)
          exact metQ (x.1, x.2.1, x.2.2.1, v4) [(20019, ⟨0, true, true, false⟩), (60019, ⟨0, true, true, false⟩)] hF
       ·refine LR0 ?_
        refine Nif hF ?_ ?_ <;> intro hb hF
        ·obtain ⟨h25, hF⟩ := aE hF
         obtain ⟨h26, h27, hF⟩ := asrt2 hF
         obtain ⟨h28, hF⟩ := aE hF
         obtain ⟨x3, h29, hF⟩ := oE hF
         have p30 := (Pe.ren (R_ClosedCopy_ok h29) ⟨[], [(19, 236)], [], []⟩)
         refine DJ (.x e_Copy h25 (.r e_Copy h26 (.x o_Heal h27 (.r o_Heal h28 (.e [] [] p30 .z))))) ?_
         refine LR0 ?_
         refine Nif hF ?_ ?_ <;> intro hb hF
         ·obtain ⟨h31, hF⟩ := aE hF
          obtain ⟨h32, hF⟩ := aE hF
          refine RJ (.x e_Copy h31 (.w e_Copy h32 (⟨x3.1, x3.2.1, x3.2.2.1, x3.2.2.2.1⟩ : Copy) .z)) ?_
          obtain ⟨h33, h34, h35, h36, hF⟩ := asrt4 hF
          obtain ⟨x4, h37, hF⟩ := oE hF
          refine L_open 60019 d.N.toNat [(80027, 1)] (u := o_Heal (lget x.2.2.2 d.N)) (.cons (ldr_ok o_Heal h34) .nil) (hk := ?_)
          refine DJ (.g (opX o_Heal (.agg [.i ((lget x.2.2.2 d.N).Epoch), .row 80027 0, .own 24 4 (((lget x.2.2.2 d.N).Said).map e_Copy).length (((lget x.2.2.2 d.N).Said).map e_Copy), .bool ((lget x.2.2.2 d.N).Has), .sl 1 (((lget x.2.2.2 d.N).Recs).map e_str), .own 3 1 (((lget x.2.2.2 d.N).Ends).map e_i64).length (((lget x.2.2.2 d.N).Ends).map e_i64)]) d.N.toNat h33) (.a (.av (.agg [.i ((lget x.2.2.2 d.N).Epoch), .row 80027 0, .own 24 4 (((lget x.2.2.2 d.N).Said).map e_Copy).length (((lget x.2.2.2 d.N).Said).map e_Copy), .bool ((lget x.2.2.2 d.N).Has), .sl 1 (((lget x.2.2.2 d.N).Recs).map e_str), .own 3 1 (((lget x.2.2.2 d.N).Ends).map e_i64).length (((lget x.2.2.2 d.N).Ends).map e_i64)])) (.g (opL o_Heal (.agg [.i ((lget x.2.2.2 d.N).Epoch), .row 80027 0, .own 24 4 (((lget x.2.2.2 d.N).Said).map e_Copy).length (((lget x.2.2.2 d.N).Said).map e_Copy), .bool ((lget x.2.2.2 d.N).Has), .sl 1 (((lget x.2.2.2 d.N).Recs).map e_str), .own 3 1 (((lget x.2.2.2 d.N).Ends).map e_i64).length (((lget x.2.2.2 d.N).Ends).map e_i64)]) h34) (.g (fun (ga0 : (!((lget x.2.2.2 d.N).Has)) = true) => (opX o_Heal (.agg [.i ((lget x.2.2.2 d.N).Epoch), .row 80027 0, .own 24 4 (((lget x.2.2.2 d.N).Said).map e_Copy).length (((lget x.2.2.2 d.N).Said).map e_Copy), .bool ((lget x.2.2.2 d.N).Has), .sl 1 (((lget x.2.2.2 d.N).Recs).map e_str), .own 3 1 (((lget x.2.2.2 d.N).Ends).map e_i64).length (((lget x.2.2.2 d.N).Ends).map e_i64)]) d.N.toNat (h35 ga0))) (.a (.av (.agg [.i ((lget x.2.2.2 d.N).Epoch), .row 80027 0, .own 24 4 (((lget x.2.2.2 d.N).Said).map e_Copy).length (((lget x.2.2.2 d.N).Said).map e_Copy), .bool ((lget x.2.2.2 d.N).Has), .sl 1 (((lget x.2.2.2 d.N).Recs).map e_str), .own 3 1 (((lget x.2.2.2 d.N).Ends).map e_i64).length (((lget x.2.2.2 d.N).Ends).map e_i64)])) (.g (fun (ga0 : (!((lget x.2.2.2 d.N).Has)) = true) => (opL o_Heal (.agg [.i ((lget x.2.2.2 d.N).Epoch), .row 80027 0, .own 24 4 (((lget x.2.2.2 d.N).Said).map e_Copy).length (((lget x.2.2.2 d.N).Said).map e_Copy), .bool ((lget x.2.2.2 d.N).Has), .sl 1 (((lget x.2.2.2 d.N).Recs).map e_str), .own 3 1 (((lget x.2.2.2 d.N).Ends).map e_i64).length (((lget x.2.2.2 d.N).Ends).map e_i64)]) (h36 ga0))) (.a (.callB (.bool x4)) (.g (fun (ga0 : (!((lget x.2.2.2 d.N).Has)) = true) => (R_Has_ok (ite_t h37 ga0))) .z)))))))) ?_
          refine L_close 60019 d.N.toNat [(1, 3, 1), (2, 24, 4), (5, 3, 1)] [(4, 1)] (u := .agg [.i ((lget x.2.2.2 d.N).Epoch), .row 80027 0, .own 24 4 (((lget x.2.2.2 d.N).Said).map e_Copy).length (((lget x.2.2.2 d.N).Said).map e_Copy), .bool ((lget x.2.2.2 d.N).Has), .sl 1 (((lget x.2.2.2 d.N).Recs).map e_str), .own 3 1 (((lget x.2.2.2 d.N).Ends).map e_i64).length (((lget x.2.2.2 d.N).Ends).map e_i64)]) (zs := (x.2.2.2.map o_Heal)) (.cons (opL o_Heal (.agg [.i ((lget x.2.2.2 d.N).Epoch), .row 80027 0, .own 24 4 (((lget x.2.2.2 d.N).Said).map e_Copy).length (((lget x.2.2.2 d.N).Said).map e_Copy), .bool ((lget x.2.2.2 d.N).Has), .sl 1 (((lget x.2.2.2 d.N).Recs).map e_str), .own 3 1 (((lget x.2.2.2 d.N).Ends).map e_i64).length (((lget x.2.2.2 d.N).Ends).map e_i64)]) h34) (.cons (clU o_Heal (.agg [.i ((lget x.2.2.2 d.N).Epoch), .row 80027 0, .own 24 4 (((lget x.2.2.2 d.N).Said).map e_Copy).length (((lget x.2.2.2 d.N).Said).map e_Copy), .bool ((lget x.2.2.2 d.N).Has), .sl 1 (((lget x.2.2.2 d.N).Recs).map e_str), .own 3 1 (((lget x.2.2.2 d.N).Ends).map e_i64).length (((lget x.2.2.2 d.N).Ends).map e_i64)]) h34) (.cons (stl (f := o_Heal) (fun _ => rfl) x.2.2.2) .nil))) (hk := ?_)
          refine Nif hF ?_ ?_ <;> intro hb hF
          ·obtain ⟨h38, hF⟩ := aE hF
           obtain ⟨h39, h40, h41, h42, hF⟩ := asrt4 hF
           refine L_open 60019 d.N.toNat [(80028, 1)] (u := o_Heal (lget x.2.2.2 d.N)) (.cons (ldr_ok o_Heal h39) .nil) (hk := ?_)
           refine DJ (.g (opX o_Heal (.agg [.i ((lget x.2.2.2 d.N).Epoch), .row 80028 0, .own 24 4 (((lget x.2.2.2 d.N).Said).map e_Copy).length (((lget x.2.2.2 d.N).Said).map e_Copy), .bool ((lget x.2.2.2 d.N).Has), .sl 1 (((lget x.2.2.2 d.N).Recs).map e_str), .own 3 1 (((lget x.2.2.2 d.N).Ends).map e_i64).length (((lget x.2.2.2 d.N).Ends).map e_i64)]) d.N.toNat h38) (.a (.av (.agg [.i ((lget x.2.2.2 d.N).Epoch), .row 80028 0, .own 24 4 (((lget x.2.2.2 d.N).Said).map e_Copy).length (((lget x.2.2.2 d.N).Said).map e_Copy), .bool ((lget x.2.2.2 d.N).Has), .sl 1 (((lget x.2.2.2 d.N).Recs).map e_str), .own 3 1 (((lget x.2.2.2 d.N).Ends).map e_i64).length (((lget x.2.2.2 d.N).Ends).map e_i64)])) (.g (opL o_Heal (.agg [.i ((lget x.2.2.2 d.N).Epoch), .row 80028 0, .own 24 4 (((lget x.2.2.2 d.N).Said).map e_Copy).length (((lget x.2.2.2 d.N).Said).map e_Copy), .bool ((lget x.2.2.2 d.N).Has), .sl 1 (((lget x.2.2.2 d.N).Recs).map e_str), .own 3 1 (((lget x.2.2.2 d.N).Ends).map e_i64).length (((lget x.2.2.2 d.N).Ends).map e_i64)]) h39) (.a (.sealed) (.p e_i64 h40 (.g (opX o_Heal (.agg [.i ((lget x.2.2.2 d.N).Epoch), .row 80028 0, .own 24 4 (((lget x.2.2.2 d.N).Said).map e_Copy).length (((lget x.2.2.2 d.N).Said).map e_Copy), .bool ((lget x.2.2.2 d.N).Has), .sl 1 (((lget x.2.2.2 d.N).Recs).map e_str), .own 3 1 (((lget x.2.2.2 d.N).Ends).map e_i64).length (((lget x.2.2.2 d.N).Ends).map e_i64)]) d.N.toNat h41) (.a (.rows) (.a (.av (.agg [.i ((lget x.2.2.2 d.N).Epoch), .row 80028 0, .own 24 4 (((lget x.2.2.2 d.N).Said).map e_Copy).length (((lget x.2.2.2 d.N).Said).map e_Copy), .bool ((lget x.2.2.2 d.N).Has), .sl 1 (((lget x.2.2.2 d.N).Recs).map e_str), .own 3 1 (((lget x.2.2.2 d.N).Ends).map e_i64).length (((lget x.2.2.2 d.N).Ends).map e_i64)])) (.a (.xs ((x.2.2.2.map o_Heal).set d.N.toNat (.agg [.i ((lget x.2.2.2 d.N).Epoch), .row 80028 1, .own 24 4 (((lget x.2.2.2 d.N).Said).map e_Copy).length (((lget x.2.2.2 d.N).Said).map e_Copy), .bool ((lget x.2.2.2 d.N).Has), .sl 1 (((lget x.2.2.2 d.N).Recs).map e_str), .own 3 1 (((lget x.2.2.2 d.N).Ends).map e_i64).length (((lget x.2.2.2 d.N).Ends).map e_i64)]))) (.g (opL o_Heal (.agg [.i ((lget x.2.2.2 d.N).Epoch), .row 80028 0, .own 24 4 (((lget x.2.2.2 d.N).Said).map e_Copy).length (((lget x.2.2.2 d.N).Said).map e_Copy), .bool ((lget x.2.2.2 d.N).Has), .sl 1 (((lget x.2.2.2 d.N).Recs).map e_str), .own 3 1 (((lget x.2.2.2 d.N).Ends).map e_i64).length (((lget x.2.2.2 d.N).Ends).map e_i64)]) h42) (.g (opS o_Heal x.2.2.2 d.N (.agg [.i ((lget x.2.2.2 d.N).Epoch), .row 80028 0, .own 24 4 (((lget x.2.2.2 d.N).Said).map e_Copy).length (((lget x.2.2.2 d.N).Said).map e_Copy), .bool ((lget x.2.2.2 d.N).Has), .sl 1 (((lget x.2.2.2 d.N).Recs).map e_str), .own 3 1 (((lget x.2.2.2 d.N).Ends).map e_i64).length (((lget x.2.2.2 d.N).Ends).map e_i64)]) (.agg [.i ((lget x.2.2.2 d.N).Epoch), .row 80028 1, .own 24 4 (((lget x.2.2.2 d.N).Said).map e_Copy).length (((lget x.2.2.2 d.N).Said).map e_Copy), .bool ((lget x.2.2.2 d.N).Has), .sl 1 (((lget x.2.2.2 d.N).Recs).map e_str), .own 3 1 (((lget x.2.2.2 d.N).Ends).map e_i64).length (((lget x.2.2.2 d.N).Ends).map e_i64)])) (.g (Nat.zero_le d.N.toNat) .z)))))))))))) ?_
           obtain ⟨v6, h43, hF⟩ := lS hF
           refine L_close 60019 d.N.toNat [(1, 3, 1), (2, 24, 4), (5, 3, 1)] [(4, 1)] (u := .agg [.i ((lget x.2.2.2 d.N).Epoch), .row 80028 1, .own 24 4 (((lget x.2.2.2 d.N).Said).map e_Copy).length (((lget x.2.2.2 d.N).Said).map e_Copy), .bool ((lget x.2.2.2 d.N).Has), .sl 1 (((lget x.2.2.2 d.N).Recs).map e_str), .own 3 1 (((lget x.2.2.2 d.N).Ends).map e_i64).length (((lget x.2.2.2 d.N).Ends).map e_i64)]) (zs := (v6.map o_Heal)) (.cons (opL o_Heal (.agg [.i ((lget x.2.2.2 d.N).Epoch), .row 80028 1, .own 24 4 (((lget x.2.2.2 d.N).Said).map e_Copy).length (((lget x.2.2.2 d.N).Said).map e_Copy), .bool ((lget x.2.2.2 d.N).Has), .sl 1 (((lget x.2.2.2 d.N).Recs).map e_str), .own 3 1 (((lget x.2.2.2 d.N).Ends).map e_i64).length (((lget x.2.2.2 d.N).Ends).map e_i64)]) h39) (.cons (clS o_Heal (.agg [.i ((lget x.2.2.2 d.N).Epoch), .row 80028 1, .own 24 4 (((lget x.2.2.2 d.N).Said).map e_Copy).length (((lget x.2.2.2 d.N).Said).map e_Copy), .bool ((lget x.2.2.2 d.N).Has), .sl 1 (((lget x.2.2.2 d.N).Recs).map e_str), .own 3 1 (((lget x.2.2.2 d.N).Ends).map e_i64).length (((lget x.2.2.2 d.N).Ends).map e_i64)]) h43) (.cons (stl (f := o_Heal) (fun _ => rfl) v6) .nil))) (hk := ?_)
           obtain ⟨h44, h45, h46, h47, hF⟩ := asrt4 hF
           obtain ⟨h48, hF⟩ := aE hF
           refine L_open 60019 d.N.toNat [(80029, 2)] (u := o_Heal (lget v6 d.N)) (.cons (ldr_ok o_Heal h45) .nil) (hk := ?_)
           obtain ⟨v7, hv, hF⟩ := lS hF
           refine DJ (.g (opX o_Heal (.agg [.i ((lget v6 d.N).Epoch), .own 3 1 (((lget v6 d.N).Heard).map e_i64).length (((lget v6 d.N).Heard).map e_i64), .row 80029 0, .bool ((lget v6 d.N).Has), .sl 1 (((lget v6 d.N).Recs).map e_str), .own 3 1 (((lget v6 d.N).Ends).map e_i64).length (((lget v6 d.N).Ends).map e_i64)]) d.N.toNat h44) (.a (.av (.agg [.i ((lget v6 d.N).Epoch), .own 3 1 (((lget v6 d.N).Heard).map e_i64).length (((lget v6 d.N).Heard).map e_i64), .row 80029 0, .bool ((lget v6 d.N).Has), .sl 1 (((lget v6 d.N).Recs).map e_str), .own 3 1 (((lget v6 d.N).Ends).map e_i64).length (((lget v6 d.N).Ends).map e_i64)])) (.g (opL o_Heal (.agg [.i ((lget v6 d.N).Epoch), .own 3 1 (((lget v6 d.N).Heard).map e_i64).length (((lget v6 d.N).Heard).map e_i64), .row 80029 0, .bool ((lget v6 d.N).Has), .sl 1 (((lget v6 d.N).Recs).map e_str), .own 3 1 (((lget v6 d.N).Ends).map e_i64).length (((lget v6 d.N).Ends).map e_i64)]) h45) (.a (.sealed) (.pN e_Copy hv h46 (.g (opX o_Heal (.agg [.i ((lget v6 d.N).Epoch), .own 3 1 (((lget v6 d.N).Heard).map e_i64).length (((lget v6 d.N).Heard).map e_i64), .row 80029 0, .bool ((lget v6 d.N).Has), .sl 1 (((lget v6 d.N).Recs).map e_str), .own 3 1 (((lget v6 d.N).Ends).map e_i64).length (((lget v6 d.N).Ends).map e_i64)]) d.N.toNat h47) (.a (.rows) (.a (.av (.agg [.i ((lget v6 d.N).Epoch), .own 3 1 (((lget v6 d.N).Heard).map e_i64).length (((lget v6 d.N).Heard).map e_i64), .row 80029 0, .bool ((lget v6 d.N).Has), .sl 1 (((lget v6 d.N).Recs).map e_str), .own 3 1 (((lget v6 d.N).Ends).map e_i64).length (((lget v6 d.N).Ends).map e_i64)])) (.a (.xs ((v6.map o_Heal).set d.N.toNat (.agg [.i ((lget v6 d.N).Epoch), .own 3 1 (((lget v6 d.N).Heard).map e_i64).length (((lget v6 d.N).Heard).map e_i64), .row 80029 1, .bool ((lget v6 d.N).Has), .sl 1 (((lget v6 d.N).Recs).map e_str), .own 3 1 (((lget v6 d.N).Ends).map e_i64).length (((lget v6 d.N).Ends).map e_i64)]))) (.g (opL o_Heal (.agg [.i ((lget v6 d.N).Epoch), .own 3 1 (((lget v6 d.N).Heard).map e_i64).length (((lget v6 d.N).Heard).map e_i64), .row 80029 0, .bool ((lget v6 d.N).Has), .sl 1 (((lget v6 d.N).Recs).map e_str), .own 3 1 (((lget v6 d.N).Ends).map e_i64).length (((lget v6 d.N).Ends).map e_i64)]) h48) (.g (opS o_Heal v6 d.N (.agg [.i ((lget v6 d.N).Epoch), .own 3 1 (((lget v6 d.N).Heard).map e_i64).length (((lget v6 d.N).Heard).map e_i64), .row 80029 0, .bool ((lget v6 d.N).Has), .sl 1 (((lget v6 d.N).Recs).map e_str), .own 3 1 (((lget v6 d.N).Ends).map e_i64).length (((lget v6 d.N).Ends).map e_i64)]) (.agg [.i ((lget v6 d.N).Epoch), .own 3 1 (((lget v6 d.N).Heard).map e_i64).length (((lget v6 d.N).Heard).map e_i64), .row 80029 1, .bool ((lget v6 d.N).Has), .sl 1 (((lget v6 d.N).Recs).map e_str), .own 3 1 (((lget v6 d.N).Ends).map e_i64).length (((lget v6 d.N).Ends).map e_i64)])) (.g (Nat.zero_le d.N.toNat) .z)))))))))))) ?_
           obtain ⟨v8, h49, hF⟩ := lS hF
           refine L_close 60019 d.N.toNat [(1, 3, 1), (2, 24, 4), (5, 3, 1)] [(4, 1)] (u := .agg [.i ((lget v6 d.N).Epoch), .own 3 1 (((lget v6 d.N).Heard).map e_i64).length (((lget v6 d.N).Heard).map e_i64), .row 80029 1, .bool ((lget v6 d.N).Has), .sl 1 (((lget v6 d.N).Recs).map e_str), .own 3 1 (((lget v6 d.N).Ends).map e_i64).length (((lget v6 d.N).Ends).map e_i64)]) (zs := (v8.map o_Heal)) (.cons (opL o_Heal (.agg [.i ((lget v6 d.N).Epoch), .own 3 1 (((lget v6 d.N).Heard).map e_i64).length (((lget v6 d.N).Heard).map e_i64), .row 80029 1, .bool ((lget v6 d.N).Has), .sl 1 (((lget v6 d.N).Recs).map e_str), .own 3 1 (((lget v6 d.N).Ends).map e_i64).length (((lget v6 d.N).Ends).map e_i64)]) h45) (.cons (clS o_Heal (.agg [.i ((lget v6 d.N).Epoch), .own 3 1 (((lget v6 d.N).Heard).map e_i64).length (((lget v6 d.N).Heard).map e_i64), .row 80029 1, .bool ((lget v6 d.N).Has), .sl 1 (((lget v6 d.N).Recs).map e_str), .own 3 1 (((lget v6 d.N).Ends).map e_i64).length (((lget v6 d.N).Ends).map e_i64)]) h49) (.cons (stl (f := o_Heal) (fun _ => rfl) v8) .nil))) (hk := ?_)
           exact metQ ((lset x.1 d.Who (⟨x3.1, x3.2.1, x3.2.2.1, x3.2.2.2.1⟩ : Copy)), x.2.1, x.2.2.1, v8) [(20019, ⟨0, true, true, false⟩)] hF
          ·exact metQ ((lset x.1 d.Who (⟨x3.1, x3.2.1, x3.2.2.1, x3.2.2.2.1⟩ : Copy)), x.2.1, x.2.2.1, x.2.2.2) [(20019, ⟨0, true, true, false⟩)] hF
         ·exact metQ (x.1, x.2.1, x.2.2.1, x.2.2.2) [(20019, ⟨0, true, true, false⟩)] hF
        ·refine LR0 ?_
         refine Nif hF ?_ ?_ <;> intro hb hF
         ·obtain ⟨h50, hF⟩ := aE hF
          obtain ⟨h51, hF⟩ := aE hF
          obtain ⟨x5, h52, hF⟩ := oE hF
          have p53 := (Pe.ren (R_Chosen_ok h52) ⟨[], [(111, 315)], [], []⟩)
          refine L_open 60019 d.N.toNat [(80030, 2)] (u := o_Heal (lget x.2.2.2 d.N)) (.cons (ldr_ok o_Heal h51) .nil) (hk := ?_)
          refine DJ (.l e_Copy x.1 (.g (opX o_Heal (.agg [.i ((lget x.2.2.2 d.N).Epoch), .own 3 1 (((lget x.2.2.2 d.N).Heard).map e_i64).length (((lget x.2.2.2 d.N).Heard).map e_i64), .row 80030 0, .bool ((lget x.2.2.2 d.N).Has), .sl 1 (((lget x.2.2.2 d.N).Recs).map e_str), .own 3 1 (((lget x.2.2.2 d.N).Ends).map e_i64).length (((lget x.2.2.2 d.N).Ends).map e_i64)]) d.N.toNat h50) (.a (.av (.agg [.i ((lget x.2.2.2 d.N).Epoch), .own 3 1 (((lget x.2.2.2 d.N).Heard).map e_i64).length (((lget x.2.2.2 d.N).Heard).map e_i64), .row 80030 0, .bool ((lget x.2.2.2 d.N).Has), .sl 1 (((lget x.2.2.2 d.N).Recs).map e_str), .own 3 1 (((lget x.2.2.2 d.N).Ends).map e_i64).length (((lget x.2.2.2 d.N).Ends).map e_i64)])) (.g (opL o_Heal (.agg [.i ((lget x.2.2.2 d.N).Epoch), .own 3 1 (((lget x.2.2.2 d.N).Heard).map e_i64).length (((lget x.2.2.2 d.N).Heard).map e_i64), .row 80030 0, .bool ((lget x.2.2.2 d.N).Has), .sl 1 (((lget x.2.2.2 d.N).Recs).map e_str), .own 3 1 (((lget x.2.2.2 d.N).Ends).map e_i64).length (((lget x.2.2.2 d.N).Ends).map e_i64)]) h51) (.e [] [] p53 .z))))) ?_
          refine L_close 60019 d.N.toNat [(1, 3, 1), (2, 24, 4), (5, 3, 1)] [(4, 1)] (u := .agg [.i ((lget x.2.2.2 d.N).Epoch), .own 3 1 (((lget x.2.2.2 d.N).Heard).map e_i64).length (((lget x.2.2.2 d.N).Heard).map e_i64), .row 80030 0, .bool ((lget x.2.2.2 d.N).Has), .sl 1 (((lget x.2.2.2 d.N).Recs).map e_str), .own 3 1 (((lget x.2.2.2 d.N).Ends).map e_i64).length (((lget x.2.2.2 d.N).Ends).map e_i64)]) (zs := (x.2.2.2.map o_Heal)) (.cons (opL o_Heal (.agg [.i ((lget x.2.2.2 d.N).Epoch), .own 3 1 (((lget x.2.2.2 d.N).Heard).map e_i64).length (((lget x.2.2.2 d.N).Heard).map e_i64), .row 80030 0, .bool ((lget x.2.2.2 d.N).Has), .sl 1 (((lget x.2.2.2 d.N).Recs).map e_str), .own 3 1 (((lget x.2.2.2 d.N).Ends).map e_i64).length (((lget x.2.2.2 d.N).Ends).map e_i64)]) h51) (.cons (clU o_Heal (.agg [.i ((lget x.2.2.2 d.N).Epoch), .own 3 1 (((lget x.2.2.2 d.N).Heard).map e_i64).length (((lget x.2.2.2 d.N).Heard).map e_i64), .row 80030 0, .bool ((lget x.2.2.2 d.N).Has), .sl 1 (((lget x.2.2.2 d.N).Recs).map e_str), .own 3 1 (((lget x.2.2.2 d.N).Ends).map e_i64).length (((lget x.2.2.2 d.N).Ends).map e_i64)]) h51) (.cons (stl (f := o_Heal) (fun _ => rfl) x.2.2.2) .nil))) (hk := ?_)
          obtain ⟨h54, h55, hF⟩ := asrt2 hF
          refine RJ (.g (fun (ga0 : (decide (x5.2.Code = 0)) = true) => (ixr_ok o_Heal (h54 ga0))) (.a (.av (o_Heal (lget x.2.2.2 d.N))) (.g (fun (ga0 : (decide (x5.2.Code = 0)) = true) => (ldr_ok o_Heal (h55 ga0))) .z))) ?_
          refine Nif hF ?_ ?_ <;> intro hb hF
          ·obtain ⟨h56, hF⟩ := aE hF
           obtain ⟨h57, hF⟩ := aE hF
           refine NRL ((lset x.2.2.2 d.N (⟨(lget x.2.2.2 d.N).Epoch, (lget x.2.2.2 d.N).Heard, (lget x.2.2.2 d.N).Said, true, (lget x.2.2.2 d.N).Recs, (lget x.2.2.2 d.N).Ends⟩ : Heal))) (fun v9 : List Heal => ([], [], [(60019, ⟨58, 6, 0, 0, 0, true, 2, [], (v9.map o_Heal)⟩)], [])) [.av (o_Heal (lget x.2.2.2 d.N)), .xs ((lset x.2.2.2 d.N (⟨(lget x.2.2.2 d.N).Epoch, (lget x.2.2.2 d.N).Heard, (lget x.2.2.2 d.N).Said, true, (lget x.2.2.2 d.N).Recs, (lget x.2.2.2 d.N).Ends⟩ : Heal)).map o_Heal)] [3, 5, 6, 14] [3, 5, 6] [19, 315, 20019, 40019, 60019] [] (hc (ixr_ok o_Heal h56) (hc (ldr_ok o_Heal h57) (hc (set_ok o_Heal x.2.2.2 d.N (⟨(lget x.2.2.2 d.N).Epoch, (lget x.2.2.2 d.N).Heard, (lget x.2.2.2 d.N).Said, true, (lget x.2.2.2 d.N).Recs, (lget x.2.2.2 d.N).Ends⟩ : Heal)) (hc (Nat.zero_le d.N.toNat) .nil)))) (fun v9 hv => ?_)
           have hF := lt_elim hF hv
           obtain ⟨h58, h59, hF⟩ := asrt2 hF
           refine NRL ((lset v9 d.N (⟨(lget v9 d.N).Epoch, (lget v9 d.N).Heard, (lget v9 d.N).Said, (lget v9 d.N).Has, x5.1, (lget v9 d.N).Ends⟩ : Heal))) (fun v10 : List Heal => ([], [], [(60019, ⟨58, 6, 0, 0, 0, true, 2, [], (v10.map o_Heal)⟩)], [])) [.av (o_Heal (lget v9 d.N)), .xs ((lset v9 d.N (⟨(lget v9 d.N).Epoch, (lget v9 d.N).Heard, (lget v9 d.N).Said, (lget v9 d.N).Has, x5.1, (lget v9 d.N).Ends⟩ : Heal)).map o_Heal)] [3, 6] [3, 6] [19, 20019, 40019, 60019] [] (hc (ixr_ok o_Heal h58) (hc (ldr_ok o_Heal h59) (hc (set_ok o_Heal v9 d.N (⟨(lget v9 d.N).Epoch, (lget v9 d.N).Heard, (lget v9 d.N).Said, (lget v9 d.N).Has, x5.1, (lget v9 d.N).Ends⟩ : Heal)) (hc (Nat.zero_le d.N.toNat) .nil)))) (fun v10 hv => ?_)
           have hF := lt_elim hF hv
           exact metQ (x.1, x.2.1, x.2.2.1, v10) [(20019, ⟨0, true, true, false⟩)] hF
          ·exact metQ (x.1, x.2.1, x.2.2.1, x.2.2.2) [(20019, ⟨0, true, true, false⟩)] hF
         ·refine LR0 ?_
          refine Nif hF ?_ ?_ <;> intro hb hF
          ·obtain ⟨h60, hF⟩ := aE hF
           obtain ⟨h61, hF⟩ := aE hF
           refine RJ (.x o_Heal h60 (.r o_Heal h61 .z)) ?_
           refine Nif hF ?_ ?_ <;> intro hb hF
           ·refine LR0 ?_
            refine L_freeze 40019 (zs := (x.2.2.1.map e_L_i64)) (.cons (okcL (f := o_L_i64) (fun _ => rfl) x.2.2.1) (.cons (frzL (f := o_L_i64) (g := e_L_i64) (fun _ => rfl) x.2.2.1) .nil)) (hk := ?_)
            refine L_freeze 60019 (zs := (x.2.2.2.map e_Heal)) (.cons (okcL (f := o_Heal) (fun _ => rfl) x.2.2.2) (.cons (frzL (f := o_Heal) (g := e_Heal) (fun _ => rfl) x.2.2.2) .nil)) (hk := ?_)
            cases hF
            exact Wz [] hfin
           ·obtain ⟨h62, hF⟩ := aE hF
            obtain ⟨h63, h64, h65, h66, hF⟩ := asrt4 hF
            obtain ⟨h67, hF⟩ := aE hF
            obtain ⟨x6, h68, hF⟩ := oE hF
            have p69 := (Pe.ren (R_EndedCopy_ok h68) ⟨[], [(32, 376)], [], []⟩)
            refine DJ (.x e_Copy h62 (.r e_Copy h63 (.x o_Heal h64 (.r o_Heal h65 (.x o_Heal h66 (.r o_Heal h67 (.e [] [] p69 .z))))))) ?_
            refine LR0 ?_
            refine Nif hF ?_ ?_ <;> intro hb hF
            ·obtain ⟨h70, hF⟩ := aE hF
             obtain ⟨h71, hF⟩ := aE hF
             refine RJ (.x e_Copy h70 (.w e_Copy h71 (⟨x6.1, x6.2.1, x6.2.2.1, x6.2.2.2.1⟩ : Copy) .z)) ?_
             obtain ⟨h72, h73, hF⟩ := asrt2 hF
             obtain ⟨x7, h74, hF⟩ := oE hF
             refine L_open 60019 d.N.toNat [(80031, 5)] (u := o_Heal (lget x.2.2.2 d.N)) (.cons (ldr_ok o_Heal h73) .nil) (hk := ?_)
             refine DJ (.g (opX o_Heal (.agg [.i ((lget x.2.2.2 d.N).Epoch), .own 3 1 (((lget x.2.2.2 d.N).Heard).map e_i64).length (((lget x.2.2.2 d.N).Heard).map e_i64), .own 24 4 (((lget x.2.2.2 d.N).Said).map e_Copy).length (((lget x.2.2.2 d.N).Said).map e_Copy), .bool ((lget x.2.2.2 d.N).Has), .sl 1 (((lget x.2.2.2 d.N).Recs).map e_str), .row 80031 0]) d.N.toNat h72) (.a (.av (.agg [.i ((lget x.2.2.2 d.N).Epoch), .own 3 1 (((lget x.2.2.2 d.N).Heard).map e_i64).length (((lget x.2.2.2 d.N).Heard).map e_i64), .own 24 4 (((lget x.2.2.2 d.N).Said).map e_Copy).length (((lget x.2.2.2 d.N).Said).map e_Copy), .bool ((lget x.2.2.2 d.N).Has), .sl 1 (((lget x.2.2.2 d.N).Recs).map e_str), .row 80031 0])) (.g (opL o_Heal (.agg [.i ((lget x.2.2.2 d.N).Epoch), .own 3 1 (((lget x.2.2.2 d.N).Heard).map e_i64).length (((lget x.2.2.2 d.N).Heard).map e_i64), .own 24 4 (((lget x.2.2.2 d.N).Said).map e_Copy).length (((lget x.2.2.2 d.N).Said).map e_Copy), .bool ((lget x.2.2.2 d.N).Has), .sl 1 (((lget x.2.2.2 d.N).Recs).map e_str), .row 80031 0]) h73) (.b (R_Has_ok h74) .z)))) ?_
             refine L_close 60019 d.N.toNat [(1, 3, 1), (2, 24, 4), (5, 3, 1)] [(4, 1)] (u := .agg [.i ((lget x.2.2.2 d.N).Epoch), .own 3 1 (((lget x.2.2.2 d.N).Heard).map e_i64).length (((lget x.2.2.2 d.N).Heard).map e_i64), .own 24 4 (((lget x.2.2.2 d.N).Said).map e_Copy).length (((lget x.2.2.2 d.N).Said).map e_Copy), .bool ((lget x.2.2.2 d.N).Has), .sl 1 (((lget x.2.2.2 d.N).Recs).map e_str), .row 80031 0]) (zs := (x.2.2.2.map o_Heal)) (.cons (opL o_Heal (.agg [.i ((lget x.2.2.2 d.N).Epoch), .own 3 1 (((lget x.2.2.2 d.N).Heard).map e_i64).length (((lget x.2.2.2 d.N).Heard).map e_i64), .own 24 4 (((lget x.2.2.2 d.N).Said).map e_Copy).length (((lget x.2.2.2 d.N).Said).map e_Copy), .bool ((lget x.2.2.2 d.N).Has), .sl 1 (((lget x.2.2.2 d.N).Recs).map e_str), .row 80031 0]) h73) (.cons (clU o_Heal (.agg [.i ((lget x.2.2.2 d.N).Epoch), .own 3 1 (((lget x.2.2.2 d.N).Heard).map e_i64).length (((lget x.2.2.2 d.N).Heard).map e_i64), .own 24 4 (((lget x.2.2.2 d.N).Said).map e_Copy).length (((lget x.2.2.2 d.N).Said).map e_Copy), .bool ((lget x.2.2.2 d.N).Has), .sl 1 (((lget x.2.2.2 d.N).Recs).map e_str), .row 80031 0]) h73) (.cons (stl (f := o_Heal) (fun _ => rfl) x.2.2.2) .nil))) (hk := ?_)
             refine Nif hF ?_ ?_ <;> intro hb hF
             ·obtain ⟨h75, hF⟩ := aE hF
              obtain ⟨h76, h77, h78, h79, hF⟩ := asrt4 hF
              refine L_open 60019 d.N.toNat [(80032, 5)] (u := o_Heal (lget x.2.2.2 d.N)) (.cons (ldr_ok o_Heal h76) .nil) (hk := ?_)
              refine DJ (.g (opX o_Heal (.agg [.i ((lget x.2.2.2 d.N).Epoch), .own 3 1 (((lget x.2.2.2 d.N).Heard).map e_i64).length (((lget x.2.2.2 d.N).Heard).map e_i64), .own 24 4 (((lget x.2.2.2 d.N).Said).map e_Copy).length (((lget x.2.2.2 d.N).Said).map e_Copy), .bool ((lget x.2.2.2 d.N).Has), .sl 1 (((lget x.2.2.2 d.N).Recs).map e_str), .row 80032 0]) d.N.toNat h75) (.a (.av (.agg [.i ((lget x.2.2.2 d.N).Epoch), .own 3 1 (((lget x.2.2.2 d.N).Heard).map e_i64).length (((lget x.2.2.2 d.N).Heard).map e_i64), .own 24 4 (((lget x.2.2.2 d.N).Said).map e_Copy).length (((lget x.2.2.2 d.N).Said).map e_Copy), .bool ((lget x.2.2.2 d.N).Has), .sl 1 (((lget x.2.2.2 d.N).Recs).map e_str), .row 80032 0])) (.g (opL o_Heal (.agg [.i ((lget x.2.2.2 d.N).Epoch), .own 3 1 (((lget x.2.2.2 d.N).Heard).map e_i64).length (((lget x.2.2.2 d.N).Heard).map e_i64), .own 24 4 (((lget x.2.2.2 d.N).Said).map e_Copy).length (((lget x.2.2.2 d.N).Said).map e_Copy), .bool ((lget x.2.2.2 d.N).Has), .sl 1 (((lget x.2.2.2 d.N).Recs).map e_str), .row 80032 0]) h76) (.a (.sealed) (.p e_i64 h77 (.g (opX o_Heal (.agg [.i ((lget x.2.2.2 d.N).Epoch), .own 3 1 (((lget x.2.2.2 d.N).Heard).map e_i64).length (((lget x.2.2.2 d.N).Heard).map e_i64), .own 24 4 (((lget x.2.2.2 d.N).Said).map e_Copy).length (((lget x.2.2.2 d.N).Said).map e_Copy), .bool ((lget x.2.2.2 d.N).Has), .sl 1 (((lget x.2.2.2 d.N).Recs).map e_str), .row 80032 0]) d.N.toNat h78) (.a (.rows) (.a (.av (.agg [.i ((lget x.2.2.2 d.N).Epoch), .own 3 1 (((lget x.2.2.2 d.N).Heard).map e_i64).length (((lget x.2.2.2 d.N).Heard).map e_i64), .own 24 4 (((lget x.2.2.2 d.N).Said).map e_Copy).length (((lget x.2.2.2 d.N).Said).map e_Copy), .bool ((lget x.2.2.2 d.N).Has), .sl 1 (((lget x.2.2.2 d.N).Recs).map e_str), .row 80032 0])) (.a (.xs ((x.2.2.2.map o_Heal).set d.N.toNat (.agg [.i ((lget x.2.2.2 d.N).Epoch), .own 3 1 (((lget x.2.2.2 d.N).Heard).map e_i64).length (((lget x.2.2.2 d.N).Heard).map e_i64), .own 24 4 (((lget x.2.2.2 d.N).Said).map e_Copy).length (((lget x.2.2.2 d.N).Said).map e_Copy), .bool ((lget x.2.2.2 d.N).Has), .sl 1 (((lget x.2.2.2 d.N).Recs).map e_str), .row 80032 1]))) (.g (opL o_Heal (.agg [.i ((lget x.2.2.2 d.N).Epoch), .own 3 1 (((lget x.2.2.2 d.N).Heard).map e_i64).length (((lget x.2.2.2 d.N).Heard).map e_i64), .own 24 4 (((lget x.2.2.2 d.N).Said).map e_Copy).length (((lget x.2.2.2 d.N).Said).map e_Copy), .bool ((lget x.2.2.2 d.N).Has), .sl 1 (((lget x.2.2.2 d.N).Recs).map e_str), .row 80032 0]) h79) (.g (opS o_Heal x.2.2.2 d.N (.agg [.i ((lget x.2.2.2 d.N).Epoch), .own 3 1 (((lget x.2.2.2 d.N).Heard).map e_i64).length (((lget x.2.2.2 d.N).Heard).map e_i64), .own 24 4 (((lget x.2.2.2 d.N).Said).map e_Copy).length (((lget x.2.2.2 d.N).Said).map e_Copy), .bool ((lget x.2.2.2 d.N).Has), .sl 1 (((lget x.2.2.2 d.N).Recs).map e_str), .row 80032 0]) (.agg [.i ((lget x.2.2.2 d.N).Epoch), .own 3 1 (((lget x.2.2.2 d.N).Heard).map e_i64).length (((lget x.2.2.2 d.N).Heard).map e_i64), .own 24 4 (((lget x.2.2.2 d.N).Said).map e_Copy).length (((lget x.2.2.2 d.N).Said).map e_Copy), .bool ((lget x.2.2.2 d.N).Has), .sl 1 (((lget x.2.2.2 d.N).Recs).map e_str), .row 80032 1])) (.g (Nat.zero_le d.N.toNat) .z)))))))))))) ?_
              obtain ⟨v11, h80, hF⟩ := lS hF
              refine L_close 60019 d.N.toNat [(1, 3, 1), (2, 24, 4), (5, 3, 1)] [(4, 1)] (u := .agg [.i ((lget x.2.2.2 d.N).Epoch), .own 3 1 (((lget x.2.2.2 d.N).Heard).map e_i64).length (((lget x.2.2.2 d.N).Heard).map e_i64), .own 24 4 (((lget x.2.2.2 d.N).Said).map e_Copy).length (((lget x.2.2.2 d.N).Said).map e_Copy), .bool ((lget x.2.2.2 d.N).Has), .sl 1 (((lget x.2.2.2 d.N).Recs).map e_str), .row 80032 1]) (zs := (v11.map o_Heal)) (.cons (opL o_Heal (.agg [.i ((lget x.2.2.2 d.N).Epoch), .own 3 1 (((lget x.2.2.2 d.N).Heard).map e_i64).length (((lget x.2.2.2 d.N).Heard).map e_i64), .own 24 4 (((lget x.2.2.2 d.N).Said).map e_Copy).length (((lget x.2.2.2 d.N).Said).map e_Copy), .bool ((lget x.2.2.2 d.N).Has), .sl 1 (((lget x.2.2.2 d.N).Recs).map e_str), .row 80032 1]) h76) (.cons (clS o_Heal (.agg [.i ((lget x.2.2.2 d.N).Epoch), .own 3 1 (((lget x.2.2.2 d.N).Heard).map e_i64).length (((lget x.2.2.2 d.N).Heard).map e_i64), .own 24 4 (((lget x.2.2.2 d.N).Said).map e_Copy).length (((lget x.2.2.2 d.N).Said).map e_Copy), .bool ((lget x.2.2.2 d.N).Has), .sl 1 (((lget x.2.2.2 d.N).Recs).map e_str), .row 80032 1]) h80) (.cons (stl (f := o_Heal) (fun _ => rfl) v11) .nil))) (hk := ?_)
              exact metQ ((lset x.1 d.Who (⟨x6.1, x6.2.1, x6.2.2.1, x6.2.2.2.1⟩ : Copy)), x.2.1, x.2.2.1, v11) [(20019, ⟨0, true, true, false⟩)] hF
             ·exact metQ ((lset x.1 d.Who (⟨x6.1, x6.2.1, x6.2.2.1, x6.2.2.2.1⟩ : Copy)), x.2.1, x.2.2.1, x.2.2.2) [(20019, ⟨0, true, true, false⟩)] hF
            ·exact metQ (x.1, x.2.1, x.2.2.1, x.2.2.2) [(20019, ⟨0, true, true, false⟩)] hF
          ·exact metQ (x.1, x.2.1, x.2.2.1, x.2.2.2) [(20019, ⟨0, true, true, false⟩)] hF
    ·intro v2 hF
     unfold R_VaultStep_v1_J1 at hF
     refine LR0 ?_
     refine L_freeze 40019 (zs := (v2.2.2.1.map e_L_i64)) (.cons (okcL (f := o_L_i64) (fun _ => rfl) v2.2.2.1) (.cons (frzL (f := o_L_i64) (g := e_L_i64) (fun _ => rfl) v2.2.2.1) .nil)) (hk := ?_)
     refine L_freeze 60019 (zs := (v2.2.2.2.map e_Heal)) (.cons (okcL (f := o_Heal) (fun _ => rfl) v2.2.2.2) (.cons (frzL (f := o_Heal) (g := e_Heal) (fun _ => rfl) v2.2.2.2) .nil)) (hk := ?_)
     cases hF
     exact Wz [] hfin

/- tabularyref.Vaults -/
def R_Vaults_J1 (v1 : List Copy × List (List UInt8) × List (List Int) × List Heal) : Option (Vault × Fault) :=
 some ((⟨v1.1, v1.2.1, v1.2.2.1, v1.2.2.2⟩ : Vault), (⟨0, 0⟩ : Fault))
def R_Vaults_B1 (recs : List (List UInt8)) (deeds : List Deed) (v2 : List Copy × List (List UInt8) × List (List Int) × List Heal × Int) : Option ((List Copy × List (List UInt8) × List (List Int) × List Heal × Int) ⊕ (Vault × Fault)) :=
 if (decide (v2.2.2.2.2 < (deeds.length : Int))) = true then
  asrt (0 ≤ v2.2.2.2.2 ∧ v2.2.2.2.2 < (deeds.length : Int)) <|
  ob (R_VaultStep_v1 (⟨v2.1, v2.2.1, v2.2.2.1, v2.2.2.2.1⟩ : Vault) recs (⟨(lget deeds v2.2.2.2.2).Kind, (lget deeds v2.2.2.2.2).Who, (lget deeds v2.2.2.2.2).N⟩ : Deed)) fun x5 =>
  if (!decide (x5.2 = 0)) = true then
   lt (R_F x5.2 v2.2.2.2.2) fun x6 =>
   some (Sum.inr ((⟨([] : List Copy), ([] : List (List UInt8)), ([] : List (List Int)), ([] : List Heal)⟩ : Vault), x6))
  else
   some (Sum.inl (x5.1.Copies, x5.1.Wrote, x5.1.Took, x5.1.Heals, w64 (v2.2.2.2.2 + 1)))
 else
  inrO (R_Vaults_J1 (v2.1, v2.2.1, v2.2.2.1, v2.2.2.2.1))
def R_Vaults_L1 (recs : List (List UInt8)) (deeds : List Deed) (v0 : List Copy × List (List UInt8) × List (List Int) × List Heal × Int) : Option (Vault × Fault) :=
 loopO (fun y => R_Vaults_B1 recs deeds y) v0
def R_Vaults (num : Int) (recs : List (List UInt8)) (deeds : List Deed) : Option (Vault × Fault) :=
 if ((decide (num < 1)) || (decide (7 < num))) = true then
  lt (R_F 3 (-1)) fun x =>
  some ((⟨([] : List Copy), ([] : List (List UInt8)), ([] : List (List Int)), ([] : List Heal)⟩ : Vault), x)
 else
  if (decide (2000 < (deeds.length : Int))) = true then
   lt (R_F 2 (-1)) fun x1 =>
   some ((⟨([] : List Copy), ([] : List (List UInt8)), ([] : List (List Int)), ([] : List Heal)⟩ : Vault), x1)
  else
   if (decide (100 < (recs.length : Int))) = true then
    lt (R_F 2 (-2)) fun x2 =>
    some ((⟨([] : List Copy), ([] : List (List UInt8)), ([] : List (List Int)), ([] : List Heal)⟩ : Vault), x2)
   else
    ob (R_TooLong recs) fun x3 =>
    if (decide (0 ≤ x3)) = true then
     lt (R_F 8 (-2)) fun x4 =>
     some ((⟨([] : List Copy), ([] : List (List UInt8)), ([] : List (List Int)), ([] : List Heal)⟩ : Vault), x4)
    else
     asrt (0 ≤ (num : Int) ∧ num ≤ num ∧ num * 48 ≤ 140737488351232) <|
     lt ((List.replicate num.toNat ((⟨0, false, ([] : List (List UInt8)), 0⟩ : Copy) : Copy))) fun (v : List Copy) =>
     R_Vaults_L1 recs deeds (v, ([] : List (List UInt8)), ([] : List (List Int)), ([] : List Heal), 0)
theorem R_Vaults_ok {num recs deeds r} (hF : R_Vaults num recs deeds = some r) : Pe Try.prog 23 S.none [.i num, .sl 1 (recs.map e_str), .sl 3 (deeds.map e_Deed)] (.tup [.agg (c_Vault r.1), .agg (c_Fault r.2)]) S.none := by
 refine PT 63 [.cell 6 46, .cell 7 29] [46, 29] Try.func23 ?_
 intro Q g hfin
 unfold R_Vaults at hF
 refine LR0 ?_
 refine LR0 ?_
 refine Nif hF ?_ ?_ <;> intro hb hF
 ·obtain ⟨x, h0, hF⟩ := lS hF
  refine RJ (.b (R_F_ok h0) .z) ?_
  cases hF
  exact Wz [] hfin
 ·refine RJ (.l e_Deed deeds .z) ?_
  refine Nif hF ?_ ?_ <;> intro hb hF
  ·obtain ⟨x1, h1, hF⟩ := lS hF
   refine RJ (.b (R_F_ok h1) .z) ?_
   cases hF
   exact Wz [] hfin
  ·refine RJ (.l e_str recs .z) ?_
   refine Nif hF ?_ ?_ <;> intro hb hF
   ·obtain ⟨x2, h2, hF⟩ := lS hF
    refine RJ (.b (R_F_ok h2) .z) ?_
    cases hF
    exact Wz [] hfin
   ·obtain ⟨x3, h3, hF⟩ := oE hF
    refine RJ (.b (R_TooLong_ok h3) .z) ?_
    refine Nif hF ?_ ?_ <;> intro hb hF
    ·obtain ⟨x4, h4, hF⟩ := lS hF
     refine RJ (.b (R_F_ok h4) .z) ?_
     cases hF
     exact Wz [] hfin
    ·obtain ⟨h5, hF⟩ := aE hF
     refine NRL ((List.replicate num.toNat ((⟨0, false, ([] : List (List UInt8)), 0⟩ : Copy) : Copy))) (fun v : List Copy => ([(8, .ptr 8 0)], [(8, [.row 36 0, .nils, .nils, .nils])], [(36, .o 24 4 0 (v.map e_Copy))], [])) [.xs ((List.replicate num.toNat ((⟨0, false, ([] : List (List UInt8)), 0⟩ : Copy) : Copy)).map e_Copy)] [1, 2, 6, 7, 8] [6, 7, 8] [36] [] (hc (mk_ok h5) (hc (rep_ok e_Copy num ((⟨0, false, ([] : List (List UInt8)), 0⟩ : Copy) : Copy)) .nil)) (fun v hv => ?_)
     have hF := lt_elim hF hv
     refine VR [] [1, 2, 6, 7, 8, 9] [6, 7, 8] [36] [] [(1, .sl 1 (recs.map e_str)), (2, .sl 3 (deeds.map e_Deed)), (6, .ptr 6 0), (7, .ptr 7 0), (8, .ptr 8 0), (9, .i 0)] [(6, [.nils, .nils, .nils, .nils]), (7, [.i 0, .i 0]), (8, [.row 36 0, .nils, .nils, .nils])] [(36, .o 24 4 0 (v.map e_Copy))] [] .nil ?_
     refine NmS (fun v1 => R_Vaults_J1 v1 = some r) (fun Z v1 => Z.up [6, 7, 8] [6, 7, 8] [] [] [] [(8, [.sl 4 (v1.1.map e_Copy), .sl 1 (v1.2.1.map e_str), .sl 1 (v1.2.2.1.map e_L_i64), .sl 6 (v1.2.2.2.map e_Heal)])] [] []) ?_ ?_
     ·refine Nblk ?_
      unfold R_Vaults_L1 at hF
      refine Wk_sealBX [] 8 rfl rfl ?_
      refine Wk_coeB 8 [.sl 4 (v.map e_Copy), .sl 1 (([] : List (List UInt8)).map e_str), .sl 1 (([] : List (List Int)).map e_L_i64), .sl 6 (([] : List Heal).map e_Heal)] rfl (.cons (CoeS.refl _) (.cons (CoeS.nils 1) (.cons (CoeS.nils 1) (.cons (CoeS.nils 6) .nil)))) ?_
      refine Nitr hF [] (fun v2 => ⟨[(1, .sl 1 (recs.map e_str)), (2, .sl 3 (deeds.map e_Deed)), (6, .ptr 6 0), (7, .ptr 7 0), (8, .ptr 8 0), (9, .i v2.2.2.2.2)], [(6, [.nils, .nils, .nils, .nils]), (7, [.i 0, .i 0]), (8, [.sl 4 (v2.1.map e_Copy), .sl 1 (v2.2.1.map e_str), .sl 1 (v2.2.2.1.map e_L_i64), .sl 6 (v2.2.2.2.1.map e_Heal)])], [], [], []⟩) ?_
      intro n1 v2 y1 hF ih1 dn1
      unfold R_Vaults_B1 at hF
      refine RJ (.l e_Deed deeds .z) ?_
      refine Nif hF ?_ ?_ <;> intro hb hF
      ·refine Nblk ?_
       obtain ⟨h6, hF⟩ := aE hF
       obtain ⟨x5, h7, hF⟩ := oE hF
       refine DJ (.i e_Deed h6 (.c (R_VaultStep_v1_ok h7) .z)) ?_
       refine LR0 ?_
       refine Nif hF ?_ ?_ <;> intro hb hF
       ·obtain ⟨x6, h8, hF⟩ := lS hF
        refine RJ (.b (R_F_ok h8) .z) ?_
        have hF := ret_done hF dn1
        cases hF
        exact Wz [] hfin
       ·refine LR0 ?_
        refine LR0 ?_
        exact Nrnq [] hF ih1
      ·refine Nexit rfl ?_
       have hF := inrO_done hF dn1
       exact metQ (v2.1, v2.2.1, v2.2.2.1, v2.2.2.2.1) [] hF
     ·intro v1 hF
      unfold R_Vaults_J1 at hF
      refine LR0 ?_
      cases hF
      exact Wz [] hfin

/- tabularyref.Ints -/
def R_Ints_J1 (v : Unit) : Option Bool :=
 some true
def R_Ints_B1 (a0 b : List Int) (v1 : Int) : Option (Int ⊕ Bool) :=
 if (decide (v1 < (a0.length : Int))) = true then
  asrt (0 ≤ v1 ∧ v1 < (a0.length : Int)) <|
  asrt (0 ≤ v1 ∧ v1 < (b.length : Int)) <|
  if (!decide ((lget a0 v1) = (lget b v1))) = true then
   some (Sum.inr false)
  else
   some (Sum.inl (w64 (v1 + 1)))
 else
  inrO (R_Ints_J1 ())
def R_Ints_L1 (a0 b : List Int) (v0 : Int) : Option Bool :=
 loopO (fun y => R_Ints_B1 a0 b y) v0
def R_Ints (a0 b : List Int) : Option Bool :=
 if (!decide ((a0.length : Int) = (b.length : Int))) = true then
  some false
 else
  R_Ints_L1 a0 b 0
theorem R_Ints_ok {a0 b r} (hF : R_Ints a0 b = some r) : Pe Try.prog 40 S.none [.sl 1 (a0.map e_i64), .sl 1 (b.map e_i64)] (.bool r) S.none := by
 refine PT 26 [.tmp 4] [4] Try.func40 ?_
 intro Q g hfin
 unfold R_Ints at hF
 refine LR0 ?_
 refine RJ (.l e_i64 a0 (.l e_i64 b .z)) ?_
 refine Nif hF ?_ ?_ <;> intro hb hF
 ·refine LR0 ?_
  cases hF
  exact Wz [] hfin
 ·refine LR0 ?_
  refine NmQ (fun v => R_Ints_J1 v = some r) (fun v => (.w [])) ?_ ?_
  ·refine Nblk ?_
   unfold R_Ints_L1 at hF
   refine Nits hF [] (fun Z v1 => Z.up [0, 1, 5] [] [] [] [(5, .i v1)] [] [] []) ?_
   intro n1 v1 y1 hF ih1 dn1
   unfold R_Ints_B1 at hF
   refine RJ (.l e_i64 a0 .z) ?_
   refine Nif hF ?_ ?_ <;> intro hb hF
   ·refine Nblk ?_
    obtain ⟨h0, h1, hF⟩ := asrt2 hF
    refine DJ (.i e_i64 h0 (.i e_i64 h1 .z)) ?_
    refine Nif hF ?_ ?_ <;> intro hb hF
    ·refine LR0 ?_
     have hF := ret_done hF dn1
     cases hF
     exact Wz [] hfin
    ·refine LR0 ?_
     exact Nrnq [] hF ih1
   ·refine Nexit rfl ?_
    have hF := inrO_done hF dn1
    exact metQ () [] hF
  ·intro v hF
   unfold R_Ints_J1 at hF
   refine LR0 ?_
   cases hF
   exact Wz [] hfin

/- tabularyref.SameVault -/
def R_SameVault_J3 (v2 : Unit) : Option Bool :=
 some true
def R_SameVault_J4 (v3 : Int) (v4 : Unit) : Option (Int ⊕ Bool) :=
 some (Sum.inl (w64 (v3 + 1)))
def R_SameVault_B2 (a0 b : Vault) (v3 v5 : Int) : Option (Int ⊕ (Int ⊕ Bool)) :=
 if (decide (v5 < (((lget a0.Heals v3).Said).length : Int))) = true then
  asrt (0 ≤ v5 ∧ v5 < (((lget a0.Heals v3).Said).length : Int)) <|
  asrt (0 ≤ v5 ∧ v5 < (((lget b.Heals v3).Said).length : Int)) <|
  ob (R_SameCopy (⟨(lget ((lget a0.Heals v3).Said) v5).Epoch, (lget ((lget a0.Heals v3).Said) v5).Closed, (lget ((lget a0.Heals v3).Said) v5).Recs, (lget ((lget a0.Heals v3).Said) v5).Ended⟩ : Copy) (⟨(lget ((lget b.Heals v3).Said) v5).Epoch, (lget ((lget b.Heals v3).Said) v5).Closed, (lget ((lget b.Heals v3).Said) v5).Recs, (lget ((lget b.Heals v3).Said) v5).Ended⟩ : Copy)) fun x4 =>
  if (!x4) = true then
   some (Sum.inr (Sum.inr false))
  else
   some (Sum.inl (w64 (v5 + 1)))
 else
  inrO (R_SameVault_J4 v3 ())
def R_SameVault_L2 (a0 b : Vault) (v3 v0 : Int) : Option (Int ⊕ Bool) :=
 loopO (fun y => R_SameVault_B2 a0 b v3 y) v0
def R_SameVault_B1 (a0 b : Vault) (v3 : Int) : Option (Int ⊕ Bool) :=
 if (decide (v3 < (a0.Heals.length : Int))) = true then
  asrt (0 ≤ v3 ∧ v3 < (a0.Heals.length : Int)) <|
  asrt (0 ≤ v3 ∧ v3 < (b.Heals.length : Int)) <|
  ob (if (!((!decide (((lget a0.Heals v3).Epoch) = ((lget b.Heals v3).Epoch))) || (!(((lget a0.Heals v3).Has) == ((lget b.Heals v3).Has))))) = true then (R_Ints ((lget a0.Heals v3).Heard) ((lget b.Heals v3).Heard)) else some default) fun x1 =>
  ob (if (!(((!decide (((lget a0.Heals v3).Epoch) = ((lget b.Heals v3).Epoch))) || (!(((lget a0.Heals v3).Has) == ((lget b.Heals v3).Has)))) || (!x1))) = true then (R_Ints ((lget a0.Heals v3).Ends) ((lget b.Heals v3).Ends)) else some default) fun x2 =>
  ob (if (!((((!decide (((lget a0.Heals v3).Epoch) = ((lget b.Heals v3).Epoch))) || (!(((lget a0.Heals v3).Has) == ((lget b.Heals v3).Has)))) || (!x1)) || (!x2))) = true then (R_SameTexts ((lget a0.Heals v3).Recs) ((lget b.Heals v3).Recs)) else some default) fun x3 =>
  if ((((((!decide (((lget a0.Heals v3).Epoch) = ((lget b.Heals v3).Epoch))) || (!(((lget a0.Heals v3).Has) == ((lget b.Heals v3).Has)))) || (!x1)) || (!x2)) || (!x3)) || (!decide ((((lget a0.Heals v3).Said).length : Int) = (((lget b.Heals v3).Said).length : Int)))) = true then
   some (Sum.inr false)
  else
   R_SameVault_L2 a0 b v3 0
 else
  inrO (R_SameVault_J3 ())
def R_SameVault_L1 (a0 b : Vault) (v0 : Int) : Option Bool :=
 loopO (fun y => R_SameVault_B1 a0 b y) v0
def R_SameVault_J2 (a0 b : Vault) (v1 : Unit) : Option Bool :=
 R_SameVault_L1 a0 b 0
def R_SameVault_B3 (a0 b : Vault) (v6 : Int) : Option (Int ⊕ Bool) :=
 if (decide (v6 < (a0.Took.length : Int))) = true then
  asrt (0 ≤ v6 ∧ v6 < (a0.Took.length : Int)) <|
  asrt (0 ≤ v6 ∧ v6 < (b.Took.length : Int)) <|
  ob (R_Ints (lget a0.Took v6) (lget b.Took v6)) fun x5 =>
  if (!x5) = true then
   some (Sum.inr false)
  else
   some (Sum.inl (w64 (v6 + 1)))
 else
  inrO (R_SameVault_J2 a0 b ())
def R_SameVault_L3 (a0 b : Vault) (v0 : Int) : Option Bool :=
 loopO (fun y => R_SameVault_B3 a0 b y) v0
def R_SameVault_J1 (a0 b : Vault) (v : Unit) : Option Bool :=
 R_SameVault_L3 a0 b 0
def R_SameVault_B4 (a0 b : Vault) (v7 : Int) : Option (Int ⊕ Bool) :=
 if (decide (v7 < (a0.Copies.length : Int))) = true then
  asrt (0 ≤ v7 ∧ v7 < (a0.Copies.length : Int)) <|
  asrt (0 ≤ v7 ∧ v7 < (b.Copies.length : Int)) <|
  ob (R_SameCopy (⟨(lget a0.Copies v7).Epoch, (lget a0.Copies v7).Closed, (lget a0.Copies v7).Recs, (lget a0.Copies v7).Ended⟩ : Copy) (⟨(lget b.Copies v7).Epoch, (lget b.Copies v7).Closed, (lget b.Copies v7).Recs, (lget b.Copies v7).Ended⟩ : Copy)) fun x6 =>
  if (!x6) = true then
   some (Sum.inr false)
  else
   some (Sum.inl (w64 (v7 + 1)))
 else
  inrO (R_SameVault_J1 a0 b ())
def R_SameVault_L4 (a0 b : Vault) (v0 : Int) : Option Bool :=
 loopO (fun y => R_SameVault_B4 a0 b y) v0
def R_SameVault (a0 b : Vault) : Option Bool :=
 ob (if (!(!decide ((a0.Copies.length : Int) = (b.Copies.length : Int)))) = true then (R_SameTexts a0.Wrote b.Wrote) else some default) fun x =>
 if ((((!decide ((a0.Copies.length : Int) = (b.Copies.length : Int))) || (!x)) || (!decide ((a0.Took.length : Int) = (b.Took.length : Int)))) || (!decide ((a0.Heals.length : Int) = (b.Heals.length : Int)))) = true then
  some false
 else
  R_SameVault_L4 a0 b 0
theorem R_SameVault_ok {a0 b r} (hF : R_SameVault a0 b = some r) : Pe Try.prog 24 S.none [.agg (c_Vault a0), .agg (c_Vault b)] (.bool r) S.none := by
 refine PT 163 [.tmp 4] [4] Try.func24 ?_
 intro Q g hfin
 unfold R_SameVault at hF
 refine LR0 ?_
 obtain ⟨x, h0, hF⟩ := oE hF
 refine RJ (.l e_Copy a0.Copies (.l e_Copy b.Copies (.a (.callB (.bool x)) (.g (fun (ga0 : (!(!decide ((a0.Copies.length : Int) = (b.Copies.length : Int)))) = true) => (R_SameTexts_ok (ite_t h0 ga0))) (.a (.nat (a0.Took.length : Int)) (.g (fun (_ : (!((!decide ((a0.Copies.length : Int) = (b.Copies.length : Int))) || (!x))) = true) => (len_ok e_L_i64 a0.Took)) (.a (.nat (b.Took.length : Int)) (.g (fun (_ : (!((!decide ((a0.Copies.length : Int) = (b.Copies.length : Int))) || (!x))) = true) => (len_ok e_L_i64 b.Took)) (.a (.nat (a0.Heals.length : Int)) (.g (fun (_ : (!(((!decide ((a0.Copies.length : Int) = (b.Copies.length : Int))) || (!x)) || (!decide ((a0.Took.length : Int) = (b.Took.length : Int))))) = true) => (len_ok e_Heal a0.Heals)) (.a (.nat (b.Heals.length : Int)) (.g (fun (_ : (!(((!decide ((a0.Copies.length : Int) = (b.Copies.length : Int))) || (!x)) || (!decide ((a0.Took.length : Int) = (b.Took.length : Int))))) = true) => (len_ok e_Heal b.Heals)) .z)))))))))))) ?_
 refine Nif hF ?_ ?_ <;> intro hb hF
 ·refine LR0 ?_
  cases hF
  exact Wz [] hfin
 ·refine LR0 ?_
  refine NmS (fun v => R_SameVault_J1 a0 b v = some r) (fun Z v => Z.up [2, 3] [2, 3] [] [] [] [] [] []) ?_ ?_
  ·refine Nblk ?_
   unfold R_SameVault_L4 at hF
   refine Nits hF [] (fun Z v7 => Z.up [2, 3, 5] [2, 3] [] [] [(5, .i v7)] [] [] []) ?_
   intro n1 v7 y1 hF ih1 dn1
   unfold R_SameVault_B4 at hF
   refine RJ (.l e_Copy a0.Copies .z) ?_
   refine Nif hF ?_ ?_ <;> intro hb hF
   ·refine Nblk ?_
    obtain ⟨h12, h13, hF⟩ := asrt2 hF
    obtain ⟨x6, h14, hF⟩ := oE hF
    refine DJ (.i e_Copy h12 (.i e_Copy h13 (.b (R_SameCopy_ok h14) .z))) ?_
    refine Nif hF ?_ ?_ <;> intro hb hF
    ·refine LR0 ?_
     have hF := ret_done hF dn1
     cases hF
     exact Wz [] hfin
    ·refine LR0 ?_
     exact Nrnq [] hF ih1
   ·refine Nexit rfl ?_
    have hF := inrO_done hF dn1
    exact metQ () [] hF
  ·intro v hF
   unfold R_SameVault_J1 at hF
   refine LR0 ?_
   refine NmS (fun v1 => R_SameVault_J2 a0 b v1 = some r) (fun Z v1 => Z.up [2, 3] [2, 3] [] [] [] [] [] []) ?_ ?_
   ·refine Nblk ?_
    unfold R_SameVault_L3 at hF
    refine Nits hF [] (fun Z v6 => Z.up [2, 3, 6] [2, 3] [] [] [(6, .i v6)] [] [] []) ?_
    intro n1 v6 y1 hF ih1 dn1
    unfold R_SameVault_B3 at hF
    refine RJ (.l e_L_i64 a0.Took .z) ?_
    refine Nif hF ?_ ?_ <;> intro hb hF
    ·refine Nblk ?_
     obtain ⟨h9, h10, hF⟩ := asrt2 hF
     obtain ⟨x5, h11, hF⟩ := oE hF
     refine DJ (.i e_L_i64 h9 (.i e_L_i64 h10 (.b (R_Ints_ok h11) .z))) ?_
     refine Nif hF ?_ ?_ <;> intro hb hF
     ·refine LR0 ?_
      have hF := ret_done hF dn1
      cases hF
      exact Wz [] hfin
     ·refine LR0 ?_
      exact Nrnq [] hF ih1
    ·refine Nexit rfl ?_
     have hF := inrO_done hF dn1
     exact metQ () [] hF
   ·intro v1 hF
    unfold R_SameVault_J2 at hF
    refine LR0 ?_
    refine NmQ (fun v2 => R_SameVault_J3 v2 = some r) (fun v2 => (.w [])) ?_ ?_
    ·refine Nblk ?_
     unfold R_SameVault_L1 at hF
     refine Nits hF [] (fun Z v3 => Z.up [2, 3, 7] [2, 3] [] [] [(7, .i v3)] [] [] []) ?_
     intro n1 v3 y1 hF ih1 dn1
     unfold R_SameVault_B1 at hF
     refine RJ (.l e_Heal a0.Heals .z) ?_
     refine Nif hF ?_ ?_ <;> intro hb hF
     ·refine Nblk ?_
      obtain ⟨h1, h2, hF⟩ := asrt2 hF
      refine DJ (.i e_Heal h1 (.i e_Heal h2 .z)) ?_
      obtain ⟨x1, h3, hF⟩ := oE hF
      obtain ⟨x2, h4, hF⟩ := oE hF
      obtain ⟨x3, h5, hF⟩ := oE hF
      refine RJ (.a (.callB (.bool x1)) (.g (fun (ga0 : (!((!decide (((lget a0.Heals v3).Epoch) = ((lget b.Heals v3).Epoch))) || (!(((lget a0.Heals v3).Has) == ((lget b.Heals v3).Has))))) = true) => (R_Ints_ok (ite_t h3 ga0))) (.a (.callB (.bool x2)) (.g (fun (ga0 : (!(((!decide (((lget a0.Heals v3).Epoch) = ((lget b.Heals v3).Epoch))) || (!(((lget a0.Heals v3).Has) == ((lget b.Heals v3).Has)))) || (!x1))) = true) => (R_Ints_ok (ite_t h4 ga0))) (.a (.callB (.bool x3)) (.g (fun (ga0 : (!((((!decide (((lget a0.Heals v3).Epoch) = ((lget b.Heals v3).Epoch))) || (!(((lget a0.Heals v3).Has) == ((lget b.Heals v3).Has)))) || (!x1)) || (!x2))) = true) => (R_SameTexts_ok (ite_t h5 ga0))) (.a (.nat (((lget a0.Heals v3).Said).length : Int)) (.g (fun (_ : (!(((((!decide (((lget a0.Heals v3).Epoch) = ((lget b.Heals v3).Epoch))) || (!(((lget a0.Heals v3).Has) == ((lget b.Heals v3).Has)))) || (!x1)) || (!x2)) || (!x3))) = true) => (len_ok e_Copy ((lget a0.Heals v3).Said))) (.a (.nat (((lget b.Heals v3).Said).length : Int)) (.g (fun (_ : (!(((((!decide (((lget a0.Heals v3).Epoch) = ((lget b.Heals v3).Epoch))) || (!(((lget a0.Heals v3).Has) == ((lget b.Heals v3).Has)))) || (!x1)) || (!x2)) || (!x3))) = true) => (len_ok e_Copy ((lget b.Heals v3).Said))) .z)))))))))) ?_
      refine Nif hF ?_ ?_ <;> intro hb hF
      ·refine LR0 ?_
       have hF := ret_done hF dn1
       cases hF
       exact Wz [] hfin
      ·refine LR0 ?_
       refine NmS (fun v4 => R_SameVault_J4 v3 v4 = some y1) (fun Z v4 => Z.up [2, 3, 7] [2, 3] [] [] [] [] [] []) ?_ ?_
       ·refine Nblk ?_
        unfold R_SameVault_L2 at hF
        refine Nits hF [] (fun Z v5 => Z.up [2, 3, 7, 8, 9, 10] [2, 3, 8, 9] [] [] [(10, .i v5)] [] [] []) ?_
        intro n2 v5 y2 hF ih2 dn2
        unfold R_SameVault_B2 at hF
        refine RJ (.l e_Copy ((lget a0.Heals v3).Said) .z) ?_
        refine Nif hF ?_ ?_ <;> intro hb hF
        ·refine Nblk ?_
         obtain ⟨h6, h7, hF⟩ := asrt2 hF
         obtain ⟨x4, h8, hF⟩ := oE hF
         refine DJ (.i e_Copy h6 (.i e_Copy h7 (.b (R_SameCopy_ok h8) .z))) ?_
         refine Nif hF ?_ ?_ <;> intro hb hF
         ·refine LR0 ?_
          have hF := ret_done hF dn2
          have hF := ret_done hF dn1
          cases hF
          exact Wz [] hfin
         ·refine LR0 ?_
          exact Nrnq [] hF ih2
        ·refine Nexit rfl ?_
         have hF := inrO_done hF dn2
         exact metQ () [] hF
       ·intro v4 hF
        unfold R_SameVault_J4 at hF
        refine LR0 ?_
        exact Nrnq [] hF ih1
     ·refine Nexit rfl ?_
      have hF := inrO_done hF dn1
      exact metQ () [] hF
    ·intro v2 hF
     unfold R_SameVault_J3 at hF
     refine LR0 ?_
     cases hF
     exact Wz [] hfin

/- tabularylaw.SealPlays -/
def law_SealPlays_J2 (x2 : List Copy × List (List UInt8) × List (List Int) × List Heal × Fault) (x6 : Int × Fault) (v1 : Int) : Option Bool :=
 if ((!decide (x6.2.Code = 0)) || (!decide (x6.1 = v1))) = true then
  some false
 else
  asrt (((x2.2.1 ++ ([([] : List UInt8)] : List (List UInt8))).length : Int) * 16 ≤ 140737488351232) <|
  ob (seal_Sure (⟨x2.1, (x2.2.1 ++ ([([] : List UInt8)] : List (List UInt8))), x2.2.2.1, x2.2.2.2.1⟩ : Vault)) fun x7 =>
  lt (R_F 5 0) fun x8 =>
  lt ((decide (x7.2.Code = x8.Code) && (decide (x7.2.At = x8.At) && true)) && (decide (x7.1 = 0))) fun v2 =>
  some v2
def law_SealPlays_B1 (x2 : List Copy × List (List UInt8) × List (List Int) × List Heal × Fault) (x3 : Vault × Fault) (x6 : Int × Fault) (v3 : Int) : Option (Int ⊕ Bool) :=
 asrt ((decide (v3 < (x3.1.Took.length : Int))) = true → 0 ≤ v3 ∧ v3 < (x3.1.Took.length : Int)) <|
 if ((decide (v3 < (x3.1.Took.length : Int))) && (decide ((x3.1.Copies.length : Int) < (w64 (2 * ((lget x3.1.Took v3).length : Int)))))) = true then
  some (Sum.inl (w64 (v3 + 1)))
 else
  inrO (law_SealPlays_J2 x2 x6 v3)
def law_SealPlays_L1 (x2 : List Copy × List (List UInt8) × List (List Int) × List Heal × Fault) (x3 : Vault × Fault) (x6 : Int × Fault) (v0 : Int) : Option Bool :=
 loopO (fun y => law_SealPlays_B1 x2 x3 x6 y) v0
def law_SealPlays_J1 (num : Int) (recs : List (List UInt8)) (deeds : List Deed) (x1 : List (List UInt8)) (x2 : List Copy × List (List UInt8) × List (List Int) × List Heal × Fault) (v : Unit) : Option Bool :=
 ob (R_Vaults num recs deeds) fun x3 =>
 ob (if (!(!(decide (x2.2.2.2.2.Code = x3.2.Code) && (decide (x2.2.2.2.2.At = x3.2.At) && true)))) = true then (R_SameVault (⟨x2.1, x2.2.1, x2.2.2.1, x2.2.2.2.1⟩ : Vault) x3.1) else some default) fun x4 =>
 ob (if (!((!(decide (x2.2.2.2.2.Code = x3.2.Code) && (decide (x2.2.2.2.2.At = x3.2.At) && true))) || (!x4))) = true then (R_SameTexts x1 recs) else some default) fun x5 =>
 if (((!(decide (x2.2.2.2.2.Code = x3.2.Code) && (decide (x2.2.2.2.2.At = x3.2.At) && true))) || (!x4)) || (!x5)) = true then
  some false
 else
  ob (seal_Sure (⟨x2.1, x2.2.1, x2.2.2.1, x2.2.2.2.1⟩ : Vault)) fun x6 =>
  law_SealPlays_L1 x2 x3 x6 0
def law_SealPlays_B2 (num : Int) (recs : List (List UInt8)) (deeds : List Deed) (x1 : List (List UInt8)) (x2 : List Copy × List (List UInt8) × List (List Int) × List Heal × Fault) (v4 : Int) : Option (Int ⊕ Bool) :=
 if (decide (v4 < (deeds.length : Int))) = true then
  asrt (0 ≤ v4 ∧ v4 < (deeds.length : Int)) <|
  asrt (0 ≤ v4 ∧ v4 < (deeds.length : Int)) <|
  asrt (0 ≤ v4 ∧ v4 < (deeds.length : Int)) <|
  if (!(decide ((lget deeds v4).Kind = (lget deeds v4).Kind) && (decide ((lget deeds v4).Who = (lget deeds v4).Who) && (decide ((lget deeds v4).N = (lget deeds v4).N) && true)))) = true then
   some (Sum.inr false)
  else
   some (Sum.inl (w64 (v4 + 1)))
 else
  inrO (law_SealPlays_J1 num recs deeds x1 x2 ())
def law_SealPlays_L2 (num : Int) (recs : List (List UInt8)) (deeds : List Deed) (x1 : List (List UInt8)) (x2 : List Copy × List (List UInt8) × List (List Int) × List Heal × Fault) (v0 : Int) : Option Bool :=
 loopO (fun y => law_SealPlays_B2 num recs deeds x1 x2 y) v0
def law_SealPlays (num : Int) (recs : List (List UInt8)) (deeds : List Deed) : Option Bool :=
 ob (law_sealBegun) fun x =>
 if (!x) = true then
  some false
 else
  if ((((decide (200 < (deeds.length : Int))) && (decide ((deeds.length : Int) < 2001))) || (decide (3000 < (deeds.length : Int)))) || (decide (300 < (recs.length : Int)))) = true then
   some true
  else
   asrt ((deeds.length : Int) * 24 ≤ 140737488351232) <|
   ob (law_ownTexts recs) fun x1 =>
   ob (seal_Play num x1 deeds) fun x2 =>
   law_SealPlays_L2 num recs deeds x1 x2 0
theorem law_SealPlays_ok {num recs deeds r} (hF : law_SealPlays num recs deeds = some r) : Pe Try.prog 5 S.none [.i num, .sl 1 (recs.map e_str), .sl 3 (deeds.map e_Deed)] (.bool r) S.none := by
 refine PT 135 [.tmp 6] [4] Try.func5 ?_
 intro Q g hfin
 unfold law_SealPlays at hF
 refine LR0 ?_
 obtain ⟨x, h0, hF⟩ := oE hF
 refine RJ (.b (law_sealBegun_ok h0) .z) ?_
 refine Nif hF ?_ ?_ <;> intro hb hF
 ·refine LR0 ?_
  cases hF
  exact Wz [] hfin
 ·refine RJ (.l e_Deed deeds (.a (.nat (deeds.length : Int)) (.g (fun (_ : (decide (200 < (deeds.length : Int))) = true) => (len_ok e_Deed deeds)) (.a (.nat (deeds.length : Int)) (.g (fun (_ : (!((decide (200 < (deeds.length : Int))) && (decide ((deeds.length : Int) < 2001)))) = true) => (len_ok e_Deed deeds)) (.a (.nat (recs.length : Int)) (.g (fun (_ : (!(((decide (200 < (deeds.length : Int))) && (decide ((deeds.length : Int) < 2001))) || (decide (3000 < (deeds.length : Int))))) = true) => (len_ok e_str recs)) .z))))))) ?_
  refine Nif hF ?_ ?_ <;> intro hb hF
  ·refine LR0 ?_
   cases hF
   exact Wz [] hfin
  ·obtain ⟨h1, hF⟩ := aE hF
   refine RJ (.p0 e_Deed h1 .z) ?_
   obtain ⟨x1, h2, hF⟩ := oE hF
   have p3 := (Pe.ren (law_ownTexts_ok h2) ⟨[], [(4, 40)], [], []⟩)
   refine RJ (.e [] [] p3 .z) ?_
   obtain ⟨x2, h4, hF⟩ := oE hF
   have p5 := (Pe.ren (seal_Play_ok h4) ⟨[], [(42, 45), (53, 20045), (60002, 40045), (60003, 60045)], [], []⟩)
   refine RJ (.e [] [] p5 .z) ?_
   refine LR0 ?_
   refine NmS (fun v => law_SealPlays_J1 num recs deeds x1 x2 v = some r) (fun Z v => Z.up [0, 1, 2, 8, 9, 10] [9, 10] [40, 45, 20045, 40045, 60045] [] [] [] [] []) ?_ ?_
   ·refine Nblk ?_
    unfold law_SealPlays_L2 at hF
    refine Nits hF [] (fun Z v4 => Z.up [0, 1, 2, 7, 8, 9, 10, 11] [9, 10] [38, 40, 45, 20045, 40045, 60045] [] [(11, .i v4)] [] [] []) ?_
    intro n1 v4 y1 hF ih1 dn1
    unfold law_SealPlays_B2 at hF
    refine RJ (.l e_Deed deeds .z) ?_
    refine Nif hF ?_ ?_ <;> intro hb hF
    ·refine Nblk ?_
     obtain ⟨h14, h15, hF⟩ := asrt2 hF
     obtain ⟨h16, hF⟩ := aE hF
     refine DJ (.x e_Deed h14 (.r e_Deed h15 (.i e_Deed h16 .z))) ?_
     refine Nif hF ?_ ?_ <;> intro hb hF
     ·refine LR0 ?_
      have hF := ret_done hF dn1
      cases hF
      exact Wz [] hfin
     ·refine LR0 ?_
      exact Nrnq [] hF ih1
    ·refine Nexit rfl ?_
     have hF := inrO_done hF dn1
     exact metQ () [] hF
   ·intro v hF
    unfold law_SealPlays_J1 at hF
    obtain ⟨x3, h6, hF⟩ := oE hF
    refine RJ (.c (R_Vaults_ok h6) .z) ?_
    refine L_freeze 40045 (zs := (x2.2.2.1.map e_L_i64)) (.cons (okcL (f := o_L_i64) (fun _ => rfl) x2.2.2.1) (.cons (frzL (f := o_L_i64) (g := e_L_i64) (fun _ => rfl) x2.2.2.1) .nil)) (hk := ?_)
    refine L_freeze 60045 (zs := (x2.2.2.2.1.map e_Heal)) (.cons (okcL (f := o_Heal) (fun _ => rfl) x2.2.2.2.1) (.cons (frzL (f := o_Heal) (g := e_Heal) (fun _ => rfl) x2.2.2.2.1) .nil)) (hk := ?_)
    obtain ⟨x4, h7, hF⟩ := oE hF
    obtain ⟨x5, h8, hF⟩ := oE hF
    refine RJ (.a (.callB (.bool x4)) (.g (fun (ga0 : (!(!(decide (x2.2.2.2.2.Code = x3.2.Code) && (decide (x2.2.2.2.2.At = x3.2.At) && true)))) = true) => (R_SameVault_ok (ite_t h7 ga0))) (.a (.callB (.bool x5)) (.g (fun (ga0 : (!((!(decide (x2.2.2.2.2.Code = x3.2.Code) && (decide (x2.2.2.2.2.At = x3.2.At) && true))) || (!x4))) = true) => (R_SameTexts_ok (ite_t h8 ga0))) .z)))) ?_
    refine Nif hF ?_ ?_ <;> intro hb hF
    ·refine LR0 ?_
     cases hF
     exact Wz [] hfin
    ·obtain ⟨x6, h9, hF⟩ := oE hF
     refine RJ (.b (seal_Sure_ok h9) .z) ?_
     refine LR0 ?_
     refine NmS (fun v1 => law_SealPlays_J2 x2 x6 v1 = some r) (fun Z v1 => Z.up [9, 14, 15, 16] [9, 15] [45, 20045, 40045, 60045] [] [(16, .i v1)] [] [] []) ?_ ?_
     ·refine Nblk ?_
      unfold law_SealPlays_L1 at hF
      refine Nits hF [] (fun Z v3 => Z.up [9, 12, 14, 15, 16] [9, 12, 15] [45, 20045, 40045, 60045] [] [(16, .i v3)] [] [] []) ?_
      intro n1 v3 y1 hF ih1 dn1
      unfold law_SealPlays_B1 at hF
      obtain ⟨h13, hF⟩ := aE hF
      refine DJ (.l e_L_i64 x3.1.Took (.a (.av (e_L_i64 (lget x3.1.Took v3))) (.g (fun (ga0 : (decide (v3 < (x3.1.Took.length : Int))) = true) => (idx_ok e_L_i64 (h13 ga0))) (.a (.nat ((lget x3.1.Took v3).length : Int)) (.g (fun (_ : (decide (v3 < (x3.1.Took.length : Int))) = true) => (len_ok e_i64 (lget x3.1.Took v3))) (.a (.nat (x3.1.Copies.length : Int)) (.g (fun (_ : (decide (v3 < (x3.1.Took.length : Int))) = true) => (len_ok e_Copy x3.1.Copies)) .z))))))) ?_
      refine Nif hF ?_ ?_ <;> intro hb hF
      ·refine Nblk ?_
       refine LR0 ?_
       exact Nrnq [] hF ih1
      ·refine Nexit rfl ?_
       have hF := inrO_done hF dn1
       exact metQ v3 [] hF
     ·intro v1 hF
      unfold law_SealPlays_J2 at hF
      refine LR0 ?_
      refine Nif hF ?_ ?_ <;> intro hb hF
      ·refine LR0 ?_
       cases hF
       exact Wz [] hfin
      ·obtain ⟨h10, hF⟩ := aE hF
       refine RJ (.a (.sealed) (.p e_str h10 .z)) ?_
       obtain ⟨x7, h11, hF⟩ := oE hF
       refine RJ (.b (seal_Sure_ok h11) .z) ?_
       obtain ⟨x8, h12, hF⟩ := lS hF
       refine NDL ((decide (x7.2.Code = x8.Code) && (decide (x7.2.At = x8.At) && true)) && (decide (x7.1 = 0))) (fun v2 : Bool => ([(6, .bool v2)], [], [], [])) [.callB (.agg (c_Fault x8))] [6] [] [] [] (hc (R_F_ok h12) .nil) (fun v2 hv => ?_)
       have hF := lt_elim hF hv
       cases hF
       exact Wz [] hfin

/- tabularylaw.begins -/
def law_begins (l with0 : List (List UInt8)) : Option Bool :=
 asrt ((decide ((with0.length : Int) ≤ (l.length : Int))) = true → 0 ≤ (with0.length : Int) ∧ (with0.length : Int) ≤ (l.length : Int)) <|
 ob (if (decide ((with0.length : Int) ≤ (l.length : Int))) = true then (R_SameTexts (ltake l (with0.length : Int)) with0) else some default) fun x =>
 some ((decide ((with0.length : Int) ≤ (l.length : Int))) && x)
theorem law_begins_ok {l with0 r} (hF : law_begins l with0 = some r) : Pe Try.prog 27 S.none [.sl 1 (l.map e_str), .sl 1 (with0.map e_str)] (.bool r) S.none := by
 refine PT 18 [.tmp 4] [4] Try.func27 ?_
 intro Q g hfin
 unfold law_begins at hF
 refine LR0 ?_
 obtain ⟨h0, hF⟩ := aE hF
 obtain ⟨x, h1, hF⟩ := oE hF
 refine RJ (.l e_str with0 (.l e_str l (.a (.nat (with0.length : Int)) (.g (fun (_ : (decide ((with0.length : Int) ≤ (l.length : Int))) = true) => (len_ok e_str with0)) (.a (.xs ((ltake l (with0.length : Int)).map e_str)) (.g (fun (ga0 : (decide ((with0.length : Int) ≤ (l.length : Int))) = true) => (sl01_ok e_str (h0 ga0))) (.a (.callB (.bool x)) (.g (fun (ga0 : (decide ((with0.length : Int) ≤ (l.length : Int))) = true) => (R_SameTexts_ok (ite_t h1 ga0))) .z)))))))) ?_
 cases hF
 exact Wz [] hfin

/- tabularylaw.SealAgrees -/
def law_SealAgrees_J1 (v : Unit) : Option Bool :=
 some true
def law_SealAgrees_J2 (v1 : List (List UInt8) × Bool × Int) (v2 : List (List UInt8) × Bool) : Option ((List (List UInt8) × Bool × Int) ⊕ Bool) :=
 some (Sum.inl (v2.1, v2.2, w64 (v1.2.2 + 1)))
def law_SealAgrees_J3 (v3 : List (List UInt8) × Bool × Int) (v4 : List (List UInt8) × Bool) : Option ((List (List UInt8) × Bool × Int) ⊕ ((List (List UInt8) × Bool × Int) ⊕ Bool)) :=
 some (Sum.inl (v4.1, v4.2, w64 (v3.2.2 + 1)))
def law_SealAgrees_B2 (num : Int) (x1 : Vault × Fault) (x2 : Int × Fault) (v1 : List (List UInt8) × Bool × Int) (x3 : Vault × Fault) (v3 : List (List UInt8) × Bool × Int) : Option ((List (List UInt8) × Bool × Int) ⊕ ((List (List UInt8) × Bool × Int) ⊕ Bool)) :=
 if (decide (v3.2.2 < (x3.1.Heals.length : Int))) = true then
  asrt (0 ≤ v3.2.2 ∧ v3.2.2 < (x3.1.Heals.length : Int)) <|
  if (!((lget x3.1.Heals v3.2.2).Has)) = true then
   law_SealAgrees_J3 v3 (v3.1, v3.2.1)
  else
   ob (law_begins x3.1.Wrote ((lget x3.1.Heals v3.2.2).Recs)) fun x4 =>
   asrt ((!(!x4)) = true → 0 ≤ x2.1 ∧ x2.1 ≤ (x1.1.Wrote.length : Int)) <|
   ob (if (!(!x4)) = true then (law_begins ((lget x3.1.Heals v3.2.2).Recs) (ltake x1.1.Wrote x2.1)) else some default) fun x5 =>
   if ((!x4) || (!x5)) = true then
    some (Sum.inr (Sum.inr false))
   else
    if (decide (num < (w64 (2 * (((lget x3.1.Heals v3.2.2).Ends).length : Int))))) = true then
     ob (if v3.2.1 = true then (R_SameTexts v3.1 ((lget x3.1.Heals v3.2.2).Recs)) else some default) fun x6 =>
     if (v3.2.1 && (!x6)) = true then
      some (Sum.inr (Sum.inr false))
     else
      law_SealAgrees_J3 v3 ((lget x3.1.Heals v3.2.2).Recs, true)
    else
     law_SealAgrees_J3 v3 (v3.1, v3.2.1)
 else
  inrO (law_SealAgrees_J2 v1 (v3.1, v3.2.1))
def law_SealAgrees_L2 (num : Int) (x1 : Vault × Fault) (x2 : Int × Fault) (v1 : List (List UInt8) × Bool × Int) (x3 : Vault × Fault) (v0 : List (List UInt8) × Bool × Int) : Option ((List (List UInt8) × Bool × Int) ⊕ Bool) :=
 loopO (fun y => law_SealAgrees_B2 num x1 x2 v1 x3 y) v0
def law_SealAgrees_B1 (num : Int) (recs : List (List UInt8)) (deeds : List Deed) (x1 : Vault × Fault) (x2 : Int × Fault) (v1 : List (List UInt8) × Bool × Int) : Option ((List (List UInt8) × Bool × Int) ⊕ Bool) :=
 if (decide (v1.2.2 ≤ (deeds.length : Int))) = true then
  asrt (0 ≤ v1.2.2 ∧ v1.2.2 ≤ (deeds.length : Int)) <|
  ob (seal_Play_v1 num recs (ltake deeds v1.2.2)) fun x3 =>
  if (!decide (x3.2.Code = 0)) = true then
   some (Sum.inr false)
  else
   law_SealAgrees_L2 num x1 x2 v1 x3 (v1.1, v1.2.1, 0)
 else
  inrO (law_SealAgrees_J1 ())
def law_SealAgrees_L1 (num : Int) (recs : List (List UInt8)) (deeds : List Deed) (x1 : Vault × Fault) (x2 : Int × Fault) (v0 : List (List UInt8) × Bool × Int) : Option Bool :=
 loopO (fun y => law_SealAgrees_B1 num recs deeds x1 x2 y) v0
def law_SealAgrees (num : Int) (recs : List (List UInt8)) (deeds : List Deed) : Option Bool :=
 ob (law_sealBegun) fun x =>
 if (!x) = true then
  some false
 else
  if (decide (120 < (deeds.length : Int))) = true then
   some true
  else
   ob (seal_Play_v1 num recs deeds) fun x1 =>
   if (!decide (x1.2.Code = 0)) = true then
    some true
   else
    ob (seal_Sure x1.1) fun x2 =>
    if (((!decide (x2.2.Code = 0)) || (decide (x2.1 < 0))) || (decide ((x1.1.Wrote.length : Int) < x2.1))) = true then
     some false
    else
     law_SealAgrees_L1 num recs deeds x1 x2 (([] : List (List UInt8)), false, 0)
theorem law_SealAgrees_ok {num recs deeds r} (hF : law_SealAgrees num recs deeds = some r) : Pe Try.prog 6 S.none [.i num, .sl 1 (recs.map e_str), .sl 3 (deeds.map e_Deed)] (.bool r) S.none := by
 refine PT 116 [.tmp 6] [4] Try.func6 ?_
 intro Q g hfin
 unfold law_SealAgrees at hF
 refine LR0 ?_
 obtain ⟨x, h0, hF⟩ := oE hF
 refine RJ (.b (law_sealBegun_ok h0) .z) ?_
 refine Nif hF ?_ ?_ <;> intro hb hF
 ·refine LR0 ?_
  cases hF
  exact Wz [] hfin
 ·refine RJ (.l e_Deed deeds .z) ?_
  refine Nif hF ?_ ?_ <;> intro hb hF
  ·refine LR0 ?_
   cases hF
   exact Wz [] hfin
  ·obtain ⟨x1, h1, hF⟩ := oE hF
   refine RJ (.c (seal_Play_v1_ok h1) .z) ?_
   refine LR0 ?_
   refine Nif hF ?_ ?_ <;> intro hb hF
   ·refine LR0 ?_
    cases hF
    exact Wz [] hfin
   ·obtain ⟨x2, h2, hF⟩ := oE hF
    refine RJ (.b (seal_Sure_ok h2) .z) ?_
    refine RJ (.a (.nat (x1.1.Wrote.length : Int)) (.g (fun (_ : (!((!decide (x2.2.Code = 0)) || (decide (x2.1 < 0)))) = true) => (len_ok e_str x1.1.Wrote)) .z)) ?_
    refine Nif hF ?_ ?_ <;> intro hb hF
    ·refine LR0 ?_
     cases hF
     exact Wz [] hfin
    ·refine LR0 ?_
     refine LR0 ?_
     refine VR [] [0, 1, 2, 7, 9, 10, 11, 12] [7] [] [] [(0, .i num), (1, .sl 1 (recs.map e_str)), (2, .sl 3 (deeds.map e_Deed)), (7, .ptr 7 0), (9, .i x2.1), (10, .nils), (11, .bool false), (12, .i 0)] [(7, (c_Vault x1.1))] [] [] .nil ?_
     refine NmQ (fun v => law_SealAgrees_J1 v = some r) (fun v => (.w [])) ?_ ?_
     ·refine Nblk ?_
      unfold law_SealAgrees_L1 at hF
      refine Wk_coe 10 (.sl 1 (([] : List (List UInt8)).map e_str)) rfl (.cell rfl (CoeS.nils 1)) ?_
      refine Nitr hF [] (fun v1 => ⟨[(0, .i num), (1, .sl 1 (recs.map e_str)), (2, .sl 3 (deeds.map e_Deed)), (7, .ptr 7 0), (9, .i x2.1), (10, .sl 1 (v1.1.map e_str)), (11, .bool v1.2.1), (12, .i v1.2.2)], [(7, (c_Vault x1.1))], [], [], []⟩) ?_
      intro n1 v1 y1 hF ih1 dn1
      unfold law_SealAgrees_B1 at hF
      refine RJ (.l e_Deed deeds .z) ?_
      refine Nif hF ?_ ?_ <;> intro hb hF
      ·refine Nblk ?_
       obtain ⟨h3, hF⟩ := aE hF
       obtain ⟨x3, h4, hF⟩ := oE hF
       refine RJ (.s01 e_Deed h3 (.c (seal_Play_v1_ok h4) .z)) ?_
       refine LR0 ?_
       refine Nif hF ?_ ?_ <;> intro hb hF
       ·refine LR0 ?_
        have hF := ret_done hF dn1
        cases hF
        exact Wz [] hfin
       ·refine LR0 ?_
        refine NmS (fun v2 => law_SealAgrees_J2 v1 v2 = some y1) (fun Z v2 => Z.up [0, 1, 2, 7, 9, 10, 11, 12] [7] [] [] [(10, .sl 1 (v2.1.map e_str)), (11, .bool v2.2)] [] [] []) ?_ ?_
        ·refine Nblk ?_
         unfold law_SealAgrees_L2 at hF
         refine Nits hF [] (fun Z v3 => Z.up [0, 1, 2, 7, 9, 10, 11, 12, 13, 15] [7, 13] [] [] [(10, .sl 1 (v3.1.map e_str)), (11, .bool v3.2.1), (15, .i v3.2.2)] [] [] []) ?_
         intro n2 v3 y2 hF ih2 dn2
         unfold law_SealAgrees_B2 at hF
         refine RJ (.l e_Heal x3.1.Heals .z) ?_
         refine Nif hF ?_ ?_ <;> intro hb hF
         ·refine NmS (fun v4 => law_SealAgrees_J3 v3 v4 = some y2) (fun Z v4 => Z.up [0, 1, 2, 7, 9, 10, 11, 12, 13, 15] [7, 13] [] [] [(10, .sl 1 (v4.1.map e_str)), (11, .bool v4.2)] [] [] []) ?_ ?_
          ·refine Nblk ?_
           obtain ⟨h5, hF⟩ := aE hF
           refine RJ (.i e_Heal h5 .z) ?_
           refine LR0 ?_
           refine Nif hF ?_ ?_ <;> intro hb hF
           ·refine Nexit rfl ?_
            exact metQ (v3.1, v3.2.1) [] hF
           ·obtain ⟨x4, h6, hF⟩ := oE hF
            obtain ⟨h7, hF⟩ := aE hF
            obtain ⟨x5, h8, hF⟩ := oE hF
            refine DJ (.b (law_begins_ok h6) (.a (.xs ((ltake x1.1.Wrote x2.1).map e_str)) (.g (fun (ga0 : (!(!x4)) = true) => (sl01_ok e_str (h7 ga0))) (.a (.callB (.bool x5)) (.g (fun (ga0 : (!(!x4)) = true) => (law_begins_ok (ite_t h8 ga0))) .z))))) ?_
            refine Nif hF ?_ ?_ <;> intro hb hF
            ·refine LR0 ?_
             have hF := ret_done hF dn2
             have hF := ret_done hF dn1
             cases hF
             exact Wz [] hfin
            ·refine RJ (.l e_i64 ((lget x3.1.Heals v3.2.2).Ends) .z) ?_
             refine Nif hF ?_ ?_ <;> intro hb hF
             ·obtain ⟨x6, h9, hF⟩ := oE hF
              refine RJ (.a (.callB (.bool x6)) (.g (fun (ga0 : v3.2.1 = true) => (R_SameTexts_ok (ite_t h9 ga0))) .z)) ?_
              refine Nif hF ?_ ?_ <;> intro hb hF
              ·refine LR0 ?_
               have hF := ret_done hF dn2
               have hF := ret_done hF dn1
               cases hF
               exact Wz [] hfin
              ·refine LR0 ?_
               refine LR0 ?_
               exact metQ ((lget x3.1.Heals v3.2.2).Recs, true) [] hF
             ·exact metQ (v3.1, v3.2.1) [] hF
          ·intro v4 hF
           unfold law_SealAgrees_J3 at hF
           refine LR0 ?_
           exact Nrnq [] hF ih2
         ·refine Nexit rfl ?_
          have hF := inrO_done hF dn2
          exact metQ (v3.1, v3.2.1) [] hF
        ·intro v2 hF
         unfold law_SealAgrees_J2 at hF
         refine LR0 ?_
         exact Nrnq [] hF ih1
      ·refine Nexit rfl ?_
       have hF := inrO_done hF dn1
       exact metQ () [] hF
     ·intro v hF
      unfold law_SealAgrees_J1 at hF
      refine LR0 ?_
      cases hF
      exact Wz [] hfin

end
end G
end Go.Proofs.Yteckapomkemglaa
