/- The plain law. -/
import Derived.Test.YtcifgljlmieblaaGreatDoorEmD
import Derived.Test.YtcifgljlmieblaaGreatDoorGf0
import Derived.Lib.AtoiTie
namespace Go.Proofs.YtcifgljlmieblaaGreatDoor
open Go Go.Dm
set_option linter.unusedVariables false
set_option linter.unusedSimpArgs false
set_option linter.unusedSectionVars false
namespace G
abbrev nx {σ ρ:Type} (o:Option ρ) (s:σ):σ⊕ρ:=match o with | none=>.inl s | some x=>.inr x
theorem b_iff {b:Bool} {p:Prop} [Decidable p] (h:b=true↔p):b=decide p:=by
 rw [Bool.eq_iff_iff,h,decide_eq_true_iff]
theorem dg_len:∀ (k u:Nat),u<10 ^ (k+1)→(Lib.decDigits u).length≤k+1
 | 0,u,h=>by rw [Lib.decDigits_length,Lib.nDigits_small (by simpa using h)]; exact Nat.le_refl _
 | k+1,u,h=>by
  rw [Lib.decDigits_length]
  by_cases c:u<10
  ·rw [Lib.nDigits_small c]; omega
  ·rw [Lib.nDigits_big c]
   have:=dg_len k (u / 10) (by rw [Nat.pow_succ] at h; omega)
   rw [Lib.decDigits_length] at this
   omega
theorem itoa_pos {n:Int} (h:0≤n):Lib.itoa n=Lib.decDigits n.toNat:=by unfold Lib.itoa; rw [if_neg (by omega)]
theorem itoa_len {n:Int} (h : -9223372036854775808≤n) (h2:n≤9223372036854775807):(Lib.itoa n).length≤20:=by
 have e:(10:Nat) ^ (18+1)=10000000000000000000:=by decide
 unfold Lib.itoa
 split
 ·have:=dg_len 18 n.natAbs (by omega); simp only [List.length_cons]; omega
 ·have:=dg_len 18 n.toNat (by omega); omega
theorem itoa_len10 {n:Int} (h:0≤n) (h2:n≤1000000000):(Lib.itoa n).length≤10:=by
 have e:(10:Nat)^(9+1)=10000000000:=by decide
 rw [itoa_pos h]
 exact dg_len 9 n.toNat (by omega)
theorem itoa_big {n:Int} (h:¬ n<10):Lib.itoa n=Lib.itoa (w64 (Int.tdiv n 10))++Lib.itoa (Int.tmod n 10)∨¬ n≤9223372036854775807:=by
 by_cases h2:n≤9223372036854775807
 ·left
  have e1:Int.tdiv n 10=n / 10:=Int.tdiv_eq_ediv_of_nonneg (by omega)
  have e2:Int.tmod n 10=n % 10:=Int.tmod_eq_emod_of_nonneg (by omega)
  rw [e1,e2,w64_id (by omega) (by omega),itoa_pos (by omega),itoa_pos (n:=n / 10) (by omega),itoa_pos (n:=n % 10) (by omega)]
  have e3:(n / 10).toNat=n.toNat / 10:=by omega
  have e4:(n % 10).toNat=n.toNat % 10:=by omega
  rw [e3,e4]
  conv=>lhs; rw [Lib.decDigits,dif_neg (by omega)]
  rw [Lib.decDigits_one (i:=n.toNat % 10) (by omega)]
 ·exact .inr h2
theorem toU8_dg {n:Int} (h:0≤n) (h2:n<10):[toU8 (w64 (48+n))]=Lib.itoa n:=by
 rw [w64_id (by omega) (by omega),itoa_pos h,Lib.decDigits_one (by omega)]
 unfold toU8
 congr 2
 omega
theorem digits_eq {n:Int} (h:0≤n) (h2:n≤9223372036854775807):R_Digits n=some (Lib.itoa n):=by
 unfold R_Digits
 have sub:∀ x:Int,(0≤x∧x≤9223372036854775807)→¬ x<10→(0≤w64 (Int.tdiv x 10)∧w64 (Int.tdiv x 10)≤9223372036854775807)∧(w64 (Int.tdiv x 10)).toNat<x.toNat∧(0≤Int.tmod x 10∧Int.tmod x 10≤9223372036854775807)∧(Int.tmod x 10).toNat<x.toNat:=fun x hx c=>by
  have e1:Int.tdiv x 10=x / 10:=Int.tdiv_eq_ediv_of_nonneg (by omega)
  have e2:Int.tmod x 10=x % 10:=Int.tmod_eq_emod_of_nonneg (by omega)
  rw [e1,e2,w64_id (by omega) (by omega)]
  omega
 refine recO_spec (fun n=>0≤n∧n≤9223372036854775807) Int.toNat Lib.itoa (fun x f hx hf r hr=>?_) (fun x f hx hf=>?_) ⟨h,h2⟩
 ·unfold R_Digits_S at hr
  by_cases c:x<10
  ·rw [if_pos (d_t c)] at hr
   rw [← Option.some.inj hr]
   exact toU8_dg hx.1 c
  ·obtain ⟨i1,i2,i3,i4⟩:=sub x hx c
   rw [if_neg (d_f c)] at hr
   cases ha:f (w64 (Int.tdiv x 10)) with
   | none=>rw [ha] at hr; cases hr
   | some a=>
    cases hb:f (Int.tmod x 10) with
    | none=>rw [ha,hb] at hr; cases hr
    | some b=>
     rw [ha,hb] at hr
     have ea:=hf _ a i1 i2 ha
     have eb:=hf _ b i3 i4 hb
     obtain ⟨_,hr⟩:=asrt_elim hr
     rw [← Option.some.inj hr,ea,eb]
     rcases itoa_big c with e | e
     ·exact e.symm
     ·exact absurd hx.2 e
 ·unfold R_Digits_S
  by_cases c:x<10
  ·rw [if_pos (d_t c),toU8_dg hx.1 c]
  ·obtain ⟨i1,i2,i3,i4⟩:=sub x hx c
   rw [if_neg (d_f c),hf _ i1 i2,ob_some,hf _ i3 i4,ob_some]
   have l1:=itoa_len (n:=w64 (Int.tdiv x 10)) (by omega) i1.2
   have l2:=itoa_len (n:=Int.tmod x 10) (by omega) i3.2
   rw [asrt_pos (by omega)]
   rcases itoa_big c with e | e
   ·rw [e]
   ·exact absurd hx.2 e
theorem decFrom_app (b:UInt8):∀ (l:List UInt8) (acc:Nat),Lib.decFrom acc (l++[b])=(Lib.decFrom acc l).bind fun m=>(Lib.digitVal b).map fun d=>m*10+d
 | [],acc=>by
  simp only [List.nil_append,Lib.decFrom,Option.bind_some]
  cases Lib.digitVal b <;> rfl
 | c::l,acc=>by
  simp only [List.cons_append,Lib.decFrom]
  cases Lib.digitVal c with
  | none=>rfl
  | some d=>exact decFrom_app b l _
theorem dv_fin:∀ k:Fin 10,Lib.digitVal (UInt8.ofNat (48+k.val))=some k.val:=by decide
theorem dec_dg (n:Nat):Lib.decFrom 0 (Lib.decDigits n)=some n:=by
 induction n using Nat.strongRecOn with
 | _ n ih=>
  by_cases c:n<10
  ·rw [Lib.decDigits_one c]
   simp only [Lib.decFrom,dv_fin ⟨n,c⟩]
   simp
  ·rw [Lib.decDigits,dif_neg c,decFrom_app,ih (n / 10) (by omega),dv_fin ⟨n % 10,by omega⟩]
   simp only [Option.bind_some,Option.map_some,Option.some.injEq]
   omega
theorem dg_cons (n:Nat):∃ c r,Lib.decDigits n=c::r∧48≤c.toNat∧c.toNat≤57:=by
 cases h:Lib.decDigits n with
 | nil=>have:=Lib.nDigits_pos n; rw [← Lib.decDigits_length,h] at this; simp at this
 | cons c r=>
  refine ⟨c,r,rfl,?_⟩
  obtain ⟨d,hd⟩:=Lib.digit_of_decFrom _ 0 n (dec_dg n) 0 c (by rw [h]; rfl)
  unfold Lib.digitVal at hd
  split at hd
  ·assumption
  ·cases hd
theorem atoi_itoa {n:Int} (h:0≤n) (h2:n≤1000000000):atoiR (Lib.itoa n)=(n,true):=by
 have hl:=itoa_len10 h h2
 obtain ⟨c,r,e,h3,h4⟩:=dg_cons n.toNat
 have hd:=dec_dg n.toNat
 rw [itoa_pos h] at hl ⊢
 have h5:Lib.atoi (Lib.decDigits n.toNat)=some n:=by
  rw [e] at hd ⊢
  have n1:(c == 45)=false:=by
   refine Bool.eq_false_iff.2 fun q=>?_
   rw [beq_iff_eq] at q; subst q; exact absurd h3 (by decide)
  have n2:(c == 43)=false:=by
   refine Bool.eq_false_iff.2 fun q=>?_
   rw [beq_iff_eq] at q; subst q; exact absurd h3 (by decide)
  simp only [Lib.atoi,n1,n2,Lib.decNat,List.isEmpty_cons,hd,Bool.false_eq_true,if_false,Option.map_some,Option.some.injEq]
  omega
 unfold atoiR
 rw [Lib.atoiAll_short _ (by omega),h5]
 rfl
def numW (w:List UInt8):Option Int:=if (((atoiR w).2&&decide (0≤(atoiR w).1))&&decide ((atoiR w).1≤1000000000))&&decide (Lib.itoa (atoiR w).1=w) then some (atoiR w).1 else none
theorem numW_iff {w:List UInt8} {n:Int}:numW w=some n↔0≤n∧n≤1000000000∧w=Lib.itoa n:=by
 unfold numW
 constructor
 ·intro h
  split at h
  ·rename_i hc
   simp only [Bool.and_eq_true,decide_eq_true_eq] at hc
   obtain ⟨⟨⟨_,h1⟩,h2⟩,h3⟩:=hc
   rw [← Option.some.inj h]
   exact ⟨h1,h2,h3.symm⟩
  ·cases h
 ·rintro ⟨h1,h2,rfl⟩
  rw [atoi_itoa h1 h2,if_pos (by simp [h1,h2])]
def nsL:Nat→Nat→List UInt8→Option Nat
 | m,_,[]=>some m
 | m,i,c::t=>if 48≤c.toNat∧c.toNat≤57∧i≤9 then nsL (m*10+(c.toNat - 48)) (i+1) t else none
theorem nsL_dec:∀ (t:List UInt8) (m i v:Nat),nsL m i t=some v→Lib.decFrom m t=some v
 | [],m,i,v,h=>h
 | c::t,m,i,v,h=>by
  simp only [nsL] at h
  split at h
  ·rename_i hc
   simp only [Lib.decFrom,Lib.digitVal,if_pos (show 48≤c.toNat∧c.toNat≤57 from ⟨hc.1,hc.2.1⟩)]
   exact nsL_dec t _ _ v h
  ·cases h
theorem dec_nsL:∀ (t:List UInt8) (m i v:Nat),i+t.length≤10→Lib.decFrom m t=some v→nsL m i t=some v
 | [],m,i,v,hl,h=>h
 | c::t,m,i,v,hl,h=>by
  simp only [List.length_cons] at hl
  simp only [Lib.decFrom] at h
  cases hd:Lib.digitVal c with
  | none=>rw [hd] at h; cases h
  | some d=>
   rw [hd] at h
   unfold Lib.digitVal at hd
   split at hd
   ·rename_i hc
    cases hd
    simp only [nsL,if_pos (show 48≤c.toNat∧c.toNat≤57∧i≤9 from ⟨hc.1,hc.2,by omega⟩)]
    exact dec_nsL t _ _ v (by omega) h
   ·cases hd
theorem nsJ (w:List UInt8) (m:Nat) (h:m≤9223372036854775807):R_NumberSaid_J1 w (m:Int)=some (if w≠[]∧Lib.itoa m=w∧m≤1000000000 then (m:Int) else -1):=by
 unfold R_NumberSaid_J1 R_Num lt
 by_cases c:w=[]
 ·subst c; rfl
 ·have e1:(!decide (w=([]:List UInt8)))=true:=by simp [c]
  rw [if_pos e1,digits_eq (by omega) (by omega),ob_some]
  show (if (((decide (w=[]))||(!decide (Lib.itoa (m:Int)=w)))||(!((decide (0≤(m:Int)))&&(decide ((m:Int)≤1000000000)))))=true then some (-1) else some (m:Int))=_
  by_cases c2:Lib.itoa m=w
  ·by_cases c3:m≤1000000000
   ·rw [if_neg (by simp [c,c2]; omega),if_pos ⟨c,c2,c3⟩]
   ·rw [if_pos (by simp [c2]; omega),if_neg (fun h=>c3 h.2.2)]
  ·rw [if_pos (by simp [c2]),if_neg (fun h=>c2 h.2.1)]
theorem ns_loop (w:List UInt8) (hw:w.length≤1000):∀ (t:List UInt8) (i m:Nat),w.drop i=t→i≤10→i≤w.length→m<10 ^ i→R_NumberSaid_L1 w ((m:Int),(i:Int))=match nsL m i t with
  | none=>some (-1)
  | some v=>R_NumberSaid_J1 w (v:Int)
 | [],i,m,ht,hi,hil,hm=>by
  have hp:(10:Nat) ^ i≤10 ^ 10:=Nat.pow_le_pow_right (by decide) hi
  have e10:(10:Nat) ^ 10=10000000000:=by decide
  have hl:w.length≤i:=by have:=congrArg List.length ht; simp at this; omega
  simp only [nsL]
  rw [nsJ w m (by omega)]
  unfold R_NumberSaid_L1
  refine loopO_inr ?_
  show R_NumberSaid_B1 w ((m:Int),(i:Int))=_
  unfold R_NumberSaid_B1
  rw [if_neg (d_f (by show ¬ (i:Int)<_; omega)),nsJ w m (by omega)]; rfl
 | c::t,i,m,ht,hi,hil,hm=>by
  have hp:(10:Nat) ^ i≤10 ^ 10:=Nat.pow_le_pow_right (by decide) hi
  have e10:(10:Nat) ^ 10=10000000000:=by decide
  have hl:i<w.length:=by have:=congrArg List.length ht; simp at this; omega
  have hc:lget w (i:Int)=c:=by rw [lget_drop w i hl] at ht; exact (List.cons.inj ht).1
  have ht':w.drop (i+1)=t:=by rw [lget_drop w i hl] at ht; exact (List.cons.inj ht).2
  have u48:((48:UInt8).toNat:Int)=48:=rfl
  have u57:((57:UInt8).toNat:Int)=57:=rfl
  have step:R_NumberSaid_B1 w ((m:Int),(i:Int))=if 48≤c.toNat∧c.toNat≤57∧i≤9 then some (.inl (((m*10+(c.toNat - 48):Nat):Int),((i+1:Nat):Int))) else some (.inr (-1)):=by
   unfold R_NumberSaid_B1
   show (if (decide ((i:Int)<(w.length:Int)))=true then _ else _)=_
   rw [if_pos (d_t (by omega)),asrt_pos (by show 0≤(i:Int)∧(i:Int)<_; omega),asrt_pos (fun _=>by show 0≤(i:Int)∧(i:Int)<_; omega)]
   show (if (((decide (((lget w (i:Int)).toNat:Int)<_))||(decide (_<((lget w (i:Int)).toNat:Int))))||(decide (9<(i:Int))))=true then _ else _)=_
   rw [hc,u48,u57]
   by_cases q:48≤c.toNat∧c.toNat≤57∧i≤9
   ·rw [if_neg (by simp; omega),if_pos q,asrt_pos (by show 0≤(i:Int)∧(i:Int)<_; omega)]
    unfold lt
    show some (Sum.inl (w64 (w64 ((m:Int)*10)+w64 ((toU8 ((c.toNat:Int) - 48)).toNat:Int)),w64 ((i:Int)+1)))=_
    have e1:((toU8 ((c.toNat:Int) - 48)).toNat:Int)=(c.toNat:Int) - 48:=by
     unfold toU8
     rw [UInt8.toNat_ofNat']
     have:c.toNat<256:=c.toNat_lt
     omega
    rw [e1,w64_id (x:=(m:Int)*10) (by omega) (by omega),w64_id (x:=(c.toNat:Int) - 48) (by omega) (by omega),w64_id (by omega) (by omega),w64_id (by omega) (by omega)]
    congr 3
    omega
   ·rw [if_pos (by simp; omega),if_neg q]
  unfold R_NumberSaid_L1 at *
  simp only [nsL]
  by_cases q:48≤c.toNat∧c.toNat≤57∧i≤9
  ·rw [if_pos q] at step
   rw [if_pos q,loopO_inl (step:=fun y=>R_NumberSaid_B1 w y) step]
   exact ns_loop w hw t (i+1) _ ht' (by omega) (by omega) (by rw [Nat.pow_succ]; omega)
  ·rw [if_neg q] at step
   rw [if_neg q]
   exact loopO_inr (step:=fun y=>R_NumberSaid_B1 w y) step
theorem ns_eq (w:List UInt8) (hw:w.length≤1000):R_NumberSaid w=some ((numW w).getD (-1)):=by
 unfold R_NumberSaid
 have h:=ns_loop w hw w 0 0 rfl (by omega) (by omega) (by decide)
 have z:(((0:Nat):Int),((0:Nat):Int))=((0:Int),(0:Int)):=rfl
 rw [z] at h
 rw [h]
 cases hn:numW w with
 | some n=>
  obtain ⟨h1,h2,h3⟩:=numW_iff.1 hn
  have hd:=dec_dg n.toNat
  rw [← itoa_pos h1,← h3] at hd
  have hl:w.length≤10:=by rw [h3]; exact itoa_len10 h1 h2
  rw [dec_nsL w 0 0 _ (by omega) hd]
  have en:((n.toNat:Nat):Int)=n:=by omega
  have hne:w≠[]:=by
   obtain ⟨c,r,e,_⟩:=dg_cons n.toNat
   rw [h3,itoa_pos h1,e]; simp
  show R_NumberSaid_J1 w _=_
  rw [nsJ w _ (by omega),if_pos ⟨hne,by rw [en]; exact h3.symm,by omega⟩,en]
  rfl
 | none=>
  cases hs:nsL 0 0 w with
  | none=>rfl
  | some v=>
   have hd:=nsL_dec w 0 0 v hs
   show R_NumberSaid_J1 w _=_
   by_cases hv:v≤9223372036854775807
   ·rw [nsJ w v hv]
    by_cases q:w≠[]∧Lib.itoa v=w∧v≤1000000000
    ·have:=numW_iff.2 (⟨by omega,by omega,q.2.1.symm⟩:0≤(v:Int)∧(v:Int)≤1000000000∧w=Lib.itoa v)
     rw [hn] at this; cases this
    ·rw [if_neg q]; rfl
   ·exfalso
    have hb:∀ (t:List UInt8) (m i v:Nat),nsL m i t=some v→i≤10→m<10 ^ i→v<10 ^ 10:=by
     intro t
     induction t with
     | nil=>
      intro m i v h hi hm
      have hp:(10:Nat) ^ i≤10 ^ 10:=Nat.pow_le_pow_right (by decide) hi
      simp only [nsL,Option.some.injEq] at h
      omega
     | cons c t ih=>
      intro m i v h hi hm
      simp only [nsL] at h
      split at h
      ·exact ih _ _ v h (by omega) (by rw [Nat.pow_succ]; omega)
      ·cases h
    have:=hb w 0 0 v hs (by omega) (by decide)
    have e10:(10:Nat) ^ 10=10000000000:=by decide
    omega
theorem rs_eq (w:List UInt8) (hw:w.length≤1000):R_RowSaid w=some (plainF w):=by
 have u33:((33:UInt8).toNat:Int)=33:=rfl
 have u126:((126:UInt8).toNat:Int)=126:=rfl
 have fine:R_RowFine w=(decide (w≠[])&&decide (w.length≤40)):=by
  unfold R_RowFine
  cases w with
  | nil=>rfl
  | cons c t=>refine congr (congrArg and ?_) ?_ <;> · refine decide_eq_decide.2 ?_; simp <;> omega
 have h:=loop_any (step:=fun y=>R_RowSaid_B1 w y) w.length (fun k=>(k:Int)) (fun k=>¬ (33≤(lget w (k:Int)).toNat∧(lget w (k:Int)).toNat≤126)) (rb:=false) (r:=R_RowFine w)
  (fun k hk hb=>by
   show R_RowSaid_B1 w (k:Int)=_
   unfold R_RowSaid_B1
   rw [if_pos (d_t (by omega)),asrt_pos (by omega),asrt_pos (fun _=>by omega),u33,u126,if_neg (by simp; omega),w64_id (by omega) (by omega)]
   congr 1)
  (fun k hk hb=>by
   show R_RowSaid_B1 w (k:Int)=_
   unfold R_RowSaid_B1
   rw [if_pos (d_t (by omega)),asrt_pos (by omega),asrt_pos (fun _=>by omega),u33,u126,if_pos (by simp; omega)])
  (by
   show R_RowSaid_B1 w (w.length:Int)=_
   unfold R_RowSaid_B1
   rw [if_neg (d_f (by omega))]; rfl)
 have e:R_RowSaid w=loopO (fun y=>R_RowSaid_B1 w y) ((0:Nat):Int):=rfl
 rw [e]
 rcases h with ⟨⟨j,h1,h2⟩,h3⟩ | ⟨h1,h2⟩
 ·rw [h3]
  have:(w.all fun b=>decide (33≤b.toNat)&&decide (b.toNat≤126))=false:=by
   refine Bool.eq_false_iff.2 fun q=>h2 ?_
   rw [List.all_eq_true] at q
   have:=q _ (lget_mem w (j:Int) (by omega))
   simpa using this
  unfold plainF
  rw [this]; simp
 ·rw [h2,fine]
  have:(w.all fun b=>decide (33≤b.toNat)&&decide (b.toNat≤126))=true:=by
   rw [List.all_eq_true]
   intro b hb
   obtain ⟨k,hk,rfl⟩:=mem_lget.1 hb
   have:=Decidable.not_not.1 (h1 k hk)
   simpa using this
  unfold plainF
  rw [this]; simp
def splA:List UInt8→List UInt8→List (List UInt8)
 | acc,[]=>[acc]
 | acc,c::t=>if c=32 then acc::splA [] t else splA (acc++[c]) t
theorem splA_ne:∀ (t acc:List UInt8),splA acc t≠[]
 | [],acc=>by simp [splA]
 | c::t,acc=>by
  simp only [splA]
  split
  ·simp
  ·exact splA_ne t _
theorem splA_join:∀ (t acc w:List UInt8) (r:List (List UInt8)),splA acc t=w::r→acc++t=w++r.flatMap fun x=>32::x
 | [],acc,w,r,h=>by
  simp only [splA,List.cons.injEq] at h
  obtain ⟨rfl,rfl⟩:=h
  rfl
 | c::t,acc,w,r,h=>by
  simp only [splA] at h
  split at h
  ·rename_i hc
   simp only [List.cons.injEq] at h
   obtain ⟨rfl,h⟩:=h
   cases r with
   | nil=>exact absurd h (splA_ne t [])
   | cons w1 r1=>
    have:=splA_join t [] w1 r1 h
    simp only [List.nil_append] at this
    rw [this,hc]; simp
  ·have:=splA_join t (acc++[c]) w r h
   rw [← this]; simp
theorem splA_len:∀ (t acc:List UInt8),(splA acc t).length≤t.length+1
 | [],acc=>by simp [splA]
 | c::t,acc=>by
  simp only [splA]
  split
  ·have:=splA_len t []; simp only [List.length_cons]; omega
  ·have:=splA_len t (acc++[c]); simp only [List.length_cons]; omega
theorem splA_mem:∀ (t acc w:List UInt8),w∈splA acc t→w.length≤acc.length+t.length
 | [],acc,w,h=>by simp only [splA,List.mem_singleton] at h; subst h; simp
 | c::t,acc,w,h=>by
  simp only [splA] at h
  split at h
  ·rcases List.mem_cons.1 h with rfl | h
   ·simp
   ·have:=splA_mem t [] w h; simp at this ⊢; omega
  ·have:=splA_mem t (acc++[c]) w h; simp at this ⊢; omega
theorem spl_loop (s:List UInt8) (hs:s.length≤1000):∀ (t:List UInt8) (i fr:Nat) (out:List (List UInt8)),s.drop i=t→i≤s.length→fr≤i→out.length≤i→R_SplitAt_L1 s 32 (out,(fr:Int),(i:Int))=some (out++splA ((s.take i).drop fr) t)
 | [],i,fr,out,ht,hi,hf,ho=>by
  have hl:s.length=i:=by have:=congrArg List.length ht; simp at this; omega
  unfold R_SplitAt_L1
  refine loopO_inr ?_
  show R_SplitAt_B1 s 32 (out,(fr:Int),(i:Int))=_
  unfold R_SplitAt_B1
  rw [if_neg (d_f (by show ¬ (i:Int)<_; omega))]
  unfold R_SplitAt_J1
  show inrO (asrt (0≤(fr:Int)∧(fr:Int)≤_) _)=_
  rw [asrt_pos (by omega)]
  show inrO (asrt (((out++[ldrop s (fr:Int)]).length:Int)*16≤_) _)=_
  rw [asrt_pos (by simp; omega),ldrop_nat,splA,List.take_of_length_le (by omega)]
  rfl
 | c::t,i,fr,out,ht,hi,hf,ho=>by
  have hl:i<s.length:=by have:=congrArg List.length ht; simp at this; omega
  have hc:lget s (i:Int)=c:=by rw [lget_drop s i hl] at ht; exact (List.cons.inj ht).1
  have ht':s.drop (i+1)=t:=by rw [lget_drop s i hl] at ht; exact (List.cons.inj ht).2
  have hw:w64 ((i:Int)+1)=((i+1:Nat):Int):=by rw [w64_id (by omega) (by omega)]; omega
  have u32:((32:UInt8).toNat:Int)=32:=rfl
  have c32:((c.toNat:Int)=32)↔c=32:=by
   rw [← UInt8.toNat_inj]
   have:(32:UInt8).toNat=32:=rfl
   omega
  have step:R_SplitAt_B1 s 32 (out,(fr:Int),(i:Int))=if c=32 then some (.inl (out++[(s.take i).drop fr],((i+1:Nat):Int),((i+1:Nat):Int))) else some (.inl (out,(fr:Int),((i+1:Nat):Int))):=by
   unfold R_SplitAt_B1
   show (if (decide ((i:Int)<(s.length:Int)))=true then _ else _)=_
   rw [if_pos (d_t (by omega)),asrt_pos (by show 0≤(i:Int)∧(i:Int)<_; omega)]
   show ob (if (decide (((lget s (i:Int)).toNat:Int)=_))=true then asrt (0≤(fr:Int)∧(fr:Int)≤(i:Int)∧(i:Int)≤_) (asrt (((out++[ldrop (ltake s (i:Int)) (fr:Int)]).length:Int)*16≤_) (some (out++[ldrop (ltake s (i:Int)) (fr:Int)],w64 ((i:Int)+1)))) else some (out,(fr:Int))) (fun v2=>some (Sum.inl (v2.1,v2.2,w64 ((i:Int)+1))))=_
   rw [hc,u32,hw]
   by_cases q:c=32
   ·rw [if_pos (d_t (c32.2 q)),if_pos q,asrt_pos (by omega),asrt_pos (by simp; omega),ltake_nat,ldrop_nat]
    rfl
   ·rw [if_neg (d_f (fun h=>q (c32.1 h))),if_neg q]
    rfl
  unfold R_SplitAt_L1 at *
  simp only [splA]
  by_cases q:c=32
  ·rw [if_pos q] at step
   rw [if_pos q,loopO_inl (step:=fun y=>R_SplitAt_B1 s 32 y) step]
   have:=spl_loop s hs t (i+1) (i+1) (out++[(s.take i).drop fr]) ht' (by omega) (Nat.le_refl _) (by simp; omega)
   unfold R_SplitAt_L1 at this
   rw [this]
   have e:(s.take (i+1)).drop (i+1)=[]:=by simp
   rw [e]; simp
  ·rw [if_neg q] at step
   rw [if_neg q,loopO_inl (step:=fun y=>R_SplitAt_B1 s 32 y) step]
   have:=spl_loop s hs t (i+1) fr out ht' (by omega) (by omega) (by omega)
   unfold R_SplitAt_L1 at this
   rw [this]
   have e:(s.take (i+1)).drop fr=(s.take i).drop fr++[c]:=by
    rw [lget_take s i hl,hc,List.drop_append_of_le_length (by simp; omega)]
   rw [e]
theorem spl_eq (s:List UInt8) (hs:s.length≤1000):R_SplitAt s 32=some (splA [] s):=by
 have:=spl_loop s hs s 0 0 [] rfl (by omega) (by omega) (by simp)
 unfold R_SplitAt
 simpa using this
theorem splK_eq:∀ (s acc:List UInt8),splA acc s=match Lib.splitK [32] 0 (Lib.count s [32]) s with
  | []=>[acc]
  | w::r=>(acc++w)::r
 | [],acc=>by
  rw [Lib.count_one]
  simp [splA,Lib.splitK]
 | c::t,acc=>by
  simp only [splA]
  have hix:Lib.index (c::t) [32]=if ([32]:List UInt8).isPrefixOf (c::t) then 0 else if Lib.index t [32] == -1 then -1 else Lib.index t [32]+1:=by rw [Lib.index]
  by_cases q:c=32
  ·subst q
   rw [if_pos rfl,Lib.count_cons_eq,splK_eq t []]
   have h0:Lib.index (32::t) [32]=0:=by rw [hix]; simp [List.isPrefixOf]
   rw [Nat.add_comm 1,Lib.splitK,h0]
   cases hk:Lib.splitK [32] 0 (Lib.count t [32]) t with
   | nil=>cases hc:Lib.count t [32] <;> rw [hc] at hk <;> simp only [Lib.splitK] at hk <;> first | (cases hk; done) | (split at hk <;> cases hk)
   | cons w r=>simp [hk]
  ·have hp:([32]:List UInt8).isPrefixOf (c::t)=false:=by simp [List.isPrefixOf,Ne.symm q]
   rw [if_neg q,Lib.count_cons_ne _ _ _ q,splK_eq t (acc++[c])]
   rw [hp] at hix
   cases hc:Lib.count t [32] with
   | zero=>simp [Lib.splitK]
   | succ k=>
    have hge:=Lib.index_ge t [32]
    by_cases hm:Lib.index t [32] = -1
    ·rw [Lib.count_miss hm] at hc; cases hc
    ·have e1:Lib.index (c::t) [32]=Lib.index t [32]+1:=by rw [hix]; simp [hm]
     have e2:(Lib.index t [32]+1).toNat=(Lib.index t [32]).toNat+1:=by omega
     simp only [Lib.splitK,e1,e2]
     rw [if_neg (by simpa using hm),if_neg (by simp; omega)]
     simp
theorem split_eq (s:List UInt8):splitL s [32]=splA [] s:=by
 have h:=splK_eq s []
 have e:splitL s [32]=Lib.splitK [32] 0 (Lib.count s [32]) s:=by
  unfold splitL
  have:=Lib.splitB_data ⟨#[32]⟩ 0 (Lib.countB ⟨s.toArray⟩ ⟨#[32]⟩) ⟨s.toArray⟩
  exact this
 rw [e,h]
 cases hk:Lib.splitK [32] 0 (Lib.count s [32]) s with
 | nil=>cases hc:Lib.count s [32] <;> rw [hc] at hk <;> simp only [Lib.splitK] at hk <;> first | (cases hk; done) | (split at hk <;> cases hk)
 | cons w r=>simp
abbrev zAct:Act:=⟨0,⟨0,0,0,0,[]⟩,0,0,[]⟩
def setL (c:UInt8) (w:List UInt8) (a:Act):Option Act:=
 if c=104 then (numW w).map fun n=>⟨a.Kind,a.Order,n,a.N,a.Row⟩
 else if c=105 then (numW w).map fun n=>⟨a.Kind,⟨a.Order.Kind,n,a.Order.Host,a.Order.Turn,a.Order.Row⟩,a.Host,a.N,a.Row⟩
 else if c=111 then (numW w).map fun n=>⟨a.Kind,⟨a.Order.Kind,a.Order.ID,n,a.Order.Turn,a.Order.Row⟩,a.Host,a.N,a.Row⟩
 else if c=116 then (numW w).map fun n=>⟨a.Kind,⟨a.Order.Kind,a.Order.ID,a.Order.Host,n,a.Order.Row⟩,a.Host,a.N,a.Row⟩
 else if c=110 then (numW w).map fun n=>⟨a.Kind,a.Order,a.Host,n,a.Row⟩
 else if c=115 then if plainF w then some ⟨a.Kind,⟨a.Order.Kind,a.Order.ID,a.Order.Host,a.Order.Turn,w⟩,a.Host,a.N,a.Row⟩ else none
 else if plainF w then some ⟨a.Kind,a.Order,a.Host,a.N,w⟩ else none
def rd:List UInt8→List (List UInt8)→Nat→Act→Act×Fault
 | [],[],_,a=>(a,⟨0,0⟩)
 | [],_::_,k,_=>(zAct,⟨1,k⟩)
 | _::_,[],k,_=>(zAct,⟨1,k⟩)
 | c::cs,w::ws,k,a=>match setL c w a with
  | none=>(zAct,⟨1,k⟩)
  | some b=>rd cs ws (k+1) b
def idxV:List verb→Nat→List UInt8→Option (Nat×verb)
 | [],_,_=>none
 | v::t,k,w=>if v.word=w then some (k,v) else idxV t (k+1) w
def verbF (w:List UInt8):Option verb:=(idxV desk_verbs 0 w).map (·.2)
def actF (l:List UInt8):Act×Fault:=if 200<l.length then (zAct,⟨8,0⟩) else match splA [] l with
 | []=>(zAct,⟨1,0⟩)
 | w::ws=>match verbF w with
  | none=>(zAct,⟨1,0⟩)
  | some v=>rd v.words ws 1 v.act
theorem num_set {β:Type} (w:List UInt8) (hw:w.length≤1000) (f:Int→β):ob (strconv_Atoi w) (fun x1=>ob (if ((x1.2&&(decide (0≤x1.1)))&&(decide (x1.1≤1000000000)))=true then (strconv_Itoa x1.1) else some default) fun x2=>
  lt (((x1.2&&(decide (0≤x1.1)))&&(decide (x1.1≤1000000000)))&&(decide (x2=w))) fun v=>some (v,f x1.1))=some ((numW w).isSome,f (atoiR w).1):=by
 unfold strconv_Atoi
 rw [asrt_pos (by omega),ob_some]
 unfold numW
 cases hc:(((atoiR w).2&&decide (0≤(atoiR w).1))&&decide ((atoiR w).1≤1000000000)) with
 | false=>simp [lt,hc,ob]
 | true=>
  have h:0≤(atoiR w).1∧(atoiR w).1≤1000000000:=by
   simp only [Bool.and_eq_true,decide_eq_true_eq] at hc
   exact ⟨hc.1.2,hc.2⟩
  rw [if_pos rfl]
  unfold strconv_Itoa
  rw [asrt_pos (by omega),ob_some]
  by_cases q:Lib.itoa (atoiR w).1=w
  ·simp [lt,q]
  ·simp [lt,q]
def SetOk (c:UInt8) (S:List UInt8→Act→Option (Bool×Act)):Prop:=∀ w v,w.length≤1000→∃ b,S w v=some ((setL c w v).isSome,b)∧∀ a,setL c w v=some a→b=a
theorem numW_val {w:List UInt8} {n:Int} (h:numW w=some n):n=(atoiR w).1:=by
 unfold numW at h
 split at h
 ·exact (Option.some.inj h).symm
 ·cases h
theorem map_val {w:List UInt8} {f:Int→Act} {a:Act} (h:(numW w).map f=some a):f (atoiR w).1=a:=by
 cases hn:numW w with
 | none=>rw [hn] at h; cases h
 | some n=>rw [hn] at h; rw [← numW_val hn]; exact Option.some.inj h
theorem set_h:SetOk 104 desk_set:=fun w v hw=>
 ⟨_,(num_set w hw fun n=>(⟨v.Kind,v.Order,n,v.N,v.Row⟩:Act)).trans (by simp [setL]),fun a h=>map_val h⟩
theorem set_i:SetOk 105 desk_set_v1:=fun w v hw=>
 ⟨_,(num_set w hw fun n=>(⟨v.Kind,⟨v.Order.Kind,n,v.Order.Host,v.Order.Turn,v.Order.Row⟩,v.Host,v.N,v.Row⟩:Act)).trans (by simp [setL]),fun a h=>map_val h⟩
theorem set_o:SetOk 111 desk_set_v2:=fun w v hw=>
 ⟨_,(num_set w hw fun n=>(⟨v.Kind,⟨v.Order.Kind,v.Order.ID,n,v.Order.Turn,v.Order.Row⟩,v.Host,v.N,v.Row⟩:Act)).trans (by simp [setL]),fun a h=>map_val h⟩
theorem set_t:SetOk 116 desk_set_v3:=fun w v hw=>
 ⟨_,(num_set w hw fun n=>(⟨v.Kind,⟨v.Order.Kind,v.Order.ID,v.Order.Host,n,v.Order.Row⟩,v.Host,v.N,v.Row⟩:Act)).trans (by simp [setL]),fun a h=>map_val h⟩
theorem set_n:SetOk 110 desk_set_v4:=fun w v hw=>
 ⟨_,(num_set w hw fun n=>(⟨v.Kind,v.Order,v.Host,n,v.Row⟩:Act)).trans (by simp [setL]),fun a h=>map_val h⟩
theorem plain_p {w:List UInt8} (hw:w.length≤1000):desk_plain w=some (plainF w):=by unfold desk_plain; rw [asrt_pos (by omega)]
theorem set_s:SetOk 115 desk_set_v5:=fun w v hw=>by
 refine ⟨⟨v.Kind,⟨v.Order.Kind,v.Order.ID,v.Order.Host,v.Order.Turn,w⟩,v.Host,v.N,v.Row⟩,?_,fun a h=>?_⟩
 ·unfold desk_set_v5 lt
  rw [plain_p hw,ob_some]
  cases h:plainF w <;> simp [setL,h]
 ·cases hp:plainF w <;> simp [setL,hp] at h
  exact h
theorem set_r:SetOk 114 desk_set_v6:=fun w v hw=>by
 refine ⟨⟨v.Kind,v.Order,v.Host,v.N,w⟩,?_,fun a h=>?_⟩
 ·unfold desk_set_v6 lt
  rw [plain_p hw,ob_some]
  cases h:plainF w <;> simp [setL,h]
 ·cases hp:plainF w <;> simp [setL,hp] at h
  exact h
theorem round (c:UInt8) (S:List UInt8→Act→Option (Bool×Act)) (hS:SetOk c S) (x1:List (List UInt8)) (j:Nat) (v:Act) (hx:∀ w∈x1,w.length≤1000) (hl:x1.length≤1000) (hj:j≤1000) :
  (if (decide ((x1.length:Int)≤(w64 ((j:Int)+1))))=true then
   lt (desk_fault 1 (w64 ((j:Int)+1))) fun x5=>some (Sum.inr (zAct,x5))
    else asrt (0≤w64 ((j:Int)+1)∧w64 ((j:Int)+1)<(x1.length:Int)) <|
   ob (S (lget x1 (w64 ((j:Int)+1))) v) fun x6=>
   if (!x6.1)=true then lt (desk_fault 1 (w64 ((j:Int)+1))) fun x7=>some (Sum.inr (zAct,x7)) else some (Sum.inl x6.2):Option (Act⊕(Act×Fault))) =
  match x1.drop (j+1) with
  | []=>some (.inr (zAct,⟨1,(j+1:Nat)⟩))
  | w::_=>match setL c w v with
   | none=>some (.inr (zAct,⟨1,(j+1:Nat)⟩))
   | some a=>some (.inl a):=by
 have hw:w64 ((j:Int)+1)=((j+1:Nat):Int):=by rw [w64_id (by omega) (by omega)]; omega
 rw [hw]
 by_cases q:x1.length≤j+1
 ·rw [if_pos (d_t (by omega)),List.drop_eq_nil_of_le q]
  rfl
 ·rw [if_neg (d_f (by omega)),asrt_pos (by omega),lget_drop x1 (j+1) (by omega)]
  obtain ⟨b,h1,h2⟩:=hS (lget x1 ((j+1:Nat):Int)) v (hx _ (lget_mem x1 _ (by omega)))
  generalize lget x1 ((j+1:Nat):Int)=u at h1 h2 ⊢
  rw [h1,ob_some]
  cases hs:setL c u v with
  | none=>simp [lt,desk_fault,hs]
  | some a=>
   have:=h2 a hs
   subst this
   simp [hs]
def lets:List UInt8:=[104,105,111,116,110,115,114]
theorem rd_B (x1:List (List UInt8)) (j:Nat) (c:UInt8) (hc:c∈lets) (v:Act) (hx:∀ w∈x1,w.length≤1000) (hl:x1.length≤1000) (hj:j≤1000) :
  desk_Read_B1 x1 (j:Int) (c.toNat:Int) v=match x1.drop (j+1) with
  | []=>some (.inr (zAct,⟨1,(j+1:Nat)⟩))
  | w::_=>match setL c w v with
   | none=>some (.inr (zAct,⟨1,(j+1:Nat)⟩))
   | some a=>some (.inl a):=by
 unfold desk_Read_B1
 simp only [lets,List.mem_cons,List.not_mem_nil,or_false] at hc
 rcases hc with rfl | rfl | rfl | rfl | rfl | rfl | rfl
 ·rw [if_pos (by decide)]; exact round 104 _ set_h x1 j v hx hl hj
 ·rw [if_neg (by decide),if_pos (by decide)]; exact round 105 _ set_i x1 j v hx hl hj
 ·rw [if_neg (by decide),if_neg (by decide),if_pos (by decide)]; exact round 111 _ set_o x1 j v hx hl hj
 ·rw [if_neg (by decide),if_neg (by decide),if_neg (by decide),if_pos (by decide)]; exact round 116 _ set_t x1 j v hx hl hj
 ·rw [if_neg (by decide),if_neg (by decide),if_neg (by decide),if_neg (by decide),if_pos (by decide)]; exact round 110 _ set_n x1 j v hx hl hj
 ·rw [if_neg (by decide),if_neg (by decide),if_neg (by decide),if_neg (by decide),if_neg (by decide),if_pos (by decide)]; exact round 115 _ set_s x1 j v hx hl hj
 ·rw [if_neg (by decide),if_neg (by decide),if_neg (by decide),if_neg (by decide),if_neg (by decide),if_neg (by decide),asrt_pos (by decide)]; exact round 114 _ set_r x1 j v hx hl hj
theorem rd_rng (x1:List (List UInt8)) (fin:Act→Option (Act×Fault)) (J:Nat) (hx:∀ w∈x1,w.length≤1000) (hl:x1.length≤1000) (hJ:J≤1000)
  (hfin:∀ y,fin y=some (match x1.drop (J+1) with | []=>(y,⟨0,0⟩) | _::_=>(zAct,⟨1,(J+1:Nat)⟩))) :
  ∀ (cs:List UInt8) (j:Nat) (a:Act),(∀ c∈cs,c∈lets)→j+cs.length=J→rngO fin (fun j c y=>desk_Read_B1 x1 j c y) j cs a=some (rd cs (x1.drop (j+1)) (j+1) a)
 | [],j,a,hc,hj=>by
  simp only [List.length_nil,Nat.add_zero] at hj
  subst hj
  unfold rngO
  rw [hfin]
  cases x1.drop (j+1) <;> rfl
 | c::cs,j,a,hc,hj=>by
  simp only [List.length_cons] at hj
  unfold rngO
  rw [rd_B x1 j c (hc c (by simp)) a hx hl (by omega)]
  have e:x1.drop (j+1+1)=(x1.drop (j+1)).drop 1:=by rw [List.drop_drop]
  cases hd:x1.drop (j+1) with
  | nil=>simp [rd]
  | cons w ws=>
   rw [hd] at e
   cases hs:setL c w a with
   | none=>simp [rd,hs]
   | some b=>
    simp only [rd,hs]
    rw [rd_rng x1 fin J hx hl hJ hfin cs (j+1) b (fun c hc'=>hc c (by simp [hc'])) (by omega),e]
    rfl
theorem idx_loop (s0:List verb) (w:List UInt8) (ws:List (List UInt8)) (hs:s0.length≤1000):∀ (t:List verb) (k:Nat),s0.drop k=t→k≤s0.length→slices_IndexFunc_desk_verb_desk_verb_L1 s0 (w::ws) (k:Int)=some (match idxV t k w with | none=>-1 | some p=>(p.1:Int))
 | [],k,ht,hk=>by
  have hl:s0.length≤k:=by have:=congrArg List.length ht; simp at this; omega
  unfold slices_IndexFunc_desk_verb_desk_verb_L1
  refine loopO_inr ?_
  show slices_IndexFunc_desk_verb_desk_verb_B1 s0 (w::ws) (k:Int)=_
  unfold slices_IndexFunc_desk_verb_desk_verb_B1
  rw [if_neg (d_f (by omega))]; rfl
 | v::t,k,ht,hk=>by
  have hl:k<s0.length:=by have:=congrArg List.length ht; simp at this; omega
  have hv:lget s0 (k:Int)=v:=by rw [lget_drop s0 k hl] at ht; exact (List.cons.inj ht).1
  have ht':s0.drop (k+1)=t:=by rw [lget_drop s0 k hl] at ht; exact (List.cons.inj ht).2
  have hw:w64 ((k:Int)+1)=((k+1:Nat):Int):=by rw [w64_id (by omega) (by omega)]; omega
  have h0:lget (w::ws) 0=w:=rfl
  have step:slices_IndexFunc_desk_verb_desk_verb_B1 s0 (w::ws) (k:Int)=if v.word=w then some (.inr (k:Int)) else some (.inl ((k+1:Nat):Int)):=by
   unfold slices_IndexFunc_desk_verb_desk_verb_B1
   rw [if_pos (d_t (by omega)),asrt_pos (by omega),hv]
   unfold desk_Read_1
   rw [asrt_pos (by simp),ob_some,h0,hw]
   by_cases q:v.word=w
   ·rw [if_pos (d_t q),if_pos q]
   ·rw [if_neg (d_f q),if_neg q]
  unfold slices_IndexFunc_desk_verb_desk_verb_L1 at *
  simp only [idxV]
  by_cases q:v.word=w
  ·rw [if_pos q] at step
   rw [if_pos q]
   exact loopO_inr (step:=fun y=>slices_IndexFunc_desk_verb_desk_verb_B1 s0 (w::ws) y) step
  ·rw [if_neg q] at step
   rw [if_neg q,loopO_inl (step:=fun y=>slices_IndexFunc_desk_verb_desk_verb_B1 s0 (w::ws) y) step]
   have:=idx_loop s0 w ws hs t (k+1) ht' (by omega)
   unfold slices_IndexFunc_desk_verb_desk_verb_L1 at this
   exact this
theorem idx_some (s0:List verb) (w:List UInt8):∀ (t:List verb) (k:Nat),s0.drop k=t→∀ i v,idxV t k w=some (i,v)→i<s0.length∧lget s0 (i:Int)=v∧v.word=w∧v∈t
 | [],k,ht,i,v,h=>by cases h
 | u::t,k,ht,i,v,h=>by
  have hl:k<s0.length:=by have:=congrArg List.length ht; simp at this; omega
  have hv:lget s0 (k:Int)=u:=by rw [lget_drop s0 k hl] at ht; exact (List.cons.inj ht).1
  have ht':s0.drop (k+1)=t:=by rw [lget_drop s0 k hl] at ht; exact (List.cons.inj ht).2
  simp only [idxV] at h
  split at h
  ·rename_i q
   cases h
   exact ⟨hl,hv,q,by simp⟩
  ·obtain ⟨h1,h2,h3,h4⟩:=idx_some s0 w t (k+1) ht' i v h
   exact ⟨h1,h2,h3,by simp [h4]⟩
theorem verb_lets:∀ v∈desk_verbs,(∀ c∈v.words,c∈lets)∧(∀ c∈v.words,c.toNat<128)∧v.words.length≤3∧v.word.length≤6:=by
 unfold desk_verbs lt
 decide
theorem verbF_some {w:List UInt8} {v:verb} (h:verbF w=some v):v∈desk_verbs∧v.word=w:=by
 unfold verbF at h
 cases hi:idxV desk_verbs 0 w with
 | none=>rw [hi] at h; cases h
 | some p=>
  rw [hi] at h; cases h
  obtain ⟨_,_,h3,h4⟩:=idx_some desk_verbs w desk_verbs 0 rfl p.1 p.2 hi
  exact ⟨h4,h3⟩
theorem idx_none (w:List UInt8):∀ (t:List verb) (k:Nat),idxV t k w=none→∀ v∈t,v.word≠w
 | [],k,h,v,hv=>by cases hv
 | u::t,k,h,v,hv=>by
  simp only [idxV] at h
  split at h
  ·cases h
  ·rename_i q
   rcases List.mem_cons.1 hv with rfl | hv
   ·exact q
   ·exact idx_none w t (k+1) h v hv
theorem verbF_none {w:List UInt8} (h:verbF w=none):∀ v∈desk_verbs,v.word≠w:=by
 unfold verbF at h
 exact idx_none w desk_verbs 0 (by simpa using h)
theorem read_eq (l:List UInt8):desk_Read l=some (actF l):=by
 unfold desk_Read actF
 by_cases c:200<l.length
 ·rw [if_pos (d_t (by omega)),if_pos c]; rfl
 ·rw [if_neg (d_f (by omega)),if_neg c]
  unfold strings_Split
  rw [asrt_pos (show l.length<4294967281∧1≤([32]:List UInt8).length from ⟨by omega,by simp⟩),ob_some,split_eq]
  have hlen:=splA_len l []
  have hmem:=splA_mem l []
  cases hs:splA [] l with
  | nil=>exact absurd hs (splA_ne l [])
  | cons w ws=>
   rw [hs] at hlen hmem
   show ob (slices_IndexFunc_desk_verb_desk_verb_L1 desk_verbs (w::ws) ((0:Nat):Int)) _=_
   have hix:=idx_loop desk_verbs w ws (by decide) desk_verbs 0 rfl (Nat.zero_le _)
   show _=some (match (idxV desk_verbs 0 w).map (·.2) with | none=>((zAct,(⟨1,0⟩:Fault)):Act×Fault) | some v=>rd v.words ws 1 v.act)
   cases hi:idxV desk_verbs 0 w with
   | none=>rw [hi] at hix; rw [hix]; rfl
   | some p=>
    obtain ⟨i,v⟩:=p
    obtain ⟨h1,h2,h3,h4⟩:=idx_some desk_verbs w desk_verbs 0 rfl i v hi
    rw [hi] at hix
    have hix:slices_IndexFunc_desk_verb_desk_verb_L1 desk_verbs (w::ws) ((0:Nat):Int)=some (i:Int):=hix
    rw [hix,ob_some]
    obtain ⟨v1,v2,v3,v4⟩:=verb_lets v h4
    show (if (decide ((i:Int)<0))=true then _ else _)=_
    rw [if_neg (d_f (by omega)),asrt_pos (by omega),asrt_pos (by omega),h2,asrt_pos v2]
    have hx:∀ u∈w::ws,u.length≤1000:=fun u hu=>by have:=hmem u hu; simp at this; omega
    have hw:w64 ((v.words.length:Int)+1)=((v.words.length+1:Nat):Int):=by rw [w64_id (by omega) (by omega)]; omega
    have:=rd_rng (w::ws) (fun y=>desk_Read_E1 (w::ws) desk_verbs (i:Int) y) v.words.length hx (by omega) (by omega) (fun y=>by
     unfold desk_Read_E1
     rw [asrt_pos (by omega),h2,hw]
     by_cases q:v.words.length+1<(w::ws).length
     ·rw [if_pos (d_t (by omega)),lget_drop (w::ws) (v.words.length+1) q]; rfl
     ·rw [if_neg (d_f (by omega)),List.drop_eq_nil_of_le (by omega)]) v.words 0 v.act v1 (by omega)
    exact this
def dd:List UInt8→List (List UInt8)→Nat→List Int→List UInt8→(List Int×List UInt8)⊕Nat
 | [],_,_,nl,row=>.inl (nl,row)
 | _::_,[],k,_,_=>.inr k
 | c::cs,w::ws,k,nl,row=>if c=114 then (if plainF w then dd cs ws (k+1) nl w else .inr k) else match numW w with
  | none=>.inr k
  | some n=>dd cs ws (k+1) (nl++[n]) row
theorem dd_loop (x1:List (List UInt8)) (sh:List UInt8) (hx:∀ w∈x1,w.length≤1000) (hl:x1.length≤1000) (hs:sh.length≤10):∀ (cs:List UInt8) (i:Nat) (nl:List Int) (row:List UInt8),sh.drop i=cs→i≤sh.length→nl.length≤i→
  ∀ r,(match dd cs (x1.drop (i+1)) (i+1) nl row with | .inr k=>some (zAct,(⟨1,k⟩:Fault)) | .inl p=>R_ActSaid_J1 x1 (sh,true) p)=some r→R_ActSaid_L1 x1 (sh,true) (nl,row,(i:Int))=some r
 | [],i,nl,row,hd,hi,hn,r,hr=>by
  have hl':sh.length≤i:=by have:=congrArg List.length hd; simp at this; omega
  unfold R_ActSaid_L1
  refine loopO_inr ?_
  show R_ActSaid_B1 x1 (sh,true) (nl,row,(i:Int))=_
  unfold R_ActSaid_B1
  rw [if_neg (d_f (by show ¬ (i:Int)<(sh.length:Int); omega))]
  have hr:R_ActSaid_J1 x1 (sh,true) (nl,row)=some r:=hr
  show inrO (R_ActSaid_J1 x1 (sh,true) (nl,row))=_
  rw [hr]; rfl
 | c::cs,i,nl,row,hd,hi,hn,r,hr=>by
  have hlt:i<sh.length:=by have:=congrArg List.length hd; simp at this; omega
  have hc:lget sh (i:Int)=c:=by rw [lget_drop sh i hlt] at hd; exact (List.cons.inj hd).1
  have hd':sh.drop (i+1)=cs:=by rw [lget_drop sh i hlt] at hd; exact (List.cons.inj hd).2
  have hw:w64 ((i:Int)+1)=((i+1:Nat):Int):=by rw [w64_id (by omega) (by omega)]; omega
  have u114:((114:UInt8).toNat:Int)=114:=rfl
  have c114:((c.toNat:Int)=114)↔c=114:=by
   rw [← UInt8.toNat_inj]
   have:(114:UInt8).toNat=114:=rfl
   omega
  have hB:R_ActSaid_B1 x1 (sh,true) (nl,row,(i:Int))=if x1.length≤i+1 then some (.inr (zAct,⟨1,(i+1:Nat)⟩)) else
    if c=114 then (if plainF (lget x1 ((i+1:Nat):Int))=true then some (.inl (nl,lget x1 ((i+1:Nat):Int),((i+1:Nat):Int))) else some (.inr (zAct,⟨1,(i+1:Nat)⟩)))
    else match numW (lget x1 ((i+1:Nat):Int)) with
     | none=>some (.inr (zAct,⟨1,(i+1:Nat)⟩))
     | some n=>some (.inl (nl++[n],row,((i+1:Nat):Int))):=by
   unfold R_ActSaid_B1 R_ActSaid_J2 R_F lt
   show (if (decide ((i:Int)<(sh.length:Int)))=true then (if (decide ((x1.length:Int)≤w64 ((i:Int)+1)))=true then some (Sum.inr ((zAct,(⟨1,w64 ((i:Int)+1)⟩:Fault)):Act×Fault)) else asrt (0≤(i:Int)∧(i:Int)<(sh.length:Int)) <|
    if (decide (((lget sh (i:Int)).toNat:Int)=((114:UInt8).toNat:Int)))=true then
     asrt (0≤w64 ((i:Int)+1)∧w64 ((i:Int)+1)<(x1.length:Int)) <| asrt (0≤w64 ((i:Int)+1)∧w64 ((i:Int)+1)<(x1.length:Int)) <|
     ob (R_RowSaid (lget x1 (w64 ((i:Int)+1)))) fun x6=>if (!x6)=true then some (Sum.inr ((zAct,(⟨1,w64 ((i:Int)+1)⟩:Fault)):Act×Fault)) else
      asrt (0≤w64 ((i:Int)+1)∧w64 ((i:Int)+1)<(x1.length:Int)) <| asrt (0≤w64 ((i:Int)+1)∧w64 ((i:Int)+1)<(x1.length:Int)) <| some (Sum.inl (nl,lget x1 (w64 ((i:Int)+1)),w64 ((i:Int)+1)))
    else
     asrt (0≤w64 ((i:Int)+1)∧w64 ((i:Int)+1)<(x1.length:Int)) <| asrt (0≤w64 ((i:Int)+1)∧w64 ((i:Int)+1)<(x1.length:Int)) <|
     ob (R_NumberSaid (lget x1 (w64 ((i:Int)+1)))) fun x8=>if (decide (x8<0))=true then some (Sum.inr ((zAct,(⟨1,w64 ((i:Int)+1)⟩:Fault)):Act×Fault)) else
      asrt (((nl++[x8]).length:Int)*8≤140737488351232) <| some (Sum.inl (nl++[x8],row,w64 ((i:Int)+1)))) else _)=_
   rw [if_pos (d_t (by omega)),hw,hc,u114]
   by_cases q:x1.length≤i+1
   ·rw [if_pos (d_t (by omega)),if_pos q]
   ·have hb:0≤((i+1:Nat):Int)∧((i+1:Nat):Int)<(x1.length:Int):=by omega
    have hm:=hx _ (lget_mem x1 ((i+1:Nat):Int) hb)
    rw [if_neg (d_f (by omega)),if_neg q,asrt_pos (by omega)]
    generalize lget x1 ((i+1:Nat):Int)=u at hm ⊢
    by_cases q2:c=114
    ·rw [if_pos (d_t (c114.2 q2)),if_pos q2,asrt_pos hb,asrt_pos hb,rs_eq u hm,ob_some]
     cases plainF u with
     | false=>rfl
     | true=>
      show asrt _ (asrt _ _)=_
      rw [asrt_pos hb,asrt_pos hb]; rfl
    ·rw [if_neg (d_f (fun h=>q2 (c114.1 h))),if_neg q2,asrt_pos hb,asrt_pos hb,ns_eq u hm,ob_some]
     cases hn':numW u with
     | none=>rfl
     | some n=>
      have h0:=(numW_iff.1 hn').1
      show (if (decide (n<0))=true then _ else asrt (((nl++[n]).length:Int)*8≤_) _)=_
      rw [if_neg (d_f (by omega)),asrt_pos (by simp; omega)]
      rfl
  by_cases q:x1.length≤i+1
  ·rw [if_pos q] at hB
   rw [List.drop_eq_nil_of_le q] at hr
   unfold R_ActSaid_L1
   rw [loopO_inr (step:=fun y=>R_ActSaid_B1 x1 (sh,true) y) hB]
   exact hr
  ·rw [if_neg q] at hB
   have hdr:=lget_drop x1 (i+1) (by omega)
   rw [hdr] at hr
   generalize lget x1 ((i+1:Nat):Int)=u at hr hB
   simp only [dd] at hr
   by_cases q2:c=114
   ·rw [if_pos q2] at hB hr
    cases hp:plainF u with
    | false=>
     rw [hp] at hB hr
     unfold R_ActSaid_L1
     rw [loopO_inr (step:=fun y=>R_ActSaid_B1 x1 (sh,true) y) hB]
     exact hr
    | true=>
     rw [hp] at hB hr
     unfold R_ActSaid_L1
     rw [loopO_inl (step:=fun y=>R_ActSaid_B1 x1 (sh,true) y) hB]
     exact dd_loop x1 sh hx hl hs cs (i+1) nl u hd' (by omega) (by omega) r hr
   ·rw [if_neg q2] at hB hr
    cases hn':numW u with
    | none=>
     rw [hn'] at hB hr
     unfold R_ActSaid_L1
     rw [loopO_inr (step:=fun y=>R_ActSaid_B1 x1 (sh,true) y) hB]
     exact hr
    | some n=>
     rw [hn'] at hB hr
     unfold R_ActSaid_L1
     rw [loopO_inl (step:=fun y=>R_ActSaid_B1 x1 (sh,true) y) hB]
     exact dd_loop x1 sh hx hl hs cs (i+1) (nl++[n]) row hd' (by omega) (by simp; omega) r hr
def shp (v:verb):List UInt8:=v.words.map fun c=>if c=114∨c=115 then 114 else 110
theorem shape_some:∀ v∈desk_verbs,R_Shape v.word=(shp v,true):=by
 unfold desk_verbs lt
 intro v hv
 simp only [List.mem_cons,List.not_mem_nil,or_false] at hv
 rcases hv with rfl | rfl | rfl | rfl | rfl | rfl | rfl | rfl | rfl | rfl | rfl | rfl | rfl | rfl | rfl <;> rfl
theorem shape_none {w:List UInt8} (h:∀ v∈desk_verbs,v.word≠w):R_Shape w=([],false):=by
 have h:∀ u∈desk_verbs.map (·.word),w≠u:=fun u hu e=>by
  obtain ⟨v,h1,h2⟩:=List.mem_map.1 hu
  exact h v h1 (h2.trans e.symm)
 have e:desk_verbs.map (·.word)=[[99,111,109,101],[108,111,115,116],[111,112,101,110],[111,112,101,110,101,100],[99,108,111,115,101],[99,108,111,115,101,100],[115,112,108,105,116],[101,110,100],[112,117,116],[103,101,116],[112,111,115,116],[100,114,111,112],[102,108,117,115,104],[99,117,116],[112,97,99,107]]:=rfl
 rw [e] at h
 simp only [List.mem_cons,List.not_mem_nil,or_false,forall_eq_or_imp,forall_eq] at h
 obtain ⟨h1,h2,h3,h4,h5,h6,h7,h8,h9,h10,h11,h12,h13,h14,h15⟩:=h
 simp [R_Shape,lt,h1,h2,h3,h4,h5,h6,h7,h8,h9,h10,h11,h12,h13,h14,h15]
theorem k1:w64 1=1:=by decide
theorem k2:w64 2=2:=by decide
theorem k3:w64 3=3:=by decide
theorem k4:w64 4=4:=by decide
abbrev Said (v:verb) (ws:List (List UInt8)):Prop:=(match dd (shp v) ws 1 [] [] with | .inr k=>some ((zAct,(⟨1,k⟩:Fault)):Act×Fault) | .inl p=>R_ActSaid_J1 (v.word::ws) (shp v,true) p)=some (rd v.words ws 1 v.act)
theorem lg0 {α:Type} [Inhabited α] (a:α) (l:List α):lget (a::l) 0=a:=rfl
theorem lg1 {α:Type} [Inhabited α] (a b:α) (l:List α):lget (a::b::l) 1=b:=rfl
theorem lg2 {α:Type} [Inhabited α] (a b c:α) (l:List α):lget (a::b::c::l) 2=c:=rfl
theorem m1 (n:Nat):(1:Int)<n+1+1:=by omega
theorem m2 (n:Nat):(2:Int)<n+1+1+1:=by omega
theorem m3 (n:Nat):(3:Int)<n+1+1+1+1:=by omega
theorem m4 (n:Nat):(4:Int)<n+1+1+1+1+1:=by omega
theorem said_come (ws:List (List UInt8)):Said ⟨[99,111,109,101],[105],⟨1,⟨1,0,0,0,[]⟩,0,0,[]⟩⟩ ws:=by
 unfold Said shp
 rcases ws with _ | ⟨u0,_ | ⟨z,r⟩⟩
 ·rfl
 ·cases h0:numW u0 <;> simp [dd,rd,setL,R_ActSaid_J1,R_F,lt,asrt_pos,lg0,lg1,lg2,k1,k2,k3,k4,m1,m2,m3,m4,ob_some,h0]
 ·cases h0:numW u0 <;> simp [dd,rd,setL,R_ActSaid_J1,R_F,lt,asrt_pos,lg0,lg1,lg2,k1,k2,k3,k4,m1,m2,m3,m4,ob_some,h0]
theorem said_lost (ws:List (List UInt8)):Said ⟨[108,111,115,116],[105],⟨1,⟨2,0,0,0,[]⟩,0,0,[]⟩⟩ ws:=by
 unfold Said shp
 rcases ws with _ | ⟨u0,_ | ⟨z,r⟩⟩
 ·rfl
 ·cases h0:numW u0 <;> simp [dd,rd,setL,R_ActSaid_J1,R_F,lt,asrt_pos,lg0,lg1,lg2,k1,k2,k3,k4,m1,m2,m3,m4,ob_some,h0]
 ·cases h0:numW u0 <;> simp [dd,rd,setL,R_ActSaid_J1,R_F,lt,asrt_pos,lg0,lg1,lg2,k1,k2,k3,k4,m1,m2,m3,m4,ob_some,h0]
theorem said_open (ws:List (List UInt8)):Said ⟨[111,112,101,110],[105,111],⟨1,⟨3,0,0,0,[]⟩,0,0,[]⟩⟩ ws:=by
 unfold Said shp
 rcases ws with _ | ⟨u0,_ | ⟨u1,_ | ⟨z,r⟩⟩⟩
 ·rfl
 ·cases h0:numW u0 <;> simp [dd,rd,setL,R_ActSaid_J1,R_F,lt,asrt_pos,lg0,lg1,lg2,k1,k2,k3,k4,m1,m2,m3,m4,ob_some,h0]
 ·cases h0:numW u0 <;> cases h1:numW u1 <;> simp [dd,rd,setL,R_ActSaid_J1,R_F,lt,asrt_pos,lg0,lg1,lg2,k1,k2,k3,k4,m1,m2,m3,m4,ob_some,h0,h1]
 ·cases h0:numW u0 <;> cases h1:numW u1 <;> simp [dd,rd,setL,R_ActSaid_J1,R_F,lt,asrt_pos,lg0,lg1,lg2,k1,k2,k3,k4,m1,m2,m3,m4,ob_some,h0,h1]
theorem said_opened (ws:List (List UInt8)):Said ⟨[111,112,101,110,101,100],[105,111,116],⟨1,⟨4,0,0,0,[]⟩,0,0,[]⟩⟩ ws:=by
 unfold Said shp
 rcases ws with _ | ⟨u0,_ | ⟨u1,_ | ⟨u2,_ | ⟨z,r⟩⟩⟩⟩
 ·rfl
 ·cases h0:numW u0 <;> simp [dd,rd,setL,R_ActSaid_J1,R_F,lt,asrt_pos,lg0,lg1,lg2,k1,k2,k3,k4,m1,m2,m3,m4,ob_some,h0]
 ·cases h0:numW u0 <;> cases h1:numW u1 <;> simp [dd,rd,setL,R_ActSaid_J1,R_F,lt,asrt_pos,lg0,lg1,lg2,k1,k2,k3,k4,m1,m2,m3,m4,ob_some,h0,h1]
 ·cases h0:numW u0 <;> cases h1:numW u1 <;> cases h2:numW u2 <;> simp [dd,rd,setL,R_ActSaid_J1,R_F,lt,asrt_pos,lg0,lg1,lg2,k1,k2,k3,k4,m1,m2,m3,m4,ob_some,h0,h1,h2]
 ·cases h0:numW u0 <;> cases h1:numW u1 <;> cases h2:numW u2 <;> simp [dd,rd,setL,R_ActSaid_J1,R_F,lt,asrt_pos,lg0,lg1,lg2,k1,k2,k3,k4,m1,m2,m3,m4,ob_some,h0,h1,h2]
theorem said_close (ws:List (List UInt8)):Said ⟨[99,108,111,115,101],[105],⟨1,⟨5,0,0,0,[]⟩,0,0,[]⟩⟩ ws:=by
 unfold Said shp
 rcases ws with _ | ⟨u0,_ | ⟨z,r⟩⟩
 ·rfl
 ·cases h0:numW u0 <;> simp [dd,rd,setL,R_ActSaid_J1,R_F,lt,asrt_pos,lg0,lg1,lg2,k1,k2,k3,k4,m1,m2,m3,m4,ob_some,h0]
 ·cases h0:numW u0 <;> simp [dd,rd,setL,R_ActSaid_J1,R_F,lt,asrt_pos,lg0,lg1,lg2,k1,k2,k3,k4,m1,m2,m3,m4,ob_some,h0]
theorem said_closed (ws:List (List UInt8)):Said ⟨[99,108,111,115,101,100],[105,111,116],⟨1,⟨6,0,0,0,[]⟩,0,0,[]⟩⟩ ws:=by
 unfold Said shp
 rcases ws with _ | ⟨u0,_ | ⟨u1,_ | ⟨u2,_ | ⟨z,r⟩⟩⟩⟩
 ·rfl
 ·cases h0:numW u0 <;> simp [dd,rd,setL,R_ActSaid_J1,R_F,lt,asrt_pos,lg0,lg1,lg2,k1,k2,k3,k4,m1,m2,m3,m4,ob_some,h0]
 ·cases h0:numW u0 <;> cases h1:numW u1 <;> simp [dd,rd,setL,R_ActSaid_J1,R_F,lt,asrt_pos,lg0,lg1,lg2,k1,k2,k3,k4,m1,m2,m3,m4,ob_some,h0,h1]
 ·cases h0:numW u0 <;> cases h1:numW u1 <;> cases h2:numW u2 <;> simp [dd,rd,setL,R_ActSaid_J1,R_F,lt,asrt_pos,lg0,lg1,lg2,k1,k2,k3,k4,m1,m2,m3,m4,ob_some,h0,h1,h2]
 ·cases h0:numW u0 <;> cases h1:numW u1 <;> cases h2:numW u2 <;> simp [dd,rd,setL,R_ActSaid_J1,R_F,lt,asrt_pos,lg0,lg1,lg2,k1,k2,k3,k4,m1,m2,m3,m4,ob_some,h0,h1,h2]
theorem said_split (ws:List (List UInt8)):Said ⟨[115,112,108,105,116],[105,115],⟨1,⟨7,0,0,0,[]⟩,0,0,[]⟩⟩ ws:=by
 unfold Said shp
 rcases ws with _ | ⟨u0,_ | ⟨u1,_ | ⟨z,r⟩⟩⟩
 ·rfl
 ·cases h0:numW u0 <;> simp [dd,rd,setL,R_ActSaid_J1,R_F,lt,asrt_pos,lg0,lg1,lg2,k1,k2,k3,k4,m1,m2,m3,m4,ob_some,h0]
 ·cases h0:numW u0 <;> cases h1:plainF u1 <;> simp [dd,rd,setL,R_ActSaid_J1,R_F,lt,asrt_pos,lg0,lg1,lg2,k1,k2,k3,k4,m1,m2,m3,m4,ob_some,h0,h1]
 ·cases h0:numW u0 <;> cases h1:plainF u1 <;> simp [dd,rd,setL,R_ActSaid_J1,R_F,lt,asrt_pos,lg0,lg1,lg2,k1,k2,k3,k4,m1,m2,m3,m4,ob_some,h0,h1]
theorem said_end (ws:List (List UInt8)):Said ⟨[101,110,100],[104],⟨2,⟨0,0,0,0,[]⟩,0,0,[]⟩⟩ ws:=by
 unfold Said shp
 rcases ws with _ | ⟨u0,_ | ⟨z,r⟩⟩
 ·rfl
 ·cases h0:numW u0 <;> simp [dd,rd,setL,R_ActSaid_J1,R_F,lt,asrt_pos,lg0,lg1,lg2,k1,k2,k3,k4,m1,m2,m3,m4,ob_some,h0]
 ·cases h0:numW u0 <;> simp [dd,rd,setL,R_ActSaid_J1,R_F,lt,asrt_pos,lg0,lg1,lg2,k1,k2,k3,k4,m1,m2,m3,m4,ob_some,h0]
theorem said_put (ws:List (List UInt8)):Said ⟨[112,117,116],[104,114],⟨3,⟨0,0,0,0,[]⟩,0,0,[]⟩⟩ ws:=by
 unfold Said shp
 rcases ws with _ | ⟨u0,_ | ⟨u1,_ | ⟨z,r⟩⟩⟩
 ·rfl
 ·cases h0:numW u0 <;> simp [dd,rd,setL,R_ActSaid_J1,R_F,lt,asrt_pos,lg0,lg1,lg2,k1,k2,k3,k4,m1,m2,m3,m4,ob_some,h0]
 ·cases h0:numW u0 <;> cases h1:plainF u1 <;> simp [dd,rd,setL,R_ActSaid_J1,R_F,lt,asrt_pos,lg0,lg1,lg2,k1,k2,k3,k4,m1,m2,m3,m4,ob_some,h0,h1]
 ·cases h0:numW u0 <;> cases h1:plainF u1 <;> simp [dd,rd,setL,R_ActSaid_J1,R_F,lt,asrt_pos,lg0,lg1,lg2,k1,k2,k3,k4,m1,m2,m3,m4,ob_some,h0,h1]
theorem said_get (ws:List (List UInt8)):Said ⟨[103,101,116],[104,114],⟨4,⟨0,0,0,0,[]⟩,0,0,[]⟩⟩ ws:=by
 unfold Said shp
 rcases ws with _ | ⟨u0,_ | ⟨u1,_ | ⟨z,r⟩⟩⟩
 ·rfl
 ·cases h0:numW u0 <;> simp [dd,rd,setL,R_ActSaid_J1,R_F,lt,asrt_pos,lg0,lg1,lg2,k1,k2,k3,k4,m1,m2,m3,m4,ob_some,h0]
 ·cases h0:numW u0 <;> cases h1:plainF u1 <;> simp [dd,rd,setL,R_ActSaid_J1,R_F,lt,asrt_pos,lg0,lg1,lg2,k1,k2,k3,k4,m1,m2,m3,m4,ob_some,h0,h1]
 ·cases h0:numW u0 <;> cases h1:plainF u1 <;> simp [dd,rd,setL,R_ActSaid_J1,R_F,lt,asrt_pos,lg0,lg1,lg2,k1,k2,k3,k4,m1,m2,m3,m4,ob_some,h0,h1]
theorem said_post (ws:List (List UInt8)):Said ⟨[112,111,115,116],[110],⟨5,⟨0,0,0,0,[]⟩,0,0,[]⟩⟩ ws:=by
 unfold Said shp
 rcases ws with _ | ⟨u0,_ | ⟨z,r⟩⟩
 ·rfl
 ·cases h0:numW u0 <;> simp [dd,rd,setL,R_ActSaid_J1,R_F,lt,asrt_pos,lg0,lg1,lg2,k1,k2,k3,k4,m1,m2,m3,m4,ob_some,h0]
 ·cases h0:numW u0 <;> simp [dd,rd,setL,R_ActSaid_J1,R_F,lt,asrt_pos,lg0,lg1,lg2,k1,k2,k3,k4,m1,m2,m3,m4,ob_some,h0]
theorem said_drop (ws:List (List UInt8)):Said ⟨[100,114,111,112],[110],⟨6,⟨0,0,0,0,[]⟩,0,0,[]⟩⟩ ws:=by
 unfold Said shp
 rcases ws with _ | ⟨u0,_ | ⟨z,r⟩⟩
 ·rfl
 ·cases h0:numW u0 <;> simp [dd,rd,setL,R_ActSaid_J1,R_F,lt,asrt_pos,lg0,lg1,lg2,k1,k2,k3,k4,m1,m2,m3,m4,ob_some,h0]
 ·cases h0:numW u0 <;> simp [dd,rd,setL,R_ActSaid_J1,R_F,lt,asrt_pos,lg0,lg1,lg2,k1,k2,k3,k4,m1,m2,m3,m4,ob_some,h0]
theorem said_flush (ws:List (List UInt8)):Said ⟨[102,108,117,115,104],[114],⟨7,⟨0,0,0,0,[]⟩,0,0,[]⟩⟩ ws:=by
 unfold Said shp
 rcases ws with _ | ⟨u0,_ | ⟨z,r⟩⟩
 ·rfl
 ·cases h0:plainF u0 <;> simp [dd,rd,setL,R_ActSaid_J1,R_F,lt,asrt_pos,lg0,lg1,lg2,k1,k2,k3,k4,m1,m2,m3,m4,ob_some,h0]
 ·cases h0:plainF u0 <;> simp [dd,rd,setL,R_ActSaid_J1,R_F,lt,asrt_pos,lg0,lg1,lg2,k1,k2,k3,k4,m1,m2,m3,m4,ob_some,h0]
theorem said_cut (ws:List (List UInt8)):Said ⟨[99,117,116],[114],⟨7,⟨0,0,0,0,[]⟩,0,1,[]⟩⟩ ws:=by
 unfold Said shp
 rcases ws with _ | ⟨u0,_ | ⟨z,r⟩⟩
 ·rfl
 ·cases h0:plainF u0 <;> simp [dd,rd,setL,R_ActSaid_J1,R_F,lt,asrt_pos,lg0,lg1,lg2,k1,k2,k3,k4,m1,m2,m3,m4,ob_some,h0]
 ·cases h0:plainF u0 <;> simp [dd,rd,setL,R_ActSaid_J1,R_F,lt,asrt_pos,lg0,lg1,lg2,k1,k2,k3,k4,m1,m2,m3,m4,ob_some,h0]
theorem said_pack (ws:List (List UInt8)):Said ⟨[112,97,99,107],[114],⟨7,⟨0,0,0,0,[]⟩,0,2,[]⟩⟩ ws:=by
 unfold Said shp
 rcases ws with _ | ⟨u0,_ | ⟨z,r⟩⟩
 ·rfl
 ·cases h0:plainF u0 <;> simp [dd,rd,setL,R_ActSaid_J1,R_F,lt,asrt_pos,lg0,lg1,lg2,k1,k2,k3,k4,m1,m2,m3,m4,ob_some,h0]
 ·cases h0:plainF u0 <;> simp [dd,rd,setL,R_ActSaid_J1,R_F,lt,asrt_pos,lg0,lg1,lg2,k1,k2,k3,k4,m1,m2,m3,m4,ob_some,h0]
theorem said_verb:∀ v∈desk_verbs,∀ ws,Said v ws:=by
 unfold desk_verbs lt
 intro v hv ws
 simp only [List.mem_cons,List.not_mem_nil,or_false] at hv
 rcases hv with rfl | rfl | rfl | rfl | rfl | rfl | rfl | rfl | rfl | rfl | rfl | rfl | rfl | rfl | rfl
 ·exact said_come ws
 ·exact said_lost ws
 ·exact said_open ws
 ·exact said_opened ws
 ·exact said_close ws
 ·exact said_closed ws
 ·exact said_split ws
 ·exact said_end ws
 ·exact said_put ws
 ·exact said_get ws
 ·exact said_post ws
 ·exact said_drop ws
 ·exact said_flush ws
 ·exact said_cut ws
 ·exact said_pack ws
theorem verb_shp:∀ v∈desk_verbs,(shp v).length≤3:=fun v hv=>by
 unfold shp
 rw [List.length_map]
 exact (verb_lets v hv).2.2.1
theorem said_eq (l:List UInt8):R_ActSaid l=some (actF l):=by
 unfold R_ActSaid actF
 by_cases c:200<l.length
 ·rw [if_pos (d_t (by omega)),if_pos c]; rfl
 ·rw [if_neg (d_f (by omega)),if_neg c,spl_eq l (by omega),ob_some]
  have hlen:=splA_len l []
  have hmem:=splA_mem l []
  cases hs:splA [] l with
  | nil=>exact absurd hs (splA_ne l [])
  | cons w ws=>
   rw [hs] at hlen hmem
   rw [asrt_pos (by simp),asrt_pos (by simp),lg0]
   show (if (!(R_Shape w).2)=true then some ((zAct,(⟨1,0⟩:Fault)):Act×Fault) else R_ActSaid_L1 (w::ws) (R_Shape w) ([],[],((0:Nat):Int)))=some (match verbF w with | none=>((zAct,(⟨1,0⟩:Fault)):Act×Fault) | some v=>rd v.words ws 1 v.act)
   cases hv:verbF w with
   | none=>rw [shape_none (verbF_none hv)]; rfl
   | some v=>
    obtain ⟨h1,h2⟩:=verbF_some hv
    subst h2
    rw [shape_some v h1]
    show R_ActSaid_L1 (v.word::ws) (shp v,true) ([],[],((0:Nat):Int))=some (rd v.words ws 1 v.act)
    have hx:∀ u∈v.word::ws,u.length≤1000:=fun u hu=>by have:=hmem u hu; simp at this; omega
    exact dd_loop (v.word::ws) (shp v) hx (by omega) (by have:=verb_shp v h1; omega) (shp v) 0 [] [] rfl (Nat.zero_le _) (by simp) _ (said_verb v h1 ws)
def fld (c:UInt8) (a:Act):List UInt8:=
 if c=104 then Lib.itoa a.Host
 else if c=105 then Lib.itoa a.Order.ID
 else if c=111 then Lib.itoa a.Order.Host
 else if c=116 then Lib.itoa a.Order.Turn
 else if c=110 then Lib.itoa a.N
 else if c=115 then a.Order.Row
 else a.Row
def lineV (v:verb) (a:Act):List UInt8:=v.word++v.words.flatMap fun c=>32::fld c a
abbrev Canon (v:verb) (ws:List (List UInt8)):Prop:=∀ a f,rd v.words ws 1 v.act=(a,f)→f.Code=0→f=⟨0,0⟩∧lineV v a=v.word++ws.flatMap (fun w=>32::w)∧R_LineOf a=some (v.word++ws.flatMap fun w=>32::w)
theorem plain_len {w:List UInt8} (h:plainF w=true):w.length≤40:=by
 unfold plainF at h
 simp only [Bool.and_eq_true,decide_eq_true_eq] at h
 exact h.1.2
theorem num_dg {w:List UInt8} {n:Int} (h:numW w=some n):0≤n∧n≤1000000000∧Lib.itoa n=w∧w.length≤10∧R_Digits n=some w:=by
 obtain ⟨h1,h2,rfl⟩:=numW_iff.1 h
 exact ⟨h1,h2,rfl,itoa_len10 h1 h2,digits_eq h1 (by omega)⟩
theorem fC {k:Int} {a b:Act} {f:Fault} (h:((b,(⟨1,k⟩:Fault)):Act×Fault)=(a,f)) (hf:f.Code=0):False:=by
 cases h; exact absurd hf (show ¬ (1:Int)=0 by decide)
theorem y0:w64 0=0:=by decide
theorem canon_come (ws:List (List UInt8)):Canon ⟨[99,111,109,101],[105],⟨1,⟨1,0,0,0,[]⟩,0,0,[]⟩⟩ ws:=by
 intro a f h hf
 rcases ws with _ | ⟨u0,_ | ⟨z,r⟩⟩
 ·exact (fC h hf).elim
 ·cases h0:numW u0 with
  | none=>simp [rd,setL,h0] at h; exact absurd hf (by rw [← h.2]; decide)
  | some n0=>
   obtain ⟨a0,b0,c0,l0,d0⟩:=num_dg h0
   simp [rd,setL,h0] at h
   obtain ⟨rfl,rfl⟩:=h
   refine ⟨rfl,by simp [lineV,fld,c0],?_⟩
   simp (disch:=first | trivial | omega) [R_LineOf,lt,asrt_pos,ob_some,y0,k1,k2,lg0,lg1,lget,d0,Int.not_lt.2 a0]
 ·cases h0:numW u0 with
  | none=>simp [rd,setL,h0] at h; exact absurd hf (by rw [← h.2]; decide)
  | some n0=>
   simp [rd,setL,h0] at h; exact absurd hf (by rw [← h.2]; decide)
theorem canon_lost (ws:List (List UInt8)):Canon ⟨[108,111,115,116],[105],⟨1,⟨2,0,0,0,[]⟩,0,0,[]⟩⟩ ws:=by
 intro a f h hf
 rcases ws with _ | ⟨u0,_ | ⟨z,r⟩⟩
 ·exact (fC h hf).elim
 ·cases h0:numW u0 with
  | none=>simp [rd,setL,h0] at h; exact absurd hf (by rw [← h.2]; decide)
  | some n0=>
   obtain ⟨a0,b0,c0,l0,d0⟩:=num_dg h0
   simp [rd,setL,h0] at h
   obtain ⟨rfl,rfl⟩:=h
   refine ⟨rfl,by simp [lineV,fld,c0],?_⟩
   simp (disch:=first | trivial | omega) [R_LineOf,lt,asrt_pos,ob_some,y0,k1,k2,lg0,lg1,lget,d0,Int.not_lt.2 a0]
 ·cases h0:numW u0 with
  | none=>simp [rd,setL,h0] at h; exact absurd hf (by rw [← h.2]; decide)
  | some n0=>
   simp [rd,setL,h0] at h; exact absurd hf (by rw [← h.2]; decide)
theorem canon_open (ws:List (List UInt8)):Canon ⟨[111,112,101,110],[105,111],⟨1,⟨3,0,0,0,[]⟩,0,0,[]⟩⟩ ws:=by
 intro a f h hf
 rcases ws with _ | ⟨u0,_ | ⟨u1,_ | ⟨z,r⟩⟩⟩
 ·exact (fC h hf).elim
 ·cases h0:numW u0 with
  | none=>simp [rd,setL,h0] at h; exact absurd hf (by rw [← h.2]; decide)
  | some n0=>
   simp [rd,setL,h0] at h; exact absurd hf (by rw [← h.2]; decide)
 ·cases h0:numW u0 with
  | none=>simp [rd,setL,h0] at h; exact absurd hf (by rw [← h.2]; decide)
  | some n0=>
   cases h1:numW u1 with
   | none=>simp [rd,setL,h0,h1] at h; exact absurd hf (by rw [← h.2]; decide)
   | some n1=>
    obtain ⟨a0,b0,c0,l0,d0⟩:=num_dg h0
    obtain ⟨a1,b1,c1,l1,d1⟩:=num_dg h1
    simp [rd,setL,h0,h1] at h
    obtain ⟨rfl,rfl⟩:=h
    refine ⟨rfl,by simp [lineV,fld,c0,c1],?_⟩
    simp (disch:=first | trivial | omega) [R_LineOf,lt,asrt_pos,ob_some,y0,k1,k2,lg0,lg1,lget,d0,Int.not_lt.2 a0,d1,Int.not_lt.2 a1]
 ·cases h0:numW u0 with
  | none=>simp [rd,setL,h0] at h; exact absurd hf (by rw [← h.2]; decide)
  | some n0=>
   cases h1:numW u1 with
   | none=>simp [rd,setL,h0,h1] at h; exact absurd hf (by rw [← h.2]; decide)
   | some n1=>
    simp [rd,setL,h0,h1] at h; exact absurd hf (by rw [← h.2]; decide)
theorem canon_opened (ws:List (List UInt8)):Canon ⟨[111,112,101,110,101,100],[105,111,116],⟨1,⟨4,0,0,0,[]⟩,0,0,[]⟩⟩ ws:=by
 intro a f h hf
 rcases ws with _ | ⟨u0,_ | ⟨u1,_ | ⟨u2,_ | ⟨z,r⟩⟩⟩⟩
 ·exact (fC h hf).elim
 ·cases h0:numW u0 with
  | none=>simp [rd,setL,h0] at h; exact absurd hf (by rw [← h.2]; decide)
  | some n0=>
   simp [rd,setL,h0] at h; exact absurd hf (by rw [← h.2]; decide)
 ·cases h0:numW u0 with
  | none=>simp [rd,setL,h0] at h; exact absurd hf (by rw [← h.2]; decide)
  | some n0=>
   cases h1:numW u1 with
   | none=>simp [rd,setL,h0,h1] at h; exact absurd hf (by rw [← h.2]; decide)
   | some n1=>
    simp [rd,setL,h0,h1] at h; exact absurd hf (by rw [← h.2]; decide)
 ·cases h0:numW u0 with
  | none=>simp [rd,setL,h0] at h; exact absurd hf (by rw [← h.2]; decide)
  | some n0=>
   cases h1:numW u1 with
   | none=>simp [rd,setL,h0,h1] at h; exact absurd hf (by rw [← h.2]; decide)
   | some n1=>
    cases h2:numW u2 with
    | none=>simp [rd,setL,h0,h1,h2] at h; exact absurd hf (by rw [← h.2]; decide)
    | some n2=>
     obtain ⟨a0,b0,c0,l0,d0⟩:=num_dg h0
     obtain ⟨a1,b1,c1,l1,d1⟩:=num_dg h1
     obtain ⟨a2,b2,c2,l2,d2⟩:=num_dg h2
     simp [rd,setL,h0,h1,h2] at h
     obtain ⟨rfl,rfl⟩:=h
     refine ⟨rfl,by simp [lineV,fld,c0,c1,c2],?_⟩
     simp (disch:=first | trivial | omega) [R_LineOf,lt,asrt_pos,ob_some,y0,k1,k2,lg0,lg1,lget,d0,Int.not_lt.2 a0,d1,Int.not_lt.2 a1,d2,Int.not_lt.2 a2]
 ·cases h0:numW u0 with
  | none=>simp [rd,setL,h0] at h; exact absurd hf (by rw [← h.2]; decide)
  | some n0=>
   cases h1:numW u1 with
   | none=>simp [rd,setL,h0,h1] at h; exact absurd hf (by rw [← h.2]; decide)
   | some n1=>
    cases h2:numW u2 with
    | none=>simp [rd,setL,h0,h1,h2] at h; exact absurd hf (by rw [← h.2]; decide)
    | some n2=>
     simp [rd,setL,h0,h1,h2] at h; exact absurd hf (by rw [← h.2]; decide)
theorem canon_close (ws:List (List UInt8)):Canon ⟨[99,108,111,115,101],[105],⟨1,⟨5,0,0,0,[]⟩,0,0,[]⟩⟩ ws:=by
 intro a f h hf
 rcases ws with _ | ⟨u0,_ | ⟨z,r⟩⟩
 ·exact (fC h hf).elim
 ·cases h0:numW u0 with
  | none=>simp [rd,setL,h0] at h; exact absurd hf (by rw [← h.2]; decide)
  | some n0=>
   obtain ⟨a0,b0,c0,l0,d0⟩:=num_dg h0
   simp [rd,setL,h0] at h
   obtain ⟨rfl,rfl⟩:=h
   refine ⟨rfl,by simp [lineV,fld,c0],?_⟩
   simp (disch:=first | trivial | omega) [R_LineOf,lt,asrt_pos,ob_some,y0,k1,k2,lg0,lg1,lget,d0,Int.not_lt.2 a0]
 ·cases h0:numW u0 with
  | none=>simp [rd,setL,h0] at h; exact absurd hf (by rw [← h.2]; decide)
  | some n0=>
   simp [rd,setL,h0] at h; exact absurd hf (by rw [← h.2]; decide)
theorem canon_closed (ws:List (List UInt8)):Canon ⟨[99,108,111,115,101,100],[105,111,116],⟨1,⟨6,0,0,0,[]⟩,0,0,[]⟩⟩ ws:=by
 intro a f h hf
 rcases ws with _ | ⟨u0,_ | ⟨u1,_ | ⟨u2,_ | ⟨z,r⟩⟩⟩⟩
 ·exact (fC h hf).elim
 ·cases h0:numW u0 with
  | none=>simp [rd,setL,h0] at h; exact absurd hf (by rw [← h.2]; decide)
  | some n0=>
   simp [rd,setL,h0] at h; exact absurd hf (by rw [← h.2]; decide)
 ·cases h0:numW u0 with
  | none=>simp [rd,setL,h0] at h; exact absurd hf (by rw [← h.2]; decide)
  | some n0=>
   cases h1:numW u1 with
   | none=>simp [rd,setL,h0,h1] at h; exact absurd hf (by rw [← h.2]; decide)
   | some n1=>
    simp [rd,setL,h0,h1] at h; exact absurd hf (by rw [← h.2]; decide)
 ·cases h0:numW u0 with
  | none=>simp [rd,setL,h0] at h; exact absurd hf (by rw [← h.2]; decide)
  | some n0=>
   cases h1:numW u1 with
   | none=>simp [rd,setL,h0,h1] at h; exact absurd hf (by rw [← h.2]; decide)
   | some n1=>
    cases h2:numW u2 with
    | none=>simp [rd,setL,h0,h1,h2] at h; exact absurd hf (by rw [← h.2]; decide)
    | some n2=>
     obtain ⟨a0,b0,c0,l0,d0⟩:=num_dg h0
     obtain ⟨a1,b1,c1,l1,d1⟩:=num_dg h1
     obtain ⟨a2,b2,c2,l2,d2⟩:=num_dg h2
     simp [rd,setL,h0,h1,h2] at h
     obtain ⟨rfl,rfl⟩:=h
     refine ⟨rfl,by simp [lineV,fld,c0,c1,c2],?_⟩
     simp (disch:=first | trivial | omega) [R_LineOf,lt,asrt_pos,ob_some,y0,k1,k2,lg0,lg1,lget,d0,Int.not_lt.2 a0,d1,Int.not_lt.2 a1,d2,Int.not_lt.2 a2]
 ·cases h0:numW u0 with
  | none=>simp [rd,setL,h0] at h; exact absurd hf (by rw [← h.2]; decide)
  | some n0=>
   cases h1:numW u1 with
   | none=>simp [rd,setL,h0,h1] at h; exact absurd hf (by rw [← h.2]; decide)
   | some n1=>
    cases h2:numW u2 with
    | none=>simp [rd,setL,h0,h1,h2] at h; exact absurd hf (by rw [← h.2]; decide)
    | some n2=>
     simp [rd,setL,h0,h1,h2] at h; exact absurd hf (by rw [← h.2]; decide)
theorem canon_split (ws:List (List UInt8)):Canon ⟨[115,112,108,105,116],[105,115],⟨1,⟨7,0,0,0,[]⟩,0,0,[]⟩⟩ ws:=by
 intro a f h hf
 rcases ws with _ | ⟨u0,_ | ⟨u1,_ | ⟨z,r⟩⟩⟩
 ·exact (fC h hf).elim
 ·cases h0:numW u0 with
  | none=>simp [rd,setL,h0] at h; exact absurd hf (by rw [← h.2]; decide)
  | some n0=>
   simp [rd,setL,h0] at h; exact absurd hf (by rw [← h.2]; decide)
 ·cases h0:numW u0 with
  | none=>simp [rd,setL,h0] at h; exact absurd hf (by rw [← h.2]; decide)
  | some n0=>
   cases h1:plainF u1 with
   | false=>simp [rd,setL,h0,h1] at h; exact absurd hf (by rw [← h.2]; decide)
   | true=>
    obtain ⟨a0,b0,c0,l0,d0⟩:=num_dg h0
    have l1:=plain_len h1
    simp [rd,setL,h0,h1] at h
    obtain ⟨rfl,rfl⟩:=h
    refine ⟨rfl,by simp [lineV,fld,c0],?_⟩
    simp (disch:=first | trivial | omega) [R_LineOf,lt,asrt_pos,ob_some,y0,k1,k2,lg0,lg1,lget,d0,Int.not_lt.2 a0]
 ·cases h0:numW u0 with
  | none=>simp [rd,setL,h0] at h; exact absurd hf (by rw [← h.2]; decide)
  | some n0=>
   cases h1:plainF u1 with
   | false=>simp [rd,setL,h0,h1] at h; exact absurd hf (by rw [← h.2]; decide)
   | true=>
    simp [rd,setL,h0,h1] at h; exact absurd hf (by rw [← h.2]; decide)
theorem canon_end (ws:List (List UInt8)):Canon ⟨[101,110,100],[104],⟨2,⟨0,0,0,0,[]⟩,0,0,[]⟩⟩ ws:=by
 intro a f h hf
 rcases ws with _ | ⟨u0,_ | ⟨z,r⟩⟩
 ·exact (fC h hf).elim
 ·cases h0:numW u0 with
  | none=>simp [rd,setL,h0] at h; exact absurd hf (by rw [← h.2]; decide)
  | some n0=>
   obtain ⟨a0,b0,c0,l0,d0⟩:=num_dg h0
   simp [rd,setL,h0] at h
   obtain ⟨rfl,rfl⟩:=h
   refine ⟨rfl,by simp [lineV,fld,c0],?_⟩
   simp (disch:=first | trivial | omega) [R_LineOf,lt,asrt_pos,ob_some,y0,k1,k2,lg0,lg1,lget,d0,Int.not_lt.2 a0]
 ·cases h0:numW u0 with
  | none=>simp [rd,setL,h0] at h; exact absurd hf (by rw [← h.2]; decide)
  | some n0=>
   simp [rd,setL,h0] at h; exact absurd hf (by rw [← h.2]; decide)
theorem canon_put (ws:List (List UInt8)):Canon ⟨[112,117,116],[104,114],⟨3,⟨0,0,0,0,[]⟩,0,0,[]⟩⟩ ws:=by
 intro a f h hf
 rcases ws with _ | ⟨u0,_ | ⟨u1,_ | ⟨z,r⟩⟩⟩
 ·exact (fC h hf).elim
 ·cases h0:numW u0 with
  | none=>simp [rd,setL,h0] at h; exact absurd hf (by rw [← h.2]; decide)
  | some n0=>
   simp [rd,setL,h0] at h; exact absurd hf (by rw [← h.2]; decide)
 ·cases h0:numW u0 with
  | none=>simp [rd,setL,h0] at h; exact absurd hf (by rw [← h.2]; decide)
  | some n0=>
   cases h1:plainF u1 with
   | false=>simp [rd,setL,h0,h1] at h; exact absurd hf (by rw [← h.2]; decide)
   | true=>
    obtain ⟨a0,b0,c0,l0,d0⟩:=num_dg h0
    have l1:=plain_len h1
    simp [rd,setL,h0,h1] at h
    obtain ⟨rfl,rfl⟩:=h
    refine ⟨rfl,by simp [lineV,fld,c0],?_⟩
    simp (disch:=first | trivial | omega) [R_LineOf,lt,asrt_pos,ob_some,y0,k1,k2,lg0,lg1,lget,d0,Int.not_lt.2 a0]
 ·cases h0:numW u0 with
  | none=>simp [rd,setL,h0] at h; exact absurd hf (by rw [← h.2]; decide)
  | some n0=>
   cases h1:plainF u1 with
   | false=>simp [rd,setL,h0,h1] at h; exact absurd hf (by rw [← h.2]; decide)
   | true=>
    simp [rd,setL,h0,h1] at h; exact absurd hf (by rw [← h.2]; decide)
theorem canon_get (ws:List (List UInt8)):Canon ⟨[103,101,116],[104,114],⟨4,⟨0,0,0,0,[]⟩,0,0,[]⟩⟩ ws:=by
 intro a f h hf
 rcases ws with _ | ⟨u0,_ | ⟨u1,_ | ⟨z,r⟩⟩⟩
 ·exact (fC h hf).elim
 ·cases h0:numW u0 with
  | none=>simp [rd,setL,h0] at h; exact absurd hf (by rw [← h.2]; decide)
  | some n0=>
   simp [rd,setL,h0] at h; exact absurd hf (by rw [← h.2]; decide)
 ·cases h0:numW u0 with
  | none=>simp [rd,setL,h0] at h; exact absurd hf (by rw [← h.2]; decide)
  | some n0=>
   cases h1:plainF u1 with
   | false=>simp [rd,setL,h0,h1] at h; exact absurd hf (by rw [← h.2]; decide)
   | true=>
    obtain ⟨a0,b0,c0,l0,d0⟩:=num_dg h0
    have l1:=plain_len h1
    simp [rd,setL,h0,h1] at h
    obtain ⟨rfl,rfl⟩:=h
    refine ⟨rfl,by simp [lineV,fld,c0],?_⟩
    simp (disch:=first | trivial | omega) [R_LineOf,lt,asrt_pos,ob_some,y0,k1,k2,lg0,lg1,lget,d0,Int.not_lt.2 a0]
 ·cases h0:numW u0 with
  | none=>simp [rd,setL,h0] at h; exact absurd hf (by rw [← h.2]; decide)
  | some n0=>
   cases h1:plainF u1 with
   | false=>simp [rd,setL,h0,h1] at h; exact absurd hf (by rw [← h.2]; decide)
   | true=>
    simp [rd,setL,h0,h1] at h; exact absurd hf (by rw [← h.2]; decide)
theorem canon_post (ws:List (List UInt8)):Canon ⟨[112,111,115,116],[110],⟨5,⟨0,0,0,0,[]⟩,0,0,[]⟩⟩ ws:=by
 intro a f h hf
 rcases ws with _ | ⟨u0,_ | ⟨z,r⟩⟩
 ·exact (fC h hf).elim
 ·cases h0:numW u0 with
  | none=>simp [rd,setL,h0] at h; exact absurd hf (by rw [← h.2]; decide)
  | some n0=>
   obtain ⟨a0,b0,c0,l0,d0⟩:=num_dg h0
   simp [rd,setL,h0] at h
   obtain ⟨rfl,rfl⟩:=h
   refine ⟨rfl,by simp [lineV,fld,c0],?_⟩
   simp (disch:=first | trivial | omega) [R_LineOf,lt,asrt_pos,ob_some,y0,k1,k2,lg0,lg1,lget,d0,Int.not_lt.2 a0]
 ·cases h0:numW u0 with
  | none=>simp [rd,setL,h0] at h; exact absurd hf (by rw [← h.2]; decide)
  | some n0=>
   simp [rd,setL,h0] at h; exact absurd hf (by rw [← h.2]; decide)
theorem canon_drop (ws:List (List UInt8)):Canon ⟨[100,114,111,112],[110],⟨6,⟨0,0,0,0,[]⟩,0,0,[]⟩⟩ ws:=by
 intro a f h hf
 rcases ws with _ | ⟨u0,_ | ⟨z,r⟩⟩
 ·exact (fC h hf).elim
 ·cases h0:numW u0 with
  | none=>simp [rd,setL,h0] at h; exact absurd hf (by rw [← h.2]; decide)
  | some n0=>
   obtain ⟨a0,b0,c0,l0,d0⟩:=num_dg h0
   simp [rd,setL,h0] at h
   obtain ⟨rfl,rfl⟩:=h
   refine ⟨rfl,by simp [lineV,fld,c0],?_⟩
   simp (disch:=first | trivial | omega) [R_LineOf,lt,asrt_pos,ob_some,y0,k1,k2,lg0,lg1,lget,d0,Int.not_lt.2 a0]
 ·cases h0:numW u0 with
  | none=>simp [rd,setL,h0] at h; exact absurd hf (by rw [← h.2]; decide)
  | some n0=>
   simp [rd,setL,h0] at h; exact absurd hf (by rw [← h.2]; decide)
theorem canon_flush (ws:List (List UInt8)):Canon ⟨[102,108,117,115,104],[114],⟨7,⟨0,0,0,0,[]⟩,0,0,[]⟩⟩ ws:=by
 intro a f h hf
 rcases ws with _ | ⟨u0,_ | ⟨z,r⟩⟩
 ·exact (fC h hf).elim
 ·cases h0:plainF u0 with
  | false=>simp [rd,setL,h0] at h; exact absurd hf (by rw [← h.2]; decide)
  | true=>
   have l0:=plain_len h0
   simp [rd,setL,h0] at h
   obtain ⟨rfl,rfl⟩:=h
   refine ⟨rfl,by simp [lineV,fld],?_⟩
   simp (disch:=first | trivial | omega) [R_LineOf,lt,asrt_pos,ob_some,y0,k1,k2,lg0,lg1,lget]
 ·cases h0:plainF u0 with
  | false=>simp [rd,setL,h0] at h; exact absurd hf (by rw [← h.2]; decide)
  | true=>
   simp [rd,setL,h0] at h; exact absurd hf (by rw [← h.2]; decide)
theorem canon_cut (ws:List (List UInt8)):Canon ⟨[99,117,116],[114],⟨7,⟨0,0,0,0,[]⟩,0,1,[]⟩⟩ ws:=by
 intro a f h hf
 rcases ws with _ | ⟨u0,_ | ⟨z,r⟩⟩
 ·exact (fC h hf).elim
 ·cases h0:plainF u0 with
  | false=>simp [rd,setL,h0] at h; exact absurd hf (by rw [← h.2]; decide)
  | true=>
   have l0:=plain_len h0
   simp [rd,setL,h0] at h
   obtain ⟨rfl,rfl⟩:=h
   refine ⟨rfl,by simp [lineV,fld],?_⟩
   simp (disch:=first | trivial | omega) [R_LineOf,lt,asrt_pos,ob_some,y0,k1,k2,lg0,lg1,lget]
 ·cases h0:plainF u0 with
  | false=>simp [rd,setL,h0] at h; exact absurd hf (by rw [← h.2]; decide)
  | true=>
   simp [rd,setL,h0] at h; exact absurd hf (by rw [← h.2]; decide)
theorem canon_pack (ws:List (List UInt8)):Canon ⟨[112,97,99,107],[114],⟨7,⟨0,0,0,0,[]⟩,0,2,[]⟩⟩ ws:=by
 intro a f h hf
 rcases ws with _ | ⟨u0,_ | ⟨z,r⟩⟩
 ·exact (fC h hf).elim
 ·cases h0:plainF u0 with
  | false=>simp [rd,setL,h0] at h; exact absurd hf (by rw [← h.2]; decide)
  | true=>
   have l0:=plain_len h0
   simp [rd,setL,h0] at h
   obtain ⟨rfl,rfl⟩:=h
   refine ⟨rfl,by simp [lineV,fld],?_⟩
   simp (disch:=first | trivial | omega) [R_LineOf,lt,asrt_pos,ob_some,y0,k1,k2,lg0,lg1,lget]
 ·cases h0:plainF u0 with
  | false=>simp [rd,setL,h0] at h; exact absurd hf (by rw [← h.2]; decide)
  | true=>
   simp [rd,setL,h0] at h; exact absurd hf (by rw [← h.2]; decide)
theorem canon_verb:∀ v∈desk_verbs,∀ ws,Canon v ws:=by
 unfold desk_verbs lt
 intro v hv ws
 simp only [List.mem_cons,List.not_mem_nil,or_false] at hv
 rcases hv with rfl | rfl | rfl | rfl | rfl | rfl | rfl | rfl | rfl | rfl | rfl | rfl | rfl | rfl | rfl
 ·exact canon_come ws
 ·exact canon_lost ws
 ·exact canon_open ws
 ·exact canon_opened ws
 ·exact canon_close ws
 ·exact canon_closed ws
 ·exact canon_split ws
 ·exact canon_end ws
 ·exact canon_put ws
 ·exact canon_get ws
 ·exact canon_post ws
 ·exact canon_drop ws
 ·exact canon_flush ws
 ·exact canon_cut ws
 ·exact canon_pack ws
theorem canon {l:List UInt8} {a:Act} {f:Fault} (h:actF l=(a,f)) (hf:f.Code=0):f=⟨0,0⟩∧R_LineOf a=some l∧∃ v∈desk_verbs,lineV v a=l:=by
 unfold actF at h
 split at h
 ·cases h; exact absurd hf (by decide)
 ·cases hs:splA [] l with
  | nil=>exact absurd hs (splA_ne l [])
  | cons w ws=>
   rw [hs] at h
   cases hv:verbF w with
   | none=>simp only [hv] at h; exact (fC h hf).elim
   | some v=>
    simp only [hv] at h
    obtain ⟨h1,rfl⟩:=verbF_some hv
    obtain ⟨e1,e2,e3⟩:=canon_verb v h1 ws a f h hf
    have:=splA_join l [] v.word ws hs
    simp only [List.nil_append] at this
    rw [← this] at e2 e3
    exact ⟨e1,e3,v,h1,e2⟩
abbrev I64 (n:Int):Prop:=-9223372036854775808≤n∧n≤9223372036854775807
structure AOk (a:Act):Prop where
 kd:I64 a.Kind
 ok:I64 a.Order.Kind
 id:I64 a.Order.ID
 oh:I64 a.Order.Host
 tn:I64 a.Order.Turn
 hs:I64 a.Host
 nn:I64 a.N
 r1:a.Order.Row.length≤140737488351232
 r2:a.Row.length≤140737488351232
theorem rd_cases:∀ (cs:List UInt8) (ws:List (List UInt8)) (k:Nat) (a:Act),(∃ b,rd cs ws k a=(b,⟨0,0⟩))∨∃ j:Nat,rd cs ws k a=(zAct,⟨1,j⟩)
 | [],[],k,a=>.inl ⟨a,rfl⟩
 | [],_::_,k,a=>.inr ⟨k,rfl⟩
 | _::_,[],k,a=>.inr ⟨k,rfl⟩
 | c::cs,w::ws,k,a=>by
  simp only [rd]
  cases setL c w a with
  | none=>exact .inr ⟨k,rfl⟩
  | some b=>exact rd_cases cs ws (k+1) b
theorem act_cases (l:List UInt8):(∃ a,actF l=(a,⟨0,0⟩))∨((actF l).1=zAct∧(actF l).2.Code≠0):=by
 unfold actF
 split
 ·exact .inr ⟨rfl,by decide⟩
 ·split
  ·exact .inr ⟨rfl,by decide⟩
  ·split
   ·exact .inr ⟨rfl,by decide⟩
   ·rename_i v _
    rcases rd_cases v.words _ 1 v.act with ⟨b,e⟩ | ⟨j,e⟩
    ·exact .inl ⟨b,e⟩
    ·rw [e]; exact .inr ⟨rfl,show (1:Int)≠0 by decide⟩
theorem eqA (a b:Act):(decide (a.Kind=b.Kind)&&(decide (a.Order.Kind=b.Order.Kind)&&(decide (a.Order.ID=b.Order.ID)&&(decide (a.Order.Host=b.Order.Host)&&(decide (a.Order.Turn=b.Order.Turn)&&(decide (a.Order.Row=b.Order.Row)&&(decide (a.Host=b.Host)&&(decide (a.N=b.N)&&(decide (a.Row=b.Row)&&true)))))))))=decide (a=b):=by
 obtain ⟨k,⟨o1,o2,o3,o4,o5⟩,h,n,r⟩:=a
 obtain ⟨k',⟨p1,p2,p3,p4,p5⟩,h',n',r'⟩:=b
 refine b_iff ?_
 simp [and_assoc]
theorem itoa_s {n:Int} (h:I64 n):strconv_Itoa n=some (Lib.itoa n):=by unfold strconv_Itoa; rw [asrt_pos h]
theorem fld_len {a:Act} (h:AOk a) (c:UInt8):(fld c a).length≤140737488351232:=by
 have L:∀ {n:Int},I64 n→(Lib.itoa n).length≤140737488351232:=fun hn=>Nat.le_trans (itoa_len hn.1 hn.2) (by decide)
 unfold fld
 split
 ·exact L h.hs
 split
 ·exact L h.id
 split
 ·exact L h.oh
 split
 ·exact L h.tn
 split
 ·exact L h.nn
 split
 ·exact h.r1
 ·exact h.r2
theorem wr_B {a:Act} (h:AOk a) (c:UInt8) (hc:c∈lets) (j:Int) (v:List UInt8) (hv:v.length≤1000000000000000000):desk_Write_B2 a j (c.toNat:Int) v=some (.inl (v++32::fld c a)):=by
 have key:∀ n:Int,I64 n→(ob (strconv_Itoa n) fun x3=>asrt ((([32]:List UInt8).length:Int)+x3.length≤9223372036854775807) <| asrt ((v.length:Int)+(([32]:List UInt8)++x3).length≤9223372036854775807) <| some (Sum.inl (v++(([32]:List UInt8)++x3))):Option ((List UInt8)⊕(Int⊕(List UInt8×Fault))))=some (.inl (v++32::Lib.itoa n)):=fun n hn=>by
  have:=itoa_len hn.1 hn.2
  rw [itoa_s hn,ob_some,asrt_pos (by simp; omega),asrt_pos (by simp; omega)]
  rfl
 have key2:∀ r:List UInt8,r.length≤140737488351232→(asrt ((([32]:List UInt8).length:Int)+r.length≤9223372036854775807) <| asrt ((v.length:Int)+(([32]:List UInt8)++r).length≤9223372036854775807) <| some (Sum.inl (v++(([32]:List UInt8)++r))):Option ((List UInt8)⊕(Int⊕(List UInt8×Fault))))=some (.inl (v++32::r)):=fun r hr=>by
  rw [asrt_pos (by simp; omega),asrt_pos (by simp; omega)]
  rfl
 unfold desk_Write_B2
 simp only [lets,List.mem_cons,List.not_mem_nil,or_false] at hc
 rcases hc with rfl | rfl | rfl | rfl | rfl | rfl | rfl
 ·rw [if_pos (by decide)]; exact key a.Host h.hs
 ·rw [if_neg (by decide),if_pos (by decide)]; exact key a.Order.ID h.id
 ·rw [if_neg (by decide),if_neg (by decide),if_pos (by decide)]; exact key a.Order.Host h.oh
 ·rw [if_neg (by decide),if_neg (by decide),if_neg (by decide),if_pos (by decide)]; exact key a.Order.Turn h.tn
 ·rw [if_neg (by decide),if_neg (by decide),if_neg (by decide),if_neg (by decide),if_pos (by decide)]; exact key a.N h.nn
 ·rw [if_neg (by decide),if_neg (by decide),if_neg (by decide),if_neg (by decide),if_neg (by decide),if_pos (by decide)]; exact key2 a.Order.Row h.r1
 ·rw [if_neg (by decide),if_neg (by decide),if_neg (by decide),if_neg (by decide),if_neg (by decide),if_neg (by decide),asrt_pos (by decide)]; exact key2 a.Row h.r2
theorem wr_rng {a:Act} (h:AOk a) (fin:List UInt8→Option (Int⊕(List UInt8×Fault))):∀ (cs:List UInt8) (j:Nat) (v:List UInt8),(∀ c∈cs,c∈lets)→v.length+cs.length*200000000000000≤1000000000000000000→rngO fin (fun j c y=>desk_Write_B2 a j c y) j cs v=fin (v++cs.flatMap fun c=>32::fld c a)
 | [],j,v,hc,hl=>by simp [rngO]
 | c::cs,j,v,hc,hl=>by
  simp only [List.length_cons] at hl
  have:=fld_len h c
  unfold rngO
  rw [wr_B h c (hc c (by simp)) _ v (by omega)]
  show rngO fin _ (j+1) cs (v++32::fld c a)=_
  rw [wr_rng h fin cs (j+1) _ (fun c hc'=>hc c (by simp [hc'])) (by simp; omega)]
  simp
def says (l:List UInt8) (a:Act):Bool:=decide ((actF l).2.Code=0)&&decide (a=(actF l).1)
def wrF:List verb→Act→List UInt8×Fault
 | [],_=>([],⟨5,0⟩)
 | v::t,a=>if says (lineV v a) a=true then (lineV v a,(actF (lineV v a)).2) else wrF t a
theorem wr_E (a:Act) (k:Int) (l:List UInt8):desk_Write_E2 a k l=some (if says l a=true then .inr (l,(actF l).2) else .inl (w64 (k+1))):=by
 unfold desk_Write_E2
 rw [read_eq,ob_some,eqA a (actF l).1]
 show (if says l a=true then _ else _)=_
 cases says l a <;> rfl
theorem wr_loop {a:Act} (h:AOk a):∀ (t:List verb) (k:Nat),desk_verbs.drop k=t→k≤desk_verbs.length→desk_Write_L1 a desk_verbs (k:Int)=some (wrF t a)
 | [],k,ht,hk=>by
  have hl:desk_verbs.length≤k:=by have:=congrArg List.length ht; simp at this; omega
  unfold desk_Write_L1
  refine loopO_inr ?_
  show desk_Write_B1 a desk_verbs (k:Int)=_
  unfold desk_Write_B1
  rw [if_neg (d_f (by omega))]; rfl
 | v::t,k,ht,hk=>by
  have hl:k<desk_verbs.length:=by have:=congrArg List.length ht; simp at this; omega
  have h15:desk_verbs.length=15:=rfl
  have hv:lget desk_verbs (k:Int)=v:=by rw [lget_drop desk_verbs k hl] at ht; exact (List.cons.inj ht).1
  have ht':desk_verbs.drop (k+1)=t:=by rw [lget_drop desk_verbs k hl] at ht; exact (List.cons.inj ht).2
  have hw:w64 ((k:Int)+1)=((k+1:Nat):Int):=by rw [w64_id (by omega) (by omega)]; omega
  obtain ⟨v1,v2,v3,v4⟩:=verb_lets v (by rw [← hv]; exact lget_mem desk_verbs (k:Int) (by omega))
  have step:desk_Write_B1 a desk_verbs (k:Int)=some (if says (lineV v a) a=true then .inr (lineV v a,(actF (lineV v a)).2) else .inl ((k+1:Nat):Int)):=by
   unfold desk_Write_B1
   rw [if_pos (d_t (by omega)),asrt_pos (by omega),hv,asrt_pos v2,wr_rng h _ v.words 0 v.word v1 (by omega)]
   show desk_Write_E2 a (k:Int) (lineV v a)=_
   rw [wr_E,hw]
  unfold desk_Write_L1 at *
  simp only [wrF]
  by_cases q:says (lineV v a) a=true
  ·rw [if_pos q] at step
   rw [if_pos q]
   exact loopO_inr (step:=fun y=>desk_Write_B1 a desk_verbs y) step
  ·rw [if_neg q] at step
   rw [if_neg q,loopO_inl (step:=fun y=>desk_Write_B1 a desk_verbs y) step]
   have:=wr_loop h t (k+1) ht' (by omega)
   unfold desk_Write_L1 at this
   exact this
theorem write_eq {a:Act} (h:AOk a):desk_Write a=some (wrF desk_verbs a):=wr_loop h desk_verbs 0 rfl (Nat.zero_le _)
theorem says_iff {l:List UInt8} {a:Act}:says l a=true↔actF l=(a,⟨0,0⟩):=by
 unfold says
 rw [Bool.and_eq_true,decide_eq_true_eq,decide_eq_true_eq]
 constructor
 ·rintro ⟨h1,h2⟩
  rcases act_cases l with ⟨b,e⟩ | ⟨_,h⟩
  ·rw [e] at h2 ⊢; rw [h2]
  ·exact absurd h1 h
 ·intro h; rw [h]; exact ⟨rfl,rfl⟩
theorem wr_cases (a:Act):∀ t:List verb,(∃ l,actF l=(a,⟨0,0⟩)∧wrF t a=(l,⟨0,0⟩))∨((∀ v∈t,¬ actF (lineV v a)=(a,⟨0,0⟩))∧wrF t a=([],⟨5,0⟩))
 | []=>.inr ⟨fun v hv=>(by cases hv),rfl⟩
 | v::t=>by
  simp only [wrF]
  by_cases q:says (lineV v a) a=true
  ·rw [if_pos q]
   have:=says_iff.1 q
   exact .inl ⟨_,this,by rw [this]⟩
  ·rw [if_neg q]
   rcases wr_cases a t with h | ⟨h1,h2⟩
   ·exact .inl h
   ·refine .inr ⟨fun u hu=>?_,h2⟩
    rcases List.mem_cons.1 hu with rfl | hu
    ·exact fun e=>q (says_iff.2 e)
    ·exact h1 u hu
theorem wr_line {a:Act} {s:List UInt8} (hs:R_LineOf a=some s):(actF s=(a,⟨0,0⟩)∧wrF desk_verbs a=(s,⟨0,0⟩))∨(¬ actF s=(a,⟨0,0⟩)∧wrF desk_verbs a=([],⟨5,0⟩)):=by
 rcases wr_cases a desk_verbs with ⟨l,h1,h2⟩ | ⟨h1,h2⟩
 ·obtain ⟨_,e,_⟩:=canon h1 rfl
  rw [hs] at e
  cases e
  exact .inl ⟨h1,h2⟩
 ·refine .inr ⟨fun h=>?_,h2⟩
  obtain ⟨_,_,v,hv,e⟩:=canon h rfl
  exact h1 v hv (by rw [e]; exact h)
theorem wr_back {l:List UInt8} {a:Act} (h:actF l=(a,⟨0,0⟩)):wrF desk_verbs a=(l,⟨0,0⟩):=by
 obtain ⟨_,e,_⟩:=canon h rfl
 rcases wr_line e with ⟨_,h2⟩ | ⟨h1,_⟩
 ·exact h2
 ·exact absurd h h1
theorem line_total {a:Act} (h:AOk a):∃ s,R_LineOf a=some s:=by
 obtain ⟨k,⟨o1,o2,o3,o4,o5⟩,hh,n,r⟩:=a
 obtain ⟨h1,h2,h3,h4,h5,h6,h7,h8,h9⟩:=h
 simp only [I64] at h1 h2 h3 h4 h5 h6 h7 h8 h9
 have dg:∀ x:Int,0≤x→x≤9223372036854775807→R_Digits x=some (Lib.itoa x)∧(Lib.itoa x).length≤20:=fun x q1 q2=>⟨digits_eq q1 q2,itoa_len (by omega) q2⟩
 by_cases c1:k=1
 ·subst c1
  by_cases c2:o1<1∨7<o1∨o2<0∨o3<0∨o4<0
  ·refine ⟨[],?_⟩
   have c3:(((o1<1∨7<o1)∨o2<0)∨o3<0)∨o4<0:=by omega
   simp [R_LineOf,lt,c3]
  ·obtain ⟨d2,l2⟩:=dg o2 (by omega) h3.2
   obtain ⟨d3,l3⟩:=dg o3 (by omega) h4.2
   obtain ⟨d4,l4⟩:=dg o4 (by omega) h5.2
   have b2:¬ o2<0:=by omega
   have b3:¬ o3<0:=by omega
   have b4:¬ o4<0:=by omega
   have:o1=1∨o1=2∨o1=3∨o1=4∨o1=5∨o1=6∨o1=7:=by omega
   rcases this with rfl | rfl | rfl | rfl | rfl | rfl | rfl <;>
    simp (disch:=first | trivial | omega) [R_LineOf,lt,asrt_pos,ob_some,lget,d2,d3,d4,Int.not_lt.1 b2,Int.not_lt.1 b3,Int.not_lt.1 b4,b2,b3,b4]
 ·by_cases c2:k=2∨k=3∨k=4
  ·by_cases c3:hh<0
   ·rcases c2 with rfl | rfl | rfl <;> simp [R_LineOf,lt,ob_some,c3]
   ·obtain ⟨d,l⟩:=dg hh (by omega) h6.2
    have e0:w64 (2 - 2)=0:=by decide
    have e1:w64 (3 - 2)=1:=by decide
    have e2:w64 (4 - 2)=2:=by decide
    rcases c2 with rfl | rfl | rfl <;>
     simp (disch:=first | trivial | omega) [R_LineOf,lt,asrt_pos,ob_some,lget,d,c3,Int.not_lt.1 c3,y0,k1,k2]
  ·by_cases c4:k=5∨k=6
   ·by_cases c3:n<0
    ·rcases c4 with rfl | rfl <;> simp [R_LineOf,lt,ob_some,c3]
    ·obtain ⟨d,l⟩:=dg n (by omega) h7.2
     rcases c4 with rfl | rfl <;>
      simp (disch:=first | trivial | omega) [R_LineOf,lt,asrt_pos,ob_some,lget,d,c3,Int.not_lt.1 c3,y0,k1,k2]
   ·by_cases c5:k=7
    ·subst c5
     by_cases c3:n<0∨2<n
     ·simp [R_LineOf,lt,ob_some,c3]
     ·have:n=0∨n=1∨n=2:=by omega
      rcases this with rfl | rfl | rfl <;>
       simp (disch:=first | trivial | omega) [R_LineOf,lt,asrt_pos,ob_some,lget]
    ·have n2:¬ k=2:=fun e=>c2 (.inl e)
     have n3:¬ k=3:=fun e=>c2 (.inr (.inl e))
     have n4:¬ k=4:=fun e=>c2 (.inr (.inr e))
     have n5:¬ k=5:=fun e=>c4 (.inl e)
     have n6:¬ k=6:=fun e=>c4 (.inr e)
     simp [R_LineOf,lt,ob_some,c1,n2,n3,n4,n5,n6,c5]
theorem set_ok {c:UInt8} {w:List UInt8} {a b:Act} (h:AOk a) (hs:setL c w a=some b):AOk b:=by
 obtain ⟨h1,h2,h3,h4,h5,h6,h7,h8,h9⟩:=h
 have num:∀ {f:Int→Act},(numW w).map f=some b→∃ n,I64 n∧f n=b:=fun {f} e=>by
  cases hn:numW w with
  | none=>rw [hn] at e; cases e
  | some n=>
   rw [hn] at e
   obtain ⟨q1,q2,_⟩:=numW_iff.1 hn
   exact ⟨n,⟨by omega,by omega⟩,Option.some.inj e⟩
 unfold setL at hs
 split at hs
 ·obtain ⟨n,q,rfl⟩:=num hs; exact ⟨h1,h2,h3,h4,h5,q,h7,h8,h9⟩
 split at hs
 ·obtain ⟨n,q,rfl⟩:=num hs; exact ⟨h1,h2,q,h4,h5,h6,h7,h8,h9⟩
 split at hs
 ·obtain ⟨n,q,rfl⟩:=num hs; exact ⟨h1,h2,h3,q,h5,h6,h7,h8,h9⟩
 split at hs
 ·obtain ⟨n,q,rfl⟩:=num hs; exact ⟨h1,h2,h3,h4,q,h6,h7,h8,h9⟩
 split at hs
 ·obtain ⟨n,q,rfl⟩:=num hs; exact ⟨h1,h2,h3,h4,h5,h6,q,h8,h9⟩
 split at hs
 ·split at hs
  ·rename_i hp
   have:=plain_len hp
   cases hs; exact ⟨h1,h2,h3,h4,h5,h6,h7,by show w.length≤_; omega,h9⟩
  ·cases hs
 ·split at hs
  ·rename_i hp
   have:=plain_len hp
   cases hs; exact ⟨h1,h2,h3,h4,h5,h6,h7,h8,by show w.length≤_; omega⟩
  ·cases hs
theorem z_ok:AOk zAct:=by
 refine ⟨?_,?_,?_,?_,?_,?_,?_,?_,?_⟩ <;> decide
theorem rd_ok:∀ (cs:List UInt8) (ws:List (List UInt8)) (k:Nat) (a:Act),AOk a→AOk (rd cs ws k a).1
 | [],[],k,a,h=>h
 | [],_::_,k,a,h=>z_ok
 | _::_,[],k,a,h=>z_ok
 | c::cs,w::ws,k,a,h=>by
  simp only [rd]
  cases hs:setL c w a with
  | none=>exact z_ok
  | some b=>exact rd_ok cs ws (k+1) b (set_ok h hs)
theorem verb_ok:∀ v∈desk_verbs,AOk v.act:=by
 unfold desk_verbs lt
 intro v hv
 simp only [List.mem_cons,List.not_mem_nil,or_false] at hv
 rcases hv with rfl | rfl | rfl | rfl | rfl | rfl | rfl | rfl | rfl | rfl | rfl | rfl | rfl | rfl | rfl <;> (refine ⟨?_,?_,?_,?_,?_,?_,?_,?_,?_⟩ <;> decide)
theorem act_ok (l:List UInt8):AOk (actF l).1:=by
 unfold actF
 split
 ·exact z_ok
 ·split
  ·exact z_ok
  ·split
   ·exact z_ok
   ·rename_i v hv
    exact rd_ok _ _ _ _ (verb_ok v (verbF_some hv).1)
theorem eqF (a b:Fault):(decide (a.Code=b.Code)&&(decide (a.At=b.At)&&true))=decide (a=b):=by
 obtain ⟨c,d⟩:=a
 obtain ⟨c',d'⟩:=b
 refine b_iff ?_
 simp
theorem DeskLines_eq (line:List UInt8) {a:Act} (h:AOk a):law_DeskLines line a=some true:=by
 unfold law_DeskLines
 have e0:law_deskBegun=some true:=rfl
 rw [e0,ob_some,if_neg (by decide)]
 split
 ·rfl
 rw [read_eq,ob_some,write_eq h,ob_some,said_eq,ob_some]
 obtain ⟨s,hs⟩:=line_total h
 rw [eqA,eqF,if_neg (by simp),hs,ob_some,said_eq,ob_some,eqA]
 rcases wr_line hs with ⟨h1,h2⟩ | ⟨h1,h2⟩
 ·rw [h1,h2]; simp
 ·rw [h2]
  have q:((!decide ((actF s).2.Code=0)) || !decide ((actF s).1=a))=true:=by
   rcases act_cases s with ⟨b,e⟩ | ⟨_,e⟩
   ·rw [e] at h1 ⊢
    have:¬ b=a:=fun q=>h1 (by rw [q])
    simp [this]
   ·simp [e]
  rw [if_pos q]
  rfl
theorem DeskBack_eq (line:List UInt8) {a:Act} (h:AOk a):law_DeskBack line a=some true:=by
 have hJ:law_DeskBack_J1 a ()=some true:=by
  unfold law_DeskBack_J1
  rw [write_eq h,ob_some]
  rcases wr_cases a desk_verbs with ⟨l,h1,h2⟩ | ⟨h1,h2⟩
  ·rw [h2,if_neg (by simp),read_eq,ob_some,h1]
   unfold lt
   rw [eqA]; simp
  ·rw [h2]; rfl
 unfold law_DeskBack
 have e0:law_deskBegun=some true:=rfl
 rw [e0,ob_some,if_neg (by decide),read_eq,ob_some]
 rcases act_cases line with ⟨b,e⟩ | ⟨e1,e2⟩
 ·have hb:=act_ok line
  rw [e] at hb ⊢
  rw [if_pos (by rfl),write_eq hb,ob_some,wr_back e,if_neg (by simp)]
  exact hJ
 ·rw [if_neg (by simpa using e2),e1,if_neg (by decide)]
  exact hJ
end G
end Go.Proofs.YtcifgljlmieblaaGreatDoor
