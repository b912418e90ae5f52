/- The plain law. -/
import Derived.Test.YticbfakiihfgmaaGreatEmE
import Derived.Test.YticbfakiihfgmaaGreatGf4
import Derived.Test.YticbfakiihfgmaaGreatEmD
namespace Go.Proofs.YticbfakiihfgmaaGreat
open Go Go.Dm
set_option linter.unusedVariables false
set_option linter.unusedSimpArgs false
set_option linter.unusedSectionVars false
namespace G
theorem addNum_loop (n:Nat):∀ (r:List UInt8),r.length+(num n).length≤1000000000000→wire_AddNum_v2_L1 (r,(n:Int))=some (r++num n):=by
 induction n using Nat.strongRecOn with
 | _ n ih=>
  intro r h
  by_cases c:n<128
  ·rw [num_lt c] at h ⊢
   refine zah ?_
   simp only [wire_AddNum_v2_B1]
   rw [if_neg (d_f (by omega))]
   simp only [wire_AddNum_v2_J1,zd7]
   rw [zaa (by simp at h ⊢; omega)]; rfl
  ·rw [num_ge c] at h ⊢
   have e7:(2:Int) ^ (min (7:Int).toNat 64)=((128:Nat):Int):=by decide
   have e8:(UInt8.ofNat n).toNat % 128+128=n % 128+128:=by rw [UInt8.toNat_ofNat']; omega
   refine (zam (y:=(r++[UInt8.ofNat (n % 128+128)],((n / 128:Nat):Int))) ?_).trans ((ih (n / 128) (by omega) _ (by simp at h ⊢; omega)).trans (by simp))
   simp only [wire_AddNum_v2_B1,or128]
   rw [zd7,e8,e7,fdiv_nat,if_pos (d_t (by omega)),zaa (by simp at h ⊢; omega)]
   rfl
theorem addNum_eq (n:Nat) (r:List UInt8) (h:r.length+(num n).length≤1000000000000):ze2 (n:Int) r=some (r++num n):=addNum_loop n r h
def rfin (bd:Bool):Option (Nat×List UInt8)→Int×Reader
 | some (n,r)=>((n:Int),⟨r,bd⟩)
 | none=>(0,⟨[],true⟩)
theorem pow128 (i:Nat):128 ^ i=2 ^ (7*i):=by rw [Nat.pow_mul]
theorem num_loop (b:List UInt8) (bd:Bool) (hb:b.length≤1000000000000):∀ (m i n:Nat),b.length - i=m→i≤b.length→i≤5→n<128 ^ i→
  wire_Reader_Num_L1 (⟨b,bd⟩,(n:Int),b,(b.length:Int),(i:Int))=some (rfin bd (go i n (b.drop i)))
 | 0,i,n,e,hi,h5,hn=>by
  have:i=b.length:=by omega
  subst this
  refine zah ?_
  simp only [zdi]
  rw [if_neg (d_f (by omega))]
  simp [zem,zeo,go,rfin]
 | m+1,i,n,e,hi,h5,hn=>by
  have hlt:i<b.length:=by omega
  have hw:w64 ((i:Int)+1)=((i+1:Nat):Int):=by rw [zai (by omega) (by omega)]; omega
  have hw7:w64 (7*(i:Int))=((7*i:Nat):Int):=by rw [zai (by omega) (by omega)]; omega
  rw [zcp b i hlt,go]
  generalize hx:zaf b (i:Int)=x
  by_cases c5:4<i
  ·rw [if_pos (.inl c5)]
   refine zah ?_
   simp only [zdi]
   rw [if_pos (d_t (by omega)),zaa (by omega),zaa (by omega)]
   have c5':decide (4<(i:Int))=true:=d_t (by omega)
   simp only [lt,c5',Bool.true_or,if_true]
   rfl
  ·have hP:128 ^ i≤128 ^ 4:=Nat.pow_le_pow_right (by omega) (by omega)
   have hP4:(128:Nat) ^ 4=268435456:=by decide
   have hy:x.toNat % 128<128:=by omega
   have hyP:x.toNat % 128*128 ^ i≤127*128 ^ 4:=Nat.mul_le_mul (by omega) hP
   have epow:(2:Int) ^ (min (((7*i:Nat):Int)).toNat 64)=((128 ^ i:Nat):Int):=by
    rw [Int.toNat_natCast,show min (7*i) 64=7*i by omega,pow128]; simp
   have e2:bitsOp .or .i64 (n:Int) (w64 ((w64 ((x.toNat % 128:Nat):Int))*((128 ^ i:Nat):Int)))=((n+x.toNat % 128*128 ^ i:Nat):Int):=by
    rw [zai (x:=((x.toNat % 128:Nat):Int)) (by omega) (by omega),← Int.natCast_mul,zai (by omega) (by omega),bits_or64 (by omega) (by omega)]
    rw [pow128] at hn ⊢
    rw [or_add hn]
   by_cases cb:1000000000<n+x.toNat % 128*128 ^ i
   ·rw [if_pos (.inr cb)]
    refine zah ?_
    simp only [zdi,hw7,hx,and127,epow,e2]
    rw [if_pos (d_t (by omega)),zaa (by omega),zaa (by omega)]
    have cb':decide ((1000000000:Int)<((n+x.toNat % 128*128 ^ i:Nat):Int))=true:=d_t (by omega)
    simp only [lt,cb',Bool.or_true,if_true]
    rfl
   ·rw [if_neg (by omega)]
    have cb':(decide (4<(i:Int))||decide ((1000000000:Int)<((n+x.toNat % 128*128 ^ i:Nat):Int)))=false:=by rw [Bool.or_eq_false_iff]; exact ⟨decide_eq_false (by omega),decide_eq_false (by omega)⟩
    have e128:((128:UInt8).toNat:Int)=128:=by decide
    have e0:((0:UInt8).toNat:Int)=0:=by decide
    by_cases cx:x.toNat<128
    ·rw [if_pos cx]
     by_cases c0:0<i∧x.toNat=0
     ·rw [if_pos c0]
      refine zah ?_
      simp only [zdi,hw7,hx,and127,epow,e2,e128,e0]
      rw [if_pos (d_t (by omega)),zaa (by omega),zaa (by omega)]
      simp only [lt,cb',Bool.false_eq_true,if_false]
      rw [if_pos (d_t (by omega)),if_pos (by simp; omega)]
      rfl
     ·rw [if_neg c0]
      refine zah ?_
      simp only [zdi,hw7,hx,and127,epow,e2,e128,e0,hw]
      rw [if_pos (d_t (by omega)),zaa (by omega),zaa (by omega)]
      simp only [lt,cb',Bool.false_eq_true,if_false]
      rw [if_pos (d_t (by omega)),if_neg (by simp; omega),zaa (by omega),zb0]
      rfl
    ·rw [if_neg cx]
     have ih:=num_loop b bd hb m (i+1) (n+x.toNat % 128*128 ^ i) (by omega) (by omega) (by omega) (by
      rw [Nat.pow_succ]
      have:x.toNat % 128*128 ^ i≤127*128 ^ i:=Nat.mul_le_mul_right _ (by omega)
      omega)
     refine (zam (y:=((⟨b,bd⟩:Reader),((n+x.toNat % 128*128 ^ i:Nat):Int),b,(b.length:Int),((i+1:Nat):Int))) ?_).trans ih
     simp only [zdi,hw7,hx,and127,epow,e2,e128,e0,hw]
     rw [if_pos (d_t (by omega)),zaa (by omega),zaa (by omega)]
     simp only [lt,cb',Bool.false_eq_true,if_false]
     rw [if_neg (d_f (by omega))]
theorem num_eq (b:List UInt8) (bd:Bool) (hb:b.length≤1000000000000):zb1 ⟨b,bd⟩=some (rfin bd (rdN b)):=by
 have:=num_loop b bd hb b.length 0 0 (by omega) (by omega) (by omega) (by simp)
 rw [List.drop_zero,go_rdN] at this
 exact this
theorem rnumber (n:Nat) (hn:n≤9223372036854775807):R_Number (n:Int)=some (num n):=by
 have h1:∀ n:Nat,n≤9223372036854775807→128≤n→w64 (Int.tdiv (n:Int) 128)=((n / 128:Nat):Int)∧zd1 (w64 ((Int.tmod (n:Int) 128)+128))=UInt8.ofNat (n % 128+128):=by
  intro n hn h
  have e1:Int.tdiv (n:Int) 128=((n / 128:Nat):Int):=tdiv_nat n 128
  have e2:Int.tmod (n:Int) 128+128=((n % 128+128:Nat):Int):=by
   have:Int.tmod (n:Int) 128=((n % 128:Nat):Int):=tmod_nat n 128
   omega
  rw [e1,e2,zai (by omega) (by omega),zai (by omega) (by omega),zd7]
  exact ⟨rfl,rfl⟩
 have:=recO_spec (S:=fun rec (x:Int)=>R_Number_S rec x) (fun x=>0≤x∧x≤9223372036854775807) (fun x=>x.toNat) (fun x=>num x.toNat)
  (by
   intro x f hI ih r e
   obtain ⟨n,rfl⟩:∃ n:Nat,x=(n:Int):=⟨x.toNat,by omega⟩
   simp only [R_Number_S,Int.toNat_natCast] at e ih ⊢
   by_cases c:n<128
   ·rw [if_pos (d_t (by omega)),zd7] at e
    rw [num_lt c]; exact (some_elim e).symm
   ·rw [if_neg (d_f (by omega)),(h1 n (by omega) (by omega)).1,(h1 n (by omega) (by omega)).2] at e
    obtain ⟨y,e1,e⟩:=ob_elim e
    obtain ⟨_,e⟩:=asrt_elim e
    have:=ih _ y (by omega) (by omega) e1
    rw [Int.toNat_natCast] at this
    rw [num_ge c,← some_elim e,this]; rfl)
  (by
   intro x f hI ih
   obtain ⟨n,rfl⟩:∃ n:Nat,x=(n:Int):=⟨x.toNat,by omega⟩
   simp only [R_Number_S,Int.toNat_natCast] at ih ⊢
   by_cases c:n<128
   ·rw [if_pos (d_t (by omega)),zd7,num_lt c]
   ·have hl:=num_len 8 (n / 128) (by omega)
    have e3:=ih ((n / 128:Nat):Int) (by omega) (by omega)
    rw [Int.toNat_natCast] at e3
    rw [if_neg (d_f (by omega)),(h1 n (by omega) (by omega)).1,(h1 n (by omega) (by omega)).2,e3,zab,zaa (by simp; omega),num_ge c]; rfl)
  (x:=(n:Int)) (by omega)
 unfold R_Number
 rw [this,Int.toNat_natCast]
theorem rnumber1 (n:Nat) (hn:n≤9223372036854775807):R_Number_v1 (n:Int)=some (num n):=by
 unfold R_Number_v1
 by_cases c:n<128
 ·rw [if_pos (d_t (by omega)),zd7,num_lt c]
 ·have e1:Int.tdiv (n:Int) 128=((n / 128:Nat):Int):=tdiv_nat n 128
  have e2:Int.tmod (n:Int) 128+128=((n % 128+128:Nat):Int):=by
   have:Int.tmod (n:Int) 128=((n % 128:Nat):Int):=tmod_nat n 128
   omega
  have hl:=num_len 8 (n / 128) (by omega)
  rw [if_neg (d_f (by omega)),e1,e2,zai (by omega) (by omega),zai (by omega) (by omega),zd7,rnumber _ (by omega),zab,zaa (by simp; omega),num_ge c]; simp
def val:List UInt8→Nat
 | []=>0
 | x::l=>x.toNat % 128+128*val l
theorem val_num (n:Nat):val (num n)=n:=by
 induction n using Nat.strongRecOn with
 | _ n ih=>
  by_cases c:n<128
  ·rw [num_lt c]; simp only [val]; rw [u8_of (by omega)]; omega
  ·rw [num_ge c]; simp only [val]; rw [ih _ (by omega),u8_of (by omega)]; omega
theorem val_lt:∀ l:List UInt8,val l<128 ^ l.length
 | []=>by simp [val]
 | x::l=>by
  have:=val_lt l
  simp only [val,List.length_cons,Nat.pow_succ]; omega
theorem val_lt5 {l:List UInt8} (h:l.length≤5):val l<34359738368:=by
 have h1:=val_lt l
 have h2:128 ^ l.length≤128 ^ 5:=Nat.pow_le_pow_right (by omega) h
 have h3:(128:Nat) ^ 5=34359738368:=by decide
 omega
theorem numAt_L2 (b:List UInt8) (k:Nat) (hk:k≤5) (hkb:k≤b.length):∀ (j:Nat),j≤k→∀ r,R_NumberAt_J2 b (k:Int) ((val (b.take k):Nat):Int)=some r→
  R_NumberAt_L2 b (k:Int) ((val ((b.take k).drop j):Nat),(j:Int) - 1)=some r
 | 0,hj,r,h=>by
  refine zah ?_
  simp only [R_NumberAt_B2]
  rw [if_neg (d_f (by omega)),List.drop_zero,h]; rfl
 | j+1,hj,r,h=>by
  have ih:=numAt_L2 b k hk hkb j (by omega) r h
  have hlt:j<(b.take k).length:=by simp; omega
  have hv:=val_lt5 (l:=(b.take k).drop (j+1)) (by simp; omega)
  have hg:zaf (b.take k) (j:Int)=zaf b (j:Int):=by
   have:=lget_ltake b (k:Int) (j:Int) (by omega)
   rwa [zce] at this
  rw [zcp _ _ hlt,hg] at ih
  simp only [val] at ih
  have e1:((j+1:Nat):Int) - 1=(j:Int):=by omega
  rw [e1]
  refine (zam ?_).trans ih
  simp only [R_NumberAt_B2]
  have h8:=(zaf b (j:Int)).toNat_lt
  have e3:Int.tmod (((zaf b (j:Int)).toNat:Nat):Int) 128=(((zaf b (j:Int)).toNat % 128:Nat):Int):=tmod_nat _ 128
  rw [if_pos (d_t (by omega)),zaa (by omega),zai (x:=((zaf b (j:Int)).toNat:Int)) (by omega) (by omega),e3,zai (x:=((val ((b.take k).drop (j+1)):Nat):Int)*128) (by omega) (by omega),zai (by omega) (by omega),zai (by omega) (by omega)]
  have e4:((val ((b.take k).drop (j+1)):Nat):Int)*128+(((zaf b (j:Int)).toNat % 128:Nat):Int)=(((zaf b (j:Int)).toNat % 128+128*val ((b.take k).drop (j+1)):Nat):Int):=by omega
  simp only [lt,e4]
def rnat (b:List UInt8):Int×Int:=match rdN b with
 | some (n,_)=>((n:Int),((num n).length:Int))
 | none=>(0,0)
def hits (b:List UInt8) (j:Nat):Prop:=val (b.take j)≤1000000000∧num (val (b.take j))=b.take j
theorem numAt_loop (b:List UInt8) (hb:b.length≤1000000000000):∀ (m k:Nat),6 - k=m→1≤k→k≤6→(∀ j,1≤j→j<k→j≤b.length→¬ hits b j)→R_NumberAt_L1 b (k:Int)=some (rnat b)
 | m,k,e,h1,h6,hn=>by
  by_cases c:k≤5∧k≤b.length
  ·have hv:=val_lt5 (l:=b.take k) (by simp; omega)
   have hlk:(b.take k).length=k:=by simp; omega
   have hw:w64 ((k:Int)+1)=((k+1:Nat):Int):=by rw [zai (by omega) (by omega)]; omega
   have step:∀ r,R_NumberAt_J2 b (k:Int) ((val (b.take k):Nat):Int)=some r→R_NumberAt_B1 b (k:Int)=some r:=by
    intro r hr
    have:=numAt_L2 b k c.1 c.2 k (by omega) r hr
    have e0:(b.take k).drop k=[]:=List.drop_eq_nil_of_le (by omega)
    rw [e0] at this
    simp only [R_NumberAt_B1]
    rw [if_pos (by simp; omega),zai (by omega) (by omega)]
    exact this
   by_cases ch:hits b k
   ·refine zah ?_
    rw [step (.inr (((val (b.take k):Nat):Int),(k:Int)))]
    ·have hd:rdN b=some (val (b.take k),b.drop k):=by
      have:=rdN_num ch.1 (b.drop k)
      rwa [ch.2,List.take_append_drop] at this
     unfold rnat
     rw [hd]
     simp only [ch.2,hlk]
    ·unfold R_NumberAt_J2
     rw [if_pos (d_t (by have:=ch.1; omega)),rnumber1 _ (by omega),zab,zaa (fun _=>by omega),zce]
     have hl:((val (b.take k):Nat):Int)≤1000000000:=by have:=ch.1; omega
     simp [lt,R_Same,ch.2,hl]
   ·match m,e with
    | 0,e=>omega
    | m+1,e=>
    refine (zam (y:=((k+1:Nat):Int)) ?_).trans (numAt_loop b hb m (k+1) (by omega) (by omega) (by omega) (fun j hj1 hj2 hj3=>by
     by_cases hjk:j=k
     ·subst hjk; exact ch
     ·exact hn j hj1 (by omega) hj3))
    refine step _ ?_
    unfold R_NumberAt_J2
    by_cases cv:val (b.take k)≤1000000000
    ·have cn:¬ num (val (b.take k))=b.take k:=fun h=>ch ⟨cv,h⟩
     rw [if_pos (d_t (by omega)),rnumber1 _ (by omega),zab,zaa (fun _=>by omega),zce]
     simp [lt,R_Same,cn,hw]
    ·rw [if_neg (d_f (by omega)),zab,zaa (fun _=>by omega)]
     have:decide (((val (b.take k):Nat):Int)≤1000000000)=false:=by simp; omega
     simp [lt,this,hw]
  ·refine zah ?_
   simp only [R_NumberAt_B1]
   rw [if_neg (by simp; omega)]
   have hd:rdN b=none:=by
    cases hd:rdN b with
    | none=>rfl
    | some p=>
     exfalso
     obtain ⟨n,r⟩:=p
     obtain ⟨h2,h3⟩:=rdN_some hd
     have hl:=num_len5 h3
     have hp:=num_pos n
     have hbl:b.length=(num n).length+r.length:=by rw [h2,List.length_append]
     have ht:b.take (num n).length=num n:=by
      have:(num n++r).take (num n).length=num n:=by simp
      rw [← h2] at this; exact this
     exact hn (num n).length (by omega) (by omega) (by omega) ⟨by rw [ht,val_num]; exact h3,by rw [ht,val_num]⟩
   unfold rnat
   rw [hd]; rfl
theorem numAt_eq (b:List UInt8) (hb:b.length≤1000000000000):R_NumberAt b=some (rnat b):=by
 have:=numAt_loop b hb 5 1 (by omega) (by omega) (by omega) (fun j h1 h2=>by omega)
 exact this
theorem addText_eq (s r:List UInt8) (hs:s.length≤1000000000) (hr:r.length≤1000000000):zei s r=some (r++wrT s):=by
 have h5:=num_len5 hs
 unfold zei
 rw [addNum_eq s.length r (by omega),zab,zaa (by simp; omega),List.append_assoc]; rfl
theorem wrT_len (s:List UInt8) (hs:s.length≤1000000000):(wrT s).length≤s.length+5∧s.length<(wrT s).length:=by
 have h5:=num_len5 hs
 have h1:=num_pos s.length
 unfold wrT
 simp; omega
def tfin:Option (List UInt8×List UInt8)→List UInt8×Reader
 | some (s,r)=>(s,⟨r,false⟩)
 | none=>([],⟨[],true⟩)
theorem text_eq (b:List UInt8) (hb:b.length≤1000000000):zca ⟨b,false⟩=some (tfin (rdT b)):=by
 have h0:=num_eq b false (by omega)
 unfold zca
 cases hd:rdN b with
 | none=>
  have e:rdT b=none:=by simp [rdT,hd]
  have h1:zb1 ⟨b,false⟩=some (0,⟨[],true⟩):=by rw [h0,hd]; rfl
  rw [h1,zab,e]; rfl
 | some p=>
  obtain ⟨n,r⟩:=p
  have hn:=(rdN_some hd).2
  have h1:zb1 ⟨b,false⟩=some ((n:Int),⟨r,false⟩):=by rw [h0,hd]; rfl
  rw [h1,zab]
  dsimp only
  rw [Bool.false_or]
  by_cases c:n≤r.length
  ·have e:rdT b=some (r.take n,r.drop n):=by simp [rdT,hd,c]
   rw [if_neg (d_f (by omega)),zaa (by omega),zaa (by omega),zce,zb0,e]; rfl
  ·have e:rdT b=none:=by simp [rdT,hd,c]
   rw [if_pos (d_t (by omega)),e]; rfl
theorem rdT_len {b s r:List UInt8} (h:rdT b=some (s,r)):r.length<b.length:=by
 obtain ⟨h1,h2⟩:=rdT_some h
 have:=(wrT_len s h2).2
 rw [h1,List.length_append]; omega
def ah (a b:Cell):Prop:=Op.bytesLess a.Row b.Row=true∨(a.Row=b.Row∧(Op.bytesLess a.Col b.Col=true∨(a.Col=b.Col∧b.Time<a.Time)))
theorem za6 (a b:Cell):zb2 a b=true↔ah a b:=by
 unfold zb2 ah
 by_cases h1:a.Row=b.Row
 ·rw [if_neg (n_f h1)]
  have e1:Op.bytesLess a.Row b.Row=false:=by rw [h1,bl_irr]
  by_cases h2:a.Col=b.Col
  ·rw [if_neg (n_f h2)]
   have e2:Op.bytesLess a.Col b.Col=false:=by rw [h2,bl_irr]
   simp [h1,h2,bl_irr]
  ·rw [if_pos (n_t h2)]
   simp [h1,h2,bl_irr]
 ·rw [if_pos (n_t h1)]
  simp [h1]
theorem ahead_f {a b:Cell}:zb2 a b=false↔¬ ah a b:=by
 rw [← za6]; simp
theorem ah_irr (a:Cell):¬ ah a a:=by
 unfold ah; simp [bl_irr]
theorem ah_trans {a b c:Cell} (h1:ah a b) (h2:ah b c):ah a c:=by
 unfold ah at *
 rcases h1 with h1 | ⟨e1,h1⟩
 ·rcases h2 with h2 | ⟨e2,h2⟩
  ·exact .inl (bl_trans h1 h2)
  ·rw [← e2]; exact .inl h1
 ·rcases h2 with h2 | ⟨e2,h2⟩
  ·rw [e1]; exact .inl h2
  ·refine .inr ⟨e1.trans e2,?_⟩
   rcases h1 with h1 | ⟨f1,h1⟩
   ·rcases h2 with h2 | ⟨f2,h2⟩
    ·exact .inl (bl_trans h1 h2)
    ·rw [← f2]; exact .inl h1
   ·rcases h2 with h2 | ⟨f2,h2⟩
    ·rw [f1]; exact .inl h2
    ·exact .inr ⟨f1.trans f2,by omega⟩
theorem ah_asymm {a b:Cell} (h1:ah a b):¬ ah b a:=fun h2=>ah_irr a (ah_trans h1 h2)
def key (a b:Cell):Prop:=a.Row=b.Row∧a.Col=b.Col∧a.Time=b.Time
theorem ah_tri (a b:Cell):ah a b∨key a b∨ah b a:=by
 unfold ah key
 rcases bl_tri a.Row b.Row with h | h | h
 ·exact .inl (.inl h)
 ·rcases bl_tri a.Col b.Col with g | g | g
  ·exact .inl (.inr ⟨h,.inl g⟩)
  ·by_cases c1:b.Time<a.Time
   ·exact .inl (.inr ⟨h,.inr ⟨g,c1⟩⟩)
   ·by_cases c2:a.Time<b.Time
    ·exact .inr (.inr (.inr ⟨h.symm,.inr ⟨g.symm,c2⟩⟩))
    ·exact .inr (.inl ⟨h,g,by omega⟩)
  ·exact .inr (.inr (.inr ⟨h.symm,.inl g⟩))
 ·exact .inr (.inr (.inl h))
def cmpS (x y:List UInt8):Int:=if Op.bytesLess x y=true then -1 else if Op.bytesLess y x=true then 1 else 0
theorem cmpS_eq (x y:List UInt8):zep x y=cmpS x y:=by
 simp [zep,cmp_isNaN_string,lt,cmpS]
def cmpI (x y:Int):Int:=if x<y then -1 else if y<x then 1 else 0
theorem cmpI_eq (x y:Int):cmp_Compare_int x y=cmpI x y:=by
 simp [cmp_Compare_int,cmp_isNaN_int,lt,cmpI]
theorem or_eq (x y z:Int):cmp_Or_int [x,y,z]=some (if x≠0 then x else if y≠0 then y else z):=by
 have w1:w64 (0+1)=1:=by decide
 have w2:w64 (1+1)=2:=by decide
 have w3:w64 (2+1)=3:=by decide
 have g0:zaf [x,y,z] 0=x:=rfl
 have g1:zaf [x,y,z] 1=y:=rfl
 have g2:zaf [x,y,z] 2=z:=rfl
 have b0:zeg [x,y,z] 0=if x≠0 then some (.inr x) else some (.inl 1):=by
  simp only [zeg]
  rw [if_pos (d_t (by simp)),zaa (by simp),g0,w1]
  by_cases h:x=0 <;> simp [h]
 have b1:zeg [x,y,z] 1=if y≠0 then some (.inr y) else some (.inl 2):=by
  simp only [zeg]
  rw [if_pos (d_t (by simp)),zaa (by simp),g1,w2]
  by_cases h:y=0 <;> simp [h]
 have b2:zeg [x,y,z] 2=if z≠0 then some (.inr z) else some (.inl 3):=by
  simp only [zeg]
  rw [if_pos (d_t (by simp)),zaa (by simp),g2,w3]
  by_cases h:z=0 <;> simp [h]
 have b3:zeg [x,y,z] 3=some (.inr 0):=by
  simp only [zeg]
  rw [if_neg (d_f (by simp))]; rfl
 unfold cmp_Or_int
 by_cases h0:x=0
 ·rw [if_neg (by simp [h0])]
  refine (zam (b0.trans (if_neg (by simp [h0])))).trans ?_
  by_cases h1:y=0
  ·rw [if_neg (by simp [h1])]
   refine (zam (b1.trans (if_neg (by simp [h1])))).trans ?_
   by_cases h2:z=0
   ·refine (zam (b2.trans (if_neg (by simp [h2])))).trans ?_
    rw [h2]; exact zah b3
   ·exact zah (b2.trans (if_pos h2))
  ·rw [if_pos h1]
   exact zah (b1.trans (if_pos h1))
 ·rw [if_pos h0]
  exact zah (b0.trans (if_pos h0))
noncomputable def ord (a b:Cell):Int:=if zb2 a b=true then -1 else if zb2 b a=true then 1 else 0
theorem order_eq (a b:Cell):cell_Order a b=some (ord a b):=by
 unfold cell_Order
 simp only [lt,cmpS_eq,cmpI_eq,or_eq,zab,Option.some.injEq]
 unfold ord cmpS cmpI
 rcases bl_tri a.Row b.Row with h | h | h
 ·have:zb2 a b=true:=(za6 _ _).2 (.inl h)
  simp [h,this]
 ·rcases bl_tri a.Col b.Col with g | g | g
  ·have:zb2 a b=true:=(za6 _ _).2 (.inr ⟨h,.inl g⟩)
   simp [h,g,this,bl_irr]
  ·by_cases c1:b.Time<a.Time
   ·have:zb2 a b=true:=(za6 _ _).2 (.inr ⟨h,.inr ⟨g,c1⟩⟩)
    simp [h,g,this,bl_irr,c1]
   ·by_cases c2:a.Time<b.Time
    ·have h1:zb2 b a=true:=(za6 _ _).2 (.inr ⟨h.symm,.inr ⟨g.symm,c2⟩⟩)
     have h2:zb2 a b=false:=ahead_f.2 (ah_asymm ((za6 _ _).1 h1))
     simp [h,g,h1,h2,bl_irr,c1,c2]
    ·have e:a.Time=b.Time:=by omega
     have h1:zb2 b a=false:=ahead_f.2 (by unfold ah; simp [h,g,bl_irr,e])
     have h2:zb2 a b=false:=ahead_f.2 (by unfold ah; simp [h,g,bl_irr,e])
     simp [h,g,h1,h2,bl_irr,c1,c2]
  ·have h1:zb2 b a=true:=(za6 _ _).2 (.inr ⟨h.symm,.inl g⟩)
   have h2:zb2 a b=false:=ahead_f.2 (ah_asymm ((za6 _ _).1 h1))
   simp [h,g,h1,h2,bl_irr,bl_asymm g]
 ·have h1:zb2 b a=true:=(za6 _ _).2 (.inl h)
  have h2:zb2 a b=false:=ahead_f.2 (ah_asymm ((za6 _ _).1 h1))
  simp [h,h1,h2,bl_asymm h]
theorem ord_neg (a b:Cell):ord a b<0↔zb2 a b=true:=by
 unfold ord
 by_cases h:zb2 a b=true
 ·simp [h]
 ·by_cases h2:zb2 b a=true <;> simp [h,h2]
theorem zcw (c:Cell):(⟨c.Row,c.Col,c.Time,c.Gone,c.Value⟩:Cell)=c:=rfl
theorem code_eq (c:Cell):cell_code c=zaw c:=rfl
noncomputable def okp (p:Option Cell) (c:Cell):Bool:=match p with
 | some q=>zb2 q c
 | none=>true
noncomputable def ck:Option Cell→List Cell→Int→Fault
 | _,[],_=>⟨0,0⟩
 | p,c::l,i=>if zaw c≠0 then ⟨zaw c,i⟩ else if okp p c=true then ck (some c) l (i+1) else ⟨10,i⟩
def prv (l:List Cell) (k:Nat):Option Cell:=if k=0 then none else some (zaf l ((k:Int) - 1))
theorem prv_succ (l:List Cell) (k:Nat):prv l (k+1)=some (zaf l (k:Int)):=by
 unfold prv
 rw [if_neg (by omega)]
 have:((k+1:Nat):Int) - 1=(k:Int):=by omega
 rw [this]
theorem check_loop (l:List Cell) (hl:l.length≤1000) (z:Fault):∀ (m k:Nat),l.length - k=m→k≤l.length→cell_Check_L1 l (z,(k:Int))=some (ck (prv l k) (l.drop k) k)
 | 0,k,e,hk=>by
  have:k=l.length:=by omega
  subst this
  refine zah ?_
  simp only [cell_Check_B1]
  rw [if_neg (d_f (by omega)),List.drop_length]; rfl
 | m+1,k,e,hk=>by
  have hlt:k<l.length:=by omega
  have hw:w64 ((k:Int)+1)=((k+1:Nat):Int):=by rw [zai (by omega) (by omega)]; omega
  have hw2:w64 ((k:Int) - 1)=(k:Int) - 1:=zai (by omega) (by omega)
  have ih:=check_loop l hl z m (k+1) (by omega) (by omega)
  rw [zcp l k hlt,ck]
  by_cases c1:zaw (zaf l (k:Int))=0
  ·rw [if_neg (by simp [c1])]
   by_cases hk0:k=0
   ·subst hk0
    have e1:okp (prv l 0) (zaf l ((0:Nat):Int))=true:=rfl
    rw [if_pos e1]
    refine (zam (y:=(z,((0+1:Nat):Int))) ?_).trans (ih.trans (by rw [prv_succ]; rfl))
    simp only [cell_Check_B1]
    rw [if_pos (d_t (by omega)),zaa (by omega)]
    rw [zcw,code_eq]
    dsimp only [lt]
    rw [if_neg (n_f c1),zaa (fun h=>by simp at h),if_neg (by simp),zab,if_neg (by simp),hw]
   ·have ep:prv l k=some (zaf l ((k:Int) - 1)):=by unfold prv; rw [if_neg hk0]
    have hpos:(0:Int)<(k:Int):=by omega
    have eo:okp (some (zaf l ((k:Int) - 1))) (zaf l (k:Int))=zb2 (zaf l ((k:Int) - 1)) (zaf l (k:Int)):=rfl
    rw [ep,eo]
    by_cases c2:zb2 (zaf l ((k:Int) - 1)) (zaf l (k:Int))=true
    ·rw [if_pos c2]
     have e1:(k:Int)+1=((k+1:Nat):Int):=by omega
     refine (zam (y:=(z,((k+1:Nat):Int))) ?_).trans (ih.trans (by rw [prv_succ,e1]))
     simp only [cell_Check_B1]
     rw [if_pos (d_t (by omega)),zaa (by omega)]
     have h0:=(ord_neg _ _).2 c2
     rw [zcw,code_eq]
     dsimp only [lt]
     rw [if_neg (n_f c1),hw2,zaa (fun h=>by omega),if_pos (d_t hpos),zcw,order_eq,zab,if_neg (an_f (by omega)),hw]
    ·rw [if_neg c2]
     have h0:¬ ord (zaf l ((k:Int) - 1)) (zaf l (k:Int))<0:=fun h=>c2 ((ord_neg _ _).1 h)
     refine zah ?_
     simp only [cell_Check_B1]
     rw [if_pos (d_t (by omega)),zaa (by omega)]
     rw [zcw,code_eq]
     dsimp only [lt]
     rw [if_neg (n_f c1),hw2,zaa (fun h=>by omega),if_pos (d_t hpos),zcw,order_eq,zab,if_pos (an_t (by omega))]
     rfl
  ·rw [if_pos c1]
   refine zah ?_
   simp only [cell_Check_B1]
   rw [if_pos (d_t (by omega)),zaa (by omega)]
   rw [zcw,code_eq]
   dsimp only [lt]
   rw [if_pos (n_t c1)]; rfl
theorem rcheck_loop (l:List Cell) (hl:l.length≤1000) (z:Fault):∀ (m k:Nat),l.length - k=m→k≤l.length→R_CellsFault_L1 l (z,(k:Int))=some (ck (prv l k) (l.drop k) k)
 | 0,k,e,hk=>by
  have:k=l.length:=by omega
  subst this
  refine zah ?_
  simp only [R_CellsFault_B1]
  rw [if_neg (d_f (by omega)),List.drop_length]; rfl
 | m+1,k,e,hk=>by
  have hlt:k<l.length:=by omega
  have hw:w64 ((k:Int)+1)=((k+1:Nat):Int):=by rw [zai (by omega) (by omega)]; omega
  have hw2:w64 ((k:Int) - 1)=(k:Int) - 1:=zai (by omega) (by omega)
  have ih:=rcheck_loop l hl z m (k+1) (by omega) (by omega)
  rw [zcp l k hlt,ck]
  by_cases c1:zaw (zaf l (k:Int))=0
  ·rw [if_neg (by simp [c1])]
   by_cases hk0:k=0
   ·subst hk0
    have e1:okp (prv l 0) (zaf l ((0:Nat):Int))=true:=rfl
    rw [if_pos e1]
    refine (zam (y:=(z,((0+1:Nat):Int))) ?_).trans (ih.trans (by rw [prv_succ]; rfl))
    simp only [R_CellsFault_B1]
    rw [if_pos (d_t (by omega)),zaa (by omega)]
    rw [zcw]
    dsimp only [lt]
    rw [if_neg (n_f c1),zaa (fun h=>by simp at h),zaa (fun h=>by simp at h),if_neg (by simp),hw]
   ·have ep:prv l k=some (zaf l ((k:Int) - 1)):=by unfold prv; rw [if_neg hk0]
    have hpos:(0:Int)<(k:Int):=by omega
    have eo:okp (some (zaf l ((k:Int) - 1))) (zaf l (k:Int))=zb2 (zaf l ((k:Int) - 1)) (zaf l (k:Int)):=rfl
    rw [ep,eo]
    have e1:(k:Int)+1=((k+1:Nat):Int):=by omega
    have hd:decide ((0:Int)<(k:Int))=true:=d_t hpos
    by_cases c2:zb2 (zaf l ((k:Int) - 1)) (zaf l (k:Int))=true
    ·rw [if_pos c2]
     refine (zam (y:=(z,((k+1:Nat):Int))) ?_).trans (ih.trans (by rw [prv_succ,e1]))
     simp only [R_CellsFault_B1]
     rw [if_pos (d_t (by omega)),zaa (by omega)]
     rw [zcw]
     dsimp only [lt]
     rw [if_neg (n_f c1),hw2,zaa (fun h=>by omega),zaa (fun h=>by omega),zcw,c2,if_neg (by simp),hw]
    ·rw [if_neg c2]
     refine zah ?_
     simp only [R_CellsFault_B1]
     rw [if_pos (d_t (by omega)),zaa (by omega)]
     have c2':zb2 (zaf l ((k:Int) - 1)) (zaf l (k:Int))=false:=by simpa using c2
     rw [zcw]
     dsimp only [lt]
     rw [if_neg (n_f c1),hw2,zaa (fun h=>by omega),zaa (fun h=>by omega),zcw,c2',hd,if_pos (by rfl)]
     rfl
  ·rw [if_pos c1]
   refine zah ?_
   simp only [R_CellsFault_B1]
   rw [if_pos (d_t (by omega)),zaa (by omega)]
   rw [zcw]
   dsimp only [lt]
   rw [if_pos (n_t c1)]; rfl
noncomputable def cellF (l:List Cell):Fault:=if 1000<l.length then ⟨2,0⟩ else ck none l 0
theorem check_eq (l:List Cell):cell_Check l=some (cellF l):=by
 unfold cell_Check cellF
 by_cases c:1000<l.length
 ·rw [if_pos (d_t (by omega)),if_pos c]; rfl
 ·rw [if_neg (d_f (by omega)),if_neg c]
  exact check_loop l (by omega) ⟨0,0⟩ l.length 0 (by omega) (by omega)
theorem rcheck_eq (l:List Cell):R_CellsFault l=some (cellF l):=by
 unfold R_CellsFault cellF
 by_cases c:1000<l.length
 ·rw [if_pos (d_t (by omega)),if_pos c]; rfl
 ·rw [if_neg (d_f (by omega)),if_neg c]
  exact rcheck_loop l (by omega) ⟨0,0⟩ l.length 0 (by omega) (by omega)
theorem ck_good:∀ (l:List Cell) (p:Option Cell) (i:Int),(ck p l i).Code=0→ck p l i=⟨0,0⟩∧(∀ c∈l,zaw c=0)∧l.Pairwise ah∧∀ q,p=some q→∀ c∈l,ah q c
 | [],p,i,h=>⟨rfl,by simp,.nil,by simp⟩
 | c::l,p,i,h=>by
  rw [ck] at h ⊢
  by_cases c1:zaw c=0
  ·rw [if_neg (by simp [c1])] at h ⊢
   by_cases c2:okp p c=true
   ·rw [if_pos c2] at h ⊢
    obtain ⟨h1,h2,h3,h4⟩:=ck_good l (some c) (i+1) h
    refine ⟨h1,?_,List.pairwise_cons.2 ⟨h4 c rfl,h3⟩,?_⟩
    ·intro x hx
     rcases List.mem_cons.1 hx with rfl | hx
     ·exact c1
     ·exact h2 x hx
    ·rintro q rfl x hx
     have hq:ah q c:=(za6 _ _).1 c2
     rcases List.mem_cons.1 hx with rfl | hx
     ·exact hq
     ·exact ah_trans hq (h4 c rfl x hx)
   ·rw [if_neg c2] at h; cases h
  ·rw [if_pos c1] at h; exact absurd h c1
structure Good (l:List Cell):Prop where
 f:cellF l=⟨0,0⟩
 len:l.length≤1000
 code:∀ c∈l,zaw c=0
 srt:l.Pairwise ah
theorem cellF_good {l:List Cell} (h:(cellF l).Code=0):Good l:=by
 unfold cellF at h
 by_cases c:1000<l.length
 ·rw [if_pos c] at h; cases h
 ·rw [if_neg c] at h
  obtain ⟨h1,h2,h3,_⟩:=ck_good l none 0 h
  exact ⟨by unfold cellF; rw [if_neg c,h1],by omega,h2,h3⟩
def cell0:Cell:=⟨[],[],0,false,[]⟩
theorem sameCells_loop (a b:List Cell) (hl:a.length=b.length) (hb:a.length≤1000000):∀ (m k:Nat),a.length - k=m→k≤a.length→∀ r,(r=true↔a.drop k=b.drop k)→R_SameCells_L1 a b (k:Int)=some r
 | 0,k,e,hk,r,hr=>by
  have:k=a.length:=by omega
  refine zah ?_
  simp only [R_SameCells_B1]
  rw [if_neg (d_f (by omega))]
  have e1:a.drop k=[]:=List.drop_eq_nil_of_le (by omega)
  have e2:b.drop k=[]:=List.drop_eq_nil_of_le (by omega)
  have:r=true:=hr.2 (by rw [e1,e2])
  subst this; rfl
 | m+1,k,e,hk,r,hr=>by
  have hw:w64 ((k:Int)+1)=((k+1:Nat):Int):=by rw [zai (by omega) (by omega)]; omega
  rw [zcp a k (by omega),zcp b k (by omega)] at hr
  have ee:(decide ((zaf a (k:Int)).Row=(zaf b (k:Int)).Row)&&(decide ((zaf a (k:Int)).Col=(zaf b (k:Int)).Col)&&(decide ((zaf a (k:Int)).Time=(zaf b (k:Int)).Time)&&(((zaf a (k:Int)).Gone == (zaf b (k:Int)).Gone)&&(decide ((zaf a (k:Int)).Value=(zaf b (k:Int)).Value)&&true)))))=true↔zaf a (k:Int)=zaf b (k:Int):=by
   cases zaf a (k:Int); cases zaf b (k:Int); simp
  by_cases c:zaf a (k:Int)=zaf b (k:Int)
  ·have ih:=sameCells_loop a b hl hb m (k+1) (by omega) (by omega) r (by rw [hr]; simp [c])
   refine (zam (y:=((k+1:Nat):Int)) ?_).trans ih
   simp only [R_SameCells_B1]
   rw [if_pos (d_t (by omega)),zaa (by omega),zaa (by omega),if_neg (by rw [ee.2 c]; simp),hw]
  ·have:r=false:=by
    cases r with
    | false=>rfl
    | true=>exact absurd (List.head_eq_of_cons_eq (hr.1 rfl)) c
   subst this
   refine zah ?_
   simp only [R_SameCells_B1]
   have e2:=mt ee.1 c
   rw [if_pos (d_t (by omega)),zaa (by omega),zaa (by omega),if_pos (by rw [Bool.not_eq_true] at e2; rw [e2]; rfl)]
theorem sameCells_self (a:List Cell) (hb:a.length≤1000000):R_SameCells a a=some true:=by
 unfold R_SameCells
 rw [if_neg (by simp)]
 exact sameCells_loop a a rfl hb a.length 0 (by omega) (by omega) true (by simp)
theorem code_len {c:Cell} (h:zaw c=0):c.Row.length≤40∧c.Col.length≤40∧c.Value.length≤200∧0≤c.Time∧c.Time≤1000000000:=by
 unfold zaw at h
 split at h
 ·cases h
 ·rename_i h1
  split at h
  ·cases h
  ·rename_i h2
   simp at h1 h2
   omega
def wrC (c:Cell):List UInt8:=wrT c.Row++(wrT c.Col++(num c.Time.toNat++((if c.Gone=true then [1] else [0])++wrT c.Value)))
theorem wrC_len {c:Cell} (h:zaw c=0):(wrC c).length≤310∧0<(wrC c).length:=by
 obtain ⟨h1,h2,h3,h4,h5⟩:=code_len h
 have a1:=wrT_len c.Row (by omega)
 have a2:=wrT_len c.Col (by omega)
 have a3:=wrT_len c.Value (by omega)
 have a4:=num_len5 (n:=c.Time.toNat) (by omega)
 have a5:(if c.Gone=true then ([1]:List UInt8) else [0]).length=1:=by split <;> rfl
 unfold wrC
 simp only [List.length_append,a5]; omega
theorem num01 (b:Bool):num (if b=true then 1 else 0)=if b=true then [1] else [0]:=by
 cases b
 ·rw [if_neg (by simp),num_lt (by omega)]; rfl
 ·rw [if_pos rfl,num_lt (by omega)]; rfl
theorem add_eq (c:Cell) (h:zaw c=0) (row:List UInt8) (hr:row.length≤1000000):cell_Add_v1 c row=some (row++wrC c):=by
 obtain ⟨h1,h2,h3,h4,h5⟩:=code_len h
 have a1:=wrT_len c.Row (by omega)
 have a2:=wrT_len c.Col (by omega)
 have a4:=num_len5 (n:=c.Time.toNat) (by omega)
 have et:(c.Time)=((c.Time.toNat:Nat):Int):=by omega
 unfold cell_Add_v1
 rw [addText_eq c.Row row (by omega) (by omega),zab,addText_eq c.Col _ (by omega) (by simp; omega),zab]
 have e:(if c.Gone=true then some (c,(1:Int)) else some (c,0))=some (c,((if c.Gone=true then 1 else 0:Nat):Int)):=by cases c.Gone <;> rfl
 rw [e,zab]
 dsimp only
 have hn:(num (if c.Gone=true then 1 else 0)).length=1:=by rw [num01]; split <;> rfl
 rw [et,addNum_eq _ _ (by simp; omega),zab,addNum_eq _ _ (by simp; omega),zab,addText_eq c.Value _ (by omega) (by simp; omega),zab,num01]
 simp [wrC]
def zeu (l:List Cell):List UInt8:=wrAll wrC l
theorem encC_cons (c:Cell) (l:List Cell):zeu (c::l)=wrC c++zeu l:=by simp [zeu,wrAll]
noncomputable def rdC (b:List UInt8):Option (Cell×List UInt8):=
 match rdT b with
 | none=>none
 | some (row,b1)=>match rdT b1 with
  | none=>none
  | some (col,b2)=>match rdN b2 with
   | none=>none
   | some (t,b3)=>match rdN b3 with
    | none=>none
    | some (k,b4)=>match rdT b4 with
     | none=>none
     | some (v,b5)=>if k<2∧zaw ⟨row,col,t,decide ((k:Int)=1),v⟩=0 then some (⟨row,col,t,decide ((k:Int)=1),v⟩,b5) else none
theorem text_bad:zca ⟨[],true⟩=some ([],⟨[],true⟩):=by
 have h1:zb1 ⟨[],true⟩=some (0,⟨[],true⟩):=by rw [num_eq [] true (by simp)]; rfl
 unfold zca
 rw [h1,zab,if_pos (by rfl)]
theorem num_bad:zb1 ⟨[],true⟩=some (0,⟨[],true⟩):=by rw [num_eq [] true (by simp)]; rfl
theorem text_some {b s r:List UInt8} (hb:b.length≤1000000) (h:rdT b=some (s,r)):zca ⟨b,false⟩=some (s,⟨r,false⟩)∧r.length≤1000000:=by
 have:=rdT_len h
 exact ⟨by rw [text_eq b (by omega),h]; rfl,by omega⟩
theorem text_none {b:List UInt8} (hb:b.length≤1000000) (h:rdT b=none):zca ⟨b,false⟩=some ([],⟨[],true⟩):=by
 rw [text_eq b (by omega),h]; rfl
theorem num_some {b r:List UInt8} {n:Nat} (hb:b.length≤1000000) (h:rdN b=some (n,r)):zb1 ⟨b,false⟩=some ((n:Int),⟨r,false⟩)∧r.length≤1000000:=by
 have:=(rdN_some h).1
 have h2:b.length=(num n).length+r.length:=by rw [this,List.length_append]
 exact ⟨by rw [num_eq b false (by omega),h]; rfl,by omega⟩
theorem num_none {b:List UInt8} (hb:b.length≤1000000) (h:rdN b=none):zb1 ⟨b,false⟩=some (0,⟨[],true⟩):=by
 rw [num_eq b false (by omega),h]; rfl
theorem from_eq (b:List UInt8) (hb:b.length≤1000000):(∃ c r,rdC b=some (c,r)∧cell_From ⟨b,false⟩=some (c,true,⟨r,false⟩))∨(rdC b=none∧∃ x,cell_From ⟨b,false⟩=some x∧x.2.1=false):=by
 unfold rdC cell_From
 cases e1:rdT b with
 | none=>
  refine .inr ⟨rfl,?_⟩
  simp only [text_none hb e1,zab,text_bad,num_bad,lt,zdt]
  exact ⟨_,rfl,by simp⟩
 | some p1=>
 obtain ⟨row,b1⟩:=p1
 obtain ⟨f1,hb1⟩:=text_some hb e1
 simp only [f1,zab]
 cases e2:rdT b1 with
 | none=>
  refine .inr ⟨rfl,?_⟩
  simp only [text_none hb1 e2,zab,text_bad,num_bad,lt,zdt]
  exact ⟨_,rfl,by simp⟩
 | some p2=>
 obtain ⟨col,b2⟩:=p2
 obtain ⟨f2,hb2⟩:=text_some hb1 e2
 simp only [f2,zab]
 cases e3:rdN b2 with
 | none=>
  refine .inr ⟨rfl,?_⟩
  simp only [num_none hb2 e3,zab,text_bad,num_bad,lt,zdt]
  exact ⟨_,rfl,by simp⟩
 | some p3=>
 obtain ⟨t,b3⟩:=p3
 obtain ⟨f3,hb3⟩:=num_some hb2 e3
 simp only [f3,zab]
 cases e4:rdN b3 with
 | none=>
  refine .inr ⟨rfl,?_⟩
  simp only [num_none hb3 e4,zab,text_bad,num_bad,lt,zdt]
  exact ⟨_,rfl,by simp⟩
 | some p4=>
 obtain ⟨k,b4⟩:=p4
 obtain ⟨f4,hb4⟩:=num_some hb3 e4
 simp only [f4,zab]
 cases e5:rdT b4 with
 | none=>
  refine .inr ⟨rfl,?_⟩
  simp only [text_none hb4 e5,zab,lt,zdt]
  exact ⟨_,rfl,by simp⟩
 | some p5=>
 obtain ⟨v,b5⟩:=p5
 obtain ⟨f5,hb5⟩:=text_some hb4 e5
 simp only [f5,zab,lt,zdt,code_eq]
 by_cases hc:k<2∧zaw ⟨row,col,t,decide ((k:Int)=1),v⟩=0
 ·refine .inl ⟨⟨row,col,t,decide ((k:Int)=1),v⟩,b5,by rw [if_pos hc],?_⟩
  have h2:(k:Int)<2:=by omega
  rw [decide_eq_true h2]
  refine congrArg some (Prod.ext rfl (Prod.ext ?_ rfl))
  exact Bool.and_eq_true_iff.2 ⟨rfl,@decide_eq_true _ _ hc.2⟩
 ·refine .inr ⟨by rw [if_neg hc],_,rfl,?_⟩
  by_cases h2:k<2
  ·have h3:¬ zaw ⟨row,col,t,decide ((k:Int)=1),v⟩=0:=fun h=>hc ⟨h2,h⟩
   exact Bool.and_eq_false_iff.2 (.inr (@decide_eq_false _ _ h3))
  ·have h3:¬ (k:Int)<2:=by omega
   simp only [decide_eq_false h3,Bool.false_and]
theorem rdC_some {b r:List UInt8} {c:Cell} (h:rdC b=some (c,r)):zaw c=0∧b=wrC c++r:=by
 unfold rdC at h
 split at h
 ·cases h
 ·rename_i row b1 e1
  split at h
  ·cases h
  ·rename_i col b2 e2
   split at h
   ·cases h
   ·rename_i t b3 e3
    split at h
    ·cases h
    ·rename_i k b4 e4
     split at h
     ·cases h
     ·rename_i v b5 e5
      split at h
      ·rename_i hc
       simp only [Option.some.injEq,Prod.mk.injEq] at h
       obtain ⟨rfl,rfl⟩:=h
       refine ⟨hc.2,?_⟩
       have g1:=(rdT_some e1).1
       have g2:=(rdT_some e2).1
       have g3:=(rdN_some e3).1
       have g4:=(rdN_some e4).1
       have g5:=(rdT_some e5).1
       have hk:num k=if decide ((k:Int)=1)=true then [1] else [0]:=by
        have h01:k=0∨k=1:=by omega
        rcases h01 with rfl | rfl
        ·rw [num_lt (by omega)]; rfl
        ·rw [num_lt (by omega)]; rfl
       unfold wrC
       rw [g1,g2,g3,g4,g5,hk]
       simp
      ·cases h
theorem rdC_wrC {c:Cell} (h:zaw c=0) (r:List UInt8):rdC (wrC c++r)=some (c,r):=by
 obtain ⟨h1,h2,h3,h4,h5⟩:=code_len h
 have e0:wrC c++r=wrT c.Row++(wrT c.Col++(num c.Time.toNat++(num (if c.Gone=true then 1 else 0)++(wrT c.Value++r)))):=by
  rw [num01]; simp [wrC]
 have hk:(if c.Gone=true then 1 else 0)≤1000000000:=by split <;> omega
 have ec:(⟨c.Row,c.Col,((c.Time.toNat:Nat):Int),decide (((if c.Gone=true then 1 else 0:Nat):Int)=1),c.Value⟩:Cell)=c:=by
  have h6:((c.Time.toNat:Nat):Int)=c.Time:=by omega
  rw [h6]
  cases c with | mk a b t g v=>cases g <;> rfl
 unfold rdC
 rw [e0,rdT_wrT (by omega)]
 simp only []
 rw [rdT_wrT (by omega)]
 simp only []
 rw [rdN_num (by omega)]
 simp only []
 rw [rdN_num hk]
 simp only []
 rw [rdT_wrT (by omega)]
 simp only [ec]
 rw [if_pos ⟨by split <;> omega,h⟩]
noncomputable def rcS:List Cell⊕Nat→List Cell×Fault
 | .inl l=>if (cellF l).Code=0 then (l,⟨0,0⟩) else ([],cellF l)
 | .inr n=>([],⟨5,n⟩)
noncomputable def readS (b:List UInt8):List Cell×Fault:=if 60000<b.length then ([],⟨8,0⟩) else rcS (rdAll rdC b.length b [])
theorem read_J1 (z:Fault) (l:List Cell):cell_Read_J1 (z,l)=some (rcS (.inl l)):=by
 simp only [cell_Read_J1,rcS,check_eq,zab]
 by_cases c:(cellF l).Code=0
 ·rw [if_neg (n_f c),if_pos c]
 ·rw [if_pos (n_t c),if_neg c]
theorem rdC_len {b r:List UInt8} {c:Cell} (h:rdC b=some (c,r)):b.length=(wrC c).length+r.length∧0<(wrC c).length:=by
 obtain ⟨h1,h2⟩:=rdC_some h
 exact ⟨by rw [h2,List.length_append],(wrC_len h1).2⟩
theorem read_loop (z:Fault):∀ (k:Nat) (b:List UInt8) (acc:List Cell),b.length≤k→acc.length+b.length≤1000000→
  cell_Read_L1 (z,acc,⟨b,false⟩)=some (rcS (rdAll rdC k b acc))
 | k,[],acc,hk,ha=>by
  rw [rdAll_nil]
  refine zah ?_
  simp [cell_Read_B1,wire_Reader_More,lt,read_J1,zem]
 | 0,x::b,acc,hk,ha=>by simp at hk
 | k+1,x::b,acc,hk,ha=>by
  rw [rdAll,if_neg (by simp)]
  have hm:wire_Reader_More ⟨x::b,false⟩=true:=by simp [wire_Reader_More]
  have hb:(x::b).length≤1000000:=by omega
  generalize hbb:x::b=bb at *
  rcases from_eq bb hb with ⟨c,r,h1,h2⟩ | ⟨h1,y,h2,h3⟩
  ·obtain ⟨h3,h4⟩:=rdC_len h1
   rw [h1]
   refine (zam (y:=(z,acc++[c],⟨r,false⟩)) ?_).trans (read_loop z k r (acc++[c]) (by omega) (by simp; omega))
   simp only [cell_Read_B1,hm,lt,if_true]
   rw [h2,zab]
   dsimp only
   rw [if_neg (by simp),zaa (by simp; omega)]
  ·rw [h1]
   refine zah ?_
   simp only [cell_Read_B1,hm,lt,if_true]
   rw [h2,zab,if_pos (by rw [h3]; rfl)]
   rfl
theorem read_eq (b:List UInt8):cell_Read b=some (readS b):=by
 unfold cell_Read readS
 by_cases c:60000<b.length
 ·rw [if_pos (d_t (by omega)),if_pos c]; rfl
 ·rw [if_neg (d_f (by omega)),if_neg c]
  exact read_loop _ b.length b [] (Nat.le_refl _) (by simp; omega)
theorem cellAt_text (b:List UInt8) (hb:b.length≤1000000) (z:Cell) (ps:List (List UInt8)) (ns:List Int) (p i:Nat) (hp:p≤b.length) (hps:ps.length≤10) (hi:i=0∨i=1∨i=4) :
  R_CellAt_B1 b (z,ps,ns,(p:Int),(i:Int))=match rdT (b.drop p) with
   | none=>some (.inr (cell0,0))
   | some (s,r)=>some (.inl (z,ps++[s],ns,((b.length - r.length:Nat):Int),((i+1:Nat):Int))):=by
 have hw:w64 ((i:Int)+1)=((i+1:Nat):Int):=by rw [zai (by omega) (by omega)]; omega
 have hdl:(b.drop p).length=b.length - p:=List.length_drop
 simp only [R_CellAt_B1,R_CellAt_J2]
 rw [if_pos (d_t (by omega)),zaa (by omega),zb0,numAt_eq _ (by omega),zab]
 cases hd:rdN (b.drop p) with
 | none=>
  have e:rdT (b.drop p)=none:=by simp [rdT,hd]
  have e2:rnat (b.drop p)=(0,0):=by simp [rnat,hd]
  rw [e2,e,if_pos (by simp)]; rfl
 | some q=>
  obtain ⟨n,r⟩:=q
  have e2:rnat (b.drop p)=((n:Int),((num n).length:Int)):=by simp [rnat,hd]
  obtain ⟨h1,hn⟩:=rdN_some hd
  have h2:=num_pos n
  have h3:b.length - p=(num n).length+r.length:=by rw [← hdl,h1,List.length_append]
  have hw1:w64 ((p:Int)+((num n).length:Int))=((p+(num n).length:Nat):Int):=by rw [zai (by omega) (by omega)]; omega
  have hw2:w64 ((b.length:Int) - ((p+(num n).length:Nat):Int))=(r.length:Int):=by rw [zai (by omega) (by omega)]; omega
  rw [e2]
  dsimp only
  rw [if_neg (d_f (by omega)),if_neg (or_f (by omega)),hw1,hw2]
  by_cases c:n≤r.length
  ·have e:rdT (b.drop p)=some (r.take n,r.drop n):=by simp [rdT,hd,c]
   have hw3:w64 (((p+(num n).length:Nat):Int)+(n:Int))=((p+(num n).length+n:Nat):Int):=by rw [zai (by omega) (by omega)]; omega
   have h4:(b.take (p+(num n).length+n)).drop (p+(num n).length)=r.take n:=by
    have hb':b.drop (p+(num n).length)=r:=by
     rw [← List.drop_drop,h1]; simp
    rw [List.drop_take,hb']; congr 1; omega
   have h5:b.length - (r.drop n).length=p+(num n).length+n:=by simp; omega
   rw [e]
   dsimp only
   rw [if_neg (d_f (by omega)),hw3,zaa (by omega),zce,zb0,h4,zaa (by simp; omega),hw,h5]
   rfl
  ·have e:rdT (b.drop p)=none:=by simp [rdT,hd,c]
   rw [e,if_pos (d_t (by omega))]; rfl
theorem cellAt_num (b:List UInt8) (hb:b.length≤1000000) (z:Cell) (ps:List (List UInt8)) (ns:List Int) (p i:Nat) (hp:p≤b.length) (hns:ns.length≤10) (hi:i=2∨i=3) :
  R_CellAt_B1 b (z,ps,ns,(p:Int),(i:Int))=match rdN (b.drop p) with
   | none=>some (.inr (cell0,0))
   | some (n,r)=>some (.inl (z,ps,ns++[(n:Int)],((b.length - r.length:Nat):Int),((i+1:Nat):Int))):=by
 have hw:w64 ((i:Int)+1)=((i+1:Nat):Int):=by rw [zai (by omega) (by omega)]; omega
 have hdl:(b.drop p).length=b.length - p:=List.length_drop
 simp only [R_CellAt_B1,R_CellAt_J2]
 rw [if_pos (d_t (by omega)),zaa (by omega),zb0,numAt_eq _ (by omega),zab]
 cases hd:rdN (b.drop p) with
 | none=>
  have e2:rnat (b.drop p)=(0,0):=by simp [rnat,hd]
  rw [e2,if_pos (by simp)]; rfl
 | some q=>
  obtain ⟨n,r⟩:=q
  have e2:rnat (b.drop p)=((n:Int),((num n).length:Int)):=by simp [rnat,hd]
  obtain ⟨h1,hn⟩:=rdN_some hd
  have h2:=num_pos n
  have h3:b.length - p=(num n).length+r.length:=by rw [← hdl,h1,List.length_append]
  have hw1:w64 ((p:Int)+((num n).length:Int))=((p+(num n).length:Nat):Int):=by rw [zai (by omega) (by omega)]; omega
  have h5:b.length - r.length=p+(num n).length:=by omega
  rw [e2]
  dsimp only
  rw [if_neg (d_f (by omega)),if_pos (or_t (by omega)),hw1,hw,zaa (by simp; omega),h5]
theorem drop_rest {b r:List UInt8} {p:Nat} {x:List UInt8} (hp:p≤b.length) (h:b.drop p=x++r):b.drop (b.length - r.length)=r∧b.length - r.length≤b.length:=by
 have h1:b.length - p=x.length+r.length:=by rw [← List.length_drop,h,List.length_append]
 refine ⟨?_,by omega⟩
 have:b.length - r.length=p+x.length:=by omega
 rw [this,← List.drop_drop,h]; simp
noncomputable def catS (b:List UInt8):Cell×Int:=match rdC b with
 | some (c,r)=>(c,((b.length - r.length:Nat):Int))
 | none=>(cell0,0)
theorem cellAt_J1 (z:Cell) (x y v:List UInt8) (t k:Nat) (p:Int):R_CellAt_J1 (z,[x,y,v],[(t:Int),(k:Int)],p)=some (if k<2∧zaw ⟨x,y,t,decide ((k:Int)=1),v⟩=0 then (⟨x,y,t,decide ((k:Int)=1),v⟩,p) else (cell0,0)):=by
 unfold R_CellAt_J1
 have g0:zaf [x,y,v] 0=x:=rfl
 have g1:zaf [x,y,v] 1=y:=rfl
 have g2:zaf [x,y,v] 2=v:=rfl
 have n0:zaf [(t:Int),(k:Int)] 0=(t:Int):=rfl
 have n1:zaf [(t:Int),(k:Int)] 1=(k:Int):=rfl
 dsimp only
 rw [zaa (by simp),zaa (by simp),zaa (by simp),zaa (by simp),zaa (by simp),zaa (by simp),zaa (by simp),zaa (by simp),zaa (by simp),zaa (by simp),zaa (by simp),zaa (by simp),g0,g1,g2,n0,n1]
 dsimp only [lt]
 by_cases hc:k<2∧zaw ⟨x,y,t,decide ((k:Int)=1),v⟩=0
 ·have h1:¬ (1:Int)<(k:Int):=by omega
  rw [if_pos hc,if_neg]
  rw [decide_eq_false h1,decide_eq_true hc.2]; simp
 ·rw [if_neg hc,if_pos]
  ·rfl
  ·by_cases h1:(1:Int)<(k:Int)
   ·rw [decide_eq_true h1]; rfl
   ·have h3:¬ zaw ⟨x,y,t,decide ((k:Int)=1),v⟩=0:=fun h=>hc ⟨by omega,h⟩
    rw [decide_eq_false h3]; simp
theorem cellAt_eq (b:List UInt8) (hb:b.length≤1000000):R_CellAt b=some (catS b):=by
 unfold R_CellAt catS rdC
 have s0:=cellAt_text b hb cell0 [] [] 0 0 (by omega) (by simp) (by omega)
 rw [List.drop_zero] at s0
 cases e1:rdT b with
 | none=>rw [e1] at s0; exact zah s0
 | some p1=>
 obtain ⟨row,b1⟩:=p1
 rw [e1] at s0
 refine (zam s0).trans ?_
 obtain ⟨d1,l1⟩:=drop_rest (b:=b) (p:=0) (by omega) (by rw [List.drop_zero]; exact (rdT_some e1).1)
 have s1:=cellAt_text b hb cell0 ([]++[row]) [] (b.length - b1.length) 1 l1 (by simp) (by omega)
 rw [d1] at s1
 dsimp only
 cases e2:rdT b1 with
 | none=>rw [e2] at s1; exact zah s1
 | some p2=>
 obtain ⟨col,b2⟩:=p2
 rw [e2] at s1
 refine (zam s1).trans ?_
 obtain ⟨d2,l2⟩:=drop_rest l1 (by rw [d1]; exact (rdT_some e2).1)
 have s2:=cellAt_num b hb cell0 ([]++[row]++[col]) [] (b.length - b2.length) 2 l2 (by simp) (by omega)
 rw [d2] at s2
 dsimp only
 cases e3:rdN b2 with
 | none=>rw [e3] at s2; exact zah s2
 | some p3=>
 obtain ⟨t,b3⟩:=p3
 rw [e3] at s2
 refine (zam s2).trans ?_
 obtain ⟨d3,l3⟩:=drop_rest l2 (by rw [d2]; exact (rdN_some e3).1)
 have s3:=cellAt_num b hb cell0 ([]++[row]++[col]) ([]++[(t:Int)]) (b.length - b3.length) 3 l3 (by simp) (by omega)
 rw [d3] at s3
 dsimp only
 cases e4:rdN b3 with
 | none=>rw [e4] at s3; exact zah s3
 | some p4=>
 obtain ⟨k,b4⟩:=p4
 rw [e4] at s3
 refine (zam s3).trans ?_
 obtain ⟨d4,l4⟩:=drop_rest l3 (by rw [d3]; exact (rdN_some e4).1)
 have s4:=cellAt_text b hb cell0 ([]++[row]++[col]) ([]++[(t:Int)]++[(k:Int)]) (b.length - b4.length) 4 l4 (by simp) (by omega)
 rw [d4] at s4
 dsimp only
 cases e5:rdT b4 with
 | none=>rw [e5] at s4; exact zah s4
 | some p5=>
 obtain ⟨v,b5⟩:=p5
 rw [e5] at s4
 refine (zam s4).trans ?_
 refine zah ?_
 simp only [R_CellAt_B1]
 have hJ:=cellAt_J1 cell0 row col v t k ((b.length - b5.length:Nat):Int)
 simp only [List.nil_append,List.cons_append]
 rw [if_neg (d_f (by omega)),hJ]
 by_cases hc:k<2∧zaw ⟨row,col,t,decide ((k:Int)=1),v⟩=0
 ·rw [if_pos hc,if_pos hc]; rfl
 ·rw [if_neg hc,if_neg hc]; rfl
theorem cellsOf_J1 (z:Fault) (l:List Cell):R_CellsOf_J1 (z,l)=some (rcS (.inl l)):=by
 simp only [R_CellsOf_J1,rcS,rcheck_eq,zab]
 by_cases c:(cellF l).Code=0
 ·rw [if_neg (n_f c),if_pos c]
 ·rw [if_pos (n_t c),if_neg c]
theorem cellsOf_loop (z:Fault):∀ (k:Nat) (b:List UInt8) (acc:List Cell),b.length≤k→acc.length+b.length≤1000000→
  R_CellsOf_L1 (b,z,acc)=some (rcS (rdAll rdC k b acc))
 | k,[],acc,hk,ha=>by
  rw [rdAll_nil]
  refine zah ?_
  simp [R_CellsOf_B1,cellsOf_J1,zem]
 | 0,x::b,acc,hk,ha=>by simp at hk
 | k+1,x::b,acc,hk,ha=>by
  rw [rdAll,if_neg (by simp)]
  have hpos:0<(x::b).length:=by simp
  have hb:(x::b).length≤1000000:=by omega
  generalize hbb:x::b=bb at *
  cases hd:rdC bb with
  | none=>
   have e2:catS bb=(cell0,0):=by simp [catS,hd]
   refine zah ?_
   simp only [R_CellsOf_B1]
   rw [if_pos (d_t (by omega)),cellAt_eq bb hb,zab,e2,if_pos (by simp)]
   rfl
  | some p=>
   obtain ⟨c,r⟩:=p
   have e2:catS bb=(c,((bb.length - r.length:Nat):Int)):=by simp [catS,hd]
   obtain ⟨h3,h4⟩:=rdC_len hd
   obtain ⟨h5,h6⟩:=rdC_some hd
   have hdr:bb.drop (bb.length - r.length)=r:=(drop_rest (p:=0) (by omega) (by rw [List.drop_zero]; exact h6)).1
   refine (zam (y:=(r,z,acc++[c])) ?_).trans (cellsOf_loop z k r (acc++[c]) (by omega) (by simp; omega))
   simp only [R_CellsOf_B1]
   rw [if_pos (d_t (by omega)),cellAt_eq bb hb,zab,e2]
   dsimp only
   rw [if_neg (d_f (by omega)),zaa (by simp; omega),zaa (by omega),zb0,hdr]
theorem cellsOf_eq (b:List UInt8):R_CellsOf b=some (readS b):=by
 unfold R_CellsOf readS
 by_cases c:60000<b.length
 ·rw [if_pos (d_t (by omega)),if_pos c]; rfl
 ·rw [if_neg (d_f (by omega)),if_neg c]
  exact cellsOf_loop _ b.length b [] (Nat.le_refl _) (by simp; omega)
theorem written_eq (s:List UInt8) (hs:s.length≤1000000000):R_Written s=some (wrT s):=by
 have h5:=num_len5 hs
 unfold R_Written
 rw [rnumber s.length (by omega),zab,zaa (by simp; omega)]; rfl
theorem cellBytes_eq (c:Cell) (h:zaw c=0):R_CellBytes c=some (wrC c):=by
 obtain ⟨h1,h2,h3,h4,h5⟩:=code_len h
 have a1:=wrT_len c.Row (by omega)
 have a2:=wrT_len c.Col (by omega)
 have a3:=wrT_len c.Value (by omega)
 have a4:=num_len5 (n:=c.Time.toNat) (by omega)
 have et:(c.Time)=((c.Time.toNat:Nat):Int):=by omega
 unfold R_CellBytes
 rw [written_eq c.Row (by omega),zab,written_eq c.Col (by omega),zab,zaa (by simp; omega),et,rnumber _ (by omega),zab,zaa (by simp; omega)]
 have e:(if c.Gone=true then zaq (((((wrT c.Row++wrT c.Col)++num c.Time.toNat)++([(1:UInt8)]:List UInt8)).length:Int)*1≤140737488351232) (some (c,(((wrT c.Row++wrT c.Col)++num c.Time.toNat)++([(1:UInt8)]:List UInt8)))) else zaq (((((wrT c.Row++wrT c.Col)++num c.Time.toNat)++([(0:UInt8)]:List UInt8)).length:Int)*1≤140737488351232) (some (c,(((wrT c.Row++wrT c.Col)++num c.Time.toNat)++([(0:UInt8)]:List UInt8)))))=some (c,((wrT c.Row++wrT c.Col)++num c.Time.toNat)++(if c.Gone=true then [1] else [0])):=by
  cases c.Gone
  ·rw [if_neg (by simp),zaa (by simp; omega)]; rfl
  ·rw [if_pos rfl,zaa (by simp; omega)]; rfl
 rw [e,zab]
 dsimp only
 have a5:(if c.Gone=true then ([1]:List UInt8) else [0]).length=1:=by split <;> rfl
 rw [written_eq c.Value (by omega),zab,zaa (by simp only [List.length_append,a5]; omega)]
 simp [wrC]
theorem readS_len (b:List UInt8):(readS b).1.length≤60000:=by
 unfold readS
 split
 ·simp
 ·have key:∀ (k:Nat) (b:List UInt8) (acc l:List Cell),rdAll rdC k b acc = .inl l→l.length≤acc.length+k:=by
   intro k
   induction k with
   | zero=>intro b acc l h; simp only [rdAll,Sum.inl.injEq] at h; subst h; omega
   | succ k ih=>
    intro b acc l h
    rw [rdAll] at h
    split at h
    ·simp only [Sum.inl.injEq] at h; subst h; omega
    ·split at h
     ·have:=ih _ _ _ h; simp at this; omega
     ·cases h
  cases hr:rdAll rdC b.length b [] with
  | inr n=>simp [rcS]
  | inl l=>
   have:=key _ _ _ _ hr
   simp only [rcS]
   split
   ·have h3:l.length≤b.length:=by simpa using this
    show l.length≤60000
    omega
   ·simp
theorem key_refl (a:Cell):key a a:=⟨rfl,rfl,rfl⟩
theorem key_symm {a b:Cell} (h:key a b):key b a:=⟨h.1.symm,h.2.1.symm,h.2.2.symm⟩
theorem key_trans {a b c:Cell} (h:key a b) (g:key b c):key a c:=⟨h.1.trans g.1,h.2.1.trans g.2.1,h.2.2.trans g.2.2⟩
theorem ah_key {a b:Cell} (h:ah a b):¬ key a b:=by
 rintro ⟨e1,e2,e3⟩
 unfold ah at h
 rw [e1,e2,e3] at h
 simp [bl_irr] at h
theorem ah_left {a a' b:Cell} (k:key a a') (h:ah a b):ah a' b:=by
 obtain ⟨e1,e2,e3⟩:=k
 unfold ah at *
 rw [← e1,← e2,← e3]; exact h
theorem ah_right {a b b':Cell} (k:key b b') (h:ah a b):ah a b':=by
 obtain ⟨e1,e2,e3⟩:=k
 unfold ah at *
 rw [← e1,← e2,← e3]; exact h
def le (a b:Cell):Prop:=¬ ah b a
theorem le_refl (a:Cell):le a a:=ah_irr a
theorem le_of_ah {a b:Cell} (h:ah a b):le a b:=ah_asymm h
theorem le_or {a b:Cell} (h:le a b):ah a b∨key a b:=by
 rcases ah_tri a b with q | q | q
 ·exact .inl q
 ·exact .inr q
 ·exact absurd q h
theorem ah_of {a b c:Cell} (h:ah a b) (g:le b c):ah a c:=by
 rcases le_or g with q | q
 ·exact ah_trans h q
 ·exact ah_right q h
theorem ah_of' {a b c:Cell} (h:le a b) (g:ah b c):ah a c:=by
 rcases le_or h with q | q
 ·exact ah_trans q g
 ·exact ah_left (key_symm q) g
theorem le_trans {a b c:Cell} (h:le a b) (g:le b c):le a c:=fun q=>h (ah_of' g q)
def Srt (l:List Cell):Prop:=l.Pairwise le
instance (a b:Cell):Decidable (key a b):=inferInstanceAs (Decidable (_∧_))
def fk (k:Cell) (l:List Cell):List Cell:=l.filter fun x=>decide (key k x)
theorem fk_app (k:Cell) (a b:List Cell):fk k (a++b)=fk k a++fk k b:=by unfold fk; rw [List.filter_append]
theorem fk_cons (k x:Cell) (l:List Cell):fk k (x::l)=if key k x then x::fk k l else fk k l:=by
 unfold fk; rw [List.filter_cons]; by_cases c:key k x <;> simp [c]
def Stab (l x:List Cell):Prop:=∀ k,fk k x=fk k l
theorem Stab.refl (l:List Cell):Stab l l:=fun _=>rfl
theorem Stab.trans {a b c:List Cell} (h:Stab a b) (g:Stab b c):Stab a c:=fun k=>(g k).trans (h k)
theorem Stab.app {a a' b b':List Cell} (h:Stab a a') (g:Stab b b'):Stab (a++b) (a'++b'):=fun k=>by rw [fk_app,fk_app,h k,g k]
theorem fk_none {k:Cell} {l:List Cell} (h:∀ x∈l,¬ key k x):fk k l=[]:=by
 unfold fk
 rw [List.filter_eq_nil_iff]
 intro x hx q
 exact h x hx (of_decide_eq_true q)
theorem Stab.swap {u v:List Cell} (h:∀ x∈u,∀ y∈v,¬ key x y):Stab (u++v) (v++u):=fun k=>by
 rw [fk_app,fk_app]
 by_cases c:∃ x∈u,key k x
 ·obtain ⟨x,hx,hk⟩:=c
  rw [fk_none (l:=v) (fun y hy q=>h x hx y hy (key_trans (key_symm hk) q))]; simp
 ·rw [fk_none (l:=u) (fun y hy q=>c ⟨y,hy,q⟩)]; simp
theorem Stab.mem {l x:List Cell} (h:Stab l x) {c:Cell} (hc:c∈x):c∈l:=by
 have:c∈fk c x:=by unfold fk; rw [List.mem_filter]; exact ⟨hc,decide_eq_true (key_refl c)⟩
 rw [h c] at this
 unfold fk at this
 exact (List.mem_filter.1 this).1
theorem Stab.symm {l x:List Cell} (h:Stab l x):Stab x l:=fun k=>(h k).symm
theorem srt_app {a b:List Cell} (ha:Srt a) (hb:Srt b) (h:∀ x∈a,∀ y∈b,le x y):Srt (a++b):=List.pairwise_append.2 ⟨ha,hb,h⟩
def Firsts (l x:List Cell):Prop:=x.Pairwise ah∧∀ c,c∈x↔(fk c l).head?=some c
theorem firsts_uniq {l x y:List Cell} (h:Firsts l x) (g:Firsts l y):x=y:=by
 obtain ⟨h1,h2⟩:=h
 obtain ⟨g1,g2⟩:=g
 have hm:∀ c,c∈x↔c∈y:=fun c=>by rw [h2,g2]
 clear h2 g2
 induction x generalizing y with
 | nil=>
  cases y with
  | nil=>rfl
  | cons b y=>exact absurd ((hm b).2 (List.mem_cons_self ..)) (by simp)
 | cons a x ih=>
  cases y with
  | nil=>exact absurd ((hm a).1 (List.mem_cons_self ..)) (by simp)
  | cons b y=>
   obtain ⟨p1,p2⟩:=List.pairwise_cons.1 h1
   obtain ⟨q1,q2⟩:=List.pairwise_cons.1 g1
   have hab:a=b:=by
    rcases List.mem_cons.1 ((hm a).1 (List.mem_cons_self ..)) with e | e
    ·exact e
    ·rcases List.mem_cons.1 ((hm b).2 (List.mem_cons_self ..)) with e2 | e2
     ·exact e2.symm
     ·exact absurd (p1 b e2) (ah_asymm (q1 a e))
   subst hab
   rw [ih p2 q2 fun c=>?_]
   constructor
   ·intro hc
    rcases List.mem_cons.1 ((hm c).1 (List.mem_cons_of_mem _ hc)) with e | e
    ·subst e; exact absurd (p1 c hc) (ah_irr c)
    ·exact e
   ·intro hc
    rcases List.mem_cons.1 ((hm c).2 (List.mem_cons_of_mem _ hc)) with e | e
    ·subst e; exact absurd (q1 c hc) (ah_irr c)
    ·exact e
theorem Firsts.stab {l m x:List Cell} (h:Firsts l x) (g:Stab m l):Firsts m x:=⟨h.1,fun c=>by rw [h.2 c,g c]⟩
theorem key_of_le {a b:Cell} (h:le a b) (g:le b a):key a b:=by
 rcases le_or h with q | q
 ·exact absurd q g
 ·exact q
theorem srt_uniq:∀ {x y:List Cell},Srt x→Srt y→Stab x y→x=y
 | [],[],_,_,_=>rfl
 | [],b::y,_,_,h=>by have:=h.mem (List.mem_cons_self (a:=b) (l:=y)); cases this
 | a::x,[],_,_,h=>by have:=h.symm.mem (List.mem_cons_self (a:=a) (l:=x)); cases this
 | a::x,b::y,hx,hy,h=>by
  obtain ⟨p1,p2⟩:=List.pairwise_cons.1 hx
  obtain ⟨q1,q2⟩:=List.pairwise_cons.1 hy
  have h1:le a b:=by
   rcases List.mem_cons.1 (h.mem (List.mem_cons_self (a:=b) (l:=y))) with e | e
   ·rw [e]; exact le_refl _
   ·exact p1 b e
  have h2:le b a:=by
   rcases List.mem_cons.1 (h.symm.mem (List.mem_cons_self (a:=a) (l:=x))) with e | e
   ·rw [e]; exact le_refl _
   ·exact q1 a e
  have hk:=key_of_le h1 h2
  have ha:=h a
  rw [fk_cons,fk_cons,if_pos hk,if_pos (key_refl a)] at ha
  have hab:b=a:=(List.cons.inj ha).1
  subst hab
  rw [srt_uniq p2 q2 fun k=>?_]
  have:=h k
  rw [fk_cons,fk_cons] at this
  by_cases c:key k b
  ·rw [if_pos c,if_pos c] at this; exact (List.cons.inj this).2
  ·rw [if_neg c,if_neg c] at this; exact this
theorem put_left (x:Cell) {t:List Cell} (ht:Srt t):∃ u v,t=u++v∧(∀ y∈u,ah y x)∧(∀ y∈v,le x y):=by
 induction t with
 | nil=>exact ⟨[],[],rfl,by simp,by simp⟩
 | cons a t ih=>
  obtain ⟨p1,p2⟩:=List.pairwise_cons.1 ht
  by_cases c:zb2 a x=true
  ·obtain ⟨u,v,rfl,h1,h2⟩:=ih p2
   exact ⟨a::u,v,rfl,fun y hy=>by
    rcases List.mem_cons.1 hy with e | e
    ·rw [e]; exact (za6 _ _).1 c
    ·exact h1 y e,h2⟩
  ·have c':le x a:=fun q=>c ((za6 _ _).2 q)
   exact ⟨[],a::t,rfl,by simp,fun y hy=>by
    rcases List.mem_cons.1 hy with e | e
    ·rw [e]; exact c'
    ·exact le_trans c' (p1 y e)⟩
theorem put_srt {u v:List Cell} {x:Cell} (h:Srt (u++v)) (h1:∀ y∈u,le y x) (h2:∀ y∈v,le x y):Srt (u++x::v):=by
 obtain ⟨p1,p2,p3⟩:=List.pairwise_append.1 h
 refine List.pairwise_append.2 ⟨p1,List.pairwise_cons.2 ⟨h2,p2⟩,fun y hy z hz=>?_⟩
 rcases List.mem_cons.1 hz with e | e
 ·rw [e]; exact h1 y hy
 ·exact p3 y hy z e
theorem srt_ex:∀ l:List Cell,∃ x,Srt x∧Stab l x
 | []=>⟨[],.nil,Stab.refl _⟩
 | a::l=>by
  obtain ⟨t,h1,h2⟩:=srt_ex l
  obtain ⟨u,v,rfl,h3,h4⟩:=put_left a h1
  refine ⟨u++a::v,put_srt h1 (fun y hy=>le_of_ah (h3 y hy)) h4,?_⟩
  have e1:Stab (a::l) (a::(u++v)):=Stab.app (Stab.refl [a]) h2
  have e2:Stab ([a]++u) (u++[a]):=Stab.swap fun x hx y hy q=>by
   rw [List.mem_singleton.1 hx] at q
   exact ah_key (h3 y hy) (key_symm q)
  have e3:Stab (([a]++u)++v) ((u++[a])++v):=Stab.app e2 (Stab.refl v)
  rw [List.append_assoc,List.append_assoc] at e3
  exact e1.trans e3
noncomputable def srtd (l:List Cell):List Cell:=Classical.choose (srt_ex l)
theorem srtd_srt (l:List Cell):Srt (srtd l):=(Classical.choose_spec (srt_ex l)).1
theorem srtd_stab (l:List Cell):Stab l (srtd l):=(Classical.choose_spec (srt_ex l)).2
theorem srtd_is {l x:List Cell} (h:Srt x) (g:Stab l x):x=srtd l:=srt_uniq h (srtd_srt l) (g.symm.trans (srtd_stab l))
theorem srtd_self {l:List Cell} (h:Srt l):srtd l=l:=(srtd_is h (Stab.refl l)).symm
theorem srtd_congr {l m:List Cell} (h:Stab l m):srtd m=srtd l:=srtd_is (srtd_srt m) (h.trans (srtd_stab m))
theorem stab_len:∀ {l x:List Cell},Stab l x→x.length=l.length:=by
 have key:∀ (n:Nat) (l x:List Cell),l.length=n→Stab l x→x.length=l.length:=by
  intro n
  induction n with
  | zero=>
   intro l x e h
   cases x with
   | nil=>rw [e]; rfl
   | cons a x=>have:=h.mem (List.mem_cons_self (a:=a) (l:=x)); rw [List.eq_nil_of_length_eq_zero e] at this; cases this
  | succ n ih=>
   intro l x e h
   cases l with
   | nil=>cases e
   | cons a l=>
    have ha:a∈x:=h.symm.mem (List.mem_cons_self ..)
    have hf:=h a
    rw [fk_cons,if_pos (key_refl a)] at hf
    obtain ⟨u,v,rfl⟩:=List.append_of_mem (show a∈x from ha)
    obtain ⟨u,b,v,e2,hk,hu⟩:∃ u' b v',u++a::v=u'++b::v'∧key a b∧∀ y∈u',¬ key a y:=by
     clear h hf ha
     generalize hw:u++a::v=w
     have hm:a∈w:=by rw [← hw]; simp
     clear hw u v
     induction w with
     | nil=>cases hm
     | cons c w ih2=>
      by_cases hc:key a c
      ·exact ⟨[],c,w,rfl,hc,by simp⟩
      ·rcases List.mem_cons.1 hm with e | e
       ·rw [e] at hc; exact absurd (key_refl c) hc
       ·obtain ⟨u',b,v',h1,h2,h3⟩:=ih2 e
        exact ⟨c::u',b,v',by rw [h1]; rfl,h2,fun y hy=>by
         rcases List.mem_cons.1 hy with q | q
         ·rw [q]; exact hc
         ·exact h3 y q⟩
    rw [e2] at h hf ⊢
    rw [fk_app,fk_none hu,fk_cons,if_pos hk,List.nil_append] at hf
    have hb:b=a:=(List.cons.inj hf).1
    subst hb
    have hs:Stab l (u++v):=fun k=>by
     have:=h k
     rw [fk_app,fk_cons,fk_cons] at this
     rw [fk_app]
     by_cases c:key k b
     ·rw [if_pos c,if_pos c] at this
      rw [fk_none (fun y hy q=>hu y hy (key_trans (key_symm c) q))] at this ⊢
      exact (List.cons.inj this).2
     ·rw [if_neg c,if_neg c] at this; exact this
    have:=ih l (u++v) (by simpa using e) hs
    simp only [List.length_append,List.length_cons] at this ⊢
    omega
 intro l x h
 exact key _ l x rfl h
theorem zew (l:List Cell):(srtd l).length=l.length:=stab_len (srtd_stab l)
theorem lget_mid (a:List Cell) (x:Cell) (b:List Cell):zaf (a++x::b) (a.length:Int)=x:=by simp [zaf]
theorem lset_mid (a:List Cell) (x y:Cell) (b:List Cell):lset (a++x::b) (a.length:Int) y=a++y::b:=by simp [lset]
section
variable (A B C:List Cell) (x y:Cell)
theorem sw_i:zaf (A++x::(B++y::C)) (A.length:Int)=x:=lget_mid _ _ _
theorem sw_j {j:Int} (h:j=((A.length+1+B.length:Nat):Int)):zaf (A++x::(B++y::C)) j=y:=by
 have e:A++x::(B++y::C)=(A++x::B)++y::C:=by simp
 have e2:j=((A++x::B).length:Int):=by rw [h,List.length_append,List.length_cons]; omega
 rw [e,e2,lget_mid]
theorem sw_ij {j:Int} (h:j=((A.length+1+B.length:Nat):Int)):lset (lset (A++x::(B++y::C)) (A.length:Int) y) j x=A++y::(B++x::C):=by
 rw [lset_mid]
 have e:A++y::(B++y::C)=(A++y::B)++y::C:=by simp
 have e2:j=((A++y::B).length:Int):=by rw [h,List.length_append,List.length_cons]; omega
 rw [e,e2,lset_mid]; simp
theorem sw_ji {j:Int} (h:j=((A.length+1+B.length:Nat):Int)):lset (lset (A++x::(B++y::C)) j x) (A.length:Int) y=A++y::(B++x::C):=by
 have e:A++x::(B++y::C)=(A++x::B)++y::C:=by simp
 have e2:j=((A++x::B).length:Int):=by rw [h,List.length_append,List.length_cons]; omega
 rw [e,e2,lset_mid]
 have e3:A++x::B++x::C=A++x::(B++x::C):=by simp
 rw [e3,lset_mid]
end
theorem bs_any {ρ:Type} (step:Int×Int→Option ((Int×Int)⊕ρ)) (k:Int→Option ρ) (p:Nat→Prop) [DecidablePred p] (lo hi:Nat)
  (hp:∀ s t:Nat,lo≤s→s<t→t<hi→p t→p s)
  (hs:∀ i j:Nat,lo≤i→i<j→j≤hi→step ((i:Int),(j:Int))=some (.inl (if p ((i+j) / 2) then ((((i+j) / 2+1:Nat):Int),(j:Int)) else ((i:Int),(((i+j) / 2:Nat):Int)))))
  (he:∀ i:Nat,lo≤i→i≤hi→step ((i:Int),(i:Int))=zem (k (i:Int))) :
  ∀ (d i j:Nat),j - i=d→lo≤i→i≤j→j≤hi→(∀ t,lo≤t→t<i→p t)→(∀ t,j≤t→t<hi→¬ p t)→
   ∃ n,lo≤n∧n≤hi∧(∀ t,lo≤t→t<n→p t)∧(∀ t,n≤t→t<hi→¬ p t)∧zbc step ((i:Int),(j:Int))=k (n:Int):=by
 intro d
 induction d using Nat.strongRecOn with
 | _ d ih=>
  intro i j e h1 h2 h3 h4 h5
  by_cases c:i<j
  ·have hst:=hs i j h1 c h3
   generalize hh:(i+j) / 2=h at hst
   by_cases cp:p h
   ·rw [if_pos cp] at hst
    obtain ⟨n,r⟩:=ih (j - (h+1)) (by omega) (h+1) j rfl (by omega) (by omega) h3 (fun t g1 g2=>by
     by_cases q:t=h
     ·rw [q]; exact cp
     ·exact hp t h g1 (by omega) (by omega) cp) h5
    exact ⟨n,r.1,r.2.1,r.2.2.1,r.2.2.2.1,(zam hst).trans r.2.2.2.2⟩
   ·rw [if_neg cp] at hst
    obtain ⟨n,r⟩:=ih (h - i) (by omega) i h rfl h1 (by omega) (by omega) h4 (fun t g1 g2 q=>by
     by_cases q2:t=h
     ·rw [q2] at q; exact cp q
     ·exact cp (hp h t (by omega) (by omega) g2 q))
    exact ⟨n,r.1,r.2.1,r.2.2.1,r.2.2.2.1,(zam hst).trans r.2.2.2.2⟩
  ·have:i=j:=by omega
   subst this
   refine ⟨i,h1,h3,h4,h5,?_⟩
   rw [loopO_eq,he i h1 h3]
   cases k (i:Int) <;> rfl
theorem mid_w (i j:Nat) (h:i+j≤9000000000000000000):w64 (Int.fdiv (IntKind.u64.wrap (w64 ((i:Int)+(j:Int)))) (2 ^ (min (1:Int).toNat 64)))=(((i+j) / 2:Nat):Int):=by
 have e2:(2:Int) ^ (min (1:Int).toNat 64)=((2:Nat):Int):=by decide
 have e1:IntKind.u64.wrap (w64 ((i:Int)+(j:Int)))=((i+j:Nat):Int):=by
  rw [zai (by omega) (by omega)]
  unfold IntKind.wrap
  simp only [IntKind.signed,IntKind.bits]
  simp
  omega
 rw [e1,e2,fdiv_nat',zai (by omega) (by omega)]
theorem ins_in (P:List Cell) (v1:List Cell×Int):∀ (n:Nat) (U W:List Cell) (x:Cell),U.length=n→Srt U→(P++(U++x::W)).length≤1000000000000→
  ∃ U1 U2,U=U1++U2∧(∀ y∈U1,le y x)∧(∀ y∈U2,ah x y)∧
   zcn (P.length:Int) v1 (P++(U++x::W),((P.length+U.length:Nat):Int))=some (.inl (P++(U1++x::(U2++W)),w64 (v1.2+1))):=by
 intro n
 induction n with
 | zero=>
  intro U W x e hs hl
  have:U=[]:=List.eq_nil_of_length_eq_zero e
  subst this
  refine ⟨[],[],rfl,by simp,by simp,zah ?_⟩
  have hc:decide ((P.length:Int)<((P.length+([]:List Cell).length:Nat):Int))=false:=decide_eq_false (by simp)
  unfold za5
  dsimp only
  rw [hc,zaa (fun q=>by cases q),zaa (fun q=>by cases q),zaa (fun q=>by cases q),zaa (fun q=>by cases q),if_neg (by decide),zab,if_neg (by simp)]
  rfl
 | succ n ih=>
  intro U W x e hs hl
  rcases List.eq_nil_or_concat U with h0 | ⟨U',y,rfl⟩
  ·subst h0; cases e
  ·rw [List.concat_eq_append] at *
   have hU':U'.length=n:=by simpa using e
   have hd:P++((U'++[y])++x::W)=(P++U')++y::([]++x::W):=by simp
   have hj:((P.length+(U'++[y]).length:Nat):Int)=(((P++U').length+1+([]:List Cell).length:Nat):Int):=by simp; omega
   have hi:w64 ((((P++U').length+1+([]:List Cell).length:Nat):Int) - 1)=((P++U').length:Int):=by
    simp only [List.length_append,List.length_cons,List.length_nil] at hl ⊢
    rw [zai (by omega) (by omega)]; omega
   have hlen:((P++U')++y::([]++x::W)).length=(P++U').length+2+W.length:=by simp; omega
   rw [hd,hj]
   have hB:za5 (P.length:Int) v1 ((P++U')++y::([]++x::W),(((P++U').length+1+([]:List Cell).length:Nat):Int)) =
     if zb2 x y=true then some (.inl ((P++U')++x::([]++y::W),((P++U').length:Int))) else some (.inr (.inl ((P++U')++y::([]++x::W),w64 (v1.2+1)))):=by
    have hc:decide ((P.length:Int)<(((P++U').length+1+([]:List Cell).length:Nat):Int))=true:=decide_eq_true (by simp only [List.length_append,List.length_nil]; omega)
    have hr1:0≤(((P++U').length+1+([]:List Cell).length:Nat):Int)∧(((P++U').length+1+([]:List Cell).length:Nat):Int)<(((P++U')++y::([]++x::W)).length:Int):=by rw [hlen]; simp only [List.length_nil]; omega
    have hr2:0≤((P++U').length:Int)∧((P++U').length:Int)<(((P++U')++y::([]++x::W)).length:Int):=by rw [hlen]; omega
    unfold za5
    dsimp only
    rw [hc,hi,zaa (fun _=>hr1),zaa (fun _=>hr1),zaa (fun _=>hr2),zaa (fun _=>hr2),if_pos rfl,sw_i,sw_j _ _ _ _ _ rfl]
    simp only [zcw]
    rw [order_eq,zab]
    by_cases c:zb2 x y=true
    ·rw [if_pos c,if_pos (by simp [(ord_neg x y).2 c]),zaa hr2,zaa hr2,zaa hr1,zaa hr1,zaa hr1,zaa hr1,zaa (by rw [lset_len]; exact hr2),zaa (by rw [lset_len]; exact hr2),sw_ji _ _ _ _ _ rfl]
     rfl
    ·have:decide (ord x y<0)=false:=decide_eq_false fun q=>c ((ord_neg x y).1 q)
     rw [if_neg c,this,if_neg (by decide)]; rfl
   by_cases c:zb2 x y=true
   ·rw [if_pos c] at hB
    have hs':Srt U':=(List.pairwise_append.1 hs).1
    obtain ⟨U1,U2,e1,h1,h2,h3⟩:=ih U' (y::W) x hU' hs' (by simpa using hl)
    refine ⟨U1,U2++[y],by rw [e1]; simp,h1,fun z hz=>?_,(zam hB).trans ?_⟩
    ·rcases List.mem_append.1 hz with q | q
     ·exact h2 z q
     ·rw [List.mem_singleton.1 q]; exact (za6 _ _).1 c
    ·have e2:P++U'++x::([]++y::W)=P++(U'++x::(y::W)):=by simp
     have e3:P++(U1++x::(U2++[y]++W))=P++(U1++x::(U2++y::W)):=by simp
     rw [e2,e3,List.length_append]; exact h3
   ·rw [if_neg c] at hB
    have c':le y x:=fun q=>c ((za6 _ _).2 q)
    refine ⟨U'++[y],[],by simp,fun z hz=>?_,by simp,?_⟩
    ·rcases List.mem_append.1 hz with q | q
     ·exact le_trans ((List.pairwise_append.1 hs).2.2 z q y (List.mem_singleton.2 rfl)) c'
     ·rw [List.mem_singleton.1 q]; exact c'
    ·have e3:P++(U'++[y]++x::([]++W))=P++U'++y::([]++x::W):=by simp
     rw [e3]; exact zah hB
theorem ins_out (P S:List Cell):∀ (M2 M1:List Cell),(P++(M1++(M2++S))).length≤1000000000000→
  zbq (P.length:Int) ((P.length+(M1.length+M2.length):Nat):Int) (P++(srtd M1++(M2++S)),((P.length+M1.length:Nat):Int))=some (P++(srtd (M1++M2)++S))
 | [],M1,hl=>by
  refine zah ?_
  unfold za2
  dsimp only
  rw [if_neg (d_f (by simp)),List.append_nil]; rfl
 | x::M2,M1,hl=>by
  have hsl:=zew M1
  obtain ⟨U1,U2,e1,h1,h2,h3⟩:=ins_in P (P++(srtd M1++(x::M2++S)),((P.length+M1.length:Nat):Int)) _ (srtd M1) (M2++S) x rfl (srtd_srt M1) (by simp only [List.length_append,List.length_cons] at hl ⊢; omega)
  have hw:w64 (((P.length+M1.length:Nat):Int)+1)=((P.length+(M1++[x]).length:Nat):Int):=by
   simp only [List.length_append,List.length_cons,List.length_nil] at hl ⊢
   rw [zai (by omega) (by omega)]; omega
  have hsx:U1++x::U2=srtd (M1++[x]):=by
   refine srtd_is (put_srt (e1▸srtd_srt M1) h1 fun y hy=>le_of_ah (h2 y hy)) ?_
   have a1:Stab (M1++[x]) (srtd M1++[x]):=Stab.app (srtd_stab M1) (Stab.refl _)
   have a2:Stab (U2++[x]) ([x]++U2):=Stab.swap fun y hy z hz q=>by
    rw [List.mem_singleton.1 hz] at q
    exact ah_key (h2 y hy) (key_symm q)
   have a3:Stab (U1++(U2++[x])) (U1++([x]++U2)):=Stab.app (Stab.refl U1) a2
   rw [e1,List.append_assoc] at a1
   exact a1.trans a3
  have ih:=ins_out P S M2 (M1++[x]) (by simpa using hl)
  refine (zam ?_).trans ((congrArg (fun z=>zbq (P.length:Int) z (P++(srtd (M1++[x])++(M2++S)),((P.length+(M1++[x]).length:Nat):Int))) (show ((P.length+(M1.length+(x::M2).length):Nat):Int)=((P.length+((M1++[x]).length+M2.length):Nat):Int) by simp only [List.length_append,List.length_cons,List.length_nil]; omega)).trans (ih.trans ?_))
  ·unfold za2
   dsimp only
   rw [if_pos (d_t (by simp only [List.length_cons]; omega))]
   rw [hsl] at h3
   refine h3.trans ?_
   rw [hw,← hsx]; simp
  ·rw [List.append_assoc]; rfl
theorem insertion_eq (P M S:List Cell) (hl:(P++(M++S)).length≤1000000000000):za0 (P.length:Int) ((P.length+M.length:Nat):Int) (P++(M++S))=some (P++(srtd M++S)):=by
 have hw:w64 ((P.length:Int)+1)=((P.length+1:Nat):Int):=by simp only [List.length_append] at hl; rw [zai (by omega) (by omega)]; omega
 unfold za0
 rw [hw]
 cases M with
 | nil=>
  have e:srtd []=[]:=srtd_self .nil
  rw [e]
  refine zah ?_
  unfold za2
  dsimp only
  rw [if_neg (d_f (by simp; omega))]; rfl
 | cons x M=>
  have e:srtd [x]=[x]:=srtd_self (List.pairwise_singleton _ _)
  have:=ins_out P S M [x] (by simpa using hl)
  rw [e] at this
  have e2:((P.length+(x::M).length:Nat):Int)=((P.length+([x].length+M.length):Nat):Int):=by simp only [List.length_cons,List.length_nil]; omega
  rw [e2]; exact this
theorem swr_loop (P Q S:List Cell) (a b num:Int):∀ (Xr Yr Xd Yd:List Cell) (t:Nat),Xr.length=Yr.length→Xd.length=t→Yd.length=t→num=((t+Xr.length:Nat):Int)→a=(P.length:Int)→b=((P.length+(t+Xr.length)+Q.length:Nat):Int)→
  (P++(Yd++(Xr++(Q++(Xd++(Yr++S)))))).length≤1000000000000→
  zc5 a b num (P++(Yd++(Xr++(Q++(Xd++(Yr++S))))),(t:Int))=some (P++((Yd++Yr)++(Q++((Xd++Xr)++S))))
 | [],[],Xd,Yd,t,e1,e2,e3,e4,e5,e6,hl=>by
  refine zah ?_
  unfold zb4
  dsimp only
  rw [if_neg (d_f (by rw [e4]; simp))]
  simp only [List.append_nil,List.nil_append]; rfl
 | x::Xr,y::Yr,Xd,Yd,t,e1,e2,e3,e4,e5,e6,hl=>by
  have ih:=swr_loop P Q S a b num Xr Yr (Xd++[x]) (Yd++[y]) (t+1) (by simpa using e1) (by simp [e2]) (by simp [e3]) (by rw [e4]; simp only [List.length_cons]; omega) e5 (by rw [e6]; simp only [List.length_cons]; omega) (by simp only [List.length_append,List.length_cons,List.length_nil] at hl ⊢; omega)
  have hd:P++(Yd++(x::Xr++(Q++(Xd++(y::Yr++S)))))=(P++Yd)++x::((Xr++(Q++Xd))++y::(Yr++S)):=by simp
  have hd2:P++((Yd++[y])++(Xr++(Q++((Xd++[x])++(Yr++S)))))=(P++Yd)++y::((Xr++(Q++Xd))++x::(Yr++S)):=by simp
  have hlen:((P++Yd)++x::((Xr++(Q++Xd))++y::(Yr++S))).length=(P++Yd).length+1+(Xr++(Q++Xd)).length+1+(Yr++S).length:=by simp; omega
  rw [hd] at hl ⊢
  rw [hd2] at ih
  rw [hlen] at hl
  have hA:w64 (a+(t:Int))=((P++Yd).length:Int):=by
   simp only [List.length_append,List.length_cons] at hl ⊢
   rw [e5,zai (by omega) (by omega)]; omega
  have hJ:w64 (b+(t:Int))=(((P++Yd).length+1+(Xr++(Q++Xd)).length:Nat):Int):=by
   simp only [List.length_append,List.length_cons] at hl e6 ⊢
   rw [e6,zai (by omega) (by omega)]; omega
  have hr1:0≤(((P++Yd).length+1+(Xr++(Q++Xd)).length:Nat):Int)∧(((P++Yd).length+1+(Xr++(Q++Xd)).length:Nat):Int)<(((P++Yd)++x::((Xr++(Q++Xd))++y::(Yr++S))).length:Int):=by rw [hlen]; omega
  have hr2:0≤((P++Yd).length:Int)∧((P++Yd).length:Int)<(((P++Yd)++x::((Xr++(Q++Xd))++y::(Yr++S))).length:Int):=by rw [hlen]; omega
  refine (zam ?_).trans (ih.trans ?_)
  ·unfold zb4
   dsimp only
   rw [if_pos (d_t (by rw [e4]; simp only [List.length_cons]; omega)),hA,hJ,zaa hr1,zaa hr1,zaa hr2,zaa hr2,zaa hr2,zaa hr2,zaa (by rw [lset_len]; exact hr1),zaa (by rw [lset_len]; exact hr1),sw_i,sw_j _ _ _ _ _ rfl]
   simp only [zcw,lt]
   rw [sw_ij _ _ _ _ _ rfl,zai (by simp only [List.length_append] at hl; omega) (by simp only [List.length_append] at hl; omega)]
   rfl
  ·simp
theorem swapRange_eq (P X Q Y S:List Cell) (h:X.length=Y.length) (hl:(P++(X++(Q++(Y++S)))).length≤1000000000000) {a b num:Int} (ha:a=(P.length:Int)) (hb:b=((P.length+X.length+Q.length:Nat):Int)) (hn:num=(X.length:Int)) :
  zay a b num (P++(X++(Q++(Y++S))))=some (P++(Y++(Q++(X++S)))):=by
 unfold zay
 have:=swr_loop P Q S a b num X Y [] [] 0 h rfl rfl (by rw [hn]; simp) ha (by rw [hb]; simp) (by simpa using hl)
 simpa using this
theorem rot_loop (m:Int):∀ (n:Nat) (P U V S:List Cell),U.length+V.length=n→U≠[]→V≠[]→m=((P.length+U.length:Nat):Int)→(P++(U++(V++S))).length≤1000000000000→
  zdz m (P++(U++(V++S)),(U.length:Int),(V.length:Int))=some (P++(V++(U++S))):=by
 intro n
 induction n using Nat.strongRecOn with
 | _ n ih=>
  intro P U V S e hU hV hm hl
  have hu:=List.length_pos_iff.2 hU
  have hv:=List.length_pos_iff.2 hV
  have hl':=hl
  simp only [List.length_append] at hl'
  have hmi:w64 (m - (U.length:Int))=(P.length:Int):=by rw [hm,zai (by omega) (by omega)]; omega
  by_cases c:U.length=V.length
  ·refine zah ?_
   unfold zbr
   dsimp only
   rw [if_neg (n_f (by omega))]
   unfold zch
   dsimp only
   have:=swapRange_eq P U [] V S c (by simpa using hl) (a:=(P.length:Int)) (b:=m) (num:=(U.length:Int)) rfl (by rw [hm]; simp) rfl
   simp only [List.nil_append] at this
   rw [hmi,this]; rfl
  ·by_cases c2:V.length<U.length
   ·have hsp:U=U.take V.length++U.drop V.length:=(List.take_append_drop ..).symm
    have h1:(U.take V.length).length=V.length:=by rw [List.length_take]; omega
    have h2:(U.drop V.length).length=U.length - V.length:=by rw [List.length_drop]
    generalize U.take V.length=U1 at *
    generalize U.drop V.length=U2 at *
    subst hsp
    have ih':=ih (U2.length+U1.length) (by simp only [List.length_append] at e; omega) (P++V) U2 U1 S rfl (List.length_pos_iff.1 (by omega)) (List.length_pos_iff.1 (by omega)) (by rw [hm]; simp only [List.length_append]; omega) (by simp only [List.length_append] at hl ⊢; omega)
    have hd:P++(U1++U2++(V++S))=P++(U1++(U2++(V++S))):=by simp
    have hw:w64 (((U1++U2).length:Int) - (V.length:Int))=(U2.length:Int):=by simp only [List.length_append] at hl' ⊢; rw [zai (by omega) (by omega)]; omega
    have hsw:=swapRange_eq P U1 U2 V S h1 (by rw [← hd]; exact hl) (a:=(P.length:Int)) (b:=m) (num:=(V.length:Int)) rfl (by rw [hm]; simp only [List.length_append]; omega) (by omega)
    refine (zam ?_).trans (ih'.trans (by simp))
    unfold zbr
    dsimp only
    rw [if_pos (n_t (by omega)),if_pos (d_t (by omega)),hmi,hd,hsw,zab,hw,h1]
    simp
   ·have hsp:V=V.take (V.length - U.length)++V.drop (V.length - U.length):=(List.take_append_drop ..).symm
    have h1:(V.take (V.length - U.length)).length=V.length - U.length:=by rw [List.length_take]; omega
    have h2:(V.drop (V.length - U.length)).length=U.length:=by rw [List.length_drop]; omega
    generalize V.take (V.length - U.length)=V1 at *
    generalize V.drop (V.length - U.length)=V2 at *
    subst hsp
    have ih':=ih (V2.length+V1.length) (by simp only [List.length_append] at e; omega) P V2 V1 (U++S) rfl (List.length_pos_iff.1 (by omega)) (List.length_pos_iff.1 (by omega)) (by rw [hm]; omega) (by simp only [List.length_append] at hl ⊢; omega)
    have hd:P++(U++(V1++V2++S))=P++(U++(V1++(V2++S))):=by simp
    have hw:w64 (((V1++V2).length:Int) - (U.length:Int))=(V1.length:Int):=by simp only [List.length_append] at hl' ⊢; rw [zai (by omega) (by omega)]; omega
    have hw2:w64 (w64 (m+((V1++V2).length:Int)) - (U.length:Int))=((P.length+U.length+V1.length:Nat):Int):=by
     simp only [List.length_append] at hl' ⊢
     have h3:w64 (m+((V1.length+V2.length:Nat):Int))=m+((V1.length+V2.length:Nat):Int):=zai (by omega) (by omega)
     rw [h3,zai (by omega) (by omega)]; omega
    have hsw:=swapRange_eq P U V1 V2 S h2.symm (by rw [← hd]; exact hl) (a:=(P.length:Int)) (b:=((P.length+U.length+V1.length:Nat):Int)) (num:=(U.length:Int)) rfl rfl rfl
    refine (zam ?_).trans (ih'.trans (by simp))
    unfold zbr
    dsimp only
    rw [if_pos (n_t (by omega)),if_neg (d_f (by omega)),hmi,hw2,hd,hsw,zab,hw,h2]
theorem rotate_eq (P U V S:List Cell) (hU:U≠[]) (hV:V≠[]) (hl:(P++(U++(V++S))).length≤1000000000000) {a m b:Int} (ha:a=(P.length:Int)) (hm:m=((P.length+U.length:Nat):Int)) (hb:b=((P.length+U.length+V.length:Nat):Int)) :
  zbl a m b (P++(U++(V++S)))=some (P++(V++(U++S))):=by
 have hl':=hl
 simp only [List.length_append] at hl'
 unfold zbl
 have e1:w64 (m - a)=(U.length:Int):=by rw [ha,hm,zai (by omega) (by omega)]; omega
 have e2:w64 (b - m)=(V.length:Int):=by rw [hb,hm,zai (by omega) (by omega)]; omega
 rw [e1,e2]
 exact rot_loop m _ P U V S rfl hU hV hm hl
theorem srt_at {l:List Cell} (h:Srt l) {i j:Nat} (hij:i<j) (hj:j<l.length):le (zaf l (i:Int)) (zaf l (j:Int)):=by
 rw [zb3 l i (by omega),zb3 l j hj]
 exact List.pairwise_iff_getElem.1 h i j (by omega) hj hij
theorem srt_at' {l:List Cell} (h:Srt l) {i j:Nat} (hij:i≤j) (hj:j<l.length):le (zaf l (i:Int)) (zaf l (j:Int)):=by
 by_cases e:i=j
 ·rw [e]; exact le_refl _
 ·exact srt_at h (by omega) hj
theorem get_A (P A R:List Cell) (i:Nat) (h:i<A.length):zaf (P++(A++R)) ((P.length+i:Nat):Int)=zaf A (i:Int):=by
 rw [zb3 _ _ (by simp only [List.length_append]; omega),zb3 _ _ h,List.getElem_append_right (by omega),List.getElem_append_left (by omega)]
 congr 1; omega
theorem get_B (P A B S:List Cell) (i:Nat) (h:i<B.length):zaf (P++(A++(B++S))) ((P.length+A.length+i:Nat):Int)=zaf B (i:Int):=by
 have:=get_A (P++A) B S i h
 rw [List.append_assoc,List.length_append] at this
 exact this
theorem mem_take_get {l:List Cell} {x:Cell} {n:Nat} (h:x∈l.take n):∃ i,i<n∧i<l.length∧x=zaf l (i:Int):=by
 obtain ⟨i,hi,rfl⟩:=List.mem_iff_getElem.1 h
 rw [List.length_take] at hi
 exact ⟨i,by omega,by omega,by rw [zb3 l i (by omega),List.getElem_take]⟩
theorem mem_drop_get {l:List Cell} {x:Cell} {n:Nat} (h:x∈l.drop n):∃ i,n≤i∧i<l.length∧x=zaf l (i:Int):=by
 obtain ⟨i,hi,rfl⟩:=List.mem_iff_getElem.1 h
 rw [List.length_drop] at hi
 exact ⟨n+i,by omega,by omega,by rw [zb3 l (n+i) (by omega),List.getElem_drop]⟩
theorem mvR (P R:List Cell) (x:Cell) (v:Int):∀ (Br Bd:List Cell),v - 1=((P.length+Bd.length+Br.length:Nat):Int)→(P++(Bd++x::(Br++R))).length≤1000000000000→
  zde v (P++(Bd++x::(Br++R)),((P.length+Bd.length:Nat):Int))=some (P++((Bd++Br)++x::R))
 | [],Bd,hv,hl=>by
  have hl':=hl
  simp only [List.length_append,List.length_cons] at hl'
  have hw:w64 (v - 1)=v - 1:=zai (by omega) (by omega)
  refine zah ?_
  unfold zb7
  dsimp only
  rw [hw,if_neg (d_f (by rw [hv]; simp))]
  simp only [List.append_nil,List.nil_append]; rfl
 | y::Br,Bd,hv,hl=>by
  have hl':=hl
  simp only [List.length_append,List.length_cons] at hl' hv
  have hw:w64 (v - 1)=v - 1:=zai (by omega) (by omega)
  have ih:=mvR P R x v Br (Bd++[y]) (by rw [hv]; simp only [List.length_append,List.length_cons,List.length_nil]; omega) (by simp only [List.length_append,List.length_cons,List.length_nil]; omega)
  have hd:P++(Bd++x::(y::Br++R))=(P++Bd)++x::([]++y::(Br++R)):=by simp
  have hd2:P++((Bd++[y])++x::(Br++R))=(P++Bd)++y::([]++x::(Br++R)):=by simp
  have hk:((P.length+Bd.length:Nat):Int)=((P++Bd).length:Int):=by rw [List.length_append]
  have hk2:w64 (((P++Bd).length:Int)+1)=(((P++Bd).length+1+([]:List Cell).length:Nat):Int):=by
   simp only [List.length_append,List.length_nil]; rw [zai (by omega) (by omega)]; omega
  have hlen:((P++Bd)++x::([]++y::(Br++R))).length=(P++Bd).length+2+(Br++R).length:=by simp; omega
  have hr1:0≤(((P++Bd).length+1+([]:List Cell).length:Nat):Int)∧(((P++Bd).length+1+([]:List Cell).length:Nat):Int)<(((P++Bd)++x::([]++y::(Br++R))).length:Int):=by rw [hlen]; simp only [List.length_nil]; omega
  have hr2:0≤((P++Bd).length:Int)∧((P++Bd).length:Int)<(((P++Bd)++x::([]++y::(Br++R))).length:Int):=by rw [hlen]; omega
  rw [hd2] at ih
  rw [hd,hk]
  refine (zam ?_).trans (ih.trans (by simp))
  unfold zb7
  dsimp only
  rw [hw,if_pos (d_t (by rw [hv,List.length_append]; omega)),hk2,zaa hr1,zaa hr1,zaa hr2,zaa hr2,zaa hr2,zaa hr2,zaa (by rw [lset_len]; exact hr1),zaa (by rw [lset_len]; exact hr1),sw_i,sw_j _ _ _ _ _ rfl]
  simp only [zcw,lt]
  rw [sw_ij _ _ _ _ _ rfl]
  have:(((P++Bd).length+1+([]:List Cell).length:Nat):Int)=((P.length+(Bd++[y]).length:Nat):Int):=by simp only [List.length_append,List.length_cons,List.length_nil]; omega
  rw [this]
theorem mvL (Q:List Cell) (x:Cell):∀ (n:Nat) (U R:List Cell),U.length=n→(Q++(U++x::R)).length≤1000000000000→
  zdh (Q.length:Int) (Q++(U++x::R),((Q.length+U.length:Nat):Int))=some (Q++(x::(U++R))):=by
 intro n
 induction n with
 | zero=>
  intro U R e hl
  have:U=[]:=List.eq_nil_of_length_eq_zero e
  subst this
  refine zah ?_
  unfold zb9
  dsimp only
  rw [if_neg (d_f (by simp))]; rfl
 | succ n ih=>
  intro U R e hl
  rcases List.eq_nil_or_concat U with h0 | ⟨U',y,rfl⟩
  ·subst h0; cases e
  ·rw [List.concat_eq_append] at *
   have hd:Q++((U'++[y])++x::R)=(Q++U')++y::([]++x::R):=by simp
   have hd2:(Q++U')++x::([]++y::R)=Q++(U'++x::(y::R)):=by simp
   have hj:((Q.length+(U'++[y]).length:Nat):Int)=(((Q++U').length+1+([]:List Cell).length:Nat):Int):=by simp; omega
   have hi:w64 ((((Q++U').length+1+([]:List Cell).length:Nat):Int) - 1)=((Q++U').length:Int):=by
    simp only [List.length_append,List.length_cons,List.length_nil] at hl ⊢
    rw [zai (by omega) (by omega)]; omega
   have hlen:((Q++U')++y::([]++x::R)).length=(Q++U').length+2+R.length:=by simp; omega
   have hr1:0≤(((Q++U').length+1+([]:List Cell).length:Nat):Int)∧(((Q++U').length+1+([]:List Cell).length:Nat):Int)<(((Q++U')++y::([]++x::R)).length:Int):=by rw [hlen]; simp only [List.length_nil]; omega
   have hr2:0≤((Q++U').length:Int)∧((Q++U').length:Int)<(((Q++U')++y::([]++x::R)).length:Int):=by rw [hlen]; omega
   have ih':=ih U' (y::R) (by simpa using e) (by simpa using hl)
   rw [hd,hj]
   refine (zam ?_).trans (ih'.trans (by simp))
   unfold zb9
   dsimp only
   rw [if_pos (d_t (by simp only [List.length_append,List.length_nil]; omega)),hi,zaa hr2,zaa hr2,zaa hr1,zaa hr1,zaa hr1,zaa hr1,zaa (by rw [lset_len]; exact hr2),zaa (by rw [lset_len]; exact hr2),sw_i,sw_j _ _ _ _ _ rfl]
   simp only [zcw,lt]
   rw [sw_ji _ _ _ _ _ rfl,hd2,List.length_append]
abbrev RecT:=(Int×Int×Int×List Cell)→Option (List Cell)
theorem sym_one (f:RecT) (P:List Cell) (x:Cell) (B S:List Cell) (hB:Srt B) (hl:(P++([x]++(B++S))).length≤1000000000000) :
  zal f (P.length:Int) ((P.length+1:Nat):Int) ((P.length+1+B.length:Nat):Int) (P++([x]++(B++S)))=some (P++(srtd ([x]++B)++S)):=by
 have hl':=hl
 simp only [List.length_append,List.length_cons,List.length_nil] at hl'
 have hlen:(P++([x]++(B++S))).length=P.length+1+B.length+S.length:=by simp only [List.length_append,List.length_cons,List.length_nil]; omega
 have hx:zaf (P++([x]++(B++S))) (P.length:Int)=x:=lget_mid P x (B++S)
 have hb:∀ t,P.length+1≤t→t<P.length+1+B.length→zaf (P++([x]++(B++S))) (t:Int)=zaf B ((t - (P.length+1):Nat):Int):=fun t h1 h2=>by
  have:=get_B P [x] B S (t - (P.length+1)) (by omega)
  rw [← this]; congr 1; simp only [List.length_cons,List.length_nil]; omega
 unfold zal
 rw [if_pos (d_t (by rw [zai (by omega) (by omega)]; omega))]
 unfold zdg
 obtain ⟨n,h1,h2,h3,h4,h5⟩:=bs_any (fun y=>zbk (P.length:Int) (P++([x]++(B++S))) y) (zbj (P.length:Int) (P++([x]++(B++S))))
  (fun t=>zb2 (zaf (P++([x]++(B++S))) (t:Int)) x=true) (P.length+1) (P.length+1+B.length)
  (fun s t g1 g2 g3 g4=>by
   rw [hb t (by omega) g3,za6] at g4
   rw [hb s g1 (by omega),za6]
   exact ah_of' (srt_at hB (by omega) (by omega)) g4)
  (fun i j g1 g2 g3=>by
   have hm:P.length+1≤(i+j) / 2∧(i+j) / 2<P.length+1+B.length:=by omega
   unfold zbk
   dsimp only
   rw [if_pos (d_t (by omega)),mid_w i j (by omega)]
   generalize (i+j) / 2=h at hm
   dsimp only [lt]
   rw [zaa (by rw [hlen]; omega),zaa (by rw [hlen]; omega),zaa (by rw [hlen]; omega),zaa (by rw [hlen]; omega),hx]
   simp only [zcw]
   rw [order_eq,zab]
   by_cases c:zb2 (zaf (P++([x]++(B++S))) (h:Int)) x=true
   ·rw [if_pos (d_t ((ord_neg _ _).2 c)),if_pos c,zai (by omega) (by omega)]; rfl
   ·rw [if_neg (d_f (fun q=>c ((ord_neg _ _).1 q))),if_neg c])
  (fun i g1 g2=>by
   unfold zbk
   dsimp only
   rw [if_neg (d_f (by omega))])
  _ (P.length+1) (P.length+1+B.length) rfl (Nat.le_refl _) (by omega) (Nat.le_refl _) (fun t g1 g2=>by omega) (fun t g1 g2=>by omega)
 have e1:((P.length+1:Nat):Int)=((P.length+1:Nat):Int):=rfl
 refine h5.trans ?_
 unfold zbj
 have hsp:B=B.take (n - (P.length+1))++B.drop (n - (P.length+1)):=(List.take_append_drop ..).symm
 have hlt:(B.take (n - (P.length+1))).length=n - (P.length+1):=by rw [List.length_take]; omega
 have q1:∀ y∈B.take (n - (P.length+1)),ah y x:=fun y hy=>by
  obtain ⟨i,i1,i2,rfl⟩:=mem_take_get hy
  have:=h3 (P.length+1+i) (by omega) (by omega)
  rw [hb _ (by omega) (by omega),za6] at this
  have e:P.length+1+i - (P.length+1)=i:=by omega
  rwa [e] at this
 have q2:∀ y∈B.drop (n - (P.length+1)),le x y:=fun y hy=>by
  obtain ⟨i,i1,i2,rfl⟩:=mem_drop_get hy
  have:=h4 (P.length+1+i) (by omega) (by omega)
  rw [hb _ (by omega) (by omega),za6] at this
  have e:P.length+1+i - (P.length+1)=i:=by omega
  rwa [e] at this
 generalize B.take (n - (P.length+1))=B1 at *
 generalize B.drop (n - (P.length+1))=B2 at *
 subst hsp
 have hmv:=mvR P (B2++S) x (n:Int) B1 [] (by rw [hlt]; simp only [List.length_nil]; omega) (by simpa using hl)
 have hd:P++([x]++(B1++B2++S))=P++([]++x::(B1++(B2++S))):=by simp
 rw [hd]
 refine hmv.trans ?_
 have hsr:B1++x::B2=srtd ([x]++(B1++B2)):=by
  refine srtd_is (put_srt hB (fun y hy=>le_of_ah (q1 y hy)) q2) ?_
  have a2:Stab ([x]++B1) (B1++[x]):=Stab.swap fun y hy z hz q=>by
   rw [List.mem_singleton.1 hy] at q
   exact ah_key (q1 z hz) (key_symm q)
  have a3:=Stab.app a2 (Stab.refl B2)
  simpa using a3
 rw [← hsr]; simp
theorem sym_last (f:RecT) (P A:List Cell) (x:Cell) (S:List Cell) (hA:Srt A) (hA1:A.length≠1) (hl:(P++(A++([x]++S))).length≤1000000000000) :
  zal f (P.length:Int) ((P.length+A.length:Nat):Int) ((P.length+A.length+1:Nat):Int) (P++(A++([x]++S)))=some (P++(srtd (A++[x])++S)):=by
 have hl':=hl
 simp only [List.length_append,List.length_cons,List.length_nil] at hl'
 have hlen:(P++(A++([x]++S))).length=P.length+A.length+1+S.length:=by simp only [List.length_append,List.length_cons,List.length_nil]; omega
 have hx:zaf (P++(A++([x]++S))) ((P.length+A.length:Nat):Int)=x:=by
  have:=get_B P A [x] S 0 (by simp)
  exact this
 have hb:∀ t,P.length≤t→t<P.length+A.length→zaf (P++(A++([x]++S))) (t:Int)=zaf A ((t - P.length:Nat):Int):=fun t h1 h2=>by
  have:=get_A P A ([x]++S) (t - P.length) (by omega)
  rw [← this]; congr 1; omega
 unfold zal
 rw [if_neg (d_f (by rw [zai (by omega) (by omega)]; omega)),if_pos (d_t (by rw [zai (by omega) (by omega)]; omega))]
 unfold zdc
 obtain ⟨n,h1,h2,h3,h4,h5⟩:=bs_any (fun y=>zbh ((P.length+A.length:Nat):Int) (P++(A++([x]++S))) y) (zbe ((P.length+A.length:Nat):Int) (P++(A++([x]++S))))
  (fun t=>¬ zb2 x (zaf (P++(A++([x]++S))) (t:Int))=true) P.length (P.length+A.length)
  (fun s t g1 g2 g3 g4 q=>by
   rw [hb s g1 (by omega),za6] at q
   rw [hb t (by omega) g3,za6] at g4
   exact g4 (ah_of q (srt_at hA (by omega) (by omega))))
  (fun i j g1 g2 g3=>by
   have hm:P.length≤(i+j) / 2∧(i+j) / 2<P.length+A.length:=by omega
   unfold zbh
   dsimp only
   rw [if_pos (d_t (by omega)),mid_w i j (by omega)]
   generalize (i+j) / 2=h at hm
   dsimp only [lt]
   rw [zaa (by rw [hlen]; omega),zaa (by rw [hlen]; omega),zaa (by rw [hlen]; omega),zaa (by rw [hlen]; omega),hx]
   simp only [zcw]
   rw [order_eq,zab]
   by_cases c:zb2 x (zaf (P++(A++([x]++S))) (h:Int))=true
   ·rw [if_neg (n_f ((ord_neg _ _).2 c)),if_neg (not_not_intro c)]
   ·rw [if_pos (n_t (fun q=>c ((ord_neg _ _).1 q))),if_pos c,zai (by omega) (by omega)]; rfl)
  (fun i g1 g2=>by
   unfold zbh
   dsimp only
   rw [if_neg (d_f (by omega))])
  _ P.length (P.length+A.length) rfl (Nat.le_refl _) (by omega) (Nat.le_refl _) (fun t g1 g2=>by omega) (fun t g1 g2=>by omega)
 refine h5.trans ?_
 unfold zbe
 have hsp:A=A.take (n - P.length)++A.drop (n - P.length):=(List.take_append_drop ..).symm
 have hlt:(A.take (n - P.length)).length=n - P.length:=by rw [List.length_take]; omega
 have q1:∀ y∈A.take (n - P.length),le y x:=fun y hy=>by
  obtain ⟨i,i1,i2,rfl⟩:=mem_take_get hy
  have:=h3 (P.length+i) (by omega) (by omega)
  rw [hb _ (by omega) (by omega),za6] at this
  have e:P.length+i - P.length=i:=by omega
  rwa [e] at this
 have q2:∀ y∈A.drop (n - P.length),ah x y:=fun y hy=>by
  obtain ⟨i,i1,i2,rfl⟩:=mem_drop_get hy
  have:=Decidable.not_not.1 (h4 (P.length+i) (by omega) (by omega))
  rw [hb _ (by omega) (by omega),za6] at this
  have e:P.length+i - P.length=i:=by omega
  rwa [e] at this
 generalize A.take (n - P.length)=A1 at *
 generalize A.drop (n - P.length)=A2 at *
 subst hsp
 have hmv:=mvL (P++A1) x _ A2 S rfl (by simpa using hl)
 have hd:P++(A1++A2++([x]++S))=P++A1++(A2++x::S):=by simp
 have en:(n:Int)=((P++A1).length:Int):=by rw [List.length_append]; omega
 have em:((P.length+(A1++A2).length:Nat):Int)=(((P++A1).length+A2.length:Nat):Int):=by simp only [List.length_append]; omega
 rw [hd,en,em]
 refine hmv.trans ?_
 have hsr:A1++x::A2=srtd ((A1++A2)++[x]):=by
  refine srtd_is (put_srt hA q1 fun y hy=>le_of_ah (q2 y hy)) ?_
  have a2:Stab (A2++[x]) ([x]++A2):=Stab.swap fun y hy z hz q=>by
   rw [List.mem_singleton.1 hz] at q
   exact ah_key (q2 y hy) (key_symm q)
  have a3:=Stab.app (Stab.refl A1) a2
  simpa using a3
 rw [← hsr]; simp
theorem ob_id {α:Type} (x:Option α):(ob x fun y=>some y)=x:=by cases x <;> rfl
theorem sym_find (f:RecT) (P A B S:List Cell) (hA:Srt A) (hB:Srt B) (hA0:A≠[]) (hB0:B≠[]) (hA1:A.length≠1) (hB1:B.length≠1) (hl:(P++(A++(B++S))).length≤1000000000000) (h lo hi:Nat) (hh:h=(A.length+B.length) / 2) (hlo:lo=P.length+(if h<A.length then h - B.length else 0)) (hhi:hi=P.length+(if h<A.length then h else A.length)) :
  ∃ s,s≤A.length∧s≤h∧h - s≤B.length∧(∀ y∈B.take (h - s),∀ x∈A.drop s,ah y x)∧(∀ x∈A.take s,∀ y∈B.drop (h - s),le x y)∧
   zbg (P.length:Int) ((P.length+A.length:Nat):Int) ((P.length+A.length+B.length:Nat):Int) (P++(A++(B++S))) f ((P.length+h:Nat):Int) ((lo:Int),(hi:Int)) =
    za1 (P.length:Int) ((P.length+A.length:Nat):Int) ((P.length+A.length+B.length:Nat):Int) (P++(A++(B++S))) f ((P.length+h:Nat):Int) ((P.length+s:Nat):Int):=by
 have hl':=hl
 simp only [List.length_append] at hl'
 have hu:=List.length_pos_iff.2 hA0
 have hv:=List.length_pos_iff.2 hB0
 have hlen:(P++(A++(B++S))).length=P.length+A.length+B.length+S.length:=by simp only [List.length_append]; omega
 have hn:w64 (((P.length+h:Nat):Int)+((P.length+A.length:Nat):Int))=((P.length+h+(P.length+A.length):Nat):Int):=by rw [zai (by omega) (by omega)]; omega
 have hn1:w64 (((P.length+h+(P.length+A.length):Nat):Int) - 1)=((P.length+h+(P.length+A.length) - 1:Nat):Int):=by rw [zai (by omega) (by omega)]; omega
 have hlo1:P.length≤lo:=by omega
 have hlo2:h≤B.length+(lo - P.length):=by
  rw [hlo]; split <;> omega
 have hhi1:hi≤P.length+A.length∧hi≤P.length+h:=by rw [hhi]; constructor <;> split <;> omega
 have hlh:lo≤hi:=by rw [hlo,hhi]; split <;> omega
 have hlo3:lo=P.length∨lo+B.length=P.length+h:=by rw [hlo]; split <;> omega
 have hhi3:hi=P.length+A.length∨hi=P.length+h:=by rw [hhi]; split <;> omega
 have gA:∀ t,lo≤t→t<hi→zaf (P++(A++(B++S))) (t:Int)=zaf A ((t - P.length:Nat):Int):=fun t h1 h2=>by
  have:=get_A P A (B++S) (t - P.length) (by omega)
  rw [← this]; congr 1; omega
 have gB:∀ t,lo≤t→t<hi→zaf (P++(A++(B++S))) ((P.length+h+(P.length+A.length) - 1 - t:Nat):Int)=zaf B ((h - 1 - (t - P.length):Nat):Int):=fun t h1 h2=>by
  have:=get_B P A B S (h - 1 - (t - P.length)) (by omega)
  rw [← this]; congr 1; omega
 have hwp:∀ t:Nat,lo≤t→t<hi→w64 (((P.length+h+(P.length+A.length) - 1:Nat):Int) - (t:Int))=((P.length+h+(P.length+A.length) - 1 - t:Nat):Int):=fun t h1 h2=>by rw [zai (by omega) (by omega)]; omega
 obtain ⟨n,h1,h2,h3,h4,h5⟩:=bs_any (fun y=>zbi (P.length:Int) ((P.length+A.length:Nat):Int) ((P.length+A.length+B.length:Nat):Int) (P++(A++(B++S))) f ((P.length+h:Nat):Int) y)
  (za1 (P.length:Int) ((P.length+A.length:Nat):Int) ((P.length+A.length+B.length:Nat):Int) (P++(A++(B++S))) f ((P.length+h:Nat):Int))
  (fun t=>¬ zb2 (zaf (P++(A++(B++S))) ((P.length+h+(P.length+A.length) - 1 - t:Nat):Int)) (zaf (P++(A++(B++S))) (t:Int))=true) lo hi
  (fun s t g1 g2 g3 g4 q=>by
   rw [gA s g1 (by omega),gB s g1 (by omega),za6] at q
   rw [gA t (by omega) g3,gB t (by omega) g3,za6] at g4
   exact g4 (ah_of' (srt_at' hB (by omega) (by omega)) (ah_of q (srt_at hA (by omega) (by omega)))))
  (fun i j g1 g2 g3=>by
   have hm:lo≤(i+j) / 2∧(i+j) / 2<hi:=by omega
   unfold zbi
   dsimp only
   rw [if_pos (d_t (by omega)),mid_w i j (by omega)]
   generalize (i+j) / 2=c at hm
   dsimp only [lt]
   rw [hn,hn1,hwp c hm.1 hm.2,zaa (by rw [hlen]; omega),zaa (by rw [hlen]; omega),zaa (by rw [hlen]; omega),zaa (by rw [hlen]; omega)]
   simp only [zcw]
   rw [order_eq,zab]
   by_cases q:zb2 (zaf (P++(A++(B++S))) ((P.length+h+(P.length+A.length) - 1 - c:Nat):Int)) (zaf (P++(A++(B++S))) (c:Int))=true
   ·rw [if_neg (n_f ((ord_neg _ _).2 q)),if_neg (not_not_intro q)]
   ·rw [if_pos (n_t (fun z=>q ((ord_neg _ _).1 z))),if_pos q,zai (by omega) (by omega)]; rfl)
  (fun i g1 g2=>by
   unfold zbi
   dsimp only
   rw [if_neg (d_f (by omega))])
  _ lo hi rfl (Nat.le_refl _) hlh (Nat.le_refl _) (fun t g1 g2=>by omega) (fun t g1 g2=>by omega)
 obtain ⟨s,rfl⟩:∃ s,n=P.length+s:=⟨n - P.length,by omega⟩
 have hs1:s≤A.length∧s≤h∧h - s≤B.length:=by omega
 have F1:∀ y∈B.take (h - s),∀ x∈A.drop s,ah y x:=by
  intro y hy x hx
  obtain ⟨i,i1,i2,rfl⟩:=mem_take_get hy
  obtain ⟨j,j1,j2,rfl⟩:=mem_drop_get hx
  have hlt:P.length+s<hi:=by omega
  have:=Decidable.not_not.1 (h4 (P.length+s) (Nat.le_refl _) hlt)
  rw [gA _ h1 hlt,gB _ h1 hlt,za6] at this
  have e:P.length+s - P.length=s:=by omega
  rw [e] at this
  exact ah_of' (srt_at' hB (by omega) (by omega)) (ah_of this (srt_at' hA j1 j2))
 have F2:∀ x∈A.take s,∀ y∈B.drop (h - s),le x y:=by
  intro x hx y hy
  obtain ⟨i,i1,i2,rfl⟩:=mem_take_get hx
  obtain ⟨j,j1,j2,rfl⟩:=mem_drop_get hy
  have hge:lo≤P.length+(s - 1):=by omega
  have:=h3 (P.length+(s - 1)) hge (by omega)
  rw [gA _ hge (by omega),gB _ hge (by omega),za6] at this
  have e:P.length+(s - 1) - P.length=s - 1:=by omega
  have e2:h - 1 - (s - 1)=h - s:=by omega
  rw [e,e2] at this
  exact le_trans (srt_at' hA (by omega) (by omega)) (le_trans this (srt_at' hB j1 j2))
 exact ⟨s,hs1.1,hs1.2.1,hs1.2.2,F1,F2,h5⟩
theorem sym_step (f:RecT) (P A B S:List Cell) (hA:Srt A) (hB:Srt B) (hA0:A≠[]) (hB0:B≠[]) (hA1:A.length≠1) (hB1:B.length≠1) (hl:(P++(A++(B++S))).length≤1000000000000) :
  ∃ A1 A2 B1 B2,A=A1++A2∧B=B1++B2∧A1.length+B1.length=(A.length+B.length) / 2∧(∀ y∈B1,∀ x∈A2,ah y x)∧(∀ x∈A1,∀ y∈B2,le x y)∧
   zal f (P.length:Int) ((P.length+A.length:Nat):Int) ((P.length+A.length+B.length:Nat):Int) (P++(A++(B++S))) =
    ob (if (decide (0<A1.length)&&decide (0<B1.length))=true then f ((P.length:Int),((P.length+A1.length:Nat):Int),((P.length+A1.length+B1.length:Nat):Int),P++(A1++(B1++(A2++(B2++S))))) else some (P++(A1++(B1++(A2++(B2++S)))))) fun r=>
    if (decide (0<A2.length)&&decide (0<B2.length))=true then f (((P.length+A1.length+B1.length:Nat):Int),((P.length+A1.length+B1.length+A2.length:Nat):Int),((P.length+A1.length+B1.length+A2.length+B2.length:Nat):Int),r) else some r:=by
 have hl':=hl
 simp only [List.length_append] at hl'
 have hu:=List.length_pos_iff.2 hA0
 have hv:=List.length_pos_iff.2 hB0
 have hlen:(P++(A++(B++S))).length=P.length+A.length+B.length+S.length:=by simp only [List.length_append]; omega
 obtain ⟨h,hh⟩:∃ h,h=(A.length+B.length) / 2:=⟨_,rfl⟩
 have hmid:w64 (Int.fdiv (IntKind.u64.wrap (w64 ((P.length:Int)+((P.length+A.length+B.length:Nat):Int)))) (2 ^ (min (1:Int).toNat 64)))=((P.length+h:Nat):Int):=by
  rw [mid_w P.length (P.length+A.length+B.length) (by omega)]; omega
 have hn:w64 (((P.length+h:Nat):Int)+((P.length+A.length:Nat):Int))=((P.length+h+(P.length+A.length):Nat):Int):=by rw [zai (by omega) (by omega)]; omega
 have hnb:h<A.length→w64 (((P.length+h+(P.length+A.length):Nat):Int) - ((P.length+A.length+B.length:Nat):Int))=((P.length+(h - B.length):Nat):Int):=fun q=>by rw [zai (by omega) (by omega)]; omega
 obtain ⟨lo,hlo⟩:∃ lo,lo=P.length+(if h<A.length then h - B.length else 0):=⟨_,rfl⟩
 obtain ⟨hi,hhi⟩:∃ hi,hi=P.length+(if h<A.length then h else A.length):=⟨_,rfl⟩
 obtain ⟨s,s1,s2,s3,F1,F2,h5⟩:=sym_find f P A B S hA hB hA0 hB0 hA1 hB1 hl h lo hi hh hlo hhi
 have hLA1:(A.take s).length=s:=by rw [List.length_take]; omega
 have hLA2:(A.drop s).length=A.length - s:=List.length_drop
 have hLB1:(B.take (h - s)).length=h - s:=by rw [List.length_take]; omega
 have hLB2:(B.drop (h - s)).length=B.length - (h - s):=List.length_drop
 have hsA:A=A.take s++A.drop s:=(List.take_append_drop ..).symm
 have hsB:B=B.take (h - s)++B.drop (h - s):=(List.take_append_drop ..).symm
 refine ⟨A.take s,A.drop s,B.take (h - s),B.drop (h - s),hsA,hsB,by omega,F1,F2,?_⟩
 have hrow:P++(A++(B++S))=(P++A.take s)++(A.drop s++(B.take (h - s)++(B.drop (h - s)++S))):=by
  conv=>lhs; rw [hsA,hsB]
  simp only [List.append_assoc]
 unfold zal
 rw [if_neg (d_f (by rw [zai (by omega) (by omega)]; omega)),if_neg (d_f (by rw [zai (by omega) (by omega)]; omega)),hmid]
 dsimp only [lt]
 rw [hn]
 have hst:(ob (if (decide (((P.length+h:Nat):Int)<((P.length+A.length:Nat):Int)))=true then some (w64 (((P.length+h+(P.length+A.length):Nat):Int) - ((P.length+A.length+B.length:Nat):Int)),((P.length+h:Nat):Int)) else some ((P.length:Int),((P.length+A.length:Nat):Int))) fun (v13:Int×Int)=>
   zbg (P.length:Int) ((P.length+A.length:Nat):Int) ((P.length+A.length+B.length:Nat):Int) (P++(A++(B++S))) f ((P.length+h:Nat):Int) (v13.1,v13.2)) =
   zbg (P.length:Int) ((P.length+A.length:Nat):Int) ((P.length+A.length+B.length:Nat):Int) (P++(A++(B++S))) f ((P.length+h:Nat):Int) ((lo:Int),(hi:Int)):=by
  by_cases c:h<A.length
  ·rw [if_pos (d_t (by omega)),hnb c,zab,hlo,hhi,if_pos c,if_pos c]
  ·rw [if_neg (d_f (by omega)),zab,hlo,hhi,if_neg c,if_neg c]; rfl
 refine hst.trans ?_
 refine h5.trans ?_
 unfold za1
 have hend:w64 (((P.length+h+(P.length+A.length):Nat):Int) - ((P.length+s:Nat):Int))=((P.length+h+(A.length - s):Nat):Int):=by rw [zai (by omega) (by omega)]; omega
 rw [hn,hend]
 have hrot:(if ((decide (((P.length+s:Nat):Int)<((P.length+A.length:Nat):Int)))&&(decide (((P.length+A.length:Nat):Int)<((P.length+h+(A.length - s):Nat):Int))))=true then
   ob (zbl ((P.length+s:Nat):Int) ((P.length+A.length:Nat):Int) ((P.length+h+(A.length - s):Nat):Int) (P++(A++(B++S)))) fun x2=>some x2 else some (P++(A++(B++S))))=some (P++(A.take s++(B.take (h - s)++(A.drop s++(B.drop (h - s)++S))))):=by
  by_cases c:s<A.length∧s<h
  ·have:=rotate_eq (P++A.take s) (A.drop s) (B.take (h - s)) (B.drop (h - s)++S) (List.length_pos_iff.1 (by omega)) (List.length_pos_iff.1 (by omega)) (by rw [← hrow]; exact hl) (a:=((P.length+s:Nat):Int)) (m:=((P.length+A.length:Nat):Int)) (b:=((P.length+h+(A.length - s):Nat):Int))
    (by rw [List.length_append,hLA1]) (by rw [List.length_append,hLA1,hLA2]; omega) (by rw [List.length_append,hLA1,hLA2,hLB1]; omega)
   rw [if_pos (an_t ⟨by omega,by omega⟩),ob_id,hrow,this]; simp only [List.append_assoc]
  ·rw [if_neg (an_f (by omega)),hrow]
   by_cases c2:s<A.length
   ·have:B.take (h - s)=[]:=List.eq_nil_of_length_eq_zero (by omega)
    rw [this]; simp only [List.append_assoc,List.nil_append]
   ·have:A.drop s=[]:=List.eq_nil_of_length_eq_zero (by omega)
    rw [this]; simp only [List.append_assoc,List.nil_append]
 rw [hrot,zab,hLA1,hLA2,hLB1,hLB2]
 simp only [ob_id]
 have c1:((decide ((P.length:Int)<((P.length+s:Nat):Int)))&&(decide (((P.length+s:Nat):Int)<((P.length+h:Nat):Int))))=(decide (0<s)&&decide (0<h - s)):=by
  rw [Bool.eq_iff_iff]; simp only [Bool.and_eq_true,decide_eq_true_eq]; omega
 have c2:((decide (((P.length+h:Nat):Int)<((P.length+h+(A.length - s):Nat):Int)))&&(decide (((P.length+h+(A.length - s):Nat):Int)<((P.length+A.length+B.length:Nat):Int))))=(decide (0<A.length - s)&&decide (0<B.length - (h - s))):=by
  rw [Bool.eq_iff_iff]; simp only [Bool.and_eq_true,decide_eq_true_eq]; omega
 have k1:((P.length+h:Nat):Int)=((P.length+s+(h - s):Nat):Int):=by omega
 have k2:((P.length+h+(A.length - s):Nat):Int)=((P.length+s+(h - s)+(A.length - s):Nat):Int):=by omega
 have k3:((P.length+A.length+B.length:Nat):Int)=((P.length+s+(h - s)+(A.length - s)+(B.length - (h - s)):Nat):Int):=by omega
 rw [c1,c2,← k1,← k2,← k3]
theorem srtd_four {A1 A2 B1 B2:List Cell} (hA:Srt (A1++A2)) (hB:Srt (B1++B2)) (h1:∀ y∈B1,∀ x∈A2,ah y x) (h2:∀ x∈A1,∀ y∈B2,le x y):srtd (A1++B1)++srtd (A2++B2)=srtd ((A1++A2)++(B1++B2)):=by
 refine srtd_is (srt_app (srtd_srt _) (srtd_srt _) fun x hx y hy=>?_) ?_
 ·have hx:=(srtd_stab (A1++B1)).mem hx
  have hy:=(srtd_stab (A2++B2)).mem hy
  rcases List.mem_append.1 hx with hx | hx
  ·rcases List.mem_append.1 hy with hy | hy
   ·exact pw_mid hA hx hy
   ·exact h2 x hx y hy
  ·rcases List.mem_append.1 hy with hy | hy
   ·exact le_of_ah (h1 x hx y hy)
   ·exact pw_mid hB hx hy
 ·have a:Stab (A2++B1) (B1++A2):=Stab.swap fun x hx y hy q=>ah_key (h1 y hy x hx) (key_symm q)
  have b:Stab (A1++((A2++B1)++B2)) (A1++((B1++A2)++B2)):=Stab.app (Stab.refl _) (Stab.app a (Stab.refl _))
  have c:Stab ((A1++B1)++(A2++B2)) (srtd (A1++B1)++srtd (A2++B2)):=Stab.app (srtd_stab _) (srtd_stab _)
  simp only [List.append_assoc] at b c ⊢
  exact b.trans c
where
 pw_mid {a b:List Cell} {x y:Cell} (h:Srt (a++b)) (hx:x∈a) (hy:y∈b):le x y:=(List.pairwise_append.1 h).2.2 x hx y hy
noncomputable def gM (x:Int×Int×Int×List Cell):List Cell:=x.2.2.2.take x.1.toNat++(srtd ((x.2.2.2.take x.2.2.1.toNat).drop x.1.toNat)++x.2.2.2.drop x.2.2.1.toNat)
def iM (x:Int×Int×Int×List Cell):Prop:=∃ P A B S:List Cell,x=((P.length:Int),((P.length+A.length:Nat):Int),((P.length+A.length+B.length:Nat):Int),P++(A++(B++S)))∧A≠[]∧B≠[]∧Srt A∧Srt B∧(P++(A++(B++S))).length≤1000000000000
theorem gM_eq (P A B S:List Cell):gM ((P.length:Int),((P.length+A.length:Nat):Int),((P.length+A.length+B.length:Nat):Int),P++(A++(B++S)))=P++(srtd (A++B)++S):=by
 unfold gM
 dsimp only
 rw [Int.toNat_natCast,Int.toNat_natCast]
 have e1:(P++(A++(B++S))).take P.length=P:=List.take_left
 have e2:P++(A++(B++S))=(P++(A++B))++S:=by simp only [List.append_assoc]
 have e3:P.length+A.length+B.length=(P++(A++B)).length:=by simp only [List.length_append]; omega
 rw [e1,e2,e3,List.take_left,List.drop_left,List.drop_left]
theorem sym_eq {P A B S:List Cell} (hA0:A≠[]) (hB0:B≠[]) (hA:Srt A) (hB:Srt B) (hl:(P++(A++(B++S))).length≤1000000000000) :
  zby (P.length:Int) ((P.length+A.length:Nat):Int) ((P.length+A.length+B.length:Nat):Int) (P++(A++(B++S)))=some (P++(srtd (A++B)++S)):=by
 have one:∀ (f:RecT) (P A B S:List Cell),A≠[]→B≠[]→Srt A→Srt B→(P++(A++(B++S))).length≤1000000000000→A.length=1∨B.length=1→
   zal f (P.length:Int) ((P.length+A.length:Nat):Int) ((P.length+A.length+B.length:Nat):Int) (P++(A++(B++S)))=some (P++(srtd (A++B)++S)):=by
  intro f P A B S hA0 hB0 hA hB hl h
  by_cases c:A.length=1
  ·obtain ⟨x,rfl⟩:=List.length_eq_one_iff.1 c
   exact sym_one f P x B S hB hl
  ·have c2:B.length=1:=by omega
   obtain ⟨x,rfl⟩:=List.length_eq_one_iff.1 c2
   exact sym_last f P A x S hA c hl
 have first:∀ (P A1 A2 B1 B2 S:List Cell) (hA:Srt (A1++A2)) (hB:Srt (B1++B2)),¬ (0<A1.length∧0<B1.length)→srtd (A1++B1)=A1++B1:=by
  intro P A1 A2 B1 B2 S hA hB h
  have a:=(List.pairwise_append.1 hA).1
  have b:=(List.pairwise_append.1 hB).1
  by_cases c:A1.length=0
  ·rw [List.eq_nil_of_length_eq_zero c]; exact srtd_self b
  ·rw [List.eq_nil_of_length_eq_zero (show B1.length=0 by omega),List.append_nil]; exact srtd_self a
 have last:∀ (P A1 A2 B1 B2 S:List Cell) (hA:Srt (A1++A2)) (hB:Srt (B1++B2)),¬ (0<A2.length∧0<B2.length)→srtd (A2++B2)=A2++B2:=by
  intro P A1 A2 B1 B2 S hA hB h
  have a:=(List.pairwise_append.1 hA).2.1
  have b:=(List.pairwise_append.1 hB).2.1
  by_cases c:A2.length=0
  ·rw [List.eq_nil_of_length_eq_zero c]; exact srtd_self b
  ·rw [List.eq_nil_of_length_eq_zero (show B2.length=0 by omega),List.append_nil]; exact srtd_self a
 have y1:∀ (P A1 A2 B1 B2 S:List Cell),Srt (A1++A2)→Srt (B1++B2)→0<A1.length→0<B1.length→(P++((A1++A2)++((B1++B2)++S))).length≤1000000000000→iM ((P.length:Int),((P.length+A1.length:Nat):Int),((P.length+A1.length+B1.length:Nat):Int),P++(A1++(B1++(A2++(B2++S))))):=
  fun P A1 A2 B1 B2 S hA hB ha hb hl=>⟨P,A1,B1,A2++(B2++S),rfl,List.length_pos_iff.1 ha,List.length_pos_iff.1 hb,(List.pairwise_append.1 hA).1,(List.pairwise_append.1 hB).1,by simp only [List.length_append] at hl ⊢; omega⟩
 have y2:∀ (P A1 A2 B1 B2 S:List Cell),Srt (A1++A2)→Srt (B1++B2)→0<A2.length→0<B2.length→(P++((A1++A2)++((B1++B2)++S))).length≤1000000000000→
   iM (((P.length+A1.length+B1.length:Nat):Int),((P.length+A1.length+B1.length+A2.length:Nat):Int),((P.length+A1.length+B1.length+A2.length+B2.length:Nat):Int),P++(srtd (A1++B1)++(A2++(B2++S))))∧
   gM (((P.length+A1.length+B1.length:Nat):Int),((P.length+A1.length+B1.length+A2.length:Nat):Int),((P.length+A1.length+B1.length+A2.length+B2.length:Nat):Int),P++(srtd (A1++B1)++(A2++(B2++S))))=P++(srtd (A1++B1)++(srtd (A2++B2)++S)):=by
  intro P A1 A2 B1 B2 S hA hB ha hb hl
  have e:P.length+A1.length+B1.length=(P++srtd (A1++B1)).length:=by rw [List.length_append,zew,List.length_append]; omega
  have e2:P++(srtd (A1++B1)++(A2++(B2++S)))=(P++srtd (A1++B1))++(A2++(B2++S)):=by simp only [List.append_assoc]
  rw [e,e2]
  refine ⟨⟨P++srtd (A1++B1),A2,B2,S,rfl,List.length_pos_iff.1 ha,List.length_pos_iff.1 hb,(List.pairwise_append.1 hA).2.1,(List.pairwise_append.1 hB).2.1,?_⟩,?_⟩
  ·simp only [List.length_append,zew] at hl ⊢; omega
  ·rw [gM_eq]; simp only [List.append_assoc]
 have:=recO_spec (S:=fun rec (x:Int×Int×Int×List Cell)=>zal rec x.1 x.2.1 x.2.2.1 x.2.2.2) iM (fun x=>(x.2.2.1 - x.1).toNat) gM
  (by
   rintro x f ⟨P,A,B,S,rfl,hA0,hB0,hA,hB,hl⟩ ih r e
   dsimp only at ih e
   rw [gM_eq]
   have hu:=List.length_pos_iff.2 hA0
   have hv:=List.length_pos_iff.2 hB0
   by_cases c:A.length=1∨B.length=1
   ·rw [one f P A B S hA0 hB0 hA hB hl c] at e; exact (some_elim e).symm
   ·obtain ⟨A1,A2,B1,B2,rfl,rfl,hh,F1,F2,hS⟩:=sym_step f P A B S hA hB hA0 hB0 (by omega) (by omega) hl
    rw [hS] at e
    obtain ⟨r2,e1,e2⟩:=ob_elim e
    rw [← srtd_four hA hB F1 F2]
    simp only [List.length_append] at ih hh c hu hv
    have hr2:r2=P++(srtd (A1++B1)++(A2++(B2++S))):=by
     by_cases c1:0<A1.length∧0<B1.length
     ·rw [if_pos (an_t c1)] at e1
      have:=ih _ r2 (y1 P A1 A2 B1 B2 S hA hB c1.1 c1.2 hl) (by dsimp only; omega) e1
      rw [this,gM_eq]
     ·rw [if_neg (an_f c1)] at e1
      rw [first P A1 A2 B1 B2 S hA hB c1,← some_elim e1]; simp only [List.append_assoc]
    rw [hr2] at e2
    by_cases c2:0<A2.length∧0<B2.length
    ·rw [if_pos (an_t c2)] at e2
     obtain ⟨k1,k2⟩:=y2 P A1 A2 B1 B2 S hA hB c2.1 c2.2 hl
     have:=ih _ r k1 (by dsimp only; omega) e2
     rw [this,k2]; simp only [List.append_assoc]
    ·rw [if_neg (an_f c2)] at e2
     rw [last P A1 A2 B1 B2 S hA hB c2,← some_elim e2]; simp only [List.append_assoc])
  (by
   rintro x f ⟨P,A,B,S,rfl,hA0,hB0,hA,hB,hl⟩ ih
   dsimp only at ih ⊢
   rw [gM_eq]
   have hu:=List.length_pos_iff.2 hA0
   have hv:=List.length_pos_iff.2 hB0
   by_cases c:A.length=1∨B.length=1
   ·exact one f P A B S hA0 hB0 hA hB hl c
   ·obtain ⟨A1,A2,B1,B2,rfl,rfl,hh,F1,F2,hS⟩:=sym_step f P A B S hA hB hA0 hB0 (by omega) (by omega) hl
    rw [hS,← srtd_four hA hB F1 F2]
    simp only [List.length_append] at ih hh c hu hv
    have hr2:(if (decide (0<A1.length)&&decide (0<B1.length))=true then f ((P.length:Int),((P.length+A1.length:Nat):Int),((P.length+A1.length+B1.length:Nat):Int),P++(A1++(B1++(A2++(B2++S))))) else some (P++(A1++(B1++(A2++(B2++S))))))=some (P++(srtd (A1++B1)++(A2++(B2++S)))):=by
     by_cases c1:0<A1.length∧0<B1.length
     ·rw [if_pos (an_t c1),ih _ (y1 P A1 A2 B1 B2 S hA hB c1.1 c1.2 hl) (by dsimp only; omega),gM_eq]
     ·rw [if_neg (an_f c1),first P A1 A2 B1 B2 S hA hB c1]; simp only [List.append_assoc]
    rw [hr2,zab]
    by_cases c2:0<A2.length∧0<B2.length
    ·obtain ⟨k1,k2⟩:=y2 P A1 A2 B1 B2 S hA hB c2.1 c2.2 hl
     rw [if_pos (an_t c2),ih _ k1 (by dsimp only; omega),k2]; simp only [List.append_assoc]
    ·rw [if_neg (an_f c2),last P A1 A2 B1 B2 S hA hB c2]; simp only [List.append_assoc])
  (x:=((P.length:Int),((P.length+A.length:Nat):Int),((P.length+A.length+B.length:Nat):Int),P++(A++(B++S)))) ⟨P,A,B,S,rfl,hA0,hB0,hA,hB,hl⟩
 unfold zby
 rw [this,gM_eq]
theorem srtd_nil:srtd []=[]:=srtd_self .nil
inductive Chs (bs:Nat):List Cell→List Cell→Prop
 | last (l:List Cell) (h:l.length≤bs):Chs bs l (srtd l)
 | more (A l r:List Cell) (h:A.length=bs) (t:Chs bs l r):Chs bs (A++l) (srtd A++r)
theorem Chs.len {bs:Nat} {l r:List Cell} (h:Chs bs l r):r.length=l.length:=by
 induction h with
 | last l h=>exact zew l
 | more A l r h t ih=>rw [List.length_append,List.length_append,zew,ih]
theorem Chs.short {bs:Nat} {l r:List Cell} (h:Chs bs l r) (h0:0<bs) (hl:l.length≤bs):r=srtd l:=by
 cases h with
 | last _ h=>rfl
 | more A l r h t=>
  have:l=[]:=List.eq_nil_of_length_eq_zero (by rw [List.length_append] at hl; omega)
  subst this
  have:=t.len
  have:r=[]:=List.eq_nil_of_length_eq_zero (by simpa using this)
  rw [this,List.append_nil,List.append_nil]
theorem Chs.two {bs:Nat} {l r:List Cell} (h:Chs bs l r) (h0:0<bs) (hl:bs<l.length):∃ A l' r',l=A++l'∧r=srtd A++r'∧A.length=bs∧Chs bs l' r':=by
 cases h with
 | last _ h=>omega
 | more A l r h t=>exact ⟨A,l,r,rfl,rfl,h,t⟩
theorem stab2 (A B:List Cell):srtd (srtd A++srtd B)=srtd (A++B):=srtd_congr (Stab.app (srtd_stab A) (srtd_stab B))
theorem first_pass (num:Int):∀ (n:Nat) (P l:List Cell),l.length=n→num=((P.length+l.length:Nat):Int)→(P++l).length≤500000000000→
  ∃ r,Chs 20 l r∧zbt num (P++l,(P.length:Int),((P.length+20:Nat):Int))=zaz num (P++r,20):=by
 intro n
 induction n using Nat.strongRecOn with
 | _ n ih=>
  intro P l e hn hl
  have hl':=hl
  rw [List.length_append] at hl'
  by_cases c:20≤l.length
  ·have hsp:l=l.take 20++l.drop 20:=(List.take_append_drop ..).symm
   have h1:(l.take 20).length=20:=by rw [List.length_take]; omega
   have h2:(l.drop 20).length=l.length - 20:=List.length_drop
   generalize l.take 20=A at *
   generalize l.drop 20=l2 at *
   subst hsp
   have hp:(P++srtd A).length=P.length+20:=by rw [List.length_append,zew,h1]
   obtain ⟨r,r1,r2⟩:=ih l2.length (by rw [List.length_append] at e; omega) (P++srtd A) l2 rfl (by rw [hn,hp,List.length_append]; omega) (by rw [List.length_append,hp]; rw [List.length_append] at hl'; omega)
   refine ⟨srtd A++r,.more A l2 r h1 r1,?_⟩
   have hi:=insertion_eq P A l2 (by simp only [List.length_append] at hl ⊢; omega)
   rw [h1] at hi
   rw [hp] at r2
   refine (zam ?_).trans (r2.trans (by simp only [List.append_assoc]))
   unfold zbs
   dsimp only
   rw [if_pos (d_t (by omega)),hi,zab,zai (by omega) (by omega),List.append_assoc]
   rfl
  ·refine ⟨srtd l,.last l (by omega),?_⟩
   have hi:=insertion_eq P l [] (by simpa using (by omega:P.length+l.length≤1000000000000))
   simp only [List.append_nil] at hi
   have hB:zbs num (P++l,(P.length:Int),((P.length+20:Nat):Int))=zem (zaz num (P++srtd l,20)):=by
    unfold zbs
    dsimp only
    rw [if_neg (d_f (by omega))]
    unfold zcl
    dsimp only
    rw [hn,hi,zab]
   unfold zbt
   rw [loopO_eq,hB]
   cases zaz num (P++srtd l,20) <;> rfl
theorem second_pass (num:Int) (bs:Nat) (h0:0<bs) (h1:bs≤1000000000000) (z:List Cell):∀ (n:Nat) (P l r:List Cell),l.length=n→Chs bs l r→num=((P.length+l.length:Nat):Int)→(P++l).length≤500000000000→
  ∃ r',Chs (2*bs) l r'∧zdy num (z,(bs:Int)) (P++r,(P.length:Int),((P.length+2*bs:Nat):Int))=some (.inl (P++r',((2*bs:Nat):Int))):=by
 intro n
 have hw2:w64 (2*(bs:Int))=((2*bs:Nat):Int):=by rw [zai (by omega) (by omega)]; omega
 have hw3:w64 ((bs:Int)*2)=((2*bs:Nat):Int):=by rw [zai (by omega) (by omega)]; omega
 induction n using Nat.strongRecOn with
 | _ n ih=>
  intro P l r e hc hn hl
  have hl':=hl
  rw [List.length_append] at hl'
  have hwa:w64 ((P.length:Int)+(bs:Int))=((P.length+bs:Nat):Int):=by rw [zai (by omega) (by omega)]; omega
  by_cases c:2*bs≤l.length
  ·obtain ⟨A,l1,r1,rfl,rfl,hA,hc1⟩:=hc.two h0 (by omega)
   rw [List.length_append] at c e hl'
   obtain ⟨B,l2,r2,hl1,hr1,hB,hc2⟩:∃ B l2 r2,l1=B++l2∧r1=srtd B++r2∧B.length=bs∧Chs bs l2 r2:=by
    by_cases q:bs<l1.length
    ·exact hc1.two h0 q
    ·refine ⟨l1,[],[],by simp,by rw [hc1.short h0 (by omega)]; simp,by omega,?_⟩
     have:=Chs.last (bs:=bs) [] (by simp)
     rwa [srtd_nil] at this
   subst hl1 hr1
   rw [List.length_append] at c e hl'
   have hr2:=hc2.len
   have hs:=sym_eq (P:=P) (A:=srtd A) (B:=srtd B) (S:=r2) (List.length_pos_iff.1 (by rw [zew]; omega)) (List.length_pos_iff.1 (by rw [zew]; omega)) (srtd_srt A) (srtd_srt B) (by simp only [List.length_append,zew]; omega)
   rw [zew,zew,stab2,hA,hB] at hs
   have e2:P.length+bs+bs=P.length+2*bs:=by omega
   rw [e2] at hs
   have hp:(P++srtd (A++B)).length=P.length+2*bs:=by rw [List.length_append,zew,List.length_append]; omega
   obtain ⟨r',k1,k2⟩:=ih l2.length (by omega) (P++srtd (A++B)) l2 r2 rfl hc2 (by rw [hn,hp]; simp only [List.length_append]; omega) (by rw [List.length_append,hp]; omega)
   refine ⟨srtd (A++B)++r',?_,?_⟩
   ·have:=Chs.more (bs:=2*bs) (A++B) l2 r' (by rw [List.length_append]; omega) k1
    rwa [List.append_assoc] at this
   ·rw [hp] at k2
    refine (zam ?_).trans (k2.trans (by simp only [List.append_assoc]))
    unfold zcj
    dsimp only
    rw [if_pos (d_t (by rw [hn]; simp only [List.length_append]; omega)),hwa,hs,zab,hw2,zai (by omega) (by omega),List.append_assoc]
    have:((P.length+2*bs:Nat):Int)+((2*bs:Nat):Int)=((P.length+2*bs+2*bs:Nat):Int):=by omega
    rw [this]
  ·refine ⟨srtd l,.last l (by omega),zah ?_⟩
   unfold zcj
   dsimp only
   rw [if_neg (d_f (by omega))]
   unfold zck
   dsimp only
   rw [hwa,hw3]
   by_cases q:bs<l.length
   ·obtain ⟨A,l1,r1,rfl,rfl,hA,hc1⟩:=hc.two h0 q
    rw [List.length_append] at c q hl'
    have hr1:=hc1.short h0 (by omega)
    subst hr1
    have hs:=sym_eq (P:=P) (A:=srtd A) (B:=srtd l1) (S:=[]) (List.length_pos_iff.1 (by rw [zew]; omega)) (List.length_pos_iff.1 (by rw [zew]; omega)) (srtd_srt A) (srtd_srt l1) (by simp only [List.length_append,zew,List.length_nil]; omega)
    rw [zew,zew,stab2,hA,List.append_nil,List.append_nil] at hs
    have e3:num=((P.length+bs+l1.length:Nat):Int):=by rw [hn,List.length_append]; omega
    rw [if_pos (d_t (by rw [e3]; omega)),e3,hs]; rfl
   ·rw [if_neg (d_f (by omega)),hc.short h0 (by omega)]; rfl
theorem all_passes (l:List Cell) (hl:l.length≤500000000000):∀ (n bs:Nat) (r:List Cell),l.length - bs=n→0<bs→bs≤1000000000000→Chs bs l r→zaz (l.length:Int) (r,(bs:Int))=some (srtd l):=by
 intro n
 induction n using Nat.strongRecOn with
 | _ n ih=>
  intro bs r e h0 h1 hc
  by_cases c:bs<l.length
  ·obtain ⟨r',k1,k2⟩:=second_pass (l.length:Int) bs h0 h1 r _ [] l r rfl hc (by simp) (by simpa using hl)
   refine (zam ?_).trans (ih (l.length - 2*bs) (by omega) (2*bs) r' rfl (by omega) (by omega) k1)
   unfold zcg
   dsimp only
   have hw2:w64 (2*(bs:Int))=((2*bs:Nat):Int):=by rw [zai (by omega) (by omega)]; omega
   rw [if_pos (d_t (by omega)),hw2]
   simpa using k2
  ·refine zah ?_
   unfold zcg
   dsimp only
   rw [if_neg (d_f (by omega)),hc.short h0 (by omega)]; rfl
theorem stable_eq (l:List Cell) (hl:l.length≤500000000000):za7 l=some (srtd l):=by
 unfold za7 zc1
 obtain ⟨r,k1,k2⟩:=first_pass (l.length:Int) _ [] l rfl (by simp) (by simpa using hl)
 have:=all_passes l hl _ 20 r rfl (by omega) (by omega) k1
 have k2':zbt (l.length:Int) (l,0,20)=zaz (l.length:Int) (r,20):=k2
 rw [k2']
 have h20:((20:Nat):Int)=20:=rfl
 rw [h20] at this
 rw [this]; rfl
theorem ord_zero (a b:Cell):ord a b=0↔key a b:=by
 unfold ord
 constructor
 ·intro h
  split at h
  ·cases h
  ·rename_i h1
   split at h
   ·cases h
   ·rename_i h2
    rcases ah_tri a b with q | q | q
    ·exact absurd ((za6 _ _).2 q) h1
    ·exact q
    ·exact absurd ((za6 _ _).2 q) h2
 ·intro h
  rw [if_neg (fun q=>ah_key ((za6 _ _).1 q) h),if_neg (fun q=>ah_key ((za6 _ _).1 q) (key_symm h))]
theorem same_eq (a b:Cell):cell_Merge_1 a b=some (decide (key a b)):=by
 unfold cell_Merge_1
 rw [order_eq,zab]
 congr 1
 rw [Bool.eq_iff_iff,decide_eq_true_iff,decide_eq_true_iff,ord_zero]
noncomputable def ddpP:Cell→List Cell→List Cell
 | _,[]=>[]
 | y,x::l=>if key x y then ddpP x l else x::ddpP x l
noncomputable def ddp:List Cell→List Cell
 | []=>[]
 | x::l=>x::ddpP x l
theorem lclear_take {α:Type} (l:List α) (k n:Nat) (z:α) (h:k≤l.length):(lclear l k n z).take k=l.take k∧k≤(lclear l k n z).length:=by
 unfold lclear
 have e:(l.take k).length=k:=by rw [List.length_take]; omega
 constructor
 ·rw [List.append_assoc,List.take_append_of_le_length (by omega),List.take_of_length_le (by omega)]
 ·rw [List.length_append,List.length_append,e]; omega
theorem compact_in (row:List Cell) (v1:Int) (k0:Nat) (hv:v1=(k0:Int)) (hl:row.length≤500000000000):∀ (l D G:List Cell) (y:Cell) (k2:Nat),1≤k2→D.length+G.length+1=k0+k2→(D++(G++y::l)).length=row.length→
  zbo row v1 (D++(G++y::l),(D.length:Int),(k2:Int))=some (.inr (D++ddpP y l))
 | [],D,G,y,k2,h1,h2,h3=>by
  have h3':=h3
  simp only [List.length_append,List.length_cons,List.length_nil] at h3'
  refine zah ?_
  unfold za4
  dsimp only
  rw [hv,Int.toNat_natCast,if_neg (d_f (by omega))]
  unfold zbn
  dsimp only
  rw [Int.toNat_natCast,zaa (by rw [h3]; omega)]
  dsimp only [lt]
  obtain ⟨c1,c2⟩:=lclear_take (D++(G++[y])) D.length ((D++(G++[y])).length - D.length) (⟨([]:List UInt8),([]:List UInt8),0,false,([]:List UInt8)⟩:Cell) (by rw [h3]; omega)
  rw [zaa (by omega),zaa c2,c1,List.take_left,ddpP,List.append_nil]; rfl
 | z::l,D,G,y,k2,h1,h2,h3=>by
  have h3':=h3
  simp only [List.length_append,List.length_cons] at h3'
  have e1:D++(G++y::z::l)=(D++G)++y::([]++z::l):=by simp
  have g1:zaf (D++(G++y::z::l)) ((k0+k2:Nat):Int)=z:=by
   rw [e1]; exact sw_j (D++G) [] l y z (by simp only [List.length_append,List.length_nil]; omega)
  have g2:zaf (D++(G++y::z::l)) ((k0+(k2 - 1):Nat):Int)=y:=by
   rw [e1]
   have:=sw_i (D++G) [] l y z
   rw [List.length_append] at this
   exact Eq.trans (congrArg _ (by omega)) this
  have w1:w64 ((k2:Int) - 1)=((k2 - 1:Nat):Int):=by rw [zai (by omega) (by omega)]; omega
  have w2:w64 ((k2:Int)+1)=((k2+1:Nat):Int):=by rw [zai (by omega) (by omega)]; omega
  have hB:za4 row v1 (D++(G++y::z::l),(D.length:Int),(k2:Int))=some (.inl (if key z y then (D++(G++y::z::l),(D.length:Int),((k2+1:Nat):Int)) else (lset (D++(G++y::z::l)) (D.length:Int) z,((D.length+1:Nat):Int),((k2+1:Nat):Int)))):=by
   unfold za4
   dsimp only
   rw [hv,Int.toNat_natCast,Int.toNat_natCast,w1,Int.toNat_natCast,w2,if_pos (d_t (by omega)),zaa (by omega),zaa (by rw [h3]; omega),zaa (by omega),zaa (by rw [h3]; omega),g1,g2]
   simp only [zcw]
   rw [same_eq,zab]
   by_cases c:key z y
   ·rw [if_neg (n_f c),if_pos c]; rfl
   ·rw [if_pos (n_t c),if_neg c,zaa (by omega),zaa (by rw [h3]; omega),zaa (by rw [h3]; omega),zaa (by rw [h3]; omega)]
    dsimp only [lt]
    rw [zab,zai (by omega) (by omega)]; rfl
  by_cases c:key z y
  ·rw [if_pos c] at hB
   have ih:=compact_in row v1 k0 hv hl l D (G++[y]) z (k2+1) (by omega) (by simp only [List.length_append,List.length_cons,List.length_nil]; omega) (by rw [← h3]; simp)
   have e2:D++(G++[y]++z::l)=D++(G++y::z::l):=by simp
   rw [e2] at ih
   rw [ddpP,if_pos c]
   exact (zam hB).trans ih
  ·rw [if_neg c] at hB
   obtain ⟨G',hG'⟩:∃ G',lset (D++(G++y::z::l)) (D.length:Int) z=(D++[z])++(G'++z::l)∧G'.length=G.length:=by
    cases G with
    | nil=>exact ⟨[],by rw [List.nil_append,lset_mid]; simp,rfl⟩
    | cons g G=>exact ⟨G++[y],by rw [List.cons_append,lset_mid]; simp,by simp⟩
   have ih:=compact_in row v1 k0 hv hl l (D++[z]) G' z (k2+1) (by omega) (by simp only [List.length_append,List.length_cons,List.length_nil]; omega) (by rw [← hG'.1,lset_len]; exact h3)
   rw [hG'.1] at hB
   rw [ddpP,if_neg c]
   have e3:(((D++[z]).length:Nat):Int)=((D.length+1:Nat):Int):=by simp
   rw [e3] at ih
   refine (zam hB).trans (ih.trans ?_)
   simp
theorem compact_out (row:List Cell) (hl:row.length≤500000000000):∀ (l D:List Cell) (y:Cell),row=D++y::l→zco row ((D.length+1:Nat):Int)=some (D++y::ddpP y l)
 | [],D,y,h=>by
  refine zah ?_
  unfold za3
  rw [if_neg (d_f (by rw [h]; simp))]
  unfold zbp
  rw [h,ddpP]; rfl
 | x::l,D,y,h=>by
  have hlen:row.length=D.length+2+l.length:=by rw [h]; simp; omega
  have e1:row=D++y::([]++x::l):=h
  have g1:zaf row ((D.length+1:Nat):Int)=x:=by rw [e1]; exact sw_j D [] l y x rfl
  have g2:zaf row (D.length:Int)=y:=by rw [e1]; exact sw_i D [] l y x
  have w1:w64 (((D.length+1:Nat):Int) - 1)=(D.length:Int):=by rw [zai (by omega) (by omega)]; omega
  have w2:w64 (((D.length+1:Nat):Int)+1)=(((D++[y]).length+1:Nat):Int):=by rw [zai (by omega) (by omega)]; simp
  by_cases c:key x y
  ·rw [ddpP,if_pos c]
   refine zah ?_
   unfold za3
   rw [w1,if_pos (d_t (by omega)),zaa (by omega),zaa (by omega),zaa (by omega),zaa (by omega),g1,g2]
   simp only [zcw]
   rw [same_eq,zab,if_pos (d_t c),zaa (by omega)]
   have:=compact_in row ((D.length+1:Nat):Int) (D.length+1) rfl hl l (D++[y]) [] x 1 (by omega) (by simp) (by rw [h]; simp)
   have e4:D++[y]++([]++x::l)=row:=by rw [h]; simp
   have e5:(((D++[y]).length:Nat):Int)=((D.length+1:Nat):Int):=by simp
   rw [e4,e5] at this
   refine Eq.trans (b:=zbo row ((D.length+1:Nat):Int) (row,((D.length+1:Nat):Int),((1:Nat):Int))) rfl (this.trans ?_)
   simp
  ·rw [ddpP,if_neg c]
   have ih:=compact_out row hl l (D++[y]) x (by rw [h]; simp)
   refine (zam ?_).trans (ih.trans (by simp))
   unfold za3
   rw [w1,w2,if_pos (d_t (by omega)),zaa (by omega),zaa (by omega),zaa (by omega),zaa (by omega),g1,g2]
   simp only [zcw]
   rw [same_eq,zab,if_neg (d_f c)]
theorem compact_eq (l:List Cell) (hl:l.length≤500000000000):zba l=some (ddp l):=by
 unfold zba
 match l with
 | []=>rw [if_pos (by simp)]; rfl
 | [x]=>rw [if_pos (by simp)]; rfl
 | x::y::l=>
  rw [if_neg (d_f (by simp only [List.length_cons]; omega))]
  exact compact_out (x::y::l) hl (y::l) [] x rfl
theorem ddp_firsts:∀ (l:List Cell) (y:Cell),Srt (y::l)→Firsts (y::l) (y::ddpP y l)
 | [],y,h=>by
  refine ⟨List.pairwise_singleton _ _,fun c=>?_⟩
  rw [ddpP,fk_cons,List.mem_singleton]
  by_cases q:key c y
  ·rw [if_pos q]
   simp only [List.head?_cons,Option.some.injEq]
   exact eq_comm
  ·rw [if_neg q]
   constructor
   ·rintro rfl; exact absurd (key_refl c) q
   ·intro e; simp [fk] at e
 | x::l,y,h=>by
  obtain ⟨p1,p2⟩:=List.pairwise_cons.1 h
  obtain ⟨i1,i2⟩:=ddp_firsts l x p2
  obtain ⟨j1,j2⟩:=List.pairwise_cons.1 i1
  have hyx:=p1 x (List.mem_cons_self ..)
  rw [ddpP]
  by_cases c:key x y
  ·rw [if_pos c]
   have hy:∀ z∈ddpP x l,ah y z:=fun z hz=>ah_left c (j1 z hz)
   refine ⟨List.pairwise_cons.2 ⟨hy,j2⟩,fun w=>?_⟩
   rw [fk_cons]
   by_cases q:key w y
   ·rw [if_pos q]
    simp only [List.head?_cons,Option.some.injEq]
    constructor
    ·intro hw
     rcases List.mem_cons.1 hw with e | e
     ·exact e.symm
     ·exact absurd (key_symm q) (ah_key (hy w e))
    ·rintro rfl; exact List.mem_cons_self ..
   ·rw [if_neg q,← i2 w]
    constructor
    ·intro hw
     rcases List.mem_cons.1 hw with e | e
     ·rw [e] at q; exact absurd (key_refl y) q
     ·exact List.mem_cons_of_mem _ e
    ·intro hw
     rcases List.mem_cons.1 hw with e | e
     ·rw [e] at q; exact absurd c q
     ·exact List.mem_cons_of_mem _ e
  ·rw [if_neg c]
   have hxy:ah y x:=by
    rcases le_or hyx with e | e
    ·exact e
    ·exact absurd (key_symm e) c
   have hy:∀ z∈x::ddpP x l,ah y z:=fun z hz=>by
    rcases List.mem_cons.1 hz with e | e
    ·rw [e]; exact hxy
    ·exact ah_trans hxy (j1 z e)
   refine ⟨List.pairwise_cons.2 ⟨hy,i1⟩,fun w=>?_⟩
   rw [fk_cons]
   by_cases q:key w y
   ·rw [if_pos q]
    simp only [List.head?_cons,Option.some.injEq]
    constructor
    ·intro hw
     rcases List.mem_cons.1 hw with e | e
     ·exact e.symm
     ·exact absurd (key_symm q) (ah_key (hy w e))
    ·rintro rfl; exact List.mem_cons_self ..
   ·rw [if_neg q,← i2 w]
    constructor
    ·intro hw
     rcases List.mem_cons.1 hw with e | e
     ·rw [e] at q; exact absurd (key_refl y) q
     ·exact e
    ·intro hw; exact List.mem_cons_of_mem _ hw
theorem ddp_srtd (l:List Cell):Firsts l (ddp (srtd l)):=by
 have h:Firsts (srtd l) (ddp (srtd l)):=by
  cases hs:srtd l with
  | nil=>exact ⟨.nil,fun c=>by simp [ddp,fk]⟩
  | cons y t=>
   have:=srtd_srt l
   rw [hs] at this
   exact ddp_firsts t y this
 exact h.stab (srtd_stab l)
theorem grow_eqC (n:Nat) (hn:n≤500000000000):zb6 (n:Int)=some []:=by
 unfold zb6
 have h0:w64 (0 - 0)=0:=by decide
 have hw:w64 ((n:Int) - 0)=(n:Int):=by rw [zai (by omega) (by omega)]; omega
 rw [h0,hw,if_neg (d_f (by omega)),zab]
 by_cases c:0<n
 ·rw [if_pos (d_t (by omega)),zaa (by omega),zaa (by simp)]
  dsimp only [lt]
  rw [zaa (by simp),zab]; rfl
 ·rw [if_neg (d_f (by omega)),zab]
theorem cat_loop (L:List (List Cell)) (hf:L.flatten.length≤500000000000) (hL:L.length≤500000000000):∀ (R D:List (List Cell)),L=D++R→zct L (D.flatten,(D.length:Int))=some L.flatten
 | [],D,h=>by
  refine zah ?_
  unfold zcv
  dsimp only
  rw [if_neg (d_f (by rw [h]; simp))]
  unfold zcr
  rw [h,List.append_nil]; rfl
 | g::R,D,h=>by
  have ih:=cat_loop L hf hL R (D++[g]) (by rw [h]; simp)
  have hlen:L.length=D.length+1+R.length:=by rw [h]; simp; omega
  have hg:zaf L (D.length:Int)=g:=by rw [h]; simp [zaf]
  have hfl:(D.flatten++g).length≤500000000000:=by
   have:L.flatten.length=(D.flatten++g).length+R.flatten.length:=by rw [h]; simp; omega
   omega
  refine (zam ?_).trans ih
  unfold zcv
  dsimp only
  rw [if_pos (d_t (by omega)),zaa (by omega),hg,zaa (by omega),zai (by omega) (by omega)]
  have e1:(D++[g]).flatten=D.flatten++g:=by simp
  have e2:(((D++[g]).length:Nat):Int)=(D.length:Int)+1:=by simp
  rw [e1,e2]
theorem cat_size (L:List (List Cell)) (hf:L.flatten.length≤500000000000) (hL:L.length≤500000000000):∀ (R D:List (List Cell)),L=D++R→zd2 L ((D.flatten.length:Int),(D.length:Int))=some L.flatten
 | [],D,h=>by
  have hB:zbx L ((D.flatten.length:Int),(D.length:Int))=some (.inr L.flatten):=by
   unfold zbx
   dsimp only
   rw [if_neg (d_f (by rw [h]; simp))]
   unfold zcs
   have hD:D.flatten.length≤500000000000:=by
    have:L=D:=by rw [h]; simp
    rw [← this]; exact hf
   rw [grow_eqC _ hD,zab]
   have:=cat_loop L hf hL L [] rfl
   have this':zct L ([],0)=some L.flatten:=this
   rw [this']; rfl
  exact zah hB
 | g::R,D,h=>by
  have ih:=cat_size L hf hL R (D++[g]) (by rw [h]; simp)
  have hlen:L.length=D.length+1+R.length:=by rw [h]; simp; omega
  have hg:zaf L (D.length:Int)=g:=by rw [h]; simp [zaf]
  have hfl:D.flatten.length+g.length≤500000000000:=by
   have:L.flatten.length=D.flatten.length+g.length+R.flatten.length:=by rw [h]; simp; omega
   omega
  refine (zam ?_).trans ih
  unfold zbx
  dsimp only
  rw [if_pos (d_t (by omega)),zaa (by omega),hg]
  have w1:w64 ((D.flatten.length:Int)+(g.length:Int))=(((D++[g]).flatten.length:Nat):Int):=by
   have e1:(D++[g]).flatten.length=D.flatten.length+g.length:=by simp
   rw [e1,zai (by omega) (by omega)]; omega
  have e2:(((D++[g]).length:Nat):Int)=(D.length:Int)+1:=by simp
  rw [w1,if_neg (d_f (by omega)),zab,zai (by omega) (by omega),e2]
theorem concat_eq (L:List (List Cell)) (hf:L.flatten.length≤500000000000) (hL:L.length≤500000000000):zc6 L=some L.flatten:=cat_size L hf hL L [] rfl
noncomputable def firsts (l:List Cell):List Cell:=ddp (srtd l)
theorem firsts_ok (l:List Cell):Firsts l (firsts l):=ddp_srtd l
theorem firsts_is {l x:List Cell} (h:Firsts l x):x=firsts l:=firsts_uniq h (firsts_ok l)
theorem merge_eq (L:List (List Cell)) (hf:L.flatten.length≤500000000000) (hL:L.length≤500000000000):cell_Merge L=some (firsts L.flatten):=by
 unfold cell_Merge
 rw [concat_eq L hf hL,zab,stable_eq _ hf,zab,compact_eq _ (by rw [zew]; exact hf),zab]; rfl
theorem Firsts.put {m l x:List Cell} {c:Cell} (h:Firsts m l) (hx:x.Pairwise ah) (hm:∀ w,w∈x↔w=c∨(w∈l∧¬ key w c)):Firsts (c::m) x:=by
 refine ⟨hx,fun w=>?_⟩
 rw [hm,fk_cons]
 by_cases q:key w c
 ·rw [if_pos q]
  simp only [List.head?_cons,Option.some.injEq]
  constructor
  ·rintro (e | ⟨_,e⟩)
   ·exact e.symm
   ·exact absurd q e
  ·intro e; exact .inl e.symm
 ·rw [if_neg q,← h.2 w]
  constructor
  ·rintro (e | ⟨e,_⟩)
   ·rw [e] at q; exact absurd (key_refl c) q
   ·exact e
  ·intro e; exact .inr ⟨e,q⟩
theorem split_at (c:Cell):∀ l:List Cell,l.Pairwise ah→∃ u v,l=u++v∧(∀ x∈u,ah x c)∧(∀ x∈v,¬ ah x c)
 | [],_=>⟨[],[],rfl,by simp,by simp⟩
 | a::l,h=>by
  obtain ⟨p1,p2⟩:=List.pairwise_cons.1 h
  by_cases q:zb2 a c=true
  ·obtain ⟨u,v,rfl,h1,h2⟩:=split_at c l p2
   exact ⟨a::u,v,rfl,fun x hx=>by
    rcases List.mem_cons.1 hx with e | e
    ·rw [e]; exact (za6 _ _).1 q
    ·exact h1 x e,h2⟩
  ·have q':¬ ah a c:=fun z=>q ((za6 _ _).2 z)
   exact ⟨[],a::l,rfl,by simp,fun x hx=>by
    rcases List.mem_cons.1 hx with e | e
    ·rw [e]; exact q'
    ·exact fun z=>q' (ah_trans (p1 x e) z)⟩
theorem put_loop (c:Cell) (u v:List Cell) (hu:∀ x∈u,ah x c) (hv:∀ x∈v,¬ ah x c) (hl:(u++v).length≤1000000000000):∀ (m k:Nat),u.length - k=m→k≤u.length→
  R_PutCell_L1 (u++v) (c,(k:Int))=R_PutCell_J1 (u++v) (c,(u.length:Int)):=by
 intro m
 induction m with
 | zero=>
  intro k e hk
  have:k=u.length:=by omega
  subst this
  have hB:R_PutCell_B1 (u++v) (c,(u.length:Int))=zem (R_PutCell_J1 (u++v) (c,(u.length:Int))):=by
   unfold R_PutCell_B1
   dsimp only
   rw [zaa (fun h=>by have:=of_decide_eq_true h; omega)]
   simp only [zcw,lt]
   rw [if_neg]
   intro q
   rw [Bool.and_eq_true,decide_eq_true_iff] at q
   have hin:u.length<(u++v).length:=by omega
   have hm:zaf (u++v) (u.length:Int)∈v:=by
    rw [zb3 _ _ hin,List.getElem_append_right (Nat.le_refl _)]
    exact List.getElem_mem _
   exact hv _ hm ((za6 _ _).1 q.2)
  unfold R_PutCell_L1
  rw [loopO_eq,hB]
  cases R_PutCell_J1 (u++v) (c,(u.length:Int)) <;> rfl
 | succ m ih=>
  intro k e hk
  have hl':=hl
  rw [List.length_append] at hl'
  refine (zam ?_).trans (ih (k+1) (by omega) (by omega))
  unfold R_PutCell_B1
  dsimp only
  rw [zaa (fun h=>by have:=of_decide_eq_true h; omega)]
  simp only [zcw,lt]
  have hm:zaf (u++v) (k:Int)∈u:=by
   rw [zb3 _ _ (by rw [List.length_append]; omega),List.getElem_append_left (by omega)]
   exact List.getElem_mem _
  rw [(za6 _ _).2 (hu _ hm),if_pos (by simp only [Bool.and_true]; exact d_t (by rw [List.length_append]; omega)),zai (by omega) (by omega)]
  rfl
theorem rput_eq (l:List Cell) (c:Cell) (hs:l.Pairwise ah) (hl:l.length≤1000000000):∃ x,R_PutCell l c=some x∧x.Pairwise ah∧(∀ w,w∈x↔w=c∨(w∈l∧¬ key w c))∧x.length≤l.length+1:=by
 obtain ⟨u,v,rfl,hu,hv⟩:=split_at c l hs
 have hl':=hl
 rw [List.length_append] at hl'
 obtain ⟨su,sv,suv⟩:=List.pairwise_append.1 hs
 have h0:=put_loop c u v hu hv (by omega) u.length 0 (by omega) (by omega)
 have h0':R_PutCell (u++v) c=R_PutCell_J1 (u++v) (c,(u.length:Int)):=h0
 have hdr:zdu (u++v) (u.length:Int)=v:=by rw [zb0,List.drop_left]
 have htk:zds (u++v) (u.length:Int)=u:=by rw [zce,List.take_left]
 rw [h0']
 have ins:(∀ x∈v,ah c x)→(u++c::v).Pairwise ah∧(∀ w,w∈u++c::v↔w=c∨(w∈u++v∧¬ key w c)):=by
  intro hcv
  refine ⟨List.pairwise_append.2 ⟨su,List.pairwise_cons.2 ⟨hcv,sv⟩,fun x hx y hy=>?_⟩,fun w=>?_⟩
  ·rcases List.mem_cons.1 hy with e | e
   ·rw [e]; exact hu x hx
   ·exact suv x hx y e
  ·simp only [List.mem_append,List.mem_cons]
   constructor
   ·rintro (e | e | e)
    ·exact .inr ⟨.inl e,ah_key (hu w e)⟩
    ·exact .inl e
    ·exact .inr ⟨.inr e,fun q=>ah_key (hcv w e) (key_symm q)⟩
   ·rintro (e | ⟨e | e,_⟩)
    ·exact .inr (.inl e)
    ·exact .inl e
    ·exact .inr (.inr e)
 unfold R_PutCell_J1
 dsimp only
 rw [zaa (fun h=>by have:=of_decide_eq_true h; omega)]
 simp only [zcw,lt]
 cases v with
 | nil=>
  rw [if_neg (by simp),hdr,htk,zaa (by simp),zaa (by omega),zaa (by simp; omega),zaa (by simp),zaa (by simp; omega)]
  obtain ⟨i1,i2⟩:=ins (by simp)
  exact ⟨u++[c]++[],rfl,by simpa using i1,by simpa using i2,by simp⟩
 | cons a v=>
  have hg:zaf (u++a::v) (u.length:Int)=a:=lget_mid u a v
  have hlt:((u.length:Int))<((u++a::v).length:Int):=by simp only [List.length_append,List.length_cons]; omega
  obtain ⟨sa,sv'⟩:=List.pairwise_cons.1 sv
  rw [hg]
  by_cases q:zb2 c a=true
  ·have q':=(za6 _ _).1 q
   rw [q,if_neg (by simp),hdr,htk,zaa (by omega),zaa (by omega),zaa (by simp; omega),zaa (by omega),zaa (by simp only [List.length_append,List.length_cons,List.length_nil] at hl' ⊢; omega)]
   obtain ⟨i1,i2⟩:=ins (fun x hx=>by
    rcases List.mem_cons.1 hx with e | e
    ·rw [e]; exact q'
    ·exact ah_trans q' (sa x e))
   refine ⟨u++[c]++a::v,rfl,by simpa using i1,fun w=>?_,by simp; omega⟩
   rw [← i2 w]; simp
  ·have q':¬ ah c a:=fun z=>q ((za6 _ _).2 z)
   have hk:key c a:=by
    rcases ah_tri c a with e | e | e
    ·exact absurd e q'
    ·exact e
    ·exact absurd e (hv a (List.mem_cons_self ..))
   have qf:zb2 c a=false:=by simpa using q
   rw [qf,if_pos (by rw [Bool.not_false,Bool.and_true]; exact d_t hlt),zaa (by omega),zaa (by omega),zaa (by omega),lset_mid]
   refine ⟨u++c::v,rfl,?_,fun w=>?_,by simp⟩
   ·refine List.pairwise_append.2 ⟨su,List.pairwise_cons.2 ⟨fun x hx=>ah_left (key_symm hk) (sa x hx),sv'⟩,fun x hx y hy=>?_⟩
    rcases List.mem_cons.1 hy with e | e
    ·rw [e]; exact hu x hx
    ·exact suv x hx y (List.mem_cons_of_mem _ e)
   ·simp only [List.mem_append,List.mem_cons]
    constructor
    ·rintro (e | e | e)
     ·exact .inr ⟨.inl e,ah_key (hu w e)⟩
     ·exact .inl e
     ·exact .inr ⟨.inr (.inr e),fun z=>ah_key (sa w e) (key_symm (key_trans z hk))⟩
    ·rintro (e | ⟨e | e | e,z⟩)
     ·exact .inr (.inl e)
     ·exact .inl e
     ·rw [e] at z; exact absurd (key_symm hk) z
     ·exact .inr (.inr e)
theorem rputs_loop (M:List Cell):∀ (R D m l:List Cell),M=D++R→Firsts m l→l.length+R.length≤1000000000→M.length≤1000000000→∃ x,R_PutCells_L1 M (l,(D.length:Int))=some x∧Firsts (R.reverse++m) x∧x.length≤l.length+R.length
 | [],D,m,l,h,hF,hl,hM=>by
  refine ⟨l,zah ?_,hF,by simp⟩
  unfold R_PutCells_B1
  dsimp only
  rw [if_neg (d_f (by rw [h]; simp))]; rfl
 | c::R,D,m,l,h,hF,hl,hM=>by
  have hlen:M.length=D.length+1+R.length:=by rw [h]; simp; omega
  simp only [List.length_cons] at hl
  have hg:zaf M (D.length:Int)=c:=by rw [h]; exact lget_mid D c R
  obtain ⟨x,x1,x2,x3,x4⟩:=rput_eq l c hF.1 (by omega)
  obtain ⟨y,y1,y2,y3⟩:=rputs_loop M R (D++[c]) (c::m) x (by rw [h]; simp) (hF.put x2 x3) (by omega) hM
  refine ⟨y,(zam ?_).trans y1,by simpa using y2,by simp only [List.length_cons]; omega⟩
  unfold R_PutCells_B1
  dsimp only
  rw [if_pos (d_t (by omega)),zaa (by omega),hg]
  simp only [zcw]
  rw [x1,zab,zai (by omega) (by omega)]
  have e2:(((D++[c]).length:Nat):Int)=(D.length:Int)+1:=by simp
  rw [e2]
theorem rputs_eq (l M m:List Cell) (hF:Firsts m l) (hl:l.length+M.length≤1000000000):R_PutCells l M=some (firsts (M.reverse++m)):=by
 obtain ⟨x,x1,x2,_⟩:=rputs_loop M M [] m l rfl hF hl (by omega)
 have x1':R_PutCells l M=some x:=x1
 rw [x1',firsts_is x2]
theorem firsts_len (l:List Cell):(firsts l).length≤l.length:=by
 have h:∀ (l:List Cell) (y:Cell),(ddpP y l).length≤l.length:=by
  intro l
  induction l with
  | nil=>intro y; exact Nat.le_refl _
  | cons x l ih=>
   intro y
   rw [ddpP]
   split
   ·have:=ih x; simp only [List.length_cons]; omega
   ·have:=ih x; simp only [List.length_cons]; omega
 unfold firsts
 rw [← zew l]
 cases srtd l with
 | nil=>exact Nat.le_refl _
 | cons x t=>rw [ddp]; have:=h t x; simp only [List.length_cons]; omega
theorem fk_key {a b:Cell} (h:key a b) (l:List Cell):fk a l=fk b l:=by
 unfold fk
 congr 1
 funext x
 exact decide_eq_decide.2 ⟨fun q=>key_trans (key_symm h) q,fun q=>key_trans h q⟩
theorem fk_mem {c:Cell} {l:List Cell} (h:(fk c l).head?=some c):c∈l:=by
 have:=List.mem_of_mem_head? h
 unfold fk at this
 exact (List.mem_filter.1 this).1
theorem firsts_mem {l:List Cell} {c:Cell} (h:c∈firsts l):c∈l:=fk_mem (((firsts_ok l).2 c).1 h)
theorem fk_one {M:List Cell} (h:M.Pairwise ah) (k:Cell):(fk k M).length≤1:=by
 have hs:(fk k M).Pairwise ah:=h.sublist List.filter_sublist
 have hm:∀ x∈fk k M,key k x:=fun x hx=>of_decide_eq_true (List.mem_filter.1 hx).2
 match hq:fk k M with
 | []=>simp
 | [x]=>simp
 | x::y::t=>
  rw [hq] at hs hm
  have h1:=(List.pairwise_cons.1 hs).1 y (by simp)
  exact absurd (key_trans (key_symm (hm x (by simp))) (hm y (by simp))) (ah_key h1)
theorem stab_rev {M:List Cell} (h:M.Pairwise ah):Stab M M.reverse:=fun k=>by
 have h1:=fk_one h k
 have e:fk k M.reverse=(fk k M).reverse:=by unfold fk; rw [List.filter_reverse]
 rw [e]
 match hq:fk k M with
 | []=>rfl
 | [x]=>rfl
 | x::y::t=>rw [hq] at h1; simp at h1
theorem firsts_congr {a b:List Cell} (h:Stab a b):firsts a=firsts b:=firsts_is ((firsts_ok a).stab h.symm)
theorem firsts_self {l:List Cell} (h:l.Pairwise ah):firsts l=l:=by
 refine (firsts_is ⟨h,fun c=>⟨fun hc=>?_,fun hc=>fk_mem hc⟩⟩).symm
 have hm:c∈fk c l:=List.mem_filter.2 ⟨hc,decide_eq_true (key_refl c)⟩
 have h1:=fk_one h c
 match hq:fk c l with
 | []=>rw [hq] at hm; cases hm
 | [x]=>rw [hq] at hm; rw [List.mem_singleton.1 hm]; rfl
 | x::y::t=>rw [hq] at h1; simp at h1
def Hd (m m':List Cell):Prop:=∀ c,(fk c m).head?=(fk c m').head?
theorem Hd.firsts {m m':List Cell} (h:Hd m m'):firsts m=firsts m':=firsts_is ⟨(firsts_ok m).1,fun c=>by rw [(firsts_ok m).2 c,h c]⟩
theorem Hd.app {a a' b b':List Cell} (h:Hd a a') (g:Hd b b'):Hd (a++b) (a'++b'):=fun c=>by
 rw [fk_app,fk_app,List.head?_append,List.head?_append,h c,g c]
theorem Hd.refl (m:List Cell):Hd m m:=fun _=>rfl
theorem Hd.symm {m m':List Cell} (h:Hd m m'):Hd m' m:=fun c=>(h c).symm
theorem Hd.trans {a b c:List Cell} (h:Hd a b) (g:Hd b c):Hd a c:=fun x=>(h x).trans (g x)
theorem hd_firsts (m:List Cell):Hd (firsts m) m:=fun c=>by
 have hF:=firsts_ok m
 cases hx:(fk c m).head? with
 | none=>
  have e:fk c m=[]:=List.head?_eq_none_iff.1 hx
  rw [List.head?_eq_none_iff]
  refine fk_none fun y hy hk=>?_
  have:=(hF.2 y).1 hy
  rw [← fk_key hk,e] at this; cases this
 | some x=>
  have hm:=List.mem_of_mem_head? hx
  have hk:key c x:=of_decide_eq_true (List.mem_filter.1 hm).2
  have hxf:x∈firsts m:=(hF.2 x).2 (by rw [← fk_key hk]; exact hx)
  have hxm:x∈fk c (firsts m):=List.mem_filter.2 ⟨hxf,decide_eq_true hk⟩
  have h1:=fk_one hF.1 c
  match hq:fk c (firsts m) with
  | []=>rw [hq] at hxm; cases hxm
  | [y]=>rw [hq] at hxm; rw [List.mem_singleton.1 hxm]; rfl
  | y::z::t=>rw [hq] at h1; simp at h1
theorem xor_max {v:Nat} (h:v<2 ^ 32):4294967295 ^^^ v=4294967295 - v:=by
 have h1:=BitVec.toNat_not (x:=BitVec.ofNat 32 v)
 rw [BitVec.not_def,BitVec.toNat_xor,BitVec.toNat_allOnes,BitVec.toNat_ofNat,Nat.mod_eq_of_lt h] at h1
 simpa using h1
theorem pow1_32:(2:Int) ^ (min (1:Int).toNat 32)=((2:Nat):Int):=by decide
theorem crc_step_eq (c:Nat) (h:c<2 ^ 32) :
  (if (decide ((bitsOp .and .u32 (c:Int) 1)=1))=true then lt (bitsOp .xor .u32 (Int.fdiv (c:Int) (2 ^ (min (1:Int).toNat 32))) 3988292384) fun (v6:Int)=>some v6 else some (Int.fdiv (c:Int) (2 ^ (min (1:Int).toNat 32))))=some ((crcS c:Nat):Int):=by
 have e1:bitsOp .and .u32 (c:Int) 1=((c % 2:Nat):Int):=by
  have:=bits_and32 (a:=c) (b:=1) h (by omega)
  rw [and_one] at this; exact this
 have e2:bitsOp .xor .u32 (((c / 2:Nat)):Int) 3988292384=(((c / 2) ^^^ crcP:Nat):Int):=bits_xor32 (a:=c / 2) (b:=crcP) (by omega) (by unfold crcP; omega)
 rw [pow1_32,fdiv_nat,e1,e2]
 unfold crcS
 by_cases c2:c % 2=1
 ·rw [if_pos (d_t (by omega)),if_pos c2]; rfl
 ·rw [if_neg (d_f (by omega)),if_neg c2]
theorem crc_L2 (v:Int×Int):∀ (m k c:Nat),8 - k=m→k≤8→c<2 ^ 32→wire_Crc_L2 v ((c:Int),(k:Int))=some (.inl (((crcN (8 - k) c:Nat):Int),w64 (v.2+1)))
 | 0,k,c,e,hk,hc=>by
  have:k=8:=by omega
  subst this
  refine zah ?_
  simp only [wire_Crc_B2]
  rw [if_neg (d_f (by omega))]; rfl
 | m+1,k,c,e,hk,hc=>by
  have hw:w64 ((k:Int)+1)=((k+1:Nat):Int):=by rw [zai (by omega) (by omega)]; omega
  have ih:=crc_L2 v m (k+1) (crcS c) (by omega) (by omega) (crcS_lt hc)
  have e8:crcN (8 - k) c=crcN (8 - (k+1)) (crcS c):=by
   have:8 - k=(8 - (k+1))+1:=by omega
   rw [this,crcN]
  rw [e8]
  refine (zam (y:=(((crcS c:Nat):Int),((k+1:Nat):Int))) ?_).trans ih
  simp only [wire_Crc_B2]
  rw [if_pos (d_t (by omega)),crc_step_eq c hc,zab,hw]
theorem crc_J1 (c:Nat) (hc:c<2 ^ 32):wire_Crc_J1 (c:Int)=some ((4294967295 - c:Nat):Int):=by
 have e1:(if IntKind.signed .u32=true then (-1:Int) else IntKind.max .u32)=((4294967295:Nat):Int):=by decide
 have e2:=bits_xor32 (a:=4294967295) (b:=c) (by omega) hc
 rw [xor_max hc] at e2
 unfold wire_Crc_J1
 rw [e1,e2]
 dsimp only [lt]
theorem crc_L1 (b:List UInt8) (hb:b.length≤140737488351232):∀ (m k c:Nat),b.length - k=m→k≤b.length→c<2 ^ 32→wire_Crc_L1 b ((c:Int),(k:Int))=some ((4294967295 - crcL c (b.drop k):Nat):Int)
 | 0,k,c,e,hk,hc=>by
  have:k=b.length:=by omega
  subst this
  refine zah ?_
  simp only [wire_Crc_B1]
  rw [if_neg (d_f (by omega)),List.drop_length]
  rw [crc_J1 c hc]
  have e0:crcL c []=c:=rfl
  rw [e0]
  dsimp only [zem]
 | m+1,k,c,e,hk,hc=>by
  have hlt:k<b.length:=by omega
  have hw:w64 ((k:Int)+1)=((k+1:Nat):Int):=by rw [zai (by omega) (by omega)]; omega
  have hx:=u8_lt32 (zaf b (k:Int))
  have h3:crcN 8 (c ^^^ (zaf b (k:Int)).toNat)<2 ^ 32:=crcN_lt 8 (Nat.xor_lt_two_pow hc hx)
  have ih:=crc_L1 b hb m (k+1) (crcN 8 (c ^^^ (zaf b (k:Int)).toNat)) (by omega) (by omega) h3
  rw [zcp b k hlt,crcL_cons]
  refine (zam (y:=(((crcN 8 (c ^^^ (zaf b (k:Int)).toNat):Nat):Int),((k+1:Nat):Int))) ?_).trans ih
  simp only [wire_Crc_B1]
  rw [if_pos (d_t (by omega)),zaa (by omega),u32_id (by omega) (by omega),bits_xor32 hc hx]
  have:=crc_L2 ((c:Int),(k:Int)) 8 0 (c ^^^ (zaf b (k:Int)).toNat) (by omega) (by omega) (Nat.xor_lt_two_pow hc hx)
  have h0:((0:Nat):Int)=0:=rfl
  rw [h0] at this
  rw [this,hw]
theorem crc_eq (b:List UInt8) (hb:b.length≤140737488351232):wire_Crc b=some ((crc b:Nat):Int):=
 crc_L1 b hb b.length 0 4294967295 (by omega) (by omega) (by omega)
theorem rest_L2 (b:List UInt8) (c0:Int) (i:Nat) (hi:i<b.length):∀ (m k c:Nat),8 - k=m→k≤8→c<2 ^ 32→
  R_Rest_L2 b (c0,(i:Int)) ((c:Int),(k:Int))=some (.inl (((crcR (8 - k) c ((zaf b (i:Int)).toNat / 2 ^ k):Nat):Int),w64 ((i:Int)+1)))
 | 0,k,c,e,hk,hc=>by
  have:k=8:=by omega
  subst this
  refine zah ?_
  simp only [R_Rest_B2]
  rw [if_neg (d_f (by omega))]; rfl
 | m+1,k,c,e,hk,hc=>by
  have hw:w64 ((k:Int)+1)=((k+1:Nat):Int):=by rw [zai (by omega) (by omega)]; omega
  generalize hx:zaf b (i:Int)=x
  have hxl:=x.toNat_lt
  have hbit:x.toNat / 2 ^ k % 2<2:=by omega
  have hct:crcT c (x.toNat / 2 ^ k % 2)<2 ^ 32:=by
   unfold crcT
   split
   ·exact Nat.xor_lt_two_pow (by omega) (by unfold crcP; omega)
   ·omega
  have ih:=rest_L2 b c0 i hi m (k+1) (crcT c (x.toNat / 2 ^ k % 2)) (by omega) (by omega) hct
  rw [hx] at ih
  have e8:crcR (8 - k) c (x.toNat / 2 ^ k)=crcR (8 - (k+1)) (crcT c (x.toNat / 2 ^ k % 2)) (x.toNat / 2 ^ (k+1)):=by
   have:8 - k=(8 - (k+1))+1:=by omega
   rw [this,crcR,Nat.pow_succ,Nat.div_div_eq_div_mul]
  rw [e8]
  refine (zam (y:=(((crcT c (x.toNat / 2 ^ k % 2):Nat):Int),((k+1:Nat):Int))) ?_).trans ih
  have ep:(2:Int) ^ (min (k:Int).toNat 8)=((2 ^ k:Nat):Int):=by
   rw [Int.toNat_natCast,show min k 8=k by omega]; simp
  have hd:x.toNat / 2 ^ k<256:=Nat.lt_of_le_of_lt (Nat.div_le_self _ _) hxl
  have e1:Int.tmod (IntKind.u32.wrap ((zd1 (Int.fdiv (x.toNat:Int) (2 ^ (min (k:Int).toNat 8)))).toNat:Int)) 2=((x.toNat / 2 ^ k % 2:Nat):Int):=by
   rw [ep,fdiv_nat,zd7,u8_of hd]
   generalize x.toNat / 2 ^ k=q at hd ⊢
   rw [u32_id (by omega) (by omega)]
   exact tmod_nat _ 2
  have e2:Int.tmod (IntKind.u32.wrap ((c:Int)+((x.toNat / 2 ^ k % 2:Nat):Int))) 2=(((c+x.toNat / 2 ^ k % 2) % 2:Nat):Int):=by
   generalize x.toNat / 2 ^ k % 2=q at hbit ⊢
   by_cases h:c+q<2 ^ 32
   ·rw [u32_id (by omega) (by omega),← Int.natCast_add]
    exact tmod_nat _ 2
   ·have h1:c+q=4294967296:=by omega
    have h2:(c:Int)+((q:Nat):Int)=4294967296:=by omega
    rw [h1,h2]; decide
  have e3:IntKind.u32.wrap (Int.tdiv (c:Int) 2)=((c / 2:Nat):Int):=by
   have:Int.tdiv (c:Int) 2=((c / 2:Nat):Int):=tdiv_nat c 2
   rw [this,u32_id (by omega) (by omega)]
  have e4:bitsOp .xor .u32 (((c / 2:Nat)):Int) 3988292384=(((c / 2) ^^^ crcP:Nat):Int):=bits_xor32 (a:=c / 2) (b:=crcP) (by omega) (by unfold crcP; omega)
  simp only [R_Rest_B2,hx,e1,lt,e2,e3,e4]
  rw [if_pos (d_t (by omega)),zaa (by omega),zaa (by omega)]
  unfold crcT
  by_cases c2:(c+x.toNat / 2 ^ k % 2) % 2=1
  ·rw [if_pos (d_t (by omega)),if_pos c2,zab,hw]
  ·rw [if_neg (d_f (by omega)),if_neg c2,zab,hw]
theorem rest_J1 (c:Nat) (hc:c<2 ^ 32):R_Rest_J1 (c:Int)=some ((4294967295 - c:Nat):Int):=by
 have:(4294967295:Int) - (c:Int)=((4294967295 - c:Nat):Int):=by omega
 unfold R_Rest_J1
 rw [u32_id (by omega) (by omega),this]
theorem rest_L1 (b:List UInt8) (hb:b.length≤140737488351232):∀ (m k c:Nat),b.length - k=m→k≤b.length→c<2 ^ 32→R_Rest_L1 b ((c:Int),(k:Int))=some ((4294967295 - crcL c (b.drop k):Nat):Int)
 | 0,k,c,e,hk,hc=>by
  have:k=b.length:=by omega
  subst this
  refine zah ?_
  simp only [R_Rest_B1]
  rw [if_neg (d_f (by omega)),List.drop_length]
  rw [rest_J1 c hc]
  have e0:crcL c []=c:=rfl
  rw [e0]
  dsimp only [zem]
 | m+1,k,c,e,hk,hc=>by
  have hlt:k<b.length:=by omega
  have hw:w64 ((k:Int)+1)=((k+1:Nat):Int):=by rw [zai (by omega) (by omega)]; omega
  have hx:=u8_lt32 (zaf b (k:Int))
  have h3:crcN 8 (c ^^^ (zaf b (k:Int)).toNat)<2 ^ 32:=crcN_lt 8 (Nat.xor_lt_two_pow hc hx)
  have ih:=rest_L1 b hb m (k+1) (crcN 8 (c ^^^ (zaf b (k:Int)).toNat)) (by omega) (by omega) h3
  rw [zcp b k hlt,crcL_cons]
  refine (zam (y:=(((crcN 8 (c ^^^ (zaf b (k:Int)).toNat):Nat):Int),((k+1:Nat):Int))) ?_).trans ih
  simp only [R_Rest_B1]
  rw [if_pos (d_t (by omega))]
  have:=rest_L2 b (c:Int) k hlt 8 0 c (by omega) (by omega) hc
  have h0:((0:Nat):Int)=0:=rfl
  rw [h0] at this
  rw [this,crc_byte c _ (zaf b (k:Int)).toNat_lt,hw]
  simp
theorem rest_eq (b:List UInt8) (hb:b.length≤140737488351232):R_Rest b=some ((crc b:Nat):Int):=
 rest_L1 b hb b.length 0 4294967295 (by omega) (by omega) (by omega)
theorem crcB_w (n:Nat):[zd1 (Int.fdiv (n:Int) (2 ^ (min (24:Int).toNat 32))),zd1 (Int.fdiv (n:Int) (2 ^ (min (16:Int).toNat 32))),zd1 (Int.fdiv (n:Int) (2 ^ (min (8:Int).toNat 32))),zd1 (n:Int)]=crcB n:=by
 have e1:(2:Int) ^ (min (24:Int).toNat 32)=((16777216:Nat):Int):=by decide
 have e2:(2:Int) ^ (min (16:Int).toNat 32)=((65536:Nat):Int):=by decide
 have e3:(2:Int) ^ (min (8:Int).toNat 32)=((256:Nat):Int):=by decide
 unfold crcB
 rw [e1,e2,e3,fdiv_nat,fdiv_nat,fdiv_nat,zd7,zd7,zd7,zd7,ofNat_mod,ofNat_mod,ofNat_mod]
def encF (l:List (List UInt8)):List UInt8:=wrAll frame l
theorem encF_cons (s:List UInt8) (l:List (List UInt8)):encF (s::l)=frame s++encF l:=by simp [encF,wrAll]
def flen (b:List UInt8):Nat:=(zaf b 0).toNat*256+(zaf b 1).toNat
def rdF (b:List UInt8):Option (List UInt8×List UInt8):=
 if 6≤b.length∧flen b+6≤b.length∧frame ((b.drop 2).take (flen b))=b.take (flen b+6) then some ((b.drop 2).take (flen b),b.drop (flen b+6)) else none
theorem flen_lt (b:List UInt8):flen b≤65535:=by
 have h1:=(zaf b 0).toNat_lt
 have h2:=(zaf b 1).toNat_lt
 unfold flen; omega
theorem rdF_some {b x r:List UInt8} (h:rdF b=some (x,r)):b=frame x++r∧x.length≤65535:=by
 unfold rdF at h
 split at h
 ·rename_i c
  simp only [Option.some.injEq,Prod.mk.injEq] at h
  obtain ⟨rfl,rfl⟩:=h
  have:=flen_lt b
  exact ⟨by rw [c.2.2,List.take_append_drop],by simp; omega⟩
 ·cases h
theorem flen_frame {x:List UInt8} (hx:x.length≤65535) (r:List UInt8):flen (frame x++r)=x.length:=by
 have e:frame x++r=UInt8.ofNat (x.length / 256)::UInt8.ofNat (x.length % 256)::(x++(crcB (crc (UInt8.ofNat (x.length / 256)::UInt8.ofNat (x.length % 256)::x))++r)):=by simp [frame]
 rw [e]
 have e0:zaf (UInt8.ofNat (x.length / 256)::UInt8.ofNat (x.length % 256)::(x++(crcB (crc (UInt8.ofNat (x.length / 256)::UInt8.ofNat (x.length % 256)::x))++r))) 0=UInt8.ofNat (x.length / 256):=rfl
 have e1:zaf (UInt8.ofNat (x.length / 256)::UInt8.ofNat (x.length % 256)::(x++(crcB (crc (UInt8.ofNat (x.length / 256)::UInt8.ofNat (x.length % 256)::x))++r))) 1=UInt8.ofNat (x.length % 256):=rfl
 unfold flen
 rw [e0,e1,u8_of (by omega),u8_of (by omega)]; omega
theorem body_frame (x r:List UInt8):((frame x++r).drop 2).take x.length=x:=by
 have e:frame x++r=UInt8.ofNat (x.length / 256)::UInt8.ofNat (x.length % 256)::(x++(crcB (crc (UInt8.ofNat (x.length / 256)::UInt8.ofNat (x.length % 256)::x))++r)):=by simp [frame]
 rw [e]; simp
theorem rdF_frame {x:List UInt8} (hx:x.length≤65535) (r:List UInt8):rdF (frame x++r)=some (x,r):=by
 unfold rdF
 have h1:=flen_frame hx r
 have h2:=body_frame x r
 have h3:=zcc x
 rw [h1,h2,if_pos]
 ·have:(frame x++r).drop (x.length+6)=r:=by rw [← h3]; simp
  rw [this]
 ·refine ⟨by rw [List.length_append,h3]; omega,by rw [List.length_append,h3]; omega,?_⟩
  rw [← h3]; simp
def opn:Nat→List UInt8→List (List UInt8)→Nat→List (List UInt8)×Nat
 | 0,_,acc,g=>(acc,g)
 | k+1,b,acc,g=>match rdF b with
  | some (x,r)=>opn k r (acc++[x]) (g+(x.length+6))
  | none=>(acc,g)
theorem opn_none {b:List UInt8} (h:rdF b=none) (k:Nat) (acc:List (List UInt8)) (g:Nat):opn k b acc g=(acc,g):=by
 cases k with
 | zero=>rfl
 | succ k=>rw [opn,h]
theorem opn_some {b x r:List UInt8} (h:rdF b=some (x,r)) (k:Nat) (acc:List (List UInt8)) (g:Nat):opn (k+1) b acc g=opn k r (acc++[x]) (g+(x.length+6)):=by
 rw [opn,h]
theorem frame_sum {b:List UInt8} (h:flen b+6≤b.length):frame ((b.drop 2).take (flen b))=b.take (flen b+6)↔(b.drop (2+flen b)).take 4=crcB (crc (b.take (2+flen b))):=by
 have h1:=(zaf b 0).toNat_lt
 have h2:=(zaf b 1).toNat_lt
 have hl:((b.drop 2).take (flen b)).length=flen b:=by simp; omega
 have e2:b.take (2+flen b)=zaf b 0::zaf b 1::(b.drop 2).take (flen b):=by
  have a0:=zcp b 0 (by omega)
  have a1:=zcp b 1 (by omega)
  simp only [List.drop_zero] at a0
  have e0:((0:Nat):Int)=0:=rfl
  have e1:((1:Nat):Int)=1:=rfl
  rw [e0,Nat.zero_add,a1,e1] at a0
  rw [a0,Nat.add_comm 2]
  simp [zaf]
 have e3:UInt8.ofNat (flen b / 256)=zaf b 0:=by
  apply u8_eq; rw [u8_of (by unfold flen; omega)]; unfold flen; omega
 have e4:UInt8.ofNat (flen b % 256)=zaf b 1:=by
  apply u8_eq; rw [u8_of (by omega)]; unfold flen; omega
 have e5:frame ((b.drop 2).take (flen b))=b.take (2+flen b)++crcB (crc (b.take (2+flen b))):=by
  unfold frame
  rw [hl,e3,e4,← e2]
 have e6:b.take (flen b+6)=b.take (2+flen b)++(b.drop (2+flen b)).take 4:=by
  rw [← List.take_add]; congr 1; omega
 rw [e5,e6,List.append_cancel_left_eq]
 exact eq_comm
theorem equal_loop (a b:List UInt8) (hl:a.length=b.length) (hb:a.length≤1000000):∀ (m k:Nat),a.length - k=m→k≤a.length→slices_Equal_byte_byte_L1 a b (k:Int)=some (decide (a.drop k=b.drop k))
 | 0,k,e,hk=>by
  have:k=a.length:=by omega
  refine zah ?_
  simp only [zdm]
  rw [if_neg (d_f (by omega))]
  have e1:a.drop k=[]:=List.drop_eq_nil_of_le (by omega)
  have e2:b.drop k=[]:=List.drop_eq_nil_of_le (by omega)
  simp [zem,zee,e1,e2]
 | m+1,k,e,hk=>by
  have hw:w64 ((k:Int)+1)=((k+1:Nat):Int):=by rw [zai (by omega) (by omega)]; omega
  have ih:=equal_loop a b hl hb m (k+1) (by omega) (by omega)
  rw [zcp a k (by omega),zcp b k (by omega)]
  by_cases c:zaf a (k:Int)=zaf b (k:Int)
  ·refine (zam (y:=((k+1:Nat):Int)) ?_).trans (ih.trans (by simp [c]))
   simp only [zdm]
   rw [if_pos (d_t (by omega)),zaa (by omega),zaa (by omega),if_neg (by simp [c]),hw]
  ·have c':¬ ((zaf a (k:Int)).toNat:Int)=((zaf b (k:Int)).toNat:Int):=fun h=>c (u8_eq (by omega))
   refine zah ?_
   simp only [zdm]
   rw [if_pos (d_t (by omega)),zaa (by omega),zaa (by omega),if_pos (n_t c')]
   simp [c]
theorem equal_eq (a b:List UInt8) (hb:a.length≤1000000):zcx a b=some (decide (a=b)):=by
 unfold zcx
 by_cases c:a.length=b.length
 ·rw [if_neg (by simp [c])]
  have:=equal_loop a b c hb a.length 0 (by omega) (by omega)
  simpa using this
 ·rw [if_pos (by simp; omega)]
  have:a≠b:=fun h=>c (by rw [h])
  simp [this]
theorem clone_eq (l:List UInt8) (h:l.length≤1000000):zbu l=some l:=by
 refine wp_is.1 ?_
 simp only [zbu,wp_ubO,wp_asrt,wp_some,List.nil_append]
 refine ⟨fun hl=>?_,⟨by omega,trivial⟩⟩
 have:l=[]:=List.length_eq_zero_iff.1 (of_decide_eq_true hl)
 subst this
 rw [zaa (by simp)]
theorem drop_take' (b:List UInt8) (g n:Nat):(b.take (g+n)).drop g=(b.drop g).take n:=by
 rw [List.drop_take]; congr 1; omega
theorem opened_loop (b:List UInt8) (hb:b.length≤100000):∀ (k g:Nat) (acc:List (List UInt8)),b.length - g≤k→g≤b.length→acc.length≤g→
  wire_Opened_v1_L1 b (acc,(g:Int))=some (((opn k (b.drop g) acc g).1),(((opn k (b.drop g) acc g).2:Nat):Int))
 | k,g,acc,hk,hg,ha=>by
  have hw0:w64 ((b.length:Int) - (g:Int))=((b.length - g:Nat):Int):=by rw [zai (by omega) (by omega)]; omega
  have hw1:w64 ((g:Int)+1)=((g+1:Nat):Int):=by rw [zai (by omega) (by omega)]; omega
  have hw2:w64 ((g:Int)+2)=((g+2:Nat):Int):=by rw [zai (by omega) (by omega)]; omega
  by_cases c6:6≤b.length - g
  ·have hfl:=flen_lt (b.drop g)
   have h0:zaf (b.drop g) 0=zaf b (g:Int):=by
    have:=lget_ldrop b (g:Int) 0 (by omega)
    rwa [zb0,Int.add_zero] at this
   have h1:zaf (b.drop g) 1=zaf b ((g+1:Nat):Int):=by
    have:=lget_ldrop b (g:Int) 1 (by omega)
    rwa [zb0] at this
   have b0:=(zaf b (g:Int)).toNat_lt
   have b1:=(zaf b ((g+1:Nat):Int)).toNat_lt
   have en:bitsOp .or .i64 (w64 ((w64 ((zaf b (g:Int)).toNat:Int))*2 ^ (min (8:Int).toNat 64))) (w64 ((zaf b ((g+1:Nat):Int)).toNat:Int))=((flen (b.drop g):Nat):Int):=by
    have e8:(2:Int) ^ (min (8:Int).toNat 64)=((256:Nat):Int):=by decide
    rw [e8,zai (x:=((zaf b (g:Int)).toNat:Int)) (by omega) (by omega),← Int.natCast_mul,zai (by omega) (by omega),zai (by omega) (by omega),bits_or64 (by omega) (by omega)]
    have:=or_add (a:=(zaf b ((g+1:Nat):Int)).toNat) (b:=(zaf b (g:Int)).toNat) (k:=8) (by omega)
    have e256:(2:Nat) ^ 8=256:=rfl
    rw [e256] at this
    rw [Nat.or_comm,this]
    unfold flen
    rw [h0,h1]; omega
   generalize hn:flen (b.drop g)=n at *
   have hw3:w64 (((g+2:Nat):Int)+(n:Int))=((g+2+n:Nat):Int):=by rw [zai (by omega) (by omega)]; omega
   have hw4:w64 (((g+2+n:Nat):Int)+4)=((g+2+n+4:Nat):Int):=by rw [zai (by omega) (by omega)]; omega
   by_cases c2:b.length<g+2+n+4
   ·have hr:rdF (b.drop g)=none:=by
     unfold rdF
     rw [if_neg]
     rw [hn,List.length_drop]
     intro h; omega
    rw [opn_none hr]
    refine zah ?_
    simp only [ze5,hw0,hw1,hw2]
    rw [if_pos (d_t (by omega)),zaa (by omega),zaa (by omega),en]
    simp only [lt,hw3,hw4]
    rw [if_pos (d_t (by omega))]; rfl
   ·have t1:(b.take (g+2+n)).drop g=(b.drop g).take (2+n):=by rw [Nat.add_assoc,drop_take']
    have t2:(b.take (g+2+n+4)).drop (g+2+n)=((b.drop g).drop (2+n)).take 4:=by
     rw [drop_take',List.drop_drop,Nat.add_assoc]
    have t3:(b.take (g+2+n)).drop (g+2)=((b.drop g).drop 2).take n:=by rw [drop_take',List.drop_drop]
    have hle:flen (b.drop g)+6≤(b.drop g).length:=by rw [hn,List.length_drop]; omega
    have hfs:=frame_sum hle
    rw [hn] at hfs
    have hl3:(((b.drop g).drop 2).take n).length=n:=by simp; omega
    by_cases c3:((b.drop g).drop (2+n)).take 4=crcB (crc ((b.drop g).take (2+n)))
    ·have hr:rdF (b.drop g)=some (((b.drop g).drop 2).take n,b.drop (g+(n+6))):=by
      unfold rdF
      have e9:(b.drop g).drop (n+6)=b.drop (g+(n+6)):=by rw [List.drop_drop]
      rw [hn,if_pos ⟨by simp; omega,by simp; omega,hfs.2 c3⟩,e9]
     match k,hk with
     | 0,hk=>omega
     | k+1,hk=>
     rw [opn_some hr,hl3]
     have ih:=opened_loop b hb k (g+(n+6)) (acc++[((b.drop g).drop 2).take n]) (by omega) (by omega) (by simp; omega)
     refine (zam (y:=(acc++[((b.drop g).drop 2).take n],((g+(n+6):Nat):Int))) ?_).trans ih
     simp only [ze5,hw0,hw1,hw2]
     rw [if_pos (d_t (by omega)),zaa (by omega),zaa (by omega),en]
     simp only [lt,hw3,hw4]
     rw [if_neg (d_f (by omega)),zaa (by omega),zce,zb0,t1,crc_eq _ (by simp; omega),zab,zaa (by omega),zce,zb0,t2,crcB_w,c3,equal_eq _ _ (by simp [crcB]),zab]
     rw [if_neg (by simp),zaa (by omega),zb0,t3,clone_eq _ (by omega),zab,zaa (by simp; omega)]
     have:g+2+n+4=g+(n+6):=by omega
     rw [this]
    ·have hr:rdF (b.drop g)=none:=by
      unfold rdF
      rw [hn,if_neg]
      intro h; exact c3 (hfs.1 h.2.2)
     rw [opn_none hr]
     refine zah ?_
     simp only [ze5,hw0,hw1,hw2]
     rw [if_pos (d_t (by omega)),zaa (by omega),zaa (by omega),en]
     simp only [lt,hw3,hw4]
     rw [if_neg (d_f (by omega)),zaa (by omega),zce,zb0,t1,crc_eq _ (by simp; omega),zab,zaa (by omega),zce,zb0,t2,crcB_w,equal_eq _ _ (by simp; omega),zab,if_pos (n_t c3)]
     rfl
  ·have hr:rdF (b.drop g)=none:=by
    unfold rdF
    rw [if_neg]
    rw [List.length_drop]
    intro h; omega
   rw [opn_none hr]
   refine zah ?_
   simp only [ze5,hw0]
   rw [if_neg (d_f (by omega))]; rfl
theorem opened_eq (b:List UInt8) (hb:b.length≤100000):wire_Opened_v1 b=some ((opn b.length b [] 0).1,(((opn b.length b [] 0).2:Nat):Int)):=by
 have:=opened_loop b hb b.length 0 [] (by omega) (by omega) (by simp)
 unfold wire_Opened_v1
 simpa using this
theorem crcB_r (n:Nat) (hn:n<2 ^ 32):[zd1 (IntKind.u32.wrap (Int.tdiv (n:Int) 16777216)),zd1 (Int.tmod (IntKind.u32.wrap (Int.tdiv (n:Int) 65536)) 256),zd1 (Int.tmod (IntKind.u32.wrap (Int.tdiv (n:Int) 256)) 256),zd1 (Int.tmod (n:Int) 256)]=crcB n:=by
 have e1:Int.tdiv (n:Int) 16777216=((n / 16777216:Nat):Int):=tdiv_nat n 16777216
 have e2:Int.tdiv (n:Int) 65536=((n / 65536:Nat):Int):=tdiv_nat n 65536
 have e3:Int.tdiv (n:Int) 256=((n / 256:Nat):Int):=tdiv_nat n 256
 have e4:Int.tmod (n:Int) 256=((n % 256:Nat):Int):=tmod_nat n 256
 have e5:Int.tmod ((n / 65536:Nat):Int) 256=((n / 65536 % 256:Nat):Int):=tmod_nat _ 256
 have e6:Int.tmod ((n / 256:Nat):Int) 256=((n / 256 % 256:Nat):Int):=tmod_nat _ 256
 unfold crcB
 rw [e1,e2,e3,e4,u32_id (by omega) (by omega),u32_id (by omega) (by omega),u32_id (by omega) (by omega),e5,e6,zd7,zd7,zd7,zd7]
theorem framed_eq (body:List UInt8) (hb:body.length≤1000000000):R_Framed body=some (frame body):=by
 have eh:[zd1 (w64 (Int.tdiv (body.length:Int) 256)),zd1 (Int.tmod (body.length:Int) 256)]=[UInt8.ofNat (body.length / 256),UInt8.ofNat (body.length % 256)]:=by
  have e3:Int.tdiv (body.length:Int) 256=((body.length / 256:Nat):Int):=tdiv_nat _ 256
  have e4:Int.tmod (body.length:Int) 256=((body.length % 256:Nat):Int):=tmod_nat _ 256
  rw [e3,e4,zai (by omega) (by omega),zd7,zd7]
 unfold R_Framed
 rw [eh,zaa (by simp; omega)]
 dsimp only [lt]
 rw [rest_eq _ (by simp; omega),zab,crcB_r _ (crc_lt _),zaa (by simp [crcB]; omega)]
 simp [frame]
theorem unframed_loop (b:List UInt8) (hb:b.length≤100000):∀ (k g:Nat) (acc:List (List UInt8)),b.length - g≤k→g≤b.length→acc.length≤g→
  R_Unframed_L1 b (acc,(g:Int))=some (((opn k (b.drop g) acc g).1),(((opn k (b.drop g) acc g).2:Nat):Int))
 | k,g,acc,hk,hg,ha=>by
  have hw1:w64 ((g:Int)+1)=((g+1:Nat):Int):=by rw [zai (by omega) (by omega)]; omega
  have hw2:w64 ((g:Int)+2)=((g+2:Nat):Int):=by rw [zai (by omega) (by omega)]; omega
  have hw6:w64 ((g:Int)+6)=((g+6:Nat):Int):=by rw [zai (by omega) (by omega)]; omega
  by_cases c6:g+6≤b.length
  ·have hfl:=flen_lt (b.drop g)
   have h0:zaf (b.drop g) 0=zaf b (g:Int):=by
    have:=lget_ldrop b (g:Int) 0 (by omega)
    rwa [zb0,Int.add_zero] at this
   have h1:zaf (b.drop g) 1=zaf b ((g+1:Nat):Int):=by
    have:=lget_ldrop b (g:Int) 1 (by omega)
    rwa [zb0] at this
   have b0:=(zaf b (g:Int)).toNat_lt
   have b1:=(zaf b ((g+1:Nat):Int)).toNat_lt
   have en:w64 ((w64 ((w64 ((zaf b (g:Int)).toNat:Int))*256))+(w64 ((zaf b ((g+1:Nat):Int)).toNat:Int)))=((flen (b.drop g):Nat):Int):=by
    rw [zai (x:=((zaf b (g:Int)).toNat:Int)) (by omega) (by omega),zai (x:=((zaf b (g:Int)).toNat:Int)*256) (by omega) (by omega),zai (x:=((zaf b ((g+1:Nat):Int)).toNat:Int)) (by omega) (by omega),zai (by omega) (by omega)]
    unfold flen
    rw [h0,h1]; omega
   generalize hn:flen (b.drop g)=n at *
   have hw3:w64 (((g+2:Nat):Int)+(n:Int))=((g+2+n:Nat):Int):=by rw [zai (by omega) (by omega)]; omega
   have hw4:w64 (((g+6:Nat):Int)+(n:Int))=((g+(n+6):Nat):Int):=by rw [zai (by omega) (by omega)]; omega
   by_cases c2:b.length<g+(n+6)
   ·have hr:rdF (b.drop g)=none:=by
     unfold rdF
     rw [if_neg]
     rw [hn,List.length_drop]
     intro h; omega
    rw [opn_none hr]
    refine zah ?_
    simp only [R_Unframed_B1,hw1,hw2,hw6]
    rw [if_pos (d_t (by omega)),zaa (by omega),zaa (by omega),en]
    simp only [lt,hw3,hw4]
    rw [if_pos (d_t (by omega))]; rfl
   ·have t2:(b.take (g+(n+6))).drop g=(b.drop g).take (n+6):=drop_take' b g (n+6)
    have t3:(b.take (g+2+n)).drop (g+2)=((b.drop g).drop 2).take n:=by rw [drop_take',List.drop_drop]
    have hl3:(((b.drop g).drop 2).take n).length=n:=by simp; omega
    have e9:(b.drop g).drop (n+6)=b.drop (g+(n+6)):=by rw [List.drop_drop]
    by_cases c3:frame (((b.drop g).drop 2).take n)=(b.drop g).take (n+6)
    ·have hr:rdF (b.drop g)=some (((b.drop g).drop 2).take n,b.drop (g+(n+6))):=by
      unfold rdF
      rw [hn,if_pos ⟨by simp; omega,by simp; omega,c3⟩,e9]
     match k,hk with
     | 0,hk=>omega
     | k+1,hk=>
     rw [opn_some hr,hl3]
     have ih:=unframed_loop b hb k (g+(n+6)) (acc++[((b.drop g).drop 2).take n]) (by omega) (by omega) (by simp; omega)
     refine (zam (y:=(acc++[((b.drop g).drop 2).take n],((g+(n+6):Nat):Int))) ?_).trans ih
     simp only [R_Unframed_B1,hw1,hw2,hw6]
     rw [if_pos (d_t (by omega)),zaa (by omega),zaa (by omega),en]
     simp only [lt,hw3,hw4]
     rw [if_neg (d_f (by omega)),zaa (by omega),zce,zb0,t3,framed_eq _ (by omega),zab,zaa (by omega),zce,zb0,t2]
     have hsm:R_Same (frame (((b.drop g).drop 2).take n)) ((b.drop g).take (n+6))=true:=by unfold R_Same; exact decide_eq_true c3
     rw [hsm,if_neg (by simp),zaa (by omega),zaa (by simp; omega)]
    ·have hr:rdF (b.drop g)=none:=by
      unfold rdF
      rw [hn,if_neg]
      intro h; exact c3 h.2.2
     rw [opn_none hr]
     refine zah ?_
     simp only [R_Unframed_B1,hw1,hw2,hw6]
     rw [if_pos (d_t (by omega)),zaa (by omega),zaa (by omega),en]
     simp only [lt,hw3,hw4]
     rw [if_neg (d_f (by omega)),zaa (by omega),zce,zb0,t3,framed_eq _ (by omega),zab,zaa (by omega),zce,zb0,t2]
     have hsm:R_Same (frame (((b.drop g).drop 2).take n)) ((b.drop g).take (n+6))=false:=by
      unfold R_Same; exact decide_eq_false c3
     rw [hsm,if_pos (by simp)]
     rfl
  ·have hr:rdF (b.drop g)=none:=by
    unfold rdF
    rw [if_neg]
    rw [List.length_drop]
    intro h; omega
   rw [opn_none hr]
   refine zah ?_
   simp only [R_Unframed_B1,hw6]
   rw [if_neg (d_f (by omega))]; rfl
theorem unframed_eq (b:List UInt8) (hb:b.length≤100000):R_Unframed b=some ((opn b.length b [] 0).1,(((opn b.length b [] 0).2:Nat):Int)):=by
 have:=unframed_loop b hb b.length 0 [] (by omega) (by omega) (by simp)
 unfold R_Unframed
 simpa using this
def wh:List (List UInt8)→Nat→Nat
 | [],_=>0
 | x::l,c=>if x.length+6≤c then wh l (c - (x.length+6))+1 else 0
theorem wh_le:∀ (l:List (List UInt8)) (c:Nat),wh l c≤l.length
 | [],c=>by simp [wh]
 | x::l,c=>by
  rw [wh]
  split
  ·have:=wh_le l (c - (x.length+6)); simp; omega
  ·simp
theorem rdF_short {x:List UInt8} (hx:x.length≤65535) (r:List UInt8) (c:Nat) (hc:c<x.length+6):rdF ((frame x++r).take c)=none:=by
 unfold rdF
 rw [if_neg]
 intro ⟨h1,h2,_⟩
 have hl:((frame x++r).take c).length≤c:=by simp; omega
 have e0:zaf ((frame x++r).take c) 0=zaf (frame x++r) 0:=by
  have:=lget_ltake (frame x++r) (c:Int) 0 (by omega)
  rwa [zce] at this
 have e1:zaf ((frame x++r).take c) 1=zaf (frame x++r) 1:=by
  have:=lget_ltake (frame x++r) (c:Int) 1 (by omega)
  rwa [zce] at this
 have:flen ((frame x++r).take c)=x.length:=by
  rw [← flen_frame hx r]; unfold flen; rw [e0,e1]
 omega
theorem opn_cut:∀ (l:List (List UInt8)) (c k:Nat) (acc:List (List UInt8)) (g:Nat),(∀ s∈l,s.length≤65535)→((encF l).take c).length≤k→
  opn k ((encF l).take c) acc g=(acc++l.take (wh l c),g+(encF (l.take (wh l c))).length)
 | [],c,k,acc,g,hs,hk=>by
  have:rdF ((encF []).take c)=none:=by simp [encF,wrAll,rdF]
  rw [opn_none this]; simp [wh,encF,wrAll]
 | x::l,c,k,acc,g,hs,hk=>by
  have hx:=hs x (by simp)
  have hfl:=zcc x
  rw [encF_cons] at hk ⊢
  rw [wh]
  by_cases h:x.length+6≤c
  ·have e:(frame x++encF l).take c=frame x++(encF l).take (c - (x.length+6)):=by
    rw [List.take_append,List.take_of_length_le (by omega),hfl]
   rw [e] at hk ⊢
   rw [List.length_append,hfl] at hk
   rw [if_pos h]
   match k,hk with
   | 0,hk=>omega
   | k+1,hk=>
   rw [opn_some (rdF_frame hx _),opn_cut l (c - (x.length+6)) k _ _ (fun s h=>hs s (by simp [h])) (by omega),List.take_succ_cons,encF_cons,List.length_append,hfl]
   simp; omega
  ·rw [if_neg h,opn_none (rdF_short hx _ c (by omega))]; simp [encF,wrAll]
theorem opened_eq0 (b:List UInt8) (hb:b.length≤100000):wire_Opened b=some ((opn b.length b [] 0).1,(((opn b.length b [] 0).2:Nat):Int)):=opened_eq b hb
theorem cat_L1 (ls:List (List UInt8)) (hl:ls.flatten.length≤100000) (hn:ls.length≤1000):∀ (m n:Nat) (acc:List UInt8),ls.length - n=m→n≤ls.length→acc++(ls.drop n).flatten=ls.flatten→slices_Concat_byte_byte_L1 ls (acc,(n:Int))=some ls.flatten
 | 0,n,acc,hm,hi,he=>by
  have:n=ls.length:=by omega
  subst this
  refine zah ?_
  simp only [zd9]
  rw [if_neg (d_f (by omega)),← he]
  simp [zd5,zem]
 | m+1,n,acc,hm,hi,he=>by
  have hlt:n<ls.length:=by omega
  have hw:w64 ((n:Int)+1)=((n+1:Nat):Int):=by rw [zai (by omega) (by omega)]; omega
  rw [zcp ls n hlt,List.flatten_cons,← List.append_assoc] at he
  refine (zam (y:=(acc++zaf ls (n:Int),((n+1:Nat):Int))) ?_).trans (cat_L1 ls hl hn m (n+1) _ (by omega) (by omega) he)
  have h2:=congrArg List.length he
  rw [List.length_append] at h2
  simp only [zd9]
  rw [if_pos (d_t (by omega)),zaa (by omega),zaa (by omega),hw]
theorem grow_eq (n:Nat) (h:n≤100000):zd0 (n:Int)=some []:=by
 have hw:w64 ((n:Int) - w64 (0 - 0))=(n:Int):=by
  have:w64 (0 - 0)=0:=by decide
  rw [this,zai (by omega) (by omega)]; omega
 unfold zd0
 rw [hw,if_neg (d_f (by omega)),zab]
 by_cases h0:n=0
 ·subst h0; rfl
 ·rw [if_pos (d_t (by omega)),zaa (by simp; omega),zaa (by simp)]
  dsimp only [lt]
  rw [zaa (show Int.toNat 0≤_ from Nat.zero_le _)]; rfl
theorem cat_L2 (ls:List (List UInt8)) (hl:ls.flatten.length≤100000) (hn:ls.length≤1000):∀ (m n:Nat) (s:Nat),ls.length - n=m→n≤ls.length→s+(ls.drop n).flatten.length=ls.flatten.length→slices_Concat_byte_byte_L2 ls ((s:Int),(n:Int))=some ls.flatten
 | 0,n,s,hm,hi,he=>by
  have:n=ls.length:=by omega
  subst this
  refine zah ?_
  simp only [zd8]
  rw [if_neg (d_f (by omega))]
  unfold zd6
  rw [grow_eq s (by omega),zab]
  have:=cat_L1 ls hl hn ls.length 0 [] (by omega) (by omega) (by simp)
  have h0:((0:Nat):Int)=0:=rfl
  rw [h0] at this
  rw [this]; rfl
 | m+1,n,s,hm,hi,he=>by
  have hlt:n<ls.length:=by omega
  have hw:w64 ((n:Int)+1)=((n+1:Nat):Int):=by rw [zai (by omega) (by omega)]; omega
  rw [zcp ls n hlt,List.flatten_cons,List.length_append] at he
  have hw2:w64 ((s:Int)+((zaf ls (n:Int)).length:Int))=((s+(zaf ls (n:Int)).length:Nat):Int):=by rw [zai (by omega) (by omega)]; omega
  refine (zam (y:=(((s+(zaf ls (n:Int)).length:Nat):Int),((n+1:Nat):Int))) ?_).trans (cat_L2 ls hl hn m (n+1) _ (by omega) (by omega) (by omega))
  simp only [zd8,hw2]
  rw [if_pos (d_t (by omega)),zaa (by omega),if_neg (d_f (by omega)),zab,hw]
theorem cat_eq (ls:List (List UInt8)) (hl:ls.flatten.length≤100000) (hn:ls.length≤1000):zex ls=some ls.flatten:=by
 have:=cat_L2 ls hl hn ls.length 0 0 (by omega) (by omega) (by simp)
 exact this
def dF (d:Disk):Fault:=if 60000<d.Bytes.length then ⟨8,0⟩ else if d.Kept<0∨(d.Bytes.length:Int)<d.Kept then ⟨3,0⟩ else ⟨0,0⟩
theorem dcheck_eq (d:Disk):disk_Check d=dF d:=by
 unfold disk_Check dF
 by_cases c:60000<d.Bytes.length
 ·rw [if_pos (d_t (by omega)),if_pos c]; rfl
 ·rw [if_neg (d_f (by omega)),if_neg c]
  by_cases c2:d.Kept<0∨(d.Bytes.length:Int)<d.Kept
  ·rw [if_pos (or_t c2),if_pos c2]; rfl
  ·rw [if_neg (or_f c2),if_neg c2]
theorem rdisk_eq (d:Disk):R_DiskFault d=dF d:=by
 unfold R_DiskFault dF
 by_cases c:60000<d.Bytes.length
 ·rw [if_pos (d_t (by omega)),if_pos c]; rfl
 ·rw [if_neg (d_f (by omega)),if_neg c]
  by_cases c2:d.Kept<0∨(d.Bytes.length:Int)<d.Kept
  ·rw [if_pos (or_t c2),if_pos c2]; rfl
  ·rw [if_neg (or_f c2),if_neg c2]
structure DGood (d:Disk):Prop where
 len:d.Bytes.length≤60000
 k0:0≤d.Kept
 k1:d.Kept≤(d.Bytes.length:Int)
theorem dF_good {d:Disk}:(dF d).Code=0↔DGood d:=by
 unfold dF
 by_cases c:60000<d.Bytes.length
 ·rw [if_pos c]; exact ⟨fun h=>(by cases h),fun h=>by have:=h.len; omega⟩
 ·rw [if_neg c]
  by_cases c2:d.Kept<0∨(d.Bytes.length:Int)<d.Kept
  ·rw [if_pos c2]; exact ⟨fun h=>(by cases h),fun h=>by have:=h.k0; have:=h.k1; omega⟩
  ·rw [if_neg c2]; exact ⟨fun _=>⟨by omega,by omega,by omega⟩,fun _=>rfl⟩
theorem dF_zero {d:Disk} (h:DGood d):dF d=⟨0,0⟩:=by
 unfold dF
 rw [if_neg (by have:=h.len; omega),if_neg (by have:=h.k0; have:=h.k1; omega)]
theorem sameDisk_iff (a b:Disk):R_SameDisk a b=decide (a=b):=by
 unfold R_SameDisk R_Same lt
 obtain ⟨x,k⟩:=a
 obtain ⟨y,j⟩:=b
 by_cases h1:x=y <;> by_cases h2:k=j <;> simp [h1,h2]
theorem num_ends (n:Nat):∃ (A:List UInt8) (x:UInt8),num n=A++[x]∧(∀ y∈A,128≤y.toNat)∧x.toNat<128:=by
 induction n using Nat.strongRecOn with
 | _ n ih=>
  by_cases c:n<128
  ·refine ⟨[],UInt8.ofNat n,by rw [num_lt c]; rfl,by simp,?_⟩
   rw [UInt8.toNat_ofNat']; omega
  ·obtain ⟨A,x,h1,h2,h3⟩:=ih (n / 128) (by omega)
   refine ⟨UInt8.ofNat (n % 128+128)::A,x,by rw [num_ge c,h1]; rfl,?_,h3⟩
   intro y hy
   rcases List.mem_cons.1 hy with rfl | hy
   ·rw [UInt8.toNat_ofNat']; omega
   ·exact h2 y hy
theorem index_eq (b:List UInt8) (hb:b.length≤60000):(∃ j:Nat,j<b.length∧(zaf b (j:Int)).toNat<128∧(∀ i:Nat,i<j→¬ (zaf b (i:Int)).toNat<128)∧zcf b=some (j:Int))∨((∀ j:Nat,j<b.length→¬ (zaf b (j:Int)).toNat<128)∧zcf b=some (-1)):=by
 have e128:((128:UInt8).toNat:Int)=128:=by decide
 refine loop_first (step:=fun y=>zax b y) b.length (fun k=>(k:Int)) (fun k=>(zaf b (k:Int)).toNat<128) (fun k=>(k:Int)) ?_ ?_ ?_
 ·intro k hk hn
  have hw:w64 ((k:Int)+1)=((k+1:Nat):Int):=by rw [zai (by omega) (by omega)]; omega
  show zax b (k:Int)=some (.inl ((k+1:Nat):Int))
  have hn':¬ (zaf b (k:Int)).toNat<128:=hn
  have hr:wal_Read_1 (zaf b (k:Int))=false:=by unfold wal_Read_1; rw [e128]; exact decide_eq_false (by omega)
  simp only [zax,hr,lt]
  rw [if_pos (d_t (by omega)),zaa (by omega),if_neg (by simp),hw]
 ·intro k hk hn
  show zax b (k:Int)=some (.inr (k:Int))
  have hn':(zaf b (k:Int)).toNat<128:=hn
  have hr:wal_Read_1 (zaf b (k:Int))=true:=by unfold wal_Read_1; rw [e128]; exact decide_eq_true (by omega)
  simp only [zax,hr,lt]
  rw [if_pos (d_t (by omega)),zaa (by omega),if_pos trivial]
 ·show zax b (b.length:Int)=some (.inr (-1))
  simp only [zax]
  rw [if_neg (d_f (by omega))]; rfl
theorem rdN_take {b:List UInt8} (h:rdN b=none) (k:Nat):rdN (b.take k)=none:=by
 cases e:rdN (b.take k) with
 | none=>rfl
 | some p=>
  obtain ⟨n,r⟩:=p
  obtain ⟨h1,h2⟩:=rdN_some e
  have:b=num n++(r++b.drop k):=by rw [← List.append_assoc,← h1,List.take_append_drop]
  rw [this,rdN_num h2] at h; cases h
theorem cut_eq (b:List UInt8) (hb:b.length≤60000):∃ (i:Int) (k:Nat),zcf b=some i∧w64 (1+i)=(k:Int)∧k≤b.length∧∀ n r,rdN b=some (n,r)→b.take k=num n∧b.drop k=r:=by
 have key:∀ n r,rdN b=some (n,r)→∃ A x,b=A++(x::r)∧num n=A++[x]∧(∀ y∈A,128≤y.toNat)∧x.toNat<128:=by
  intro n r h
  obtain ⟨A,x,h1,h2,h3⟩:=num_ends n
  have h4:=(rdN_some h).1
  exact ⟨A,x,by rw [h4,h1]; simp,h1,h2,h3⟩
 rcases index_eq b hb with ⟨j,h1,h2,h3,h4⟩ | ⟨h1,h2⟩
 ·refine ⟨j,j+1,h4,?_,by omega,?_⟩
  ·rw [zai (by omega) (by omega)]; omega
  ·intro n r h
   obtain ⟨A,x,e1,e2,e3,e4⟩:=key n r h
   have hj:j=A.length:=by
    rcases Nat.lt_trichotomy j A.length with g | g | g
    ·exfalso
     rw [zb3 b j h1] at h2
     have:b[j]=A[j]:=by simp only [e1]; rw [List.getElem_append_left g]
     rw [this] at h2
     have:=e3 _ (List.getElem_mem g)
     omega
    ·exact g
    ·exfalso
     have hA:A.length<b.length:=by rw [e1]; simp
     refine h3 A.length g ?_
     rw [zb3 b A.length hA]
     have:b[A.length]=x:=by simp only [e1]; rw [List.getElem_append_right (Nat.le_refl _)]; simp
     rw [this]; exact e4
   subst hj
   rw [e2,e1]
   have e5:A++x::r=(A++[x])++r:=by simp
   have e6:A.length+1=(A++[x]).length:=by simp
   rw [e5,e6]
   exact ⟨List.take_left,List.drop_left⟩
 ·refine ⟨-1,0,h2,by decide,by omega,?_⟩
  intro n r h
  exfalso
  obtain ⟨A,x,e1,e2,e3,e4⟩:=key n r h
  have hA:A.length<b.length:=by rw [e1]; simp
  refine h1 A.length hA ?_
  rw [zb3 b A.length hA]
  have:b[A.length]=x:=by simp only [e1]; rw [List.getElem_append_right (Nat.le_refl _)]; simp
  rw [this]; exact e4
noncomputable def noteF (n:Note):Fault:=if n.Seq<1∨1000000000<n.Seq then ⟨3,-1⟩ else if n.Cells.length=0∨20<n.Cells.length then ⟨2,-1⟩ else cellF n.Cells
theorem wcheck_eq (n:Note):wal_Check n=some (noteF n):=by
 unfold wal_Check noteF
 by_cases c:n.Seq<1∨1000000000<n.Seq
 ·rw [if_pos (or_t c),if_pos c]; rfl
 ·rw [if_neg (or_f c),if_neg c]
  by_cases c2:n.Cells.length=0∨20<n.Cells.length
  ·rw [if_pos (or_t (by omega)),if_pos c2]; rfl
  ·rw [if_neg (or_f (by omega)),if_neg c2,check_eq,zab]
theorem rnote_eq (n:Note):R_NoteFault n=some (noteF n):=by
 unfold R_NoteFault noteF
 by_cases c:n.Seq<1∨1000000000<n.Seq
 ·rw [if_pos (or_t c),if_pos c]; rfl
 ·rw [if_neg (or_f c),if_neg c]
  by_cases c2:n.Cells.length=0∨20<n.Cells.length
  ·rw [if_pos (or_t (by omega)),if_pos c2]; rfl
  ·rw [if_neg (or_f (by omega)),if_neg c2,rcheck_eq,zab]
structure NGood (n:Note):Prop where
 f:noteF n=⟨0,0⟩
 lo:1≤n.Seq
 hi:n.Seq≤1000000000
 len:n.Cells.length≤20
 cells:Good n.Cells
theorem noteF_good {n:Note} (h:(noteF n).Code=0):NGood n:=by
 unfold noteF at h
 by_cases c:n.Seq<1∨1000000000<n.Seq
 ·rw [if_pos c] at h; cases h
 ·rw [if_neg c] at h
  by_cases c2:n.Cells.length=0∨20<n.Cells.length
  ·rw [if_pos c2] at h; cases h
  ·rw [if_neg c2] at h
   have hg:=cellF_good h
   exact ⟨by unfold noteF; rw [if_neg c,if_neg c2]; exact hg.f,by omega,by omega,by omega,hg⟩
noncomputable def noteR (n:Note):Note×Fault:=if (noteF n).Code=0 then (n,⟨0,0⟩) else (⟨0,[]⟩,noteF n)
noncomputable def noteS (b:List UInt8):Note×Fault:=if 60000<b.length then (⟨0,[]⟩,⟨8,0⟩) else
 match rdN b with
 | none=>(⟨0,[]⟩,⟨5,-1⟩)
 | some (n,r)=>if (readS r).2.Code=0 then noteR ⟨n,(readS r).1⟩ else (⟨0,[]⟩,(readS r).2)
theorem wread_eq (b:List UInt8):wal_Read b=some ((noteS b).1.Seq,(noteS b).1.Cells,(noteS b).2):=by
 unfold wal_Read noteS
 by_cases c:60000<b.length
 ·rw [if_pos (d_t (by omega)),if_pos c]; rfl
 ·rw [if_neg (d_f (by omega)),if_neg c]
  obtain ⟨i,k,h1,h2,h3,h4⟩:=cut_eq b (by omega)
  rw [h1,zab,h2,zaa (by omega),zce]
  have hl:(b.take k).length≤1000000000000:=by rw [List.length_take]; omega
  have hn:=num_eq (b.take k) false hl
  have hr:wire_Read (b.take k)=⟨b.take k,false⟩:=rfl
  dsimp only [lt]
  rw [hr,hn,zab,zaa (by omega),zb0]
  cases hd:rdN b with
  | none=>
   rw [rdN_take hd]; rfl
  | some p=>
   obtain ⟨n,r⟩:=p
   obtain ⟨g1,g2⟩:=h4 n r hd
   have hnn:=(rdN_some hd).2
   have e:rdN (num n)=some (n,[]):=by
    have:=rdN_num hnn []
    rwa [List.append_nil] at this
   rw [g1,g2,e,read_eq,zab]
   have ho:wire_Reader_Ok (rfin false (some (n,([]:List UInt8)))).2=true:=rfl
   have hv:(rfin false (some (n,([]:List UInt8)))).1=(n:Int):=rfl
   rw [ho,hv,if_neg (by simp)]
   dsimp only
   by_cases c2:(readS r).2.Code=0
   ·rw [if_neg (n_f c2),if_pos c2,wcheck_eq,zab]
    unfold noteR
    by_cases c3:(noteF ⟨(n:Int),(readS r).1⟩).Code=0
    ·rw [if_neg (n_f c3),if_pos c3,(noteF_good c3).f]
    ·rw [if_pos (n_t c3),if_neg c3]
   ·rw [if_pos (n_t c2),if_neg c2]
theorem noteOf_eq (b:List UInt8):R_NoteOf b=some ((noteS b).1.Seq,(noteS b).1.Cells,(noteS b).2):=by
 unfold R_NoteOf noteS
 by_cases c:60000<b.length
 ·rw [if_pos (d_t (by omega)),if_pos c]; rfl
 ·rw [if_neg (d_f (by omega)),if_neg c,numAt_eq b (by omega),zab]
  cases hd:rdN b with
  | none=>
   have e:rnat b=(0,0):=by simp [rnat,hd]
   rw [e,if_pos (by simp)]; rfl
  | some p=>
   obtain ⟨n,r⟩:=p
   have e:rnat b=((n:Int),((num n).length:Int)):=by simp [rnat,hd]
   have h1:=(rdN_some hd).1
   have h2:=num_pos n
   have h3:b.length=(num n).length+r.length:=by rw [h1,List.length_append]
   have h4:b.drop (num n).length=r:=by rw [h1]; simp
   rw [e]
   dsimp only
   rw [if_neg (d_f (by omega)),zaa (by omega),zb0,h4,cellsOf_eq,zab]
   by_cases c2:(readS r).2.Code=0
   ·rw [if_neg (n_f c2),if_pos c2,rnote_eq,zab]
    unfold noteR
    by_cases c3:(noteF ⟨(n:Int),(readS r).1⟩).Code=0
    ·rw [if_neg (n_f c3),if_pos c3]
    ·rw [if_pos (n_t c3),if_neg c3]
   ·rw [if_pos (n_t c2),if_neg c2]
theorem encC_take (l:List Cell) (k:Nat) (h:k<l.length):zeu (l.take (k+1))=zeu (l.take k)++wrC (zaf l (k:Int)):=by
 rw [lget_take l k h]; simp [zeu,wrAll]
theorem encC_len (l:List Cell) (hc:∀ c∈l,zaw c=0):(zeu l).length≤310*l.length:=by
 induction l with
 | nil=>simp [zeu,wrAll]
 | cons c l ih=>
  have h1:=(wrC_len (hc c (by simp))).1
  have h2:=ih (fun x hx=>hc x (by simp [hx]))
  rw [encC_cons,List.length_append,List.length_cons]; omega
def encN (n:Note):List UInt8:=num n.Seq.toNat++zeu n.Cells
theorem addNum1_eq (n:Nat) (h:n≤1000000000):wire_AddNum_v1 (n:Int)=some (num n):=by
 have h1:wire_AddNum_v1 (n:Int)=ze2 (n:Int) []:=rfl
 have:=num_len5 h
 rw [h1,addNum_eq n [] (by simp; omega)]; simp
theorem wbytes_eq (n:Note) (h:NGood n):wal_bytes n=some (encN n):=by
 unfold wal_bytes encN
 have hlo:=h.lo
 have hhi:=h.hi
 have hlen:=h.len
 have e:n.Seq=((n.Seq.toNat:Nat):Int):=by omega
 have h5:=num_len5 (n:=n.Seq.toNat) (by omega)
 rw [e,addNum1_eq _ (by omega),zab,Int.toNat_natCast]
 have:=loop_run (step:=fun y=>wal_bytes_B1 y) n.Cells.length (fun k=>(num n.Seq.toNat++zeu (n.Cells.take k),n.Cells,(n.Cells.length:Int),(k:Int))) (r:=num n.Seq.toNat++zeu n.Cells) ?_ ?_
 ·have e0:zeu (n.Cells.take 0)=[]:=rfl
  simp only [e0,List.append_nil] at this
  exact this
 ·intro k hk
  have hw:w64 ((k:Int)+1)=((k+1:Nat):Int):=by rw [zai (by omega) (by omega)]; omega
  have hl:=encC_len (n.Cells.take k) (fun c hc=>h.cells.code c (List.mem_of_mem_take hc))
  rw [List.length_take] at hl
  have hc:=h.cells.code _ (zcy n.Cells (k:Int) (by omega))
  simp only [wal_bytes_B1,zcw]
  rw [if_pos (d_t (by omega)),zaa (by omega),add_eq _ hc _ (by rw [List.length_append]; omega),zab,hw,encC_take _ _ hk,List.append_assoc]
 ·simp only [wal_bytes_B1]
  rw [if_neg (d_f (by omega)),List.take_length]; rfl
theorem noteBytes_eq (n:Note) (h:NGood n):R_NoteBytes_v1 n=some (encN n):=by
 unfold R_NoteBytes_v1 encN
 have hlo:=h.lo
 have hhi:=h.hi
 have hlen:=h.len
 have e:n.Seq=((n.Seq.toNat:Nat):Int):=by omega
 have h5:=num_len5 (n:=n.Seq.toNat) (by omega)
 rw [e,rnumber _ (by omega),zab,Int.toNat_natCast]
 have:=loop_run (step:=fun y=>R_NoteBytes_v1_B1 y) n.Cells.length (fun k=>(n,num n.Seq.toNat++zeu (n.Cells.take k),(k:Int))) (r:=num n.Seq.toNat++zeu n.Cells) ?_ ?_
 ·have e0:zeu (n.Cells.take 0)=[]:=rfl
  simp only [e0,List.append_nil] at this
  exact this
 ·intro k hk
  have hw:w64 ((k:Int)+1)=((k+1:Nat):Int):=by rw [zai (by omega) (by omega)]; omega
  have hl:=encC_len (n.Cells.take k) (fun c hc=>h.cells.code c (List.mem_of_mem_take hc))
  rw [List.length_take] at hl
  have hc:=h.cells.code _ (zcy n.Cells (k:Int) (by omega))
  have hcl:=(wrC_len hc).1
  simp only [R_NoteBytes_v1_B1,zcw]
  rw [if_pos (d_t (by omega)),zaa (by omega),cellBytes_eq _ hc,zab,zaa (by simp only [List.length_append]; omega),hw,encC_take _ _ hk,List.append_assoc]
 ·simp only [R_NoteBytes_v1_B1]
  rw [if_neg (d_f (by omega)),List.take_length]; rfl
theorem note1F:noteF law_oneNote=⟨0,0⟩:=by
 simp [law_oneNote,lt,noteF,cellF,ck,zaw,okp]
theorem addFrameW_eq (body:List UInt8) (hb:body.length≤1000000000):wire_AddFrame_v1 body=some (frame body):=by
 have e8:(2:Int) ^ (min (8:Int).toNat 64)=((256:Nat):Int):=by decide
 have eh:[zd1 (Int.fdiv (body.length:Int) (2 ^ (min (8:Int).toNat 64))),zd1 (body.length:Int)]=[UInt8.ofNat (body.length / 256),UInt8.ofNat (body.length % 256)]:=by
  rw [e8,fdiv_nat,zd7,zd7,ofNat_mod]
 unfold wire_AddFrame_v1
 rw [eh,zaa (by simp)]
 dsimp only [lt]
 have e0:(0:Int)=((0:Nat):Int):=rfl
 rw [zaa (by simp; omega),zaa (by simp; omega),e0,zb0,List.drop_zero]
 have ed:([UInt8.ofNat (body.length / 256),UInt8.ofNat (body.length % 256)]++body)=UInt8.ofNat (body.length / 256)::UInt8.ofNat (body.length % 256)::body:=by simp
 rw [ed,crc_eq _ (by simp; omega),zab,crcB_w,zaa (by simp [crcB]; omega)]
 simp [frame]
theorem append_eq {d:Disk} (h:DGood d) (b:List UInt8) (hb:b.length≤1000000000000000):disk_Append d b=some (if 60000<d.Bytes.length+b.length then ([],0,⟨9,0⟩) else (d.Bytes++b,d.Kept,⟨0,0⟩)):=by
 have hl:=h.len
 have hw:w64 ((d.Bytes.length:Int)+(b.length:Int))=((d.Bytes.length+b.length:Nat):Int):=by rw [zai (by omega) (by omega)]; omega
 unfold disk_Append
 rw [dcheck_eq,dF_zero h,hw]
 dsimp only [lt]
 rw [if_neg (by simp)]
 by_cases c:60000<d.Bytes.length+b.length
 ·rw [if_pos (d_t (by omega)),if_pos c]; rfl
 ·rw [if_neg (d_f (by omega)),if_neg c,cat_eq _ (by simp; omega) (by simp),zab]; simp
def sizeF (l:List (List UInt8)):Nat:=(l.map (fun s=>s.length+6)).sum
theorem sizeF_cons (s:List UInt8) (l:List (List UInt8)):sizeF (s::l)=s.length+6+sizeF l:=by simp [sizeF]
theorem opn_size:∀ (k:Nat) (b:List UInt8) (acc:List (List UInt8)) (g:Nat),∃ m,(opn k b acc g).1=acc++m∧sizeF m≤b.length
 | 0,b,acc,g=>⟨[],by simp [opn],by simp [sizeF]⟩
 | k+1,b,acc,g=>by
  cases e:rdF b with
  | none=>exact ⟨[],by rw [opn_none e]; simp,by simp [sizeF]⟩
  | some p=>
   obtain ⟨x,r⟩:=p
   obtain ⟨m,h1,h2⟩:=opn_size k r (acc++[x]) (g+(x.length+6))
   have h3:=(rdF_some e).1
   refine ⟨x::m,by rw [opn_some e,h1]; simp,?_⟩
   rw [sizeF_cons,h3,List.length_append,zcc]; omega
theorem sizeF_len (l:List (List UInt8)):6*l.length≤sizeF l:=by
 induction l with
 | nil=>simp [sizeF]
 | cons s l ih=>rw [sizeF_cons,List.length_cons]; omega
def bodies (b:List UInt8):List (List UInt8):=(opn b.length b [] 0).1
theorem bodies_size (b:List UInt8):sizeF (bodies b)≤b.length:=by
 obtain ⟨m,h1,h2⟩:=opn_size b.length b [] 0
 unfold bodies; rw [h1]; simpa using h2
theorem noteS_good {b:List UInt8} (h:(noteS b).2.Code=0):NGood (noteS b).1∧(noteS b).2=⟨0,0⟩:=by
 unfold noteS at h ⊢
 by_cases c:60000<b.length
 ·rw [if_pos c] at h; cases h
 ·rw [if_neg c] at h ⊢
  cases hd:rdN b with
  | none=>rw [hd] at h; cases h
  | some p=>
   obtain ⟨n,r⟩:=p
   rw [hd] at h
   dsimp only at h ⊢
   by_cases c2:(readS r).2.Code=0
   ·rw [if_pos c2] at h ⊢
    unfold noteR at h ⊢
    by_cases c3:(noteF ⟨(n:Int),(readS r).1⟩).Code=0
    ·rw [if_pos c3]; exact ⟨noteF_good c3,rfl⟩
    ·rw [if_neg c3] at h; exact absurd h c3
   ·rw [if_neg c2] at h; exact absurd h c2
def lastN (l:List Note):Note:=zaf l ((l.length:Int) - 1)
def nxt (acc:List Note) (n:Note):Prop:=acc.length=0∨n.Seq=(lastN acc).Seq+1
instance (acc:List Note) (n:Note):Decidable (nxt acc n):=inferInstanceAs (Decidable (_∨_))
noncomputable def nts (acc:List Note) (g:Nat):List (List UInt8)→List Note×Nat
 | []=>(acc,g)
 | s::l=>if (noteS s).2.Code=0∧nxt acc (noteS s).1 then nts (acc++[(noteS s).1]) (g+(s.length+6)) l else (acc,g)
theorem nts_le:∀ (l:List (List UInt8)) (acc:List Note) (g:Nat),(nts acc g l).2≤g+sizeF l∧(nts acc g l).1.length≤acc.length+l.length∧((∀ n∈acc,NGood n)→∀ n∈(nts acc g l).1,NGood n)
 | [],acc,g=>by rw [nts]; exact ⟨by omega,by simp,fun h=>h⟩
 | s::l,acc,g=>by
  rw [nts,sizeF_cons]
  split
  ·rename_i c
   obtain ⟨h1,h2,h3⟩:=nts_le l (acc++[(noteS s).1]) (g+(s.length+6))
   rw [List.length_append,List.length_singleton] at h2
   refine ⟨by omega,by rw [List.length_cons]; omega,fun h=>h3 (fun n hn=>?_)⟩
   rcases List.mem_append.1 hn with q | q
   ·exact h n q
   ·rw [List.mem_singleton] at q; subst q; exact (noteS_good c.1).1
  ·exact ⟨by show g≤_; omega,by show acc.length≤_; omega,fun h=>h⟩
theorem last_in {acc:List Note} (h:acc.length≠0) (hg:∀ n∈acc,NGood n):NGood (lastN acc):=hg _ (zcy acc _ (by omega))
theorem note_eta (n:Note):(⟨n.Seq,n.Cells⟩:Note)=n:=rfl
theorem wnotes_loop (L:List (List UInt8)) (z:Int) (hL:L.length≤100000):∀ (r i g:Nat) (acc:List Note),L.length - i=r→i≤L.length→acc.length≤i→g+sizeF (L.drop i)≤100000→(∀ n∈acc,NGood n)→
  wal_Notes_L1 (L,z) (acc,(g:Int),(i:Int))=some ((nts acc g (L.drop i)).1,(((nts acc g (L.drop i)).2:Nat):Int))
 | 0,i,g,acc,e,hi,ha,hg,hn=>by
  have:i=L.length:=by omega
  subst this
  refine zah ?_
  unfold wal_Notes_B1
  dsimp only
  rw [if_neg (d_f (by omega)),List.drop_length,nts]; rfl
 | r+1,i,g,acc,e,hi,ha,hg,hn=>by
  have hlt:i<L.length:=by omega
  have hw:w64 ((i:Int)+1)=((i+1:Nat):Int):=by rw [zai (by omega) (by omega)]; omega
  rw [zcp L i hlt] at hg ⊢
  rw [sizeF_cons] at hg
  have hw2:w64 ((acc.length:Int) - 1)=(acc.length:Int) - 1:=zai (by omega) (by omega)
  have hsz:w64 ((g:Int)+w64 (6+((zaf L (i:Int)).length:Int)))=((g+((zaf L (i:Int)).length+6):Nat):Int):=by
   rw [zai (x:=6+((zaf L (i:Int)).length:Int)) (by omega) (by omega),zai (by omega) (by omega)]; omega
  rw [nts]
  by_cases c1:(noteS (zaf L (i:Int))).2.Code=0
  ·have hbad:((!decide ((noteS (zaf L (i:Int))).2.Code=0))||((decide (0<(acc.length:Int)))&&(!decide ((noteS (zaf L (i:Int))).1.Seq=w64 ((zaf acc ((acc.length:Int) - 1)).Seq+1))))) = !decide (nxt acc (noteS (zaf L (i:Int))).1):=by
    rw [decide_eq_true c1,Bool.not_true,Bool.false_or]
    by_cases c2:acc.length=0
    ·have h1:nxt acc (noteS (zaf L (i:Int))).1:=.inl c2
     rw [decide_eq_false (show ¬ 0<(acc.length:Int) by omega),decide_eq_true h1]; rfl
    ·have hl:=last_in c2 hn
     have q1:=hl.lo
     have q2:=hl.hi
     have hw3:w64 ((zaf acc ((acc.length:Int) - 1)).Seq+1)=(lastN acc).Seq+1:=zai (by unfold lastN at q1; omega) (by unfold lastN at q2; omega)
     rw [hw3,decide_eq_true (show 0<(acc.length:Int) by omega),Bool.true_and]
     congr 1
     exact decide_eq_decide.2 ⟨fun h=>.inr h,fun h=>h.resolve_left c2⟩
   by_cases c2:nxt acc (noteS (zaf L (i:Int))).1
   ·rw [if_pos ⟨c1,c2⟩]
    refine (zam (y:=(acc++[(noteS (zaf L (i:Int))).1],((g+((zaf L (i:Int)).length+6):Nat):Int),((i+1:Nat):Int))) ?_).trans (wnotes_loop L z hL r (i+1) (g+((zaf L (i:Int)).length+6)) _ (by omega) (by omega) (by rw [List.length_append,List.length_singleton]; omega) (by omega) (fun n hh=>by
     rcases List.mem_append.1 hh with q | q
     ·exact hn n q
     ·rw [List.mem_singleton] at q; subst q; exact (noteS_good c1).1))
    unfold wal_Notes_B1
    dsimp only
    rw [if_pos (d_t (by omega)),zaa (by omega),zaa (by omega),wread_eq,zab,hw2,zaa (fun h _=>by have:=of_decide_eq_true h; omega),zaa (fun h _=>by have:=of_decide_eq_true h; omega),hbad,if_neg (n_f c2),note_eta,zaa (by rw [List.length_append,List.length_singleton]; omega),hw,hsz]
   ·rw [if_neg (fun h=>c2 h.2)]
    refine zah ?_
    unfold wal_Notes_B1
    dsimp only
    rw [if_pos (d_t (by omega)),zaa (by omega),zaa (by omega),wread_eq,zab,hw2,zaa (fun h _=>by have:=of_decide_eq_true h; omega),zaa (fun h _=>by have:=of_decide_eq_true h; omega),hbad,if_pos (n_t c2)]; rfl
  ·rw [if_neg (fun h=>c1 h.1)]
   refine zah ?_
   unfold wal_Notes_B1
   dsimp only
   rw [if_pos (d_t (by omega)),zaa (by omega),zaa (by omega),wread_eq,zab,hw2,zaa (fun h _=>by have:=of_decide_eq_true h; omega),zaa (fun h _=>by have:=of_decide_eq_true h; omega),decide_eq_false c1,if_pos (by rfl)]; rfl
noncomputable def logd (b:List UInt8):List Note×Nat:=nts [] 0 (bodies b)
theorem wnotes_eq (d:Disk) (h:d.Bytes.length≤60000):wal_Notes d=some ((logd d.Bytes).1,(((logd d.Bytes).2:Nat):Int)):=by
 have hs:=bodies_size d.Bytes
 have hl:=sizeF_len (bodies d.Bytes)
 unfold wal_Notes
 rw [opened_eq0 _ (by omega),zab]
 exact wnotes_loop (bodies d.Bytes) _ (by omega) (bodies d.Bytes).length 0 0 [] (by omega) (by omega) (by simp) (by rw [List.drop_zero]; omega) (by simp)
theorem rlogd_loop (L:List (List UInt8)) (z:Int) (hL:L.length≤100000):∀ (r i g:Nat) (acc:List Note),L.length - i=r→i≤L.length→acc.length=i→g+sizeF (L.drop i)≤100000→(∀ n∈acc,NGood n)→
  R_Logged_v1_L1 (L,z) (acc,(g:Int),(i:Int))=some ((nts acc g (L.drop i)).1,(((nts acc g (L.drop i)).2:Nat):Int))
 | 0,i,g,acc,e,hi,ha,hg,hn=>by
  have:i=L.length:=by omega
  subst this
  refine zah ?_
  unfold R_Logged_v1_B1
  dsimp only
  rw [if_neg (d_f (by omega)),List.drop_length,nts]; rfl
 | r+1,i,g,acc,e,hi,ha,hg,hn=>by
  have hlt:i<L.length:=by omega
  have hw:w64 ((i:Int)+1)=((i+1:Nat):Int):=by rw [zai (by omega) (by omega)]; omega
  rw [zcp L i hlt] at hg ⊢
  rw [sizeF_cons] at hg
  have hw2:w64 ((i:Int) - 1)=(acc.length:Int) - 1:=by rw [zai (by omega) (by omega)]; omega
  have hsz:w64 (w64 ((g:Int)+6)+((zaf L (i:Int)).length:Int))=((g+((zaf L (i:Int)).length+6):Nat):Int):=by
   rw [zai (x:=(g:Int)+6) (by omega) (by omega),zai (by omega) (by omega)]; omega
  rw [nts]
  by_cases c1:(noteS (zaf L (i:Int))).2.Code=0
  ·have hgd:=(noteS_good c1).1
   have hlo:=hgd.lo
   have hhi:=hgd.hi
   have hbad:((!decide ((noteS (zaf L (i:Int))).2.Code=0))||((decide (0<(i:Int)))&&(!decide (w64 ((noteS (zaf L (i:Int))).1.Seq - 1)=(zaf acc ((acc.length:Int) - 1)).Seq)))) = !decide (nxt acc (noteS (zaf L (i:Int))).1):=by
    rw [decide_eq_true c1,Bool.not_true,Bool.false_or]
    by_cases c2:acc.length=0
    ·have h1:nxt acc (noteS (zaf L (i:Int))).1:=.inl c2
     rw [decide_eq_false (show ¬ 0<(i:Int) by omega),decide_eq_true h1]; rfl
    ·rw [zai (by omega) (by omega),decide_eq_true (show 0<(i:Int) by omega),Bool.true_and]
     congr 1
     refine decide_eq_decide.2 ⟨fun h=>.inr ?_,fun h=>?_⟩
     ·show _=(zaf acc ((acc.length:Int) - 1)).Seq+1; omega
     ·have h2:(noteS (zaf L (i:Int))).1.Seq=(zaf acc ((acc.length:Int) - 1)).Seq+1:=h.resolve_left c2
      omega
   by_cases c2:nxt acc (noteS (zaf L (i:Int))).1
   ·rw [if_pos ⟨c1,c2⟩]
    refine (zam (y:=(acc++[(noteS (zaf L (i:Int))).1],((g+((zaf L (i:Int)).length+6):Nat):Int),((i+1:Nat):Int))) ?_).trans (rlogd_loop L z hL r (i+1) (g+((zaf L (i:Int)).length+6)) _ (by omega) (by omega) (by rw [List.length_append,List.length_singleton]; omega) (by omega) (fun n hh=>by
     rcases List.mem_append.1 hh with q | q
     ·exact hn n q
     ·rw [List.mem_singleton] at q; subst q; exact hgd))
    unfold R_Logged_v1_B1
    dsimp only
    rw [if_pos (d_t (by omega)),zaa (by omega),zaa (by omega),noteOf_eq,zab,hw2,zaa (fun h _=>by have:=of_decide_eq_true h; omega),zaa (fun h _=>by have:=of_decide_eq_true h; omega),hbad,if_neg (n_f c2),note_eta,zaa (by rw [List.length_append,List.length_singleton]; omega),zaa (by omega),zaa (by omega),hw,hsz]
   ·rw [if_neg (fun h=>c2 h.2)]
    refine zah ?_
    unfold R_Logged_v1_B1
    dsimp only
    rw [if_pos (d_t (by omega)),zaa (by omega),zaa (by omega),noteOf_eq,zab,hw2,zaa (fun h _=>by have:=of_decide_eq_true h; omega),zaa (fun h _=>by have:=of_decide_eq_true h; omega),hbad,if_pos (n_t c2)]; rfl
  ·rw [if_neg (fun h=>c1 h.1)]
   refine zah ?_
   unfold R_Logged_v1_B1
   dsimp only
   rw [if_pos (d_t (by omega)),zaa (by omega),zaa (by omega),noteOf_eq,zab,hw2,zaa (fun h _=>by have:=of_decide_eq_true h; omega),zaa (fun h _=>by have:=of_decide_eq_true h; omega),decide_eq_false c1,if_pos (by rfl)]; rfl
theorem rlogd_eq (b:List UInt8) (h:b.length≤60000):R_Logged_v1 b=some ((logd b).1,(((logd b).2:Nat):Int)):=by
 have hs:=bodies_size b
 have hl:=sizeF_len (bodies b)
 unfold R_Logged_v1
 rw [unframed_eq _ (by omega),zab]
 exact rlogd_loop (bodies b) _ (by omega) (bodies b).length 0 0 [] (by omega) (by omega) rfl (by rw [List.drop_zero]; omega) (by simp)
theorem logd_le (b:List UInt8):(logd b).2≤b.length∧(logd b).1.length≤b.length∧∀ n∈(logd b).1,NGood n:=by
 have hs:=bodies_size b
 have hl:=sizeF_len (bodies b)
 obtain ⟨h1,h2,h3⟩:=nts_le (bodies b) [] 0
 rw [List.length_nil] at h2
 exact ⟨by unfold logd; omega,by unfold logd; omega,h3 (by simp)⟩
def b2n (b:Bool):Nat:=match b with
 | true=>1
 | false=>0
def w8 (a0 a1 a2 a3 a4 a5 a6 a7:Bool):UInt8:=UInt8.ofNat (b2n a0+2*b2n a1+4*b2n a2+8*b2n a3+16*b2n a4+32*b2n a5+64*b2n a6+128*b2n a7)
theorem or8:∀ (k:Fin 8) (a0 a1 a2 a3 a4 a5 a6 a7:Bool),zd1 (((BitVec.ofInt 8 ((w8 a0 a1 a2 a3 a4 a5 a6 a7).toNat:Int) ||| BitVec.ofInt 8 ((zd1 (((1:UInt8).toNat:Int)*2 ^ (min ((k.val:Nat):Int).toNat 8))).toNat:Int)).toNat:Int)) =
  w8 (a0||k.val == 0) (a1||k.val == 1) (a2||k.val == 2) (a3||k.val == 3) (a4||k.val == 4) (a5||k.val == 5) (a6||k.val == 6) (a7||k.val == 7):=by decide +kernel
def sel8 (k:Nat) (a0 a1 a2 a3 a4 a5 a6 a7:Bool):Bool:=match k with
 | 0=>a0 | 1=>a1 | 2=>a2 | 3=>a3 | 4=>a4 | 5=>a5 | 6=>a6 | _=>a7
theorem add8:∀ (k:Fin 8) (a0 a1 a2 a3 a4 a5 a6 a7:Bool),sel8 k.val a0 a1 a2 a3 a4 a5 a6 a7=false→zd1 (((w8 a0 a1 a2 a3 a4 a5 a6 a7).toNat:Int)+((zd1 (((1:UInt8).toNat:Int)*2 ^ (min ((k.val:Nat):Int).toNat 8))).toNat:Int)) =
  w8 (a0||k.val == 0) (a1||k.val == 1) (a2||k.val == 2) (a3||k.val == 3) (a4||k.val == 4) (a5||k.val == 5) (a6||k.val == 6) (a7||k.val == 7):=by decide +kernel
def byteOf (p:Nat→Bool) (j:Nat):UInt8:=w8 (p (8*j)) (p (8*j+1)) (p (8*j+2)) (p (8*j+3)) (p (8*j+4)) (p (8*j+5)) (p (8*j+6)) (p (8*j+7))
def bytesOf (p:Nat→Bool) (n:Nat):List UInt8:=(List.range n).map (byteOf p)
theorem zea (p:Nat→Bool) (n:Nat):(bytesOf p n).length=n:=by simp [bytesOf]
theorem bytesOf_get (p:Nat→Bool) (n j:Nat) (h:j<n):zaf (bytesOf p n) (j:Int)=byteOf p j:=by
 rw [zb3 _ j (by rw [zea]; exact h)]
 simp [bytesOf]
theorem bytesOf_congr {p q:Nat→Bool} (n:Nat) (h:∀ i,i<8*n→p i=q i):bytesOf p n=bytesOf q n:=by
 unfold bytesOf
 apply List.map_congr_left
 intro j hj
 have hj:j<n:=by simpa using hj
 unfold byteOf
 rw [h (8*j) (by omega),h (8*j+1) (by omega),h (8*j+2) (by omega),h (8*j+3) (by omega),h (8*j+4) (by omega),h (8*j+5) (by omega),h (8*j+6) (by omega),h (8*j+7) (by omega)]
def setP (p:Nat→Bool) (s:Nat):Nat→Bool:=fun i=>p i||i == s
theorem beq_off (j k i:Nat) (hk:k<8) (hi:i<8):(8*j+i == 8*j+k)=(k == i):=by
 rw [Bool.eq_iff_iff]; simp; omega
theorem byteOf_set (p:Nat→Bool) (j k:Nat) (hk:k<8):byteOf (setP p (8*j+k)) j =
  w8 (p (8*j)||k == 0) (p (8*j+1)||k == 1) (p (8*j+2)||k == 2) (p (8*j+3)||k == 3) (p (8*j+4)||k == 4) (p (8*j+5)||k == 5) (p (8*j+6)||k == 6) (p (8*j+7)||k == 7):=by
 have e0:(8*j == 8*j+k)=(k == 0):=by have:=beq_off j k 0 hk (by omega); simpa using this
 unfold byteOf setP
 rw [e0,beq_off j k 1 hk (by omega),beq_off j k 2 hk (by omega),beq_off j k 3 hk (by omega),beq_off j k 4 hk (by omega),beq_off j k 5 hk (by omega),beq_off j k 6 hk (by omega),beq_off j k 7 hk (by omega)]
theorem byteOf_other (p:Nat→Bool) (j s:Nat) (h:s / 8≠j):byteOf (setP p s) j=byteOf p j:=by
 have key:∀ i,i<8→(setP p s (8*j+i))=p (8*j+i):=by
  intro i hi
  have:(8*j+i == s)=false:=by rw [beq_eq_false_iff_ne]; omega
  unfold setP; rw [this,Bool.or_false]
 have k0:=key 0 (by omega)
 unfold byteOf
 rw [key 1 (by omega),key 2 (by omega),key 3 (by omega),key 4 (by omega),key 5 (by omega),key 6 (by omega),key 7 (by omega)]
 rw [Nat.add_zero] at k0
 rw [k0]
theorem bytesOf_set (p:Nat→Bool) (n s:Nat) (hs:s<8*n):lset (bytesOf p n) ((s / 8:Nat):Int) (byteOf (setP p s) (s / 8))=bytesOf (setP p s) n:=by
 have hl:s / 8<n:=by omega
 apply List.ext_getElem?
 intro j
 have e:lset (bytesOf p n) ((s / 8:Nat):Int) (byteOf (setP p s) (s / 8))=(bytesOf p n).set (s / 8) (byteOf (setP p s) (s / 8)):=rfl
 rw [e,List.getElem?_set,zea]
 by_cases hj:s / 8=j
 ·subst hj
  rw [if_pos rfl,if_pos hl]
  simp [bytesOf,hl]
 ·rw [if_neg hj]
  by_cases h2:j<n
  ·simp [bytesOf,h2,byteOf_other p j s hj]
  ·simp [bytesOf,h2]
theorem div_w (s:Nat) (h:s≤1000000):w64 (Int.tdiv (s:Int) 8)=((s / 8:Nat):Int):=by
 have:Int.tdiv (s:Int) 8=((s / 8:Nat):Int):=rfl
 rw [this,zai (by omega) (by omega)]
theorem or_set (p:Nat→Bool) (n s:Nat) (hs:s<8*n) :
  zd1 (((BitVec.ofInt 8 ((zaf (bytesOf p n) ((s / 8:Nat):Int)).toNat:Int) ||| BitVec.ofInt 8 ((zd1 (((1:UInt8).toNat:Int)*2 ^ (min (Int.tmod (s:Int) 8).toNat 8))).toNat:Int)).toNat:Int))=byteOf (setP p s) (s / 8):=by
 have hk:s % 8<8:=Nat.mod_lt _ (by decide)
 have e:Int.tmod (s:Int) 8=((s % 8:Nat):Int):=rfl
 have h:=or8 ⟨s % 8,hk⟩ (p (8*(s / 8))) (p (8*(s / 8)+1)) (p (8*(s / 8)+2)) (p (8*(s / 8)+3)) (p (8*(s / 8)+4)) (p (8*(s / 8)+5)) (p (8*(s / 8)+6)) (p (8*(s / 8)+7))
 have e2:byteOf (setP p s) (s / 8)=byteOf (setP p (8*(s / 8)+s % 8)) (s / 8):=by rw [Nat.div_add_mod]
 rw [bytesOf_get _ _ _ (by omega),e,e2,byteOf_set p _ _ hk]
 exact h
theorem add_set (p:Nat→Bool) (n s:Nat) (hs:s<8*n) (hp:p s=false) :
  zd1 (((zaf (bytesOf p n) ((s / 8:Nat):Int)).toNat:Int)+((zd1 (((1:UInt8).toNat:Int)*2 ^ (min (Int.tmod (s:Int) 8).toNat 8))).toNat:Int))=byteOf (setP p s) (s / 8):=by
 have hk:s % 8<8:=Nat.mod_lt _ (by decide)
 have e:Int.tmod (s:Int) 8=((s % 8:Nat):Int):=rfl
 have hps:p (8*(s / 8)+s % 8)=false:=by rw [Nat.div_add_mod]; exact hp
 have hsel:sel8 (s % 8) (p (8*(s / 8))) (p (8*(s / 8)+1)) (p (8*(s / 8)+2)) (p (8*(s / 8)+3)) (p (8*(s / 8)+4)) (p (8*(s / 8)+5)) (p (8*(s / 8)+6)) (p (8*(s / 8)+7))=false:=by
  generalize s % 8=k at *
  generalize s / 8=j at *
  match k,hk,hps with
  | 0,_,h=>exact h
  | 1,_,h=>exact h
  | 2,_,h=>exact h
  | 3,_,h=>exact h
  | 4,_,h=>exact h
  | 5,_,h=>exact h
  | 6,_,h=>exact h
  | 7,_,h=>exact h
 have h:=add8 ⟨s % 8,hk⟩ _ _ _ _ _ _ _ _ hsel
 have e2:byteOf (setP p s) (s / 8)=byteOf (setP p (8*(s / 8)+s % 8)) (s / 8):=by rw [Nat.div_add_mod]
 rw [bytesOf_get _ _ _ (by omega),e,e2,byteOf_set p _ _ hk]
 exact h
theorem bytesOf_zero (n:Nat):List.replicate n (0:UInt8)=bytesOf (fun _=>false) n:=by
 apply List.ext_getElem?
 intro j
 by_cases h:j<n
 ·simp [bytesOf,byteOf,h,w8,b2n]
 ·simp [bytesOf,h]
def sp (row:List UInt8) (m i:Nat):Nat:=(crc row % 65536+i*(crc row / 65536)) % m
theorem sp_lt (row:List UInt8) (m i:Nat) (h:0<m):sp row m i<m:=Nat.mod_lt _ h
theorem spots_eq (row:List UInt8) (m:Nat) (hr:row.length≤140737488351232) (h0:0<m) (h1:m≤1000000):file_spots row (m:Int)=some ⟨(sp row m 0:Nat),(sp row m 1:Nat),(sp row m 2:Nat)⟩:=by
 have hc:=crc_lt row
 have e1:w64 ((crc row:Nat):Int)=((crc row:Nat):Int):=zai (by omega) (by omega)
 have e2:Int.tmod ((crc row:Nat):Int) 65536=((crc row % 65536:Nat):Int):=rfl
 have e3:Int.tdiv ((crc row:Nat):Int) 65536=((crc row / 65536:Nat):Int):=rfl
 have q1:crc row % 65536<65536:=Nat.mod_lt _ (by decide)
 have q2:crc row / 65536<65536:=by omega
 have e4:w64 ((crc row / 65536:Nat):Int)=((crc row / 65536:Nat):Int):=zai (by omega) (by omega)
 unfold file_spots file_spots_J1 sp
 rw [zaa (by omega),crc_eq row (by omega),zab]
 dsimp only [lt]
 rw [zaa (by omega),zaa (by omega),zaa (by omega),e1,e2,e3,e4]
 generalize crc row % 65536=a at *
 generalize crc row / 65536=b at *
 have f0:w64 ((a:Int)+w64 (0*(b:Int)))=((a+0*b:Nat):Int):=by
  have:w64 (0*(b:Int))=0:=by rw [Int.zero_mul]; rfl
  rw [this,zai (by omega) (by omega)]; omega
 have f1:w64 ((a:Int)+w64 (1*(b:Int)))=((a+1*b:Nat):Int):=by
  have:w64 (1*(b:Int))=b:=by rw [Int.one_mul,zai (by omega) (by omega)]
  rw [this,zai (by omega) (by omega)]; omega
 have f2:w64 ((a:Int)+w64 (2*(b:Int)))=((a+2*b:Nat):Int):=by
  have:w64 (2*(b:Int))=2*b:=zai (by omega) (by omega)
  rw [this,zai (by omega) (by omega)]; omega
 rw [f0,f1,f2]
 rfl
theorem bits_eq (row:List UInt8) (m:Nat) (hr:row.length≤140737488351232) (h0:0<m) (h1:m≤1000000):R_Bits row (m:Int)=some [((sp row m 0:Nat):Int),((sp row m 1:Nat):Int),((sp row m 2:Nat):Int)]:=by
 have hc:=crc_lt row
 have u:∀ x:Nat,x≤10000000000→IntKind.u64.wrap (x:Int)=(x:Int):=fun x hx=>by rw [IntKind.wrap_u64]; omega
 have e2:Int.tmod ((crc row:Nat):Int) 65536=((crc row % 65536:Nat):Int):=rfl
 have e3:Int.tdiv ((crc row:Nat):Int) 65536=((crc row / 65536:Nat):Int):=rfl
 have q1:crc row % 65536<65536:=Nat.mod_lt _ (by decide)
 have q2:crc row / 65536<65536:=by omega
 unfold R_Bits sp
 rw [zaa (by omega),rest_eq row (by omega),zab,u m (by omega),zaa (by omega),zaa (by omega),zaa (by omega),u (crc row) (by omega)]
 dsimp only [lt]
 rw [e2,e3,u _ (by omega)]
 generalize crc row % 65536=a at *
 generalize crc row / 65536=b at *
 have g2:(2*(b:Int))=((2*b:Nat):Int):=by omega
 rw [g2,u _ (by omega),show (a:Int)+(b:Int)=((a+b:Nat):Int) by omega,show (a:Int)+((2*b:Nat):Int)=((a+2*b:Nat):Int) by omega,u _ (by omega),u _ (by omega)]
 have t:∀ x:Nat,w64 (Int.tmod (x:Int) (m:Int))=((x % m:Nat):Int):=fun x=>by
  have e:Int.tmod (x:Int) (m:Int)=((x % m:Nat):Int):=rfl
  have:=Nat.mod_lt x h0
  rw [e,zai (by omega) (by omega)]
 rw [t,t,t,Nat.zero_mul,Nat.one_mul,Nat.add_zero]
def zdk (l:List Cell):Nat→List (List UInt8)
 | 0=>[]
 | k+1=>if (zdk l k).length=0∨zaf (zdk l k) ((zdk l k).length - 1)≠(zaf l (k:Int)).Row then zdk l k++[(zaf l (k:Int)).Row] else zdk l k
theorem rowsK_last (l:List Cell):∀ k:Nat,(zdk l (k+1)).length≠0∧zaf (zdk l (k+1)) ((zdk l (k+1)).length - 1)=(zaf l (k:Int)).Row∧(zdk l (k+1)).length≤k+1
 | 0=>by
  rw [zdk,if_pos (.inl rfl)]
  exact ⟨by simp [zdk],by simp [zdk,zaf],by simp [zdk]⟩
 | k+1=>by
  obtain ⟨h1,h2,h3⟩:=rowsK_last l k
  rw [zdk]
  by_cases c:(zdk l (k+1)).length=0∨zaf (zdk l (k+1)) ((zdk l (k+1)).length - 1)≠(zaf l ((k+1:Nat):Int)).Row
  ·rw [if_pos c]
   refine ⟨by simp,?_,by rw [List.length_append,List.length_singleton]; omega⟩
   rw [List.length_append,List.length_singleton,lget_app_r _ _ _ (by omega)]
   have:(((zdk l (k+1)).length+1:Nat):Int) - 1 - ((zdk l (k+1)).length:Int)=0:=by omega
   rw [this]; rfl
  ·rw [if_neg c]
   exact ⟨h1,Decidable.not_not.1 (fun q=>c (.inr q)),by omega⟩
theorem rowsK_len (l:List Cell) (k:Nat):(zdk l k).length≤k:=by
 cases k with
 | zero=>simp [zdk]
 | succ k=>exact (rowsK_last l k).2.2
theorem rowsK_mem (l:List Cell) (x:List UInt8):∀ k:Nat,x∈zdk l k↔∃ j,j<k∧x=(zaf l (j:Int)).Row
 | 0=>by simp [zdk]
 | k+1=>by
  have ih:=rowsK_mem l x k
  rw [zdk]
  have hs:(∃ j,j<k+1∧x=(zaf l (j:Int)).Row)↔(x∈zdk l k∨x=(zaf l (k:Int)).Row):=by
   rw [ih]
   constructor
   ·rintro ⟨j,hj,e⟩
    by_cases c:j=k
    ·subst c; exact .inr e
    ·exact .inl ⟨j,by omega,e⟩
   ·rintro (⟨j,hj,e⟩ | e)
    ·exact ⟨j,by omega,e⟩
    ·exact ⟨k,by omega,e⟩
  rw [hs]
  split
  ·rw [List.mem_append,List.mem_singleton]
  ·rename_i c
   constructor
   ·exact .inl
   ·rintro (h | h)
    ·exact h
    ·cases k with
     | zero=>exact absurd (Or.inl rfl) c
     | succ k=>
      have:=Decidable.not_not.1 (fun q=>c (.inr q))
      rw [h,← this]
      exact zcy _ _ (by have:=(rowsK_last l k).1; omega)
def spP (p:Nat→Bool) (row:List UInt8) (m:Nat):Nat→Bool:=setP (setP (setP p (sp row m 0)) (sp row m 1)) (sp row m 2)
def hit (row:List UInt8) (m i:Nat):Prop:=i=sp row m 0∨i=sp row m 1∨i=sp row m 2
theorem spP_iff (p:Nat→Bool) (row:List UInt8) (m i:Nat):spP p row m i=true↔(p i=true∨hit row m i):=by
 unfold spP setP hit
 simp only [Bool.or_eq_true,beq_iff_eq]
 constructor
 ·rintro (((h | h) | h) | h)
  ·exact .inl h
  ·exact .inr (.inl h)
  ·exact .inr (.inr (.inl h))
  ·exact .inr (.inr (.inr h))
 ·rintro (h | h | h | h)
  ·exact .inl (.inl (.inl h))
  ·exact .inl (.inl (.inr h))
  ·exact .inl (.inr h)
  ·exact .inr h
def rowP (r:List (List UInt8)) (m:Nat):Nat→Nat→Bool
 | 0=>fun _=>false
 | k+1=>spP (rowP r m k) (zaf r (k:Int)) m
theorem rowP_iff (r:List (List UInt8)) (m i:Nat):∀ k:Nat,rowP r m k i=true↔∃ j,j<k∧hit (zaf r (j:Int)) m i
 | 0=>by simp [rowP]
 | k+1=>by
  rw [rowP,spP_iff,rowP_iff r m i k]
  constructor
  ·rintro (⟨j,hj,h⟩ | h)
   ·exact ⟨j,by omega,h⟩
   ·exact ⟨k,by omega,h⟩
  ·rintro ⟨j,hj,h⟩
   by_cases c:j=k
   ·subst c; exact .inr h
   ·exact .inl ⟨j,by omega,h⟩
def celR (l:List Cell):List (List UInt8):=l.map (fun c=>c.Row)
theorem celR_get (l:List Cell) (k:Nat) (h:k<l.length):zaf (celR l) (k:Int)=(zaf l (k:Int)).Row:=by
 rw [zb3 _ k (by simp [celR]; exact h),zb3 _ k h]; simp [celR]
def filN (l:List Cell):Nat:=max 1 (zdk l l.length).length
def filF (l:List Cell):List UInt8:=bytesOf (rowP (celR l) (8*filN l) l.length) (filN l)
theorem filF_rows (l:List Cell):filF l=bytesOf (rowP (zdk l l.length) (8*filN l) (zdk l l.length).length) (filN l):=by
 unfold filF
 refine bytesOf_congr _ fun i _=>?_
 rw [Bool.eq_iff_iff,rowP_iff,rowP_iff]
 constructor
 ·rintro ⟨j,hj,h⟩
  rw [celR_get l j hj] at h
  obtain ⟨q,hq,e⟩:=mem_lget.1 ((rowsK_mem l (zaf l (j:Int)).Row l.length).2 ⟨j,hj,rfl⟩)
  exact ⟨q,hq,by rw [e]; exact h⟩
 ·rintro ⟨q,hq,h⟩
  obtain ⟨j,hj,e⟩:=(rowsK_mem l _ l.length).1 (zcy (zdk l l.length) (q:Int) (by omega))
  exact ⟨j,hj,by rw [celR_get l j hj,← e]; exact h⟩
theorem filN_bd (l:List Cell):1≤filN l∧filN l≤l.length+1:=by
 have:=rowsK_len l l.length
 unfold filN; omega
theorem filter_B1 (l:List Cell) (hl:l.length≤100000) (hr:∀ c∈l,c.Row.length≤140737488351232) (n:Nat) (hn0:1≤n) (hn:n≤100001) (p:Nat→Bool) (k:Nat) (hk:k<l.length) :
  ze1 l (bytesOf p n,(k:Int))=some (.inl (bytesOf (spP p (zaf l (k:Int)).Row (8*n)) n,((k+1:Nat):Int))):=by
 have hw:w64 ((k:Int)+1)=((k+1:Nat):Int):=by rw [zai (by omega) (by omega)]; omega
 have h8:w64 (8*(n:Int))=((8*n:Nat):Int):=by rw [zai (by omega) (by omega)]; omega
 have hrow:=hr _ (zcy l (k:Int) (by omega))
 have m0:0<8*n:=by omega
 unfold ze1
 dsimp only
 rw [zea,if_pos (d_t (by omega)),zaa (by omega),h8,spots_eq _ _ hrow m0 (by omega),zab]
 dsimp only [lt]
 generalize (zaf l (k:Int)).Row=row at *
 have s0:=sp_lt row (8*n) 0 m0
 have s1:=sp_lt row (8*n) 1 m0
 have s2:=sp_lt row (8*n) 2 m0
 unfold spP
 generalize sp row (8*n) 0=a at *
 generalize sp row (8*n) 1=b at *
 generalize sp row (8*n) 2=c at *
 have tm:∀ x:Nat,0≤Int.tmod (x:Int) 8:=fun x=>by have:Int.tmod (x:Int) 8=((x % 8:Nat):Int):=rfl; omega
 rw [div_w a (by omega),div_w b (by omega),div_w c (by omega),zaa (by omega),zaa (by omega),zaa (tm a),zaa (by omega),zaa (by omega),or_set p n a s0,bytesOf_set p n a s0,zea,
  zaa (by omega),zaa (by omega),zaa (tm b),zaa (by omega),zaa (by omega),or_set _ n b s1,bytesOf_set _ n b s1,zea,
  zaa (by omega),zaa (by omega),zaa (tm c),zaa (by omega),zaa (by omega),or_set _ n c s2,bytesOf_set _ n c s2]
 unfold file_filter_J3
 dsimp only
 rw [hw]
theorem filter_eq (l:List Cell) (hl:l.length≤100000) (hr:∀ c∈l,c.Row.length≤140737488351232):file_filter l=some (filF l):=by
 have hN:=filN_bd l
 unfold file_filter file_filter_L2
 refine loop_run (step:=fun y=>file_filter_B2 l y) l.length (fun k=>(((zdk l k).length:Int),(k:Int))) (fun k hk=>?_) ?_
 ·have hw:w64 ((k:Int)+1)=((k+1:Nat):Int):=by rw [zai (by omega) (by omega)]; omega
  have hrl:=rowsK_len l k
  have hw2:w64 (((zdk l k).length:Int)+1)=(((zdk l k).length+1:Nat):Int):=by rw [zai (by omega) (by omega)]; omega
  have hw3:w64 ((k:Int) - 1)=(k:Int) - 1:=zai (by omega) (by omega)
  show file_filter_B2 l (_,(k:Int))=_
  unfold file_filter_B2
  dsimp only
  rw [if_pos (d_t (by omega)),zaa (by omega),hw3,hw,zaa (fun q=>by have h3:¬ ((k:Int)=0):=(by simpa using q); omega)]
  have hc:((decide ((k:Int)=0))||(!decide ((zaf l (k:Int)).Row=(zaf l ((k:Int) - 1)).Row)))=decide ((zdk l k).length=0∨zaf (zdk l k) ((zdk l k).length - 1)≠(zaf l (k:Int)).Row):=by
   rw [Bool.eq_iff_iff]
   simp only [Bool.or_eq_true,decide_eq_true_eq,Bool.not_eq_true',decide_eq_false_iff_not]
   cases k with
   | zero=>simp [zdk]
   | succ k=>
    obtain ⟨h1,h2,_⟩:=rowsK_last l k
    have e:((k+1:Nat):Int) - 1=(k:Int):=by omega
    rw [e,h2]
    constructor
    ·rintro (q | q)
     ·omega
     ·exact .inr fun x=>q x.symm
    ·rintro (q | q)
     ·exact absurd q h1
     ·exact .inr fun x=>q x.symm
  rw [hc,zdk]
  by_cases c:(zdk l k).length=0∨zaf (zdk l k) ((zdk l k).length - 1)≠(zaf l (k:Int)).Row
  ·rw [if_pos (d_t c),if_pos c,hw2,zab,List.length_append,List.length_singleton]
  ·rw [if_neg (d_f c),if_neg c,zab]
 ·show file_filter_B2 l (_,(l.length:Int))=_
  unfold file_filter_B2
  dsimp only
  rw [if_neg (d_f (by omega))]
  have hmx:(max 1 ((zdk l l.length).length:Int))=((filN l:Nat):Int):=by unfold filN; omega
  have:file_filter_J1 l ((zdk l l.length).length:Int)=some (filF l):=by
   unfold file_filter_J1
   rw [hmx,zaa (by omega),Int.toNat_natCast,bytesOf_zero]
   unfold file_filter_L1 filF
   refine loop_run (step:=fun y=>ze1 l y) l.length (fun k=>(bytesOf (rowP (celR l) (8*filN l) k) (filN l),(k:Int))) (fun k hk=>?_) ?_
   ·show ze1 l (bytesOf _ _,(k:Int))=_
    rw [filter_B1 l hl hr _ hN.1 (by omega) _ k hk,rowP,celR_get l k hk]
   ·show ze1 l (bytesOf _ _,(l.length:Int))=_
    unfold ze1
    dsimp only
    rw [if_neg (d_f (by omega))]; rfl
  rw [this]; rfl
theorem rrows_eq (l:List Cell) (hl:l.length≤100000):R_RowsOf l=some (zdk l l.length):=by
 unfold R_RowsOf R_RowsOf_L1
 refine loop_run (step:=fun y=>R_RowsOf_B1 l y) l.length (fun k=>(zdk l k,(k:Int))) (fun k hk=>?_) ?_
 ·have hw:w64 ((k:Int)+1)=((k+1:Nat):Int):=by rw [zai (by omega) (by omega)]; omega
  have hrl:=rowsK_len l k
  have hw3:w64 (((zdk l k).length:Int) - 1)=((zdk l k).length:Int) - 1:=zai (by omega) (by omega)
  show R_RowsOf_B1 l (zdk l k,(k:Int))=_
  unfold R_RowsOf_B1
  dsimp only
  have hz:(!(decide (((zdk l k).length:Int)=0)))=true→0<(zdk l k).length:=fun q=>by
   have:¬ (((zdk l k).length:Int)=0):=by simpa using q
   omega
  rw [if_pos (d_t (by omega)),hw3,hw,zaa (fun q=>by have:=hz q; omega),zaa (fun q=>by have:=hz q; omega),zaa (fun q=>by omega)]
  have hc:((decide (((zdk l k).length:Int)=0))||(!decide ((zaf (zdk l k) (((zdk l k).length:Int) - 1))=((zaf l (k:Int)).Row))))=decide ((zdk l k).length=0∨zaf (zdk l k) ((zdk l k).length - 1)≠(zaf l (k:Int)).Row):=by
   rw [Bool.eq_iff_iff]
   simp only [Bool.or_eq_true,decide_eq_true_eq,Bool.not_eq_true',decide_eq_false_iff_not]
   constructor
   ·rintro (q | q)
    ·exact .inl (by omega)
    ·exact .inr q
   ·rintro (q | q)
    ·exact .inl (by omega)
    ·exact .inr q
  rw [hc,zdk]
  by_cases c:(zdk l k).length=0∨zaf (zdk l k) ((zdk l k).length - 1)≠(zaf l (k:Int)).Row
  ·rw [if_pos (d_t c),if_pos c,zaa (by omega),zaa (by rw [List.length_append,List.length_singleton]; omega),zab]
  ·rw [if_neg (d_f c),if_neg c,zab]
 ·show R_RowsOf_B1 l (zdk l l.length,(l.length:Int))=_
  unfold R_RowsOf_B1
  dsimp only
  rw [if_neg (d_f (by omega))]; rfl
def bools (p:Nat→Bool) (m:Nat):List Bool:=(List.range m).map p
theorem bools_len (p:Nat→Bool) (m:Nat):(bools p m).length=m:=by simp [bools]
theorem bools_get (p:Nat→Bool) (m i:Nat) (h:i<m):zaf (bools p m) (i:Int)=p i:=by
 rw [zb3 _ i (by rw [bools_len]; exact h)]; simp [bools]
theorem bools_set (p:Nat→Bool) (m s:Nat):lset (bools p m) (s:Int) true=bools (setP p s) m:=by
 apply List.ext_getElem?
 intro j
 have e:lset (bools p m) (s:Int) true=(bools p m).set s true:=rfl
 rw [e,List.getElem?_set,bools_len]
 by_cases hj:s=j
 ·subst hj
  rw [if_pos rfl]
  by_cases h:s<m
  ·rw [if_pos h]; simp [bools,h,setP]
  ·rw [if_neg h]; simp [bools,h]
 ·rw [if_neg hj]
  by_cases h:j<m
  ·have:(j == s)=false:=by rw [beq_eq_false_iff_ne]; omega
   simp [bools,h,setP,this]
  ·simp [bools,h]
theorem bools_zero (m:Nat):List.replicate m false=bools (fun _=>false) m:=by
 apply List.ext_getElem?
 intro j
 by_cases h:j<m <;> simp [bools,h]
theorem rfil_L3 (v6:List Bool×Int) (p:Nat→Bool) (m a b c:Nat) (ha:a<m) (hb:b<m) (hc:c<m):R_FilterOf_L3 v6 [(a:Int),(b:Int),(c:Int)] (bools p m,0)=some (.inl (bools (setP (setP (setP p a) b) c) m,w64 (v6.2+1))):=by
 have st:∀ (q:Nat→Bool) (k:Nat) (x:Nat),k<3→zaf [(a:Int),(b:Int),(c:Int)] (k:Int)=(x:Int)→x<m→zez v6 [(a:Int),(b:Int),(c:Int)] (bools q m,(k:Int))=some (.inl (bools (setP q x) m,((k+1:Nat):Int))):=by
  intro q k x hk hx hxm
  have hw:w64 ((k:Int)+1)=((k+1:Nat):Int):=by rw [zai (by omega) (by omega)]; omega
  have hlen:(([(a:Int),(b:Int),(c:Int)]:List Int).length:Int)=3:=rfl
  unfold zez
  dsimp only
  rw [hlen,if_pos (d_t (by omega)),zaa (by omega),hx,bools_len,zaa (by omega),zaa (by omega),bools_set,hw]
 have e1:=zam (step:=fun y=>zez v6 [(a:Int),(b:Int),(c:Int)] y) (st p 0 a (by omega) rfl ha)
 have e2:=zam (step:=fun y=>zez v6 [(a:Int),(b:Int),(c:Int)] y) (st (setP p a) 1 b (by omega) rfl hb)
 have e3:=zam (step:=fun y=>zez v6 [(a:Int),(b:Int),(c:Int)] y) (st (setP (setP p a) b) 2 c (by omega) rfl hc)
 have e4:zbc (fun y=>zez v6 [(a:Int),(b:Int),(c:Int)] y) (bools (setP (setP (setP p a) b) c) m,((2+1:Nat):Int))=some (.inl (bools (setP (setP (setP p a) b) c) m,w64 (v6.2+1))):=by
  refine zah ?_
  have hlen:(([(a:Int),(b:Int),(c:Int)]:List Int).length:Int)=3:=rfl
  unfold zez R_FilterOf_J3
  dsimp only
  rw [hlen,if_neg (d_f (by decide))]; rfl
 exact e1.trans (e2.trans (e3.trans e4))
def pre (p:Nat→Bool) (k:Nat):Nat→Bool:=fun i=>p i&&decide (i<k)
theorem pre_succ (p:Nat→Bool) (k:Nat):(p k=true→∀ i,pre p (k+1) i=setP (pre p k) k i)∧(p k=false→∀ i,pre p (k+1) i=pre p k i):=by
 constructor
 ·intro h i
  unfold pre setP
  by_cases c:i=k
  ·subst c; simp [h]
  ·have e1:(i == k)=false:=by rw [beq_eq_false_iff_ne]; exact c
   have e2:decide (i<k+1)=decide (i<k):=by rw [decide_eq_decide]; omega
   rw [e1,e2,Bool.or_false]
 ·intro h i
  unfold pre
  by_cases c:i=k
  ·subst c; simp [h]
  ·have e2:decide (i<k+1)=decide (i<k):=by rw [decide_eq_decide]; omega
   rw [e2]
theorem rfil_J1 (p:Nat→Bool) (n:Nat) (h0:1≤n) (h1:n≤100001):R_FilterOf_J1 (n:Int) (bools p (8*n))=some (bytesOf p n):=by
 unfold R_FilterOf_J1
 rw [zaa (by omega),Int.toNat_natCast,bytesOf_zero]
 have e0:bytesOf (fun _=>false) n=bytesOf (pre p 0) n:=bytesOf_congr n fun i _=>by simp [pre]
 have e1:bytesOf p n=bytesOf (pre p (8*n)) n:=bytesOf_congr n fun i hi=>by simp [pre,hi]
 rw [e0,e1]
 unfold R_FilterOf_L1
 refine loop_run (step:=fun y=>R_FilterOf_B1 (bools p (8*n)) y) (8*n) (fun k=>(bytesOf (pre p k) n,(k:Int))) (fun k hk=>?_) ?_
 ·have hw:w64 ((k:Int)+1)=((k+1:Nat):Int):=by rw [zai (by omega) (by omega)]; omega
  have tm:0≤Int.tmod (k:Int) 8:=by have:Int.tmod (k:Int) 8=((k % 8:Nat):Int):=rfl; omega
  show R_FilterOf_B1 (bools p (8*n)) (bytesOf (pre p k) n,(k:Int))=_
  unfold R_FilterOf_B1
  dsimp only
  rw [bools_len,zea,if_pos (d_t (by omega)),zaa (by omega),zaa (by omega),bools_get p _ k hk,hw]
  cases hp:p k with
  | true=>
   rw [if_pos rfl,div_w k (by omega),zaa (by omega),zaa (by omega),zaa tm,zaa (by omega),zaa (by omega),add_set _ n k hk (by simp [pre]),bytesOf_set _ n k hk]
   dsimp only [lt]
   rw [zab,bytesOf_congr n fun i _=>(pre_succ p k).1 hp i]
  | false=>
   rw [if_neg (by decide),zab,bytesOf_congr n fun i _=>(pre_succ p k).2 hp i]
 ·show R_FilterOf_B1 (bools p (8*n)) (bytesOf (pre p (8*n)) n,((8*n:Nat):Int))=_
  unfold R_FilterOf_B1
  dsimp only
  rw [bools_len,if_neg (d_f (by omega))]; rfl
theorem rfilter_eq (l:List Cell) (hl:l.length≤100000) (hr:∀ c∈l,c.Row.length≤140737488351232):R_FilterOf l=some (filF l):=by
 have hN:=filN_bd l
 have hrl:=rowsK_len l l.length
 unfold R_FilterOf
 rw [rrows_eq l hl,zab]
 have hv:(if (decide (((zdk l l.length).length:Int)=0))=true then (some 1:Option Int) else some ((zdk l l.length).length:Int))=some ((filN l:Nat):Int):=by
  by_cases c:((zdk l l.length).length:Int)=0
  ·rw [if_pos (d_t c)]; unfold filN; congr 1; omega
  ·rw [if_neg (d_f c)]; unfold filN; congr 1; omega
 have h8:w64 (8*((filN l:Nat):Int))=((8*filN l:Nat):Int):=by rw [zai (by omega) (by omega)]; omega
 rw [hv,zab,h8,zaa (by omega),Int.toNat_natCast,bools_zero,filF_rows]
 have hrow:∀ x∈zdk l l.length,x.length≤140737488351232:=by
  intro x hx
  obtain ⟨j,hj,e⟩:=(rowsK_mem l x l.length).1 hx
  rw [e]; exact hr _ (zcy l (j:Int) (by omega))
 have m0:0<8*filN l:=by omega
 unfold R_FilterOf_L2
 generalize zdk l l.length=r at *
 refine loop_run (step:=fun y=>R_FilterOf_B2 r ((filN l:Nat):Int) y) r.length (fun k=>(bools (rowP r (8*filN l) k) (8*filN l),(k:Int))) (fun k hk=>?_) ?_
 ·have hw:w64 ((k:Int)+1)=((k+1:Nat):Int):=by rw [zai (by omega) (by omega)]; omega
  show R_FilterOf_B2 r ((filN l:Nat):Int) (bools _ _,(k:Int))=_
  unfold R_FilterOf_B2
  dsimp only
  rw [if_pos (d_t (by omega)),zaa (by omega),zaa (by omega),h8,bits_eq _ _ (hrow _ (zcy r (k:Int) (by omega))) m0 (by omega),zab,rfil_L3 _ _ _ _ _ _ (sp_lt _ _ _ m0) (sp_lt _ _ _ m0) (sp_lt _ _ _ m0)]
  dsimp only
  rw [hw,rowP]; rfl
 ·show R_FilterOf_B2 r ((filN l:Nat):Int) (bools _ _,(r.length:Int))=_
  unfold R_FilterOf_B2
  dsimp only
  rw [if_neg (d_f (by omega)),rfil_J1 _ _ hN.1 (by omega)]; rfl
theorem addFrame_eq (body row:List UInt8) (hb:body.length≤1000000000) (hr:row.length≤1000000000):wire_AddFrame_v2 body row=some (row++frame body):=by
 have e8:(2:Int) ^ (min (8:Int).toNat 64)=((256:Nat):Int):=by decide
 have eh:[zd1 (Int.fdiv (body.length:Int) (2 ^ (min (8:Int).toNat 64))),zd1 (body.length:Int)]=[UInt8.ofNat (body.length / 256),UInt8.ofNat (body.length % 256)]:=by
  rw [e8,fdiv_nat,zd7,zd7,ofNat_mod]
 unfold wire_AddFrame_v2
 rw [eh,zaa (by simp; omega)]
 dsimp only [lt]
 rw [zaa (by simp; omega),zaa (by simp; omega),zb0]
 have ed:((row++[UInt8.ofNat (body.length / 256),UInt8.ofNat (body.length % 256)])++body).drop row.length=UInt8.ofNat (body.length / 256)::UInt8.ofNat (body.length % 256)::body:=by simp
 rw [ed,crc_eq _ (by simp; omega),zab,crcB_w,zaa (by simp [crcB]; omega)]
 simp [frame]
theorem encC_app:∀ (a b:List Cell),zeu (a++b)=zeu a++zeu b
 | [],b=>by simp [zeu,wrAll]
 | c::a,b=>by rw [List.cons_append,encC_cons,encC_cons,encC_app a b,List.append_assoc]
theorem encC_one (c:Cell):zeu [c]=wrC c:=by rw [encC_cons]; simp [zeu,wrAll]
theorem encF_app:∀ (a b:List (List UInt8)),encF (a++b)=encF a++encF b
 | [],b=>by simp [encF,wrAll]
 | c::a,b=>by rw [List.cons_append,encF_cons,encF_cons,encF_app a b,List.append_assoc]
theorem encF_one (c:List UInt8):encF [c]=frame c:=by rw [encF_cons]; simp [encF,wrAll]
def hdR (g:List Cell):List UInt8:=(zaf g 0).Row
theorem hdR_snoc (g:List Cell) (c:Cell):hdR (g++[c])=if g=[] then c.Row else hdR g:=by
 cases g with
 | nil=>rfl
 | cons x g=>rw [if_neg (by simp)]; rfl
def zdl (l:List Cell) (size:Int):Nat→List (List Cell)×List Cell
 | 0=>([],[])
 | k+1=>if size≤((zeu ((zdl l size k).2++[zaf l (k:Int)])).length:Int)∨k+1=l.length then ((zdl l size k).1++[(zdl l size k).2++[zaf l (k:Int)]],[]) else ((zdl l size k).1,(zdl l size k).2++[zaf l (k:Int)])
def rowsB (s:List (List Cell)×List Cell):List (List UInt8):=s.1.map hdR++(if s.2=[] then [] else [hdR s.2])
def idxL (gs:List (List Cell)):List UInt8:=gs.flatMap fun g=>wrT (hdR g)++num (zeu g).length
theorem idxL_snoc (gs:List (List Cell)) (g:List Cell):idxL (gs++[g])=idxL gs++(wrT (hdR g)++num (zeu g).length):=by simp [idxL]
theorem rowsB_step (s:List (List Cell)×List Cell) (c:Cell):rowsB (s.1,s.2++[c])=(if s.2=[] then rowsB s++[c.Row] else rowsB s)∧rowsB (s.1++[s.2++[c]],[])=(if s.2=[] then rowsB s++[c.Row] else rowsB s):=by
 unfold rowsB
 by_cases h:s.2=[]
 ·rw [h]; constructor <;> (simp [hdR]; rfl)
 ·constructor <;> simp [h,hdR_snoc]
theorem encC_zero {g:List Cell} (hg:∀ c∈g,zaw c=0):(zeu g).length=0↔g=[]:=by
 cases g with
 | nil=>simp [zeu,wrAll]
 | cons c g=>
  have:=(wrC_len (hg c (by simp))).2
  rw [encC_cons,List.length_append]
  constructor
  ·intro h; omega
  ·intro h; cases h
section
variable {l:List Cell} (hg:∀ c∈l,zaw c=0) (hl:l.length≤1000) (size:Int)
include hg hl
theorem blk_bd:∀ k:Nat,k≤l.length→(encF ((zdl l size k).1.map zeu)).length+(zeu (zdl l size k).2).length≤316*k∧(idxL (zdl l size k).1).length≤50*k∧(rowsB (zdl l size k)).length≤k∧(zdl l size k).1.length≤k∧
  (∀ c∈(zdl l size k).2,zaw c=0)∧(∀ g∈(zdl l size k).1,g≠[]∧∀ c∈g,zaw c=0)∧(zdl l size k).1.flatten++(zdl l size k).2=l.take k
 | 0,_=>⟨by simp [zdl,encF,zeu,wrAll],by simp [zdl,idxL],by simp [zdl,rowsB],by simp [zdl],by simp [zdl],by simp [zdl],by simp [zdl]⟩
 | k+1,h=>by
  obtain ⟨h1,h2,h3,h4,h5,h6,h7⟩:=blk_bd k (by omega)
  have hc:=hg _ (zcy l (k:Int) (by omega))
  have w1:=wrC_len hc
  have cl:=code_len hc
  have ht:=lget_take l k (by omega)
  obtain ⟨r1,r2⟩:=rowsB_step (zdl l size k) (zaf l (k:Int))
  have hr:((if (zdl l size k).2=[] then rowsB (zdl l size k)++[(zaf l (k:Int)).Row] else rowsB (zdl l size k))).length≤k+1:=by
   split
   ·rw [List.length_append,List.length_singleton]; omega
   ·omega
  have hx:(zeu ((zdl l size k).2++[zaf l (k:Int)])).length≤(zeu (zdl l size k).2).length+310:=by
   rw [encC_app,encC_one,List.length_append]; omega
  have hcs:∀ c∈(zdl l size k).2++[zaf l (k:Int)],zaw c=0:=by
   intro c hm
   rcases List.mem_append.1 hm with q | q
   ·exact h5 c q
   ·rw [List.mem_singleton] at q; rw [q]; exact hc
  have hne:(zdl l size k).2++[zaf l (k:Int)]≠[]:=by simp
  have hhd:(hdR ((zdl l size k).2++[zaf l (k:Int)])).length≤40:=by
   have:zaf ((zdl l size k).2++[zaf l (k:Int)]) 0∈(zdl l size k).2++[zaf l (k:Int)]:=zcy _ 0 (by rw [List.length_append,List.length_singleton]; omega)
   exact (code_len (hcs _ this)).1
  rw [zdl]
  split
  ·refine ⟨?_,?_,by rw [r2]; exact hr,by rw [List.length_append,List.length_singleton]; omega,by simp,?_,?_⟩
   ·rw [List.map_append,encF_app,List.map_singleton,encF_one,List.length_append,zcc]
    have:(zeu ([]:List Cell)).length=0:=by simp [zeu,wrAll]
    dsimp only
    omega
   ·have q1:=wrT_len (hdR ((zdl l size k).2++[zaf l (k:Int)])) (by omega)
    have q2:=num_len5 (n:=(zeu ((zdl l size k).2++[zaf l (k:Int)])).length) (by omega)
    dsimp only
    rw [idxL_snoc,List.length_append,List.length_append]
    omega
   ·intro g hm
    rcases List.mem_append.1 hm with q | q
    ·exact h6 g q
    ·rw [List.mem_singleton] at q; rw [q]; exact ⟨hne,hcs⟩
   ·rw [ht,← h7]; simp
  ·refine ⟨?_,by dsimp only; omega,by rw [r1]; exact hr,by dsimp only; omega,hcs,h6,?_⟩
   ·dsimp only; omega
   ·rw [ht,← h7]; simp
theorem blocks_eq:file_blocks l size=some ((zdl l size l.length).1.map zeu,rowsB (zdl l size l.length)):=by
 unfold file_blocks file_blocks_L1
 refine loop_run (step:=fun y=>file_blocks_B1 l size y) l.length (fun k=>((zdl l size k).1.map zeu,rowsB (zdl l size k),zeu (zdl l size k).2,(k:Int))) (fun k hk=>?_) ?_
 ·have hw:w64 ((k:Int)+1)=((k+1:Nat):Int):=by rw [zai (by omega) (by omega)]; omega
  have hw2:w64 ((l.length:Int) - 1)=(l.length:Int) - 1:=zai (by omega) (by omega)
  obtain ⟨h1,h2,h3,h4,h5,h6,h7⟩:=blk_bd hg hl size k (by omega)
  have hc:=hg _ (zcy l (k:Int) (by omega))
  have w1:=wrC_len hc
  obtain ⟨r1,r2⟩:=rowsB_step (zdl l size k) (zaf l (k:Int))
  have hz:=encC_zero h5
  show file_blocks_B1 l size (_,_,zeu (zdl l size k).2,(k:Int))=_
  unfold file_blocks_B1
  dsimp only
  rw [if_pos (d_t (by omega)),zaa (by omega),hw,hw2,zcw]
  have hv2:(if (decide ((zeu (zdl l size k).2).length=0))=true then
    zaq (((rowsB (zdl l size k)++([(zaf l (k:Int)).Row]:List (List UInt8))).length:Int)*16≤140737488351232) <|
    some ((rowsB (zdl l size k)++([(zaf l (k:Int)).Row]:List (List UInt8))),zaf l (k:Int))
   else
    some (rowsB (zdl l size k),zaf l (k:Int)))=some ((if (zdl l size k).2=[] then rowsB (zdl l size k)++[(zaf l (k:Int)).Row] else rowsB (zdl l size k)),zaf l (k:Int)):=by
   by_cases c:(zdl l size k).2=[]
   ·rw [if_pos (d_t (hz.2 c)),if_pos c,zaa (by rw [List.length_append,List.length_singleton]; omega)]
   ·rw [if_neg (d_f (fun q=>c (hz.1 q))),if_neg c]
  rw [hv2,zab,add_eq _ hc _ (by omega),zab]
  have hx:zeu (zdl l size k).2++wrC (zaf l (k:Int))=zeu ((zdl l size k).2++[zaf l (k:Int)]):=by rw [encC_app,encC_one]
  rw [hx,zdl]
  have hcond:((decide (size≤((zeu ((zdl l size k).2++[zaf l (k:Int)])).length:Int)))||(decide ((k:Int)=(l.length:Int) - 1)))=decide (size≤((zeu ((zdl l size k).2++[zaf l (k:Int)])).length:Int)∨k+1=l.length):=by
   rw [Bool.eq_iff_iff]
   simp only [Bool.or_eq_true,decide_eq_true_eq]
   omega
  rw [hcond]
  by_cases c:size≤((zeu ((zdl l size k).2++[zaf l (k:Int)])).length:Int)∨k+1=l.length
  ·rw [if_pos (d_t c),if_pos c,zaa (by rw [List.length_append,List.length_map,List.length_singleton]; omega),zab,r2,List.map_append]
   rfl
  ·rw [if_neg (d_f c),if_neg c,zab,r1]
 ·show file_blocks_B1 l size (_,_,_,(l.length:Int))=_
  unfold file_blocks_B1
  dsimp only
  rw [if_neg (d_f (by omega))]; rfl
def firstK (l:List Cell) (size:Int):Nat→List UInt8
 | 0=>[]
 | k+1=>if (zdl l size k).2=[] then (zaf l (k:Int)).Row else firstK l size k
omit hg hl in
theorem firstK_hd:∀ k:Nat,(zdl l size k).2≠[]→firstK l size k=hdR (zdl l size k).2
 | 0,h=>absurd rfl h
 | k+1,h=>by
  rw [firstK]
  rw [zdl] at h ⊢
  by_cases c:size≤((zeu ((zdl l size k).2++[zaf l (k:Int)])).length:Int)∨k+1=l.length
  ·rw [if_pos c] at h; exact absurd rfl h
  ·rw [if_neg c,hdR_snoc]
   by_cases c2:(zdl l size k).2=[]
   ·rw [if_pos c2,if_pos c2]
   ·rw [if_neg c2,if_neg c2,firstK_hd k c2]
omit hg hl in
theorem firstK_next (k:Nat):firstK l size (k+1)=hdR ((zdl l size k).2++[zaf l (k:Int)]):=by
 rw [firstK,hdR_snoc]
 by_cases c:(zdl l size k).2=[]
 ·rw [if_pos c,if_pos c]
 ·rw [if_neg c,if_neg c,firstK_hd size k c]
def zb5 (l:List Cell) (size:Int):List (List UInt8):=(zdl l size l.length).1.map zeu++[idxL (zdl l size l.length).1,filF l]
def ze0 (l:List Cell) (size:Int):List UInt8:=encF (zb5 l size)
theorem rfile_eq:R_FileOf_v1 l size=some (ze0 l size):=by
 unfold R_FileOf_v1 R_FileOf_v1_L1
 refine loop_run (step:=fun y=>R_FileOf_v1_B1 l size y) l.length (fun k=>(encF ((zdl l size k).1.map zeu),idxL (zdl l size k).1,zeu (zdl l size k).2,firstK l size k,(k:Int))) (fun k hk=>?_) ?_
 ·have hw:w64 ((k:Int)+1)=((k+1:Nat):Int):=by rw [zai (by omega) (by omega)]; omega
  have hw2:w64 ((l.length:Int) - 1)=(l.length:Int) - 1:=zai (by omega) (by omega)
  obtain ⟨h1,h2,h3,h4,h5,h6,h7⟩:=blk_bd hg hl size k (by omega)
  have hc:=hg _ (zcy l (k:Int) (by omega))
  have w1:=wrC_len hc
  have hz:=encC_zero h5
  have hfn:=firstK_next size k (l:=l)
  show R_FileOf_v1_B1 l size (_,_,zeu (zdl l size k).2,firstK l size k,(k:Int))=_
  unfold R_FileOf_v1_B1
  dsimp only
  rw [if_pos (d_t (by omega)),hw,hw2,zcw]
  have hv2:(if (decide (((zeu (zdl l size k).2).length:Int)=0))=true then
    zaq (0≤(k:Int)∧(k:Int)<(l.length:Int)) <|
    some ((zaf l (k:Int)).Row)
   else
    some (firstK l size k))=some (firstK l size (k+1)):=by
   rw [firstK]
   by_cases c:(zdl l size k).2=[]
   ·have:=hz.2 c
    rw [if_pos (d_t (by omega)),if_pos c,zaa (by omega)]
   ·have:¬ (((zeu (zdl l size k).2).length:Int)=0):=fun q=>c (hz.1 (by omega))
    rw [if_neg (d_f this),if_neg c]
  have hx:zeu (zdl l size k).2++wrC (zaf l (k:Int))=zeu ((zdl l size k).2++[zaf l (k:Int)]):=by rw [encC_app,encC_one]
  have hxl:(zeu ((zdl l size k).2++[zaf l (k:Int)])).length≤316310:=by rw [← hx,List.length_append]; omega
  have hhd:(hdR ((zdl l size k).2++[zaf l (k:Int)])).length≤40:=by
   have hm:zaf ((zdl l size k).2++[zaf l (k:Int)]) 0∈(zdl l size k).2++[zaf l (k:Int)]:=zcy _ 0 (by rw [List.length_append,List.length_singleton]; omega)
   rcases List.mem_append.1 hm with q | q
   ·exact (code_len (h5 _ q)).1
   ·rw [List.mem_singleton] at q
    show (zaf ((zdl l size k).2++[zaf l (k:Int)]) 0).Row.length≤40
    rw [q]; exact (code_len hc).1
  rw [hv2,zab,zaa (by omega),cellBytes_eq _ hc,zab,hx,zaa (by omega),zdl]
  have hcond:((decide (size≤((zeu ((zdl l size k).2++[zaf l (k:Int)])).length:Int)))||(decide ((k:Int)=(l.length:Int) - 1)))=decide (size≤((zeu ((zdl l size k).2++[zaf l (k:Int)])).length:Int)∨k+1=l.length):=by
   rw [Bool.eq_iff_iff]
   simp only [Bool.or_eq_true,decide_eq_true_eq]
   omega
  rw [hcond]
  have q1:=wrT_len (hdR ((zdl l size k).2++[zaf l (k:Int)])) (by omega)
  have q2:=num_len5 (n:=(zeu ((zdl l size k).2++[zaf l (k:Int)])).length) (by omega)
  by_cases c:size≤((zeu ((zdl l size k).2++[zaf l (k:Int)])).length:Int)∨k+1=l.length
  ·rw [if_pos (d_t c),if_pos c,framed_eq _ (by omega),zab,zaa (by rw [List.length_append,zcc]; omega),hfn,written_eq _ (by omega),zab,zaa (by rw [List.length_append]; omega),rnumber _ (by omega),zab,
    zaa (by rw [List.length_append,List.length_append]; omega),zab,List.map_append,encF_app,List.map_singleton,encF_one,idxL_snoc,List.append_assoc]
   rfl
  ·rw [if_neg (d_f c),if_neg c,zab]
 ·obtain ⟨h1,h2,h3,h4,h5,h6,h7⟩:=blk_bd hg hl size l.length (Nat.le_refl _)
  have hN:=filN_bd l
  have hfl:(filF l).length≤l.length+1:=by unfold filF; rw [zea]; omega
  show R_FileOf_v1_B1 l size (_,_,_,_,(l.length:Int))=_
  unfold R_FileOf_v1_B1
  dsimp only
  rw [if_neg (d_f (by omega))]
  have:R_FileOf_v1_J1 l (encF ((zdl l size l.length).1.map zeu),idxL (zdl l size l.length).1)=some (ze0 l size):=by
   unfold R_FileOf_v1_J1
   dsimp only
   rw [framed_eq _ (by omega),zab,zaa (by rw [List.length_append,zcc]; omega),rfilter_eq l (by omega) (fun c hc=>by have:=(code_len (hg c hc)).1; omega),zab,framed_eq _ (by omega),zab,
    zaa (by rw [List.length_append,List.length_append,zcc,zcc]; omega)]
   unfold ze0 zb5
   rw [encF_app,encF_cons,encF_one,List.append_assoc]
  rw [this]; rfl
end
theorem encF_take_len (L:List (List UInt8)) (k:Nat) (hk:k<L.length):(encF (L.take (k+1))).length=(encF (L.take k)).length+(zaf L (k:Int)).length+6:=by
 rw [lget_take L k hk,encF_app,encF_one,List.length_append,zcc]; omega
theorem encF_take_mono (L:List (List UInt8)) (k:Nat):(encF (L.take k)).length≤(encF L).length:=by
 have e:encF L=encF (L.take k)++encF (L.drop k):=by rw [← encF_app,List.take_append_drop]
 rw [e,List.length_append]; omega
noncomputable def makeF (l:List Cell) (size:Int):Fault:=
 if ¬ (cellF l).Code=0 then cellF l
 else if 500<l.length then ⟨2,-1⟩
 else if size<50∨4000<size then ⟨3,-1⟩
 else if 60000<(ze0 l size).length then ⟨9,0⟩ else ⟨0,0⟩
noncomputable def makeS (l:List Cell) (size:Int):List UInt8×Fault:=if (makeF l size).Code=0 then (ze0 l size,⟨0,0⟩) else ([],makeF l size)
section
variable {l:List Cell} (hg:∀ c∈l,zaw c=0) (hl:l.length≤1000) (size:Int)
include hg hl
omit hg hl in
theorem blk_last (hne:l.length≠0):(zdl l size l.length).2=[]:=by
 obtain ⟨k,hk⟩:∃ k,l.length=k+1:=⟨l.length - 1,by omega⟩
 rw [hk,zdl,if_pos (.inr hk.symm)]
omit hg hl in
theorem blk_end:(zdl l size l.length).2=[]:=by
 by_cases h:l.length=0
 ·have:l=[]:=List.eq_nil_of_length_eq_zero h
  subst this; rfl
 ·exact blk_last size h
omit hg hl in
theorem rows_end:rowsB (zdl l size l.length)=(zdl l size l.length).1.map hdR:=by
 unfold rowsB; rw [if_pos (blk_end size),List.append_nil]
omit hg hl in
theorem partsL_len:(zb5 l size).length=(zdl l size l.length).1.length+2:=by simp [zb5]
theorem parts_bd:∀ b∈zb5 l size,b.length≤400000:=by
 obtain ⟨h1,h2,h3,h4,h5,h6,h7⟩:=blk_bd hg hl size l.length (Nat.le_refl _)
 have hN:=filN_bd l
 intro b hb
 unfold zb5 at hb
 rcases List.mem_append.1 hb with q | q
 ·obtain ⟨g,hgm,rfl⟩:=List.mem_map.1 q
  have:∀ (gs:List (List Cell)),g∈gs→(zeu g).length≤(encF (gs.map zeu)).length:=by
   intro gs
   induction gs with
   | nil=>intro h; cases h
   | cons x gs ih=>
    intro h
    rw [List.map_cons,encF_cons,List.length_append,zcc]
    rcases List.mem_cons.1 h with e | e
    ·subst e; omega
    ·have:=ih e; omega
  have:=this _ hgm
  omega
 ·simp only [List.mem_cons,List.not_mem_nil,or_false] at q
  rcases q with e | e
  ·rw [e]; omega
  ·rw [e]; unfold filF; rw [zea]; omega
theorem fileB_bd:(ze0 l size).length≤1000000:=by
 obtain ⟨h1,h2,h3,h4,h5,h6,h7⟩:=blk_bd hg hl size l.length (Nat.le_refl _)
 have hN:=filN_bd l
 have hfl:(filF l).length≤l.length+1:=by unfold filF; rw [zea]; omega
 unfold ze0 zb5
 rw [encF_app,encF_cons,encF_one,List.length_append,List.length_append,zcc,zcc]
 omega
theorem make_L1 (z:Fault):file_Make_L1 ((zdl l size l.length).1.map zeu,rowsB (zdl l size l.length)) (z,idxL (zdl l size l.length).1) (filF l) (z,[],0)=some (if 60000<(ze0 l size).length then ([],⟨9,0⟩) else (ze0 l size,⟨0,0⟩)):=by
 have hb:=parts_bd hg hl size
 have hbd:=fileB_bd hg hl size
 have hL:(zdl l size l.length).1.map zeu++[idxL (zdl l size l.length).1,filF l]=zb5 l size:=rfl
 have hlen:=partsL_len size (l:=l)
 obtain ⟨_,_,_,h4,_,_,_⟩:=blk_bd hg hl size l.length (Nat.le_refl _)
 have hfb:ze0 l size=encF (zb5 l size):=rfl
 rw [hfb] at hbd ⊢
 unfold file_Make_L1
 have hstep:∀ k,k<(zb5 l size).length→file_Make_B1 ((zdl l size l.length).1.map zeu,rowsB (zdl l size l.length)) (z,idxL (zdl l size l.length).1) (filF l) (z,encF ((zb5 l size).take k),(k:Int)) =
   if 60000<(encF ((zb5 l size).take (k+1))).length then some (.inr ([],⟨9,0⟩)) else some (.inl (z,encF ((zb5 l size).take (k+1)),((k+1:Nat):Int))):=by
  intro k hk
  have hw:w64 ((k:Int)+1)=((k+1:Nat):Int):=by rw [zai (by omega) (by omega)]; omega
  have hm:=encF_take_mono (zb5 l size) k
  have hbk:=hb _ (zcy (zb5 l size) (k:Int) (by omega))
  have htl:=encF_take_len (zb5 l size) k hk
  have hw2:w64 (w64 (((encF ((zb5 l size).take k)).length:Int)+((zaf (zb5 l size) (k:Int)).length:Int))+6)=((encF ((zb5 l size).take (k+1))).length:Int):=by
   have e0:w64 (((encF ((zb5 l size).take k)).length:Int)+((zaf (zb5 l size) (k:Int)).length:Int))=((encF ((zb5 l size).take k)).length:Int)+((zaf (zb5 l size) (k:Int)).length:Int):=zai (by omega) (by omega)
   rw [e0,zai (by omega) (by omega)]; omega
  unfold file_Make_B1
  dsimp only [lt]
  rw [hL,if_pos (d_t (by omega)),zaa (by omega),zaa (by omega),hw2]
  by_cases c:60000<(encF ((zb5 l size).take (k+1))).length
  ·rw [if_pos (d_t (by omega)),if_pos c]; rfl
  ·rw [if_neg (d_f (by omega)),if_neg c,addFrame_eq _ _ (by omega) (by omega),zab,hw,lget_take _ k hk,encF_app,encF_one]
 have key:=loop_any (step:=fun y=>file_Make_B1 ((zdl l size l.length).1.map zeu,rowsB (zdl l size l.length)) (z,idxL (zdl l size l.length).1) (filF l) y) (zb5 l size).length (fun k=>(z,encF ((zb5 l size).take k),(k:Int))) (fun k=>60000<(encF ((zb5 l size).take (k+1))).length) (rb:=([],⟨9,0⟩)) (r:=(encF (zb5 l size),⟨0,0⟩))
  (fun k hk hnb=>by
   have:=hstep k hk
   rw [if_neg hnb] at this; exact this)
  (fun k hk hbad=>by
   have:=hstep k hk
   rw [if_pos hbad] at this; exact this)
  (by
   show file_Make_B1 _ _ _ (z,encF ((zb5 l size).take (zb5 l size).length),((zb5 l size).length:Int))=_
   unfold file_Make_B1
   dsimp only [lt]
   rw [hL,if_neg (d_f (by omega)),List.take_length]; rfl)
 rcases key with ⟨⟨j,hj,hbad⟩,e⟩ | ⟨hall,e⟩
 ·have:=encF_take_mono (zb5 l size) (j+1)
  rw [if_pos (by omega)]; exact e
 ·have h9:=hall ((zb5 l size).length - 1) (by omega)
  have e9:(zb5 l size).length - 1+1=(zb5 l size).length:=by omega
  rw [e9,List.take_length] at h9
  rw [if_neg h9]; exact e
end
theorem make_eq (l:List Cell) (size:Int):file_Make l size=some (makeS l size):=by
 unfold file_Make makeS makeF
 rw [check_eq,zab]
 by_cases c:(cellF l).Code=0
 ·have hg:=cellF_good c
  have hc:=hg.code
  have hl:=hg.len
  rw [if_neg (n_f c),if_neg (not_not_intro c)]
  by_cases c2:500<l.length
  ·rw [if_pos (d_t (by omega)),if_pos c2]; rfl
  ·rw [if_neg (d_f (by omega)),if_neg c2]
   by_cases c3:size<50∨4000<size
   ·rw [if_pos (or_t c3),if_pos c3]; rfl
   ·rw [if_neg (or_f c3),if_neg c3,blocks_eq hc hl size,zab]
    have:file_Make_L2 l ((zdl l size l.length).1.map zeu,rowsB (zdl l size l.length)) ((⟨0,0⟩:Fault),([]:List UInt8),0)=some (if 60000<(ze0 l size).length then ([],⟨9,0⟩) else (ze0 l size,⟨0,0⟩)):=by
     obtain ⟨h1,h2,h3,h4,h5,h6,h7⟩:=blk_bd hc hl size l.length (Nat.le_refl _)
     have hre:=rows_end size (l:=l)
     have hml:=make_L1 hc hl size ⟨0,0⟩
     rw [hre] at hml h3 ⊢
     unfold file_Make_L2
     generalize hgs:(zdl l size l.length).1=gs at *
     have hbd:∀ k,(idxL (gs.take k)).length≤(idxL gs).length:=fun k=>by
      have e:idxL gs=idxL (gs.take k)++idxL (gs.drop k):=by unfold idxL; rw [← List.flatMap_append,List.take_append_drop]
      rw [e,List.length_append]; omega
     refine loop_run (step:=fun y=>file_Make_B2 l (gs.map zeu,gs.map hdR) y) gs.length (fun k=>(⟨0,0⟩,idxL (gs.take k),(k:Int))) (fun k hk=>?_) ?_
     ·have hw:w64 ((k:Int)+1)=((k+1:Nat):Int):=by rw [zai (by omega) (by omega)]; omega
      have m1:zaf (gs.map hdR) (k:Int)=hdR (zaf gs (k:Int)):=by rw [zb3 _ k (by simpa using hk),zb3 _ k hk]; simp
      have m2:zaf (gs.map zeu) (k:Int)=zeu (zaf gs (k:Int)):=by rw [zb3 _ k (by simpa using hk),zb3 _ k hk]; simp
      have hgm:=zcy gs (k:Int) (by omega)
      have hhd:(hdR (zaf gs (k:Int))).length≤40:=by
       obtain ⟨hne,hcs⟩:=h6 _ hgm
       have:zaf (zaf gs (k:Int)) 0∈zaf gs (k:Int):=zcy _ 0 (by have:=List.length_pos_iff.2 hne; omega)
       exact (code_len (hcs _ this)).1
      have hel:(zeu (zaf gs (k:Int))).length≤400000:=parts_bd hc hl size _ (by unfold zb5; rw [hgs]; exact List.mem_append_left _ (List.mem_map.2 ⟨_,hgm,rfl⟩))
      have hbk:=hbd k
      have q1:=wrT_len (hdR (zaf gs (k:Int))) (by omega)
      have q2:=num_len5 (n:=(zeu (zaf gs (k:Int))).length) (by omega)
      show file_Make_B2 l (gs.map zeu,gs.map hdR) (⟨0,0⟩,idxL (gs.take k),(k:Int))=_
      unfold file_Make_B2
      dsimp only
      rw [List.length_map,List.length_map,if_pos (d_t (by omega)),zaa (by omega),zaa (by omega),zaa (by omega),zaa (by omega),m1,m2,addText_eq _ _ (by omega) (by omega),zab,addNum_eq _ _ (by rw [List.length_append]; omega),zab,hw,lget_take gs k hk,idxL_snoc,List.append_assoc]
     ·show file_Make_B2 l (gs.map zeu,gs.map hdR) (⟨0,0⟩,idxL (gs.take gs.length),(gs.length:Int))=_
      have hN:=filN_bd l
      unfold file_Make_B2
      dsimp only
      rw [List.length_map,if_neg (d_f (by omega)),List.take_length]
      have hJ:file_Make_J1 l (gs.map zeu,gs.map hdR) (⟨0,0⟩,idxL gs)=some (if 60000<(ze0 l size).length then ([],⟨9,0⟩) else (ze0 l size,⟨0,0⟩)):=by
       unfold file_Make_J1
       rw [filter_eq l (by omega) (fun c hcm=>by have:=(code_len (hc c hcm)).1; omega),zab,zaa (by simp; omega)]
       exact hml
      rw [hJ]; rfl
    rw [this]
    by_cases c4:60000<(ze0 l size).length
    ·rw [if_pos c4,if_pos c4]; rfl
    ·rw [if_neg c4,if_neg c4]; rfl
 ·rw [if_pos (n_t c),if_pos c,if_neg c]
theorem ck_zero:∀ (l:List Cell) (p:Option Cell) (i:Int),(∀ c∈l,zaw c=0)→l.Pairwise ah→(∀ q,p=some q→∀ c∈l,ah q c)→ck p l i=⟨0,0⟩
 | [],p,i,_,_,_=>by rw [ck]
 | c::l,p,i,hc,hs,hp=>by
  have hok:okp p c=true:=by
   cases p with
   | none=>rfl
   | some q=>exact (za6 q c).2 (hp q rfl c (by simp))
  rw [List.pairwise_cons] at hs
  rw [ck,if_neg (not_not_intro (hc c (by simp))),if_pos hok]
  exact ck_zero l (some c) (i+1) (fun x hx=>hc x (by simp [hx])) hs.2 (fun q hq x hx=>by cases hq; exact hs.1 x hx)
theorem good_of {l:List Cell} (hl:l.length≤1000) (hc:∀ c∈l,zaw c=0) (hs:l.Pairwise ah):Good l:=by
 have e:cellF l=⟨0,0⟩:=by
  unfold cellF
  rw [if_neg (by omega),ck_zero l none 0 hc hs (fun q h=>by cases h)]
 exact cellF_good (by rw [e])
theorem readS_good {l:List Cell} (hg:Good l) (hl:(zeu l).length≤60000):readS (zeu l)=(l,⟨0,0⟩):=by
 have:=rdAll_wrAll (f:=rdC) (w:=wrC) (fun x=>zaw x=0) (fun x r h=>rdC_wrC h r) (fun x h=>(wrC_len h).2) l (zeu l).length [] hg.code (Nat.le_refl _)
 have e:rdAll rdC (zeu l).length (zeu l) [] = .inl l:=by simpa [zeu] using this
 unfold readS
 rw [if_neg (by omega),e]
 unfold rcS
 dsimp only
 rw [hg.f]
 rfl
theorem opn_all:∀ (L:List (List UInt8)) (k:Nat) (acc:List (List UInt8)) (g:Nat),(∀ s∈L,s.length≤65535)→(encF L).length≤k→opn k (encF L) acc g=(acc++L,g+(encF L).length)
 | [],k,acc,g,_,_=>by
  have:rdF (encF [])=none:=by simp [encF,wrAll,rdF]
  rw [opn_none this]; simp [encF,wrAll]
 | x::L,k,acc,g,hs,hk=>by
  have hx:=hs x (by simp)
  have hfl:=zcc x
  rw [encF_cons,List.length_append,hfl] at hk
  match k,hk with
  | 0,hk=>omega
  | k+1,hk=>
   rw [encF_cons,opn_some (rdF_frame hx _),opn_all L k _ _ (fun s h=>hs s (by simp [h])) (by omega),List.length_append,hfl]
   simp; omega
section
variable {l:List Cell} (hG:Good l) (size:Int) (hB:(ze0 l size).length≤60000)
include hG hB
theorem parts_small:∀ s∈zb5 l size,s.length≤60000:=by
 intro s hs
 have:∀ L:List (List UInt8),s∈L→s.length≤(encF L).length:=by
  intro L
  induction L with
  | nil=>intro h; cases h
  | cons x L ih=>
   intro h
   rw [encF_cons,List.length_append,zcc]
   rcases List.mem_cons.1 h with e | e
   ·subst e; omega
   ·have:=ih e; omega
 have:=this _ hs
 unfold ze0 at hB
 omega
theorem open_eq:file_open (ze0 l size)=some (true,⟨(zdl l size l.length).1.map zeu,(zdl l size l.length).1.map hdR,filF l⟩,⟨0,0⟩):=by
 have hc:=hG.code
 have hl:=hG.len
 have hps:=parts_small hG size hB
 obtain ⟨h1,h2,h3,h4,h5,h6,h7⟩:=blk_bd hc hl size l.length (Nat.le_refl _)
 have hN:=filN_bd l
 have hop:=opn_all (zb5 l size) (ze0 l size).length [] 0 (fun s h=>by have:=hps s h; omega) (by unfold ze0; omega)
 have hpl:=partsL_len size (l:=l)
 have hop2:opn (ze0 l size).length (ze0 l size) [] 0=(zb5 l size,(ze0 l size).length):=by
  have:opn (ze0 l size).length (encF (zb5 l size)) [] 0=_:=hop
  unfold ze0 at this ⊢
  rw [this]; simp
 unfold file_open
 rw [if_neg (d_f (by omega)),opened_eq _ (by omega),zab,hop2]
 dsimp only
 have hw1:w64 (((zb5 l size).length:Int) - 2)=((zdl l size l.length).1.length:Int):=by rw [hpl,zai (by omega) (by omega)]; omega
 have hw2:w64 (((zdl l size l.length).1.length:Int)+1)=(((zdl l size l.length).1.length+1:Nat):Int):=by rw [zai (by omega) (by omega)]; omega
 have g1:zaf (zb5 l size) (((zdl l size l.length).1.length+1:Nat):Int)=filF l:=by
  unfold zb5
  rw [lget_app_r _ _ _ (by rw [List.length_map]; omega),List.length_map]
  have:(((zdl l size l.length).1.length+1:Nat):Int) - ((zdl l size l.length).1.length:Int)=1:=by omega
  rw [this]; rfl
 have g0:zaf (zb5 l size) ((zdl l size l.length).1.length:Int)=idxL (zdl l size l.length).1:=by
  unfold zb5
  rw [lget_app_r _ _ _ (by rw [List.length_map]; omega),List.length_map,Int.sub_self]; rfl
 have hfl:(filF l).length=filN l:=by unfold filF; rw [zea]
 have hcond:(((!decide (((ze0 l size).length:Int)=((ze0 l size).length:Int)))||(decide (((zdl l size l.length).1.length:Int)<0)))||(decide (((filF l).length:Int)=0)))=false:=by
  simp only [decide_true,Bool.not_true,Bool.false_or,Bool.or_eq_false_iff,decide_eq_false_iff_not]
  omega
 rw [hw1,hw2,g1,hcond,zaa (fun _=>by omega),if_neg (by decide),zaa (by omega),zaa (by omega),zaa (by omega),g0]
 dsimp only [lt,wire_Read_v1]
 unfold file_open_L1
 have htk:zds (zb5 l size) ((zdl l size l.length).1.length:Int)=(zdl l size l.length).1.map zeu:=by
  rw [zce]; unfold zb5; rw [List.take_left' (by rw [List.length_map])]
 have hgk:∀ k:Nat,k<(zdl l size l.length).1.length→zaf (zb5 l size) (k:Int)=zeu (zaf (zdl l size l.length).1 (k:Int)):=fun k hk=>by
  unfold zb5
  rw [lget_app_l _ _ _ (by rw [List.length_map]; omega),zb3 _ k (by simpa using hk),zb3 _ k hk]; simp
 have hidx:(idxL (zdl l size l.length).1).length≤60000:=hps _ (by unfold zb5; simp)
 have hend:file_open_J1 (zb5 l size,((ze0 l size).length:Int)) ((zdl l size l.length).1.map hdR,⟨[],false⟩)=some (true,⟨(zdl l size l.length).1.map zeu,(zdl l size l.length).1.map hdR,filF l⟩,⟨0,0⟩):=by
  unfold file_open_J1 wire_Reader_Ok
  dsimp only [lt]
  rw [hw1,hw2,g1,htk,if_neg (by simp)]
 generalize hgs:(zdl l size l.length).1=gs at *
 refine loop_run (step:=fun y=>zcd (zb5 l size,((ze0 l size).length:Int)) y) gs.length (fun k=>((gs.take k).map hdR,⟨idxL (gs.drop k),false⟩,(k:Int))) (fun k hk=>?_) ?_
 ·have hw:w64 ((k:Int)+1)=((k+1:Nat):Int):=by rw [zai (by omega) (by omega)]; omega
  have hgm:=zcy gs (k:Int) (by omega)
  have hhd:(hdR (zaf gs (k:Int))).length≤40:=by
   obtain ⟨hne,hcs⟩:=h6 _ hgm
   have:zaf (zaf gs (k:Int)) 0∈zaf gs (k:Int):=zcy _ 0 (by have:=List.length_pos_iff.2 hne; omega)
   exact (code_len (hcs _ this)).1
  have hel:(zeu (zaf gs (k:Int))).length≤60000:=by
   have:=hps (zaf (zb5 l size) (k:Int)) (zcy _ _ (by omega))
   rwa [hgk k hk] at this
  have hdr:gs.drop k=zaf gs (k:Int)::gs.drop (k+1):=by rw [zb3 _ k hk]; exact List.drop_eq_getElem_cons hk
  have hid:idxL (gs.drop k)=wrT (hdR (zaf gs (k:Int)))++(num (zeu (zaf gs (k:Int))).length++idxL (gs.drop (k+1))):=by rw [hdr]; simp [idxL]
  have hbd:(idxL (gs.drop k)).length≤60000:=by
   have e:idxL gs=idxL (gs.take k)++idxL (gs.drop k):=by unfold idxL; rw [← List.flatMap_append,List.take_append_drop]
   rw [e,List.length_append] at hidx; omega
  have ht:=text_some (b:=idxL (gs.drop k)) (by omega) (by rw [hid]; exact rdT_wrT (by omega) _)
  have hn:=num_some (b:=num (zeu (zaf gs (k:Int))).length++idxL (gs.drop (k+1))) ht.2 (rdN_num (by omega) _)
  show zcd (zb5 l size,((ze0 l size).length:Int)) ((gs.take k).map hdR,⟨idxL (gs.drop k),false⟩,(k:Int))=_
  unfold zcd
  dsimp only
  rw [hw1,if_pos (d_t (by omega)),ht.1,zab]
  dsimp only
  rw [zaa (by rw [List.length_append,List.length_map,List.length_take,List.length_singleton]; omega),hn.1,zab]
  dsimp only
  rw [zaa (by omega),hgk k hk,if_neg (by simp),hw,lget_take gs k hk,List.map_append]
  rfl
 ·show zcd (zb5 l size,((ze0 l size).length:Int)) ((gs.take gs.length).map hdR,⟨idxL (gs.drop gs.length),false⟩,(gs.length:Int))=_
  have e0:idxL (gs.drop gs.length)=[]:=by rw [List.drop_length]; rfl
  rw [e0,List.take_length]
  unfold zcd
  dsimp only
  rw [hw1,if_neg (d_f (by omega)),hend]; rfl
theorem cells_eq (o2:List UInt8):ze3 ((zdl l size l.length).1.map zeu) ((zdl l size l.length).1.map hdR) o2 0 (((zdl l size l.length).1.map zeu).length:Int)=some (l,true):=by
 have hc:=hG.code
 have hl:=hG.len
 have hps:=parts_small hG size hB
 obtain ⟨h1,h2,h3,h4,h5,h6,h7⟩:=blk_bd hc hl size l.length (Nat.le_refl _)
 rw [blk_end size,List.append_nil,List.take_length] at h7
 have hgp:∀ g∈(zdl l size l.length).1,(zeu g).length≤60000:=fun g hg=>hps _ (by unfold zb5; exact List.mem_append_left _ (List.mem_map.2 ⟨g,hg,rfl⟩))
 generalize hgs:(zdl l size l.length).1=gs at *
 have hfl:∀ k,(gs.take k).flatten.length≤l.length:=fun k=>by
  have e:gs.flatten=(gs.take k).flatten++(gs.drop k).flatten:=by rw [← List.flatten_append,List.take_append_drop]
  rw [← h7,e,List.length_append]; omega
 have hgood:∀ k:Nat,k<gs.length→Good (zaf gs (k:Int)):=fun k hk=>by
  have hgm:=zcy gs (k:Int) (by omega)
  have hsub:(zaf gs (k:Int)).Sublist l:=by
   have hdr:gs.drop k=zaf gs (k:Int)::gs.drop (k+1):=by rw [zb3 _ k hk]; exact List.drop_eq_getElem_cons hk
   have e2:gs.flatten=(gs.take k).flatten++(gs.drop k).flatten:=by rw [← List.flatten_append,List.take_append_drop]
   rw [← h7,e2,hdr,List.flatten_cons]
   exact (List.sublist_append_left _ _).trans (List.sublist_append_right _ _)
  exact good_of (by have:=hsub.length_le; omega) (h6 _ hgm).2 (hG.srt.sublist hsub)
 unfold ze3 file_opened_cells_L1
 rw [List.length_map]
 refine loop_run (step:=fun y=>zbw (gs.length:Int) y) gs.length (fun k=>(⟨gs.map zeu,gs.map hdR,o2⟩,(gs.take k).flatten,(k:Int))) (fun k hk=>?_) ?_
 ·have hw:w64 ((k:Int)+1)=((k+1:Nat):Int):=by rw [zai (by omega) (by omega)]; omega
  have hgm:=zcy gs (k:Int) (by omega)
  have m1:zaf (gs.map hdR) (k:Int)=hdR (zaf gs (k:Int)):=by rw [zb3 _ k (by simpa using hk),zb3 _ k hk]; simp
  have m2:zaf (gs.map zeu) (k:Int)=zeu (zaf gs (k:Int)):=by rw [zb3 _ k (by simpa using hk),zb3 _ k hk]; simp
  have hne:=List.length_pos_iff.2 (h6 _ hgm).1
  have hfk:=hfl (k+1)
  have htk:(gs.take (k+1)).flatten=(gs.take k).flatten++zaf gs (k:Int):=by rw [lget_take gs k hk,List.flatten_append]; simp
  show zbw (gs.length:Int) (⟨gs.map zeu,gs.map hdR,o2⟩,(gs.take k).flatten,(k:Int))=_
  unfold zbw
  dsimp only
  rw [List.length_map,List.length_map,if_pos (d_t (by omega)),zaa (by omega),m1,m2,read_eq,readS_good (hgood k hk) (hgp _ hgm),zab]
  dsimp only
  have hcond:(((!decide ((0:Int)=0))||(decide (((zaf gs (k:Int)).length:Int)=0)))||(!decide ((zaf (zaf gs (k:Int)) 0).Row=hdR (zaf gs (k:Int)))))=false:=by
   have e1:decide (((zaf gs (k:Int)).length:Int)=0)=false:=decide_eq_false (by omega)
   have e2:decide ((zaf (zaf gs (k:Int)) 0).Row=hdR (zaf gs (k:Int)))=true:=decide_eq_true rfl
   rw [e1,e2]; rfl
  rw [hcond,zaa (fun _=>by omega),zaa (fun _=>by omega),zaa (fun _=>by omega),if_neg (by decide),← htk,zaa (by omega),hw]
 ·show zbw (gs.length:Int) (_,(gs.take gs.length).flatten,(gs.length:Int))=_
  rw [List.take_length,h7]
  unfold zbw
  dsimp only
  rw [if_neg (d_f (by omega))]
  unfold zet
  rw [check_eq,hG.f,zab]; rfl
theorem open_made (hl5:l.length≤500):file_Open (ze0 l size)=some (l,⟨0,0⟩):=by
 have hN:=filN_bd l
 unfold file_Open
 rw [open_eq hG size hB,zab]
 dsimp only
 rw [if_neg (by simp),zaa rfl,cells_eq hG size hB,zab]
 dsimp only
 have e5:decide (500<(l.length:Int))=false:=decide_eq_false (by omega)
 have hcond:((!true)||(decide (500<(l.length:Int))))=false:=by rw [e5]; rfl
 rw [hcond,if_neg (by decide),filter_eq l (by omega) (fun c hc=>by have:=(code_len (hG.code c hc)).1; omega),zab,equal_eq _ _ (by unfold filF; rw [zea]; omega),zab,if_neg (by simp)]
end
theorem opn_len:∀ (k:Nat) (b:List UInt8) (acc:List (List UInt8)) (g:Nat),(opn k b acc g).1.length≤acc.length+k∧(opn k b acc g).2≤g+b.length
 | 0,b,acc,g=>by simp [opn]
 | k+1,b,acc,g=>by
  cases h:rdF b with
  | none=>rw [opn_none h]; simp
  | some q=>
   obtain ⟨x,r⟩:=q
   obtain ⟨e,_⟩:=rdF_some h
   have:=opn_len k r (acc++[x]) (g+(x.length+6))
   rw [opn_some h]
   rw [List.length_append,List.length_singleton] at this
   have hl:b.length=x.length+6+r.length:=by rw [e,List.length_append,zcc]
   omega
theorem opn_mem:∀ (k:Nat) (b:List UInt8) (acc:List (List UInt8)) (g:Nat) (s:List UInt8),s∈(opn k b acc g).1→s∈acc∨s.length≤b.length
 | 0,b,acc,g,s,h=>by simp [opn] at h; exact .inl h
 | k+1,b,acc,g,s,h=>by
  cases hr:rdF b with
  | none=>rw [opn_none hr] at h; exact .inl h
  | some q=>
   obtain ⟨x,r⟩:=q
   obtain ⟨e,_⟩:=rdF_some hr
   have hl:b.length=x.length+6+r.length:=by rw [e,List.length_append,zcc]
   rw [opn_some hr] at h
   rcases opn_mem k r _ _ s h with q | q
   ·rcases List.mem_append.1 q with q | q
    ·exact .inl q
    ·rw [List.mem_singleton] at q; rw [q]; right; omega
   ·right; omega
def idxP (L:List (List UInt8)):Nat→Nat→List UInt8→List (List UInt8)→Option (List (List UInt8))
 | 0,_,x,rows=>if x=[] then some rows else none
 | m+1,k,x,rows=>match rdT x with
  | none=>none
  | some (s,r)=>match rdN r with
   | none=>none
   | some (v,r')=>if v=(zaf L (k:Int)).length then idxP L m (k+1) r' (rows++[s]) else none
def opI (L:List (List UInt8)):Option (List (List UInt8))→Bool×opened×Fault
 | some rows=>(true,⟨L.take (L.length - 2),rows,zaf L ((L.length:Int) - 1)⟩,⟨0,0⟩)
 | none=>(false,default,⟨5,1⟩)
section
variable {L:List (List UInt8)} (h2:2≤L.length) (hL:L.length≤100000) (hs:∀ s∈L,s.length≤100000) (z:Int)
include h2 hL hs
theorem open_bad:∀ (m k:Nat) (rows:List (List UInt8)),L.length - 2 - k=m→k≤L.length - 2→rows.length≤k→file_open_L1 (L,z) (rows,⟨[],true⟩,(k:Int))=some (false,default,⟨5,1⟩)
 | 0,k,rows,e,hk,hr=>by
  have hw1:w64 ((L.length:Int) - 2)=(L.length:Int) - 2:=zai (by omega) (by omega)
  refine zah ?_
  unfold zcd
  dsimp only
  rw [hw1,if_neg (d_f (by omega))]
  rfl
 | m+1,k,rows,e,hk,hr=>by
  have hw1:w64 ((L.length:Int) - 2)=(L.length:Int) - 2:=zai (by omega) (by omega)
  have hw:w64 ((k:Int)+1)=((k+1:Nat):Int):=by rw [zai (by omega) (by omega)]; omega
  by_cases c:(0:Int)=((zaf L (k:Int)).length:Int)
  ·refine (zam ?_).trans (open_bad m (k+1) (rows++[[]]) (by omega) (by omega) (by rw [List.length_append,List.length_singleton]; omega))
   unfold zcd
   dsimp only
   rw [hw1,if_pos (d_t (by omega)),text_bad,zab]
   dsimp only
   rw [zaa (by rw [List.length_append,List.length_singleton]; omega),num_bad,zab]
   dsimp only
   rw [zaa (by omega),if_neg (n_f c),hw]
  ·refine zah ?_
   unfold zcd
   dsimp only
   rw [hw1,if_pos (d_t (by omega)),text_bad,zab]
   dsimp only
   rw [zaa (by rw [List.length_append,List.length_singleton]; omega),num_bad,zab]
   dsimp only
   rw [zaa (by omega),if_pos (n_t c)]
   rfl
theorem open_idx:∀ (m k:Nat) (x:List UInt8) (rows:List (List UInt8)),L.length - 2 - k=m→k≤L.length - 2→rows.length≤k→x.length≤100000→file_open_L1 (L,z) (rows,⟨x,false⟩,(k:Int))=some (opI L (idxP L m k x rows))
 | 0,k,x,rows,e,hk,hr,hx=>by
  have hw1:w64 ((L.length:Int) - 2)=(L.length:Int) - 2:=zai (by omega) (by omega)
  have hw2:w64 ((L.length:Int) - 2+1)=(L.length:Int) - 1:=by rw [zai (by omega) (by omega)]; omega
  have ht:zds L ((L.length:Int) - 2)=L.take (L.length - 2):=by
   have:(L.length:Int) - 2=((L.length - 2:Nat):Int):=by omega
   rw [this,zce]
  refine zah ?_
  unfold zcd
  dsimp only
  rw [hw1,if_neg (d_f (by omega))]
  unfold file_open_J1 wire_Reader_Ok
  dsimp only [lt]
  rw [hw1,hw2,ht,idxP]
  by_cases c:x=[]
  ·subst c
   rw [if_pos rfl,if_neg (by simp)]; rfl
  ·have:¬ ((x.length:Int)=0):=fun q=>c (List.eq_nil_of_length_eq_zero (by omega))
   rw [if_neg c,if_pos (by simp; exact c)]; rfl
 | m+1,k,x,rows,e,hk,hr,hx=>by
  have hw1:w64 ((L.length:Int) - 2)=(L.length:Int) - 2:=zai (by omega) (by omega)
  have hw:w64 ((k:Int)+1)=((k+1:Nat):Int):=by rw [zai (by omega) (by omega)]; omega
  have hrl:∀ s:List UInt8,(rows++[s]).length≤k+1:=fun s=>by rw [List.length_append,List.length_singleton]; omega
  rw [idxP]
  cases ht:rdT x with
  | none=>
   have h1:=text_none (by omega) ht
   by_cases c:(0:Int)=((zaf L (k:Int)).length:Int)
   ·refine (zam ?_).trans (open_bad h2 hL hs z m (k+1) (rows++[[]]) (by omega) (by omega) (hrl _))
    unfold zcd
    dsimp only
    rw [hw1,if_pos (d_t (by omega)),h1,zab]
    dsimp only
    rw [zaa (by have:=hrl []; omega),num_bad,zab]
    dsimp only
    rw [zaa (by omega),if_neg (n_f c),hw]
   ·refine zah ?_
    unfold zcd
    dsimp only
    rw [hw1,if_pos (d_t (by omega)),h1,zab]
    dsimp only
    rw [zaa (by have:=hrl []; omega),num_bad,zab]
    dsimp only
    rw [zaa (by omega),if_pos (n_t c)]
    rfl
  | some q=>
   obtain ⟨s,r⟩:=q
   have h1:=text_some (by omega) ht
   have hrx:=rdT_len ht
   dsimp only
   cases hn:rdN r with
   | none=>
    have h3:=num_none (by omega) hn
    by_cases c:(0:Int)=((zaf L (k:Int)).length:Int)
    ·refine (zam ?_).trans (open_bad h2 hL hs z m (k+1) (rows++[s]) (by omega) (by omega) (hrl _))
     unfold zcd
     dsimp only
     rw [hw1,if_pos (d_t (by omega)),h1.1,zab]
     dsimp only
     rw [zaa (by have:=hrl s; omega),h3,zab]
     dsimp only
     rw [zaa (by omega),if_neg (n_f c),hw]
    ·refine zah ?_
     unfold zcd
     dsimp only
     rw [hw1,if_pos (d_t (by omega)),h1.1,zab]
     dsimp only
     rw [zaa (by have:=hrl s; omega),h3,zab]
     dsimp only
     rw [zaa (by omega),if_pos (n_t c)]
     rfl
   | some q=>
    obtain ⟨v,r'⟩:=q
    have h3:=num_some (by omega) hn
    have hrr:r'.length≤r.length:=by
     obtain ⟨e',_⟩:=rdN_some hn
     rw [e',List.length_append]; omega
    dsimp only
    by_cases c:v=(zaf L (k:Int)).length
    ·rw [if_pos c]
     refine (zam ?_).trans (open_idx m (k+1) r' (rows++[s]) (by omega) (by omega) (hrl _) (by omega))
     unfold zcd
     dsimp only
     rw [hw1,if_pos (d_t (by omega)),h1.1,zab]
     dsimp only
     rw [zaa (by have:=hrl s; omega),h3.1,zab]
     dsimp only
     rw [zaa (by omega),if_neg (n_f (by omega)),hw]
    ·rw [if_neg c]
     refine zah ?_
     unfold zcd
     dsimp only
     rw [hw1,if_pos (d_t (by omega)),h1.1,zab]
     dsimp only
     rw [zaa (by have:=hrl s; omega),h3.1,zab]
     dsimp only
     rw [zaa (by omega),if_pos (n_t (by omega))]
     rfl
end
def badO (b:List UInt8):Prop:=(opn b.length b [] 0).2≠b.length∨(opn b.length b [] 0).1.length<2∨(zaf (opn b.length b [] 0).1 (((opn b.length b [] 0).1.length:Int) - 1)).length=0
instance (b:List UInt8):Decidable (badO b):=inferInstanceAs (Decidable (_∨_))
def idxO (L:List (List UInt8)):Option (List (List UInt8)):=idxP L (L.length - 2) 0 (zaf L ((L.length:Int) - 2)) []
def openS (b:List UInt8):Bool×opened×Fault:=
 if 60000<b.length then (false,default,⟨8,0⟩)
 else if badO b then (false,default,⟨5,0⟩)
 else opI (opn b.length b [] 0).1 (idxO (opn b.length b [] 0).1)
theorem open_all (b:List UInt8):file_open b=some (openS b):=by
 unfold file_open openS
 by_cases c:60000<b.length
 ·rw [if_pos (d_t (by omega)),if_pos c]; rfl
 ·have hlen:=opn_len b.length b [] 0
  have hmem:=fun s h=>opn_mem b.length b [] 0 s h
  obtain ⟨L,n,hop⟩:∃ L n,opn b.length b [] 0=(L,n):=⟨_,_,rfl⟩
  have hb:badO b↔(n≠b.length∨L.length<2∨(zaf L ((L.length:Int) - 1)).length=0):=by unfold badO; rw [hop]
  rw [if_neg (d_f (by omega)),if_neg c,opened_eq _ (by omega),zab,hop]
  rw [hop] at hlen hmem
  dsimp only at hlen hmem ⊢
  unfold idxO
  have hL:L.length≤60000:=by have:=hlen.1; simp at this; omega
  have hw1:w64 ((L.length:Int) - 2)=(L.length:Int) - 2:=zai (by omega) (by omega)
  have hw2:w64 ((L.length:Int) - 2+1)=(L.length:Int) - 1:=by rw [zai (by omega) (by omega)]; omega
  rw [hw1,hw2]
  have hcond:(((!decide ((n:Int)=(b.length:Int)))||(decide ((L.length:Int) - 2<0)))||(decide (((zaf L ((L.length:Int) - 1)).length:Int)=0)))=decide (n≠b.length∨L.length<2∨(zaf L ((L.length:Int) - 1)).length=0):=by
   rw [Bool.eq_iff_iff]
   simp only [Bool.or_eq_true,decide_eq_true_eq,Bool.not_eq_true',decide_eq_false_iff_not]
   omega
  rw [hcond,zaa (fun q=>by
   simp only [Bool.not_eq_true',Bool.or_eq_false_iff,decide_eq_false_iff_not,Bool.not_eq_false'] at q
   omega)]
  by_cases cb:n≠b.length∨L.length<2∨(zaf L ((L.length:Int) - 1)).length=0
  ·rw [if_pos (d_t cb),if_pos (hb.2 cb)]; rfl
  ·rw [if_neg (d_f cb),if_neg (fun q=>cb (hb.1 q)),zaa (by omega),zaa (by omega),zaa (by omega)]
   dsimp only [lt,wire_Read_v1]
   have hs:∀ s∈L,s.length≤100000:=fun s h=>by
    rcases hmem s h with q | q
    ·cases q
    ·omega
   exact open_idx (by omega) (by omega) hs (n:Int) (L.length - 2) 0 _ [] (by omega) (by omega) (by simp) (hs _ (zcy L _ (by omega)))
section
variable {L:List (List UInt8)} (h2:2≤L.length) (hL:L.length≤100000) (hs:∀ s∈L,s.length≤100000) (z:Int) (f:Fault)
include h2 hL hs
theorem ridx:∀ (m k:Nat) (x:List UInt8) (rows:List (List UInt8)),L.length - 2 - k=m→k≤L.length - 2→rows.length≤k→x.length≤100000→R_OpenedFile_L2 (L,z) (f,x,rows,(k:Int))=match idxP L m k x rows with
  | some rs=>R_OpenedFile_L1 (L,z) (f,[],rs) (f,[],[],0)
  | none=>some ([],[],⟨5,1⟩)
 | 0,k,x,rows,e,hk,hr,hx=>by
  have hw1:w64 ((L.length:Int) - 2)=(L.length:Int) - 2:=zai (by omega) (by omega)
  have hB:zek (L,z) (f,x,rows,(k:Int))=zem (R_OpenedFile_J1 (L,z) (f,x,rows)):=by
   unfold zek
   dsimp only
   rw [hw1,if_neg (d_f (by omega))]
  unfold R_OpenedFile_L2
  rw [loopO_eq,hB,idxP]
  unfold R_OpenedFile_J1
  dsimp only
  by_cases c:x=[]
  ·subst c
   rw [if_pos rfl,if_neg (by simp)]
   dsimp only
   cases R_OpenedFile_L1 (L,z) (f,[],rows) (f,[],[],0) <;> rfl
  ·have:0<(x.length:Int):=by have:=List.length_pos_iff.2 c; omega
   rw [if_neg c,if_pos (d_t this)]; rfl
 | m+1,k,x,rows,e,hk,hr,hx=>by
  have hw1:w64 ((L.length:Int) - 2)=(L.length:Int) - 2:=zai (by omega) (by omega)
  have hw:w64 ((k:Int)+1)=((k+1:Nat):Int):=by rw [zai (by omega) (by omega)]; omega
  rw [idxP]
  cases hn:rdN x with
  | none=>
   have ht:rdT x=none:=by unfold rdT; rw [hn]
   have ha:rnat x=(0,0):=by unfold rnat; rw [hn]
   rw [ht]
   refine zah ?_
   unfold zek
   dsimp only
   rw [hw1,if_pos (d_t (by omega)),numAt_eq x (by omega),zab,ha,if_pos (by simp)]; rfl
  | some q=>
   obtain ⟨n,r⟩:=q
   obtain ⟨ex,hn9⟩:=rdN_some hn
   have hlx:x.length=(num n).length+r.length:=by rw [ex,List.length_append]
   have hnp:0<(num n).length:=num_pos n
   have ha:rnat x=((n:Int),((num n).length:Int)):=by unfold rnat; rw [hn]
   have hwr:w64 ((x.length:Int) - ((num n).length:Int))=(r.length:Int):=by rw [zai (by omega) (by omega)]; omega
   by_cases cn:n≤r.length
   ·have ht:rdT x=some (r.take n,r.drop n):=by unfold rdT; rw [hn]; dsimp only; rw [if_pos cn]
    have hwc:w64 (((num n).length:Int)+(n:Int))=(((num n).length+n:Nat):Int):=by rw [zai (by omega) (by omega)]; omega
    have hd1:zdu (zds x (((num n).length+n:Nat):Int)) ((num n).length:Int)=r.take n:=by
     rw [zce,zb0,ex,List.take_append,List.drop_append]
     simp
    have hd2:zdu x (((num n).length+n:Nat):Int)=r.drop n:=by rw [zb0,ex,List.drop_append]; simp
    rw [ht]
    dsimp only
    have hrd:(r.drop n).length≤100000:=by rw [List.length_drop]; omega
    have hrl:(rows++[r.take n]).length≤k+1:=by rw [List.length_append,List.length_singleton]; omega
    have pre:∀ y,(ob (R_NumberAt (r.drop n)) fun x13=>
       zaq ((!(decide (x13.2=0)))=true→0≤(k:Int)∧(k:Int)<(L.length:Int)) <|
       zaq ((!(decide (x13.2=0)))=true→0≤(k:Int)∧(k:Int)<(L.length:Int)) <|
       if ((decide (x13.2=0))||(!decide (x13.1=((zaf L (k:Int)).length:Int))))=true then
        lt (R_F 5 1) fun x14=>
        some (Sum.inr (([]:List Cell),([]:List Int),x14))
       else
        zaq (0≤x13.2∧x13.2≤((r.drop n).length:Int)) <|
        some (Sum.inl (f,(zdu (r.drop n) x13.2),rows++[r.take n],w64 ((k:Int)+1))))=y→zek (L,z) (f,x,rows,(k:Int))=y:=by
     intro y hy
     unfold zek
     dsimp only
     have hcond:((decide (((num n).length:Int)=0))||(decide ((r.length:Int)<(n:Int))))=false:=by
      rw [Bool.or_eq_false_iff]; exact ⟨decide_eq_false (by omega),decide_eq_false (by omega)⟩
     rw [hw1,if_pos (d_t (by omega)),numAt_eq x (by omega),zab,ha]
     dsimp only
     rw [hwr,hcond,if_neg (by decide),hwc,zaa (by omega),hd1,zaa (by omega)]
     dsimp only [lt]
     rw [zaa (by omega),hd2]
     exact hy
    cases hm:rdN (r.drop n) with
    | none=>
     have ha2:rnat (r.drop n)=(0,0):=by unfold rnat; rw [hm]
     refine zah (pre _ ?_)
     rw [numAt_eq _ (by omega),zab,ha2,zaa (fun q=>by simp at q),zaa (fun q=>by simp at q),if_pos (by simp)]; rfl
    | some q=>
     obtain ⟨v,r'⟩:=q
     obtain ⟨er,_⟩:=rdN_some hm
     have hlr:(r.drop n).length=(num v).length+r'.length:=by rw [er,List.length_append]
     have hvp:0<(num v).length:=num_pos v
     have ha2:rnat (r.drop n)=((v:Int),((num v).length:Int)):=by unfold rnat; rw [hm]
     have hd3:zdu (r.drop n) ((num v).length:Int)=r':=by rw [zb0,er,List.drop_left]
     dsimp only
     by_cases c:v=(zaf L (k:Int)).length
     ·rw [if_pos c]
      refine (zam (pre _ ?_)).trans (ridx m (k+1) r' (rows++[r.take n]) (by omega) (by omega) hrl (by omega))
      have hc2:((decide (((num v).length:Int)=0))||(!decide ((v:Int)=((zaf L (k:Int)).length:Int))))=false:=by
       rw [Bool.or_eq_false_iff]; exact ⟨decide_eq_false (by omega),by rw [d_t (by omega)]; rfl⟩
      rw [numAt_eq _ (by omega),zab,ha2,zaa (fun _=>by omega),zaa (fun _=>by omega)]
      dsimp only
      rw [hc2,if_neg (by decide),zaa (by omega),hd3,hw]
     ·rw [if_neg c]
      refine zah (pre _ ?_)
      have hc2:((decide (((num v).length:Int)=0))||(!decide ((v:Int)=((zaf L (k:Int)).length:Int))))=true:=by
       have:decide ((v:Int)=((zaf L (k:Int)).length:Int))=false:=decide_eq_false (by omega)
       rw [this]; simp
      rw [numAt_eq _ (by omega),zab,ha2,zaa (fun _=>by omega),zaa (fun _=>by omega)]
      dsimp only
      rw [hc2,if_pos rfl]; rfl
   ·have ht:rdT x=none:=by unfold rdT; rw [hn]; dsimp only; rw [if_neg cn]
    rw [ht]
    refine zah ?_
    unfold zek
    dsimp only
    rw [hw1,if_pos (d_t (by omega)),numAt_eq x (by omega),zab,ha]
    dsimp only
    rw [hwr,if_pos (by simp only [Bool.or_eq_true,decide_eq_true_eq]; right; omega)]; rfl
end
end G
end Go.Proofs.YticbfakiihfgmaaGreat
