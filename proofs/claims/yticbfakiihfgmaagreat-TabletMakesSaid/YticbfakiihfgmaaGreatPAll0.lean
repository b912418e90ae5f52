/- The plain law. -/
import Derived.Test.YticbfakiihfgmaaGreatEmE
import Derived.Test.YticbfakiihfgmaaGreatGf5
import Derived.Test.YticbfakiihfgmaaGreatEmD
namespace Go.Proofs.YticbfakiihfgmaaGreat
open Go Go.Dm
set_option linter.unusedVariables false
set_option linter.unusedSimpArgs false
set_option linter.unusedSectionVars false
namespace G
theorem addNum_loop (n:Nat):∀ (r:B8),r.length+(num n).length<=1000000000000->zl8 (r,(n:Int))=some (r++num n):=by
 induction n using Nat.strongRecOn with
 | _ n ih=>
  intro r h
  by_cases c:n<128
  ·rw [zo2 c] at h ⊢
   refine zah ?_
   simp only [zjg]
   rw [ifF ..]
   simp only [zjn,zeq]
   rw [zaa (by simp at h ⊢; omega)]; rfl
  ·rw [num_ge c] at h ⊢
   have e7:(2:Int) ^ (min (7:Int).toNat 64)=((128:Nat):Int):=by decide
   have e8:(UInt8.ofNat n).toNat % 128+128=n % 128+128:=by rw [xb5]; omega
   refine (zak (y:=(r++[UInt8.ofNat (n % 128+128)],((n / 128:Nat):Int))) ?_).trans ((ih (n / 128) (by omega) _ (by simp at h ⊢; omega)).trans (by simp))
   simp only [zjg,or128]
   rw [zeq,e8,e7,zqg,ifT ..,zaa (by simp at h ⊢; omega)]
   rfl
theorem addNum_eq (n:Nat)(r:B8)(h:r.length+(num n).length<=1000000000000):zfm (n:Int) r=some (r++num n):=addNum_loop n r h
def rfin (bd:Bool):Option (Nat×B8)->Int×Reader
 | some (n,r)=>((n:Int),⟨r,bd⟩)
 | none=>(0,⟨[],true⟩)
theorem pow128 (i:Nat):128 ^ i=2 ^ (7*i):=by rw [Nat.pow_mul]
theorem num_loop (b:B8)(bd:Bool)(hb:b.length<=1000000000000):∀ (m i n:Nat),b.length - i=m->i<=b.length->i<=5->n<128 ^ i->
  zk8 (⟨b,bd⟩,(n:Int),b,(b.length:Int),(i:Int))=some (rfin bd (go i n (b.drop i)))
 | 0,i,n,e,hi,h5,hn=>by
  have:i=b.length:=by omega
  subst this
  refine zah ?_
  simp only [zd2]
  rw [ifF ..]
  simp [zev,ze9,go,rfin]
 | m+1,i,n,e,hi,h5,hn=>by
  have hlt:i<b.length:=by omega
  have hw:w64 ((i:Int)+1)=((i+1:Nat):Int):=by rw [zai ..]; omega
  have hw7:w64 (7*(i:Int))=((7*i:Nat):Int):=by rw [zai ..]; omega
  rw [zct b i hlt,go]
  generalize hx:zad b (i:Int)=x
  by_cases c5:4<i
  ·rw [xac (.inl c5)]
   refine zah ?_
   simp only [zd2]
   rw [ifT ..,zaa ..,zaa ..]
   have c5':decide (4<(i:Int))=true:=d_t ..
   simp only [lt,c5',Bool.true_or,xc4]
   rfl
  ·have hP:128 ^ i<=128 ^ 4:=Nat.pow_le_pow_right (by omega) (by omega)
   have hP4:(128:Nat) ^ 4=268435456:=by decide
   have hy:x.toNat % 128<128:=by omega
   have hyP:x.toNat % 128*128 ^ i<=127*128 ^ 4:=Nat.mul_le_mul (by omega) hP
   have epow:(2:Int) ^ (min (((7*i:Nat):Int)).toNat 64)=((128 ^ i:Nat):Int):=by
    rw [xbe,show min (7*i) 64=7*i by omega,pow128]; simp
   have e2:zf8 .or .i64 (n:Int) (w64 ((w64 ((x.toNat % 128:Nat):Int))*((128 ^ i:Nat):Int)))=((n+x.toNat % 128*128 ^ i:Nat):Int):=by
    rw [zai (x:=((x.toNat % 128:Nat):Int)) (by omega) (by omega),<- xdl,zai ..,bits_or64 (by omega) (by omega)]
    rw [pow128] at hn ⊢
    rw [or_add hn]
   by_cases cb:1000000000<n+x.toNat % 128*128 ^ i
   ·rw [xac (.inr cb)]
    refine zah ?_
    simp only [zd2,hw7,hx,and127,epow,e2]
    rw [ifT ..,zaa ..,zaa ..]
    have cb':decide ((1000000000:Int)<((n+x.toNat % 128*128 ^ i:Nat):Int))=true:=d_t ..
    simp only [lt,cb',Bool.or_true,xc4]
    rfl
   ·rw [xab (by omega)]
    have cb':(decide (4<(i:Int))||decide ((1000000000:Int)<((n+x.toNat % 128*128 ^ i:Nat):Int)))=false:=by rw [xb4]; exact ⟨xa0 (by omega),xa0 (by omega)⟩
    have e128:((128:UInt8).toNat:Int)=128:=by decide
    have e0:((0:UInt8).toNat:Int)=0:=by decide
    by_cases cx:x.toNat<128
    ·rw [xac cx]
     by_cases c0:0<i/\x.toNat=0
     ·rw [xac c0]
      refine zah ?_
      simp only [zd2,hw7,hx,and127,epow,e2,e128,e0]
      rw [ifT ..,zaa ..,zaa ..]
      simp only [lt,cb',xcc,xd0]
      rw [ifT ..,xac (by simp; omega)]
      rfl
     ·rw [xab c0]
      refine zah ?_
      simp only [zd2,hw7,hx,and127,epow,e2,e128,e0,hw]
      rw [ifT ..,zaa ..,zaa ..]
      simp only [lt,cb',xcc,xd0]
      rw [ifT ..,xab (by simp; omega),zaa ..,zb8]
      rfl
    ·rw [xab cx]
     have ih:=num_loop b bd hb m (i+1) (n+x.toNat % 128*128 ^ i) (by omega) (by omega) (by omega) (by
      rw [xd6]
      have:x.toNat % 128*128 ^ i<=127*128 ^ i:=xbd _ (by omega)
      omega)
     refine (zak (y:=((⟨b,bd⟩:Reader),((n+x.toNat % 128*128 ^ i:Nat):Int),b,(b.length:Int),((i+1:Nat):Int))) ?_).trans ih
     simp only [zd2,hw7,hx,and127,epow,e2,e128,e0,hw]
     rw [ifT ..,zaa ..,zaa ..]
     simp only [lt,cb',xcc,xd0]
     rw [ifF ..]
theorem num_eq (b:B8)(bd:Bool)(hb:b.length<=1000000000000):zcd ⟨b,bd⟩=some (rfin bd (rdN b)):=by
 have:=num_loop b bd hb b.length 0 0 (by omega) (by omega) (by omega) (by simp)
 rw [xb3,go_rdN] at this
 exact this
theorem rnumber (n:Nat)(hn:n<=9223372036854775807):zpx (n:Int)=some (num n):=by
 have h1:∀ n:Nat,n<=9223372036854775807->128<=n->w64 (Int.tdiv (n:Int) 128)=((n / 128:Nat):Int)/\zew (w64 ((Int.tmod (n:Int) 128)+128))=UInt8.ofNat (n % 128+128):=by
  intro n hn h
  have e1:Int.tdiv (n:Int) 128=((n / 128:Nat):Int):=zsk n 128
  have e2:Int.tmod (n:Int) 128+128=((n % 128+128:Nat):Int):=by
   have:Int.tmod (n:Int) 128=((n % 128:Nat):Int):=zob n 128
   omega
  rw [e1,e2,zai ..,zai ..,zeq]
  exact ⟨rfl,rfl⟩
 have:=recO_spec (S:=fun rec (x:Int)=>zjb rec x) (fun x=>0<=x/\x<=9223372036854775807) (fun x=>x.toNat) (fun x=>num x.toNat)
  (by
   intro x f hI ih r e
   obtain ⟨n,rfl⟩:∃ n:Nat,x=(n:Int):=⟨x.toNat,by omega⟩
   simp only [zjb,xbe] at e ih ⊢
   by_cases c:n<128
   ·rw [ifT ..,zeq] at e
    rw [zo2 c]; exact (zq5 e).symm
   ·rw [ifF ..,(h1 n (by omega) (by omega)).1,(h1 n (by omega) (by omega)).2] at e
    obtain ⟨y,e1,e⟩:=ob_elim e
    obtain ⟨_,e⟩:=zpg e
    have:=ih _ y (by omega) (by omega) e1
    rw [xbe] at this
    rw [num_ge c,<- zq5 e,this]; rfl)
  (by
   intro x f hI ih
   obtain ⟨n,rfl⟩:∃ n:Nat,x=(n:Int):=⟨x.toNat,by omega⟩
   simp only [zjb,xbe] at ih ⊢
   by_cases c:n<128
   ·rw [ifT ..,zeq,zo2 c]
   ·have hl:=num_len 8 (n / 128) (by omega)
    have e3:=ih ((n / 128:Nat):Int) (by omega) (by omega)
    rw [xbe] at e3
    rw [ifF ..,(h1 n (by omega) (by omega)).1,(h1 n (by omega) (by omega)).2,e3,zac,zaa (by simp; omega),num_ge c]; rfl)
  (x:=(n:Int)) (by omega)
 unfold zpx
 rw [this,xbe]
theorem rnumber1 (n:Nat)(hn:n<=9223372036854775807):zph (n:Int)=some (num n):=by
 unfold zph
 by_cases c:n<128
 ·rw [ifT ..,zeq,zo2 c]
 ·have e1:Int.tdiv (n:Int) 128=((n / 128:Nat):Int):=zsk n 128
  have e2:Int.tmod (n:Int) 128+128=((n % 128+128:Nat):Int):=by
   have:Int.tmod (n:Int) 128=((n % 128:Nat):Int):=zob n 128
   omega
  have hl:=num_len 8 (n / 128) (by omega)
  rw [ifF ..,e1,e2,zai ..,zai ..,zeq,rnumber _ (by omega),zac,zaa (by simp; omega),num_ge c]; simp
def val:B8->Nat
 | []=>0
 | x::l=>x.toNat % 128+128*val l
theorem val_num (n:Nat):val (num n)=n:=by
 induction n using Nat.strongRecOn with
 | _ n ih=>
  by_cases c:n<128
  ·rw [zo2 c]; simp only [val]; rw [u8_of (by omega)]; omega
  ·rw [num_ge c]; simp only [val]; rw [ih _ (by omega),u8_of (by omega)]; omega
theorem val_lt:∀ l:B8,val l<128 ^ l.length
 | []=>by simp [val]
 | x::l=>by
  have:=val_lt l
  simp only [val,xah,xd6]; omega
theorem val_lt5 {l:B8}(h:l.length<=5):val l<34359738368:=by
 have h1:=val_lt l
 have h2:128 ^ l.length<=128 ^ 5:=Nat.pow_le_pow_right (by omega) h
 have h3:(128:Nat) ^ 5=34359738368:=by decide
 omega
theorem numAt_L2 (b:B8)(k:Nat)(hk:k<=5)(hkb:k<=b.length):∀ (j:Nat),j<=k->∀ r,zht b (k:Int) ((val (b.take k):Nat):Int)=some r->
  zsm b (k:Int) ((val ((b.take k).drop j):Nat),(j:Int) - 1)=some r
 | 0,hj,r,h=>by
  refine zah ?_
  simp only [zod]
  rw [ifF ..,xb3,h]; rfl
 | j+1,hj,r,h=>by
  have ih:=numAt_L2 b k hk hkb j (by omega) r h
  have hlt:j<(b.take k).length:=by simp; omega
  have hv:=val_lt5 (l:=(b.take k).drop (j+1)) (by simp; omega)
  have hg:zad (b.take k) (j:Int)=zad b (j:Int):=by
   have:=zml b (k:Int) (j:Int) (by omega)
   rwa [zde] at this
  rw [zct _ _ hlt,hg] at ih
  simp only [val] at ih
  have e1:((j+1:Nat):Int) - 1=(j:Int):=by omega
  rw [e1]
  refine (zak ?_).trans ih
  simp only [zod]
  have h8:=(zad b (j:Int)).toNat_lt
  have e3:Int.tmod (((zad b (j:Int)).toNat:Nat):Int) 128=(((zad b (j:Int)).toNat % 128:Nat):Int):=zob _ 128
  rw [ifT ..,zaa ..,zai (x:=((zad b (j:Int)).toNat:Int)) (by omega) (by omega),e3,zai (x:=((val ((b.take k).drop (j+1)):Nat):Int)*128) (by omega) (by omega),zai ..,zai ..]
  have e4:((val ((b.take k).drop (j+1)):Nat):Int)*128+(((zad b (j:Int)).toNat % 128:Nat):Int)=(((zad b (j:Int)).toNat % 128+128*val ((b.take k).drop (j+1)):Nat):Int):=by omega
  simp only [lt,e4]
def rnat (b:B8):Int×Int:=match rdN b with
 | some (n,_)=>((n:Int),((num n).length:Int))
 | none=>(0,0)
def hits (b:B8)(j:Nat):Prop:=val (b.take j)<=1000000000/\num (val (b.take j))=b.take j
theorem numAt_loop (b:B8)(hb:b.length<=1000000000000):∀ (m k:Nat),6 - k=m->1<=k->k<=6->(∀ j,1<=j->j<k->j<=b.length->¬ hits b j)->zsd b (k:Int)=some (rnat b)
 | m,k,e,h1,h6,hn=>by
  by_cases c:k<=5/\k<=b.length
  ·have hv:=val_lt5 (l:=b.take k) (by simp; omega)
   have hlk:(b.take k).length=k:=by simp; omega
   have hw:w64 ((k:Int)+1)=((k+1:Nat):Int):=by rw [zai ..]; omega
   have step:∀ r,zht b (k:Int) ((val (b.take k):Nat):Int)=some r->zl0 b (k:Int)=some r:=by
    intro r hr
    have:=numAt_L2 b k c.1 c.2 k (by omega) r hr
    have e0:(b.take k).drop k=[]:=xcf (by omega)
    rw [e0] at this
    simp only [zl0]
    rw [xac (by simp; omega),zai ..]
    exact this
   by_cases ch:hits b k
   ·refine zah ?_
    rw [step (.inr (((val (b.take k):Nat):Int),(k:Int)))]
    ·have hd:rdN b=some (val (b.take k),b.drop k):=by
      have:=rdN_num ch.1 (b.drop k)
      rwa [ch.2,xa1] at this
     unfold rnat
     rw [hd]
     simp only [ch.2,hlk]
    ·unfold zht
     rw [xac (d_t (by have:=ch.1; omega)),rnumber1 _ (by omega),zac,zaa (fun _=>by omega),zde]
     have hl:((val (b.take k):Nat):Int)<=1000000000:=by have:=ch.1; omega
     simp [lt,zl1,ch.2,hl]
   ·match m,e with
    | 0,e=>omega
    | m+1,e=>
    refine (zak (y:=((k+1:Nat):Int)) ?_).trans (numAt_loop b hb m (k+1) (by omega) (by omega) (by omega) (fun j hj1 hj2 hj3=>by
     by_cases hjk:j=k
     ·subst hjk; exact ch
     ·exact hn j hj1 (by omega) hj3))
    refine step _ ?_
    unfold zht
    by_cases cv:val (b.take k)<=1000000000
    ·have cn:¬ num (val (b.take k))=b.take k:=fun h=>ch ⟨cv,h⟩
     rw [ifT ..,rnumber1 _ (by omega),zac,zaa (fun _=>by omega),zde]
     simp [lt,zl1,cn,hw]
    ·rw [ifF ..,zac,zaa (fun _=>by omega)]
     have:decide (((val (b.take k):Nat):Int)<=1000000000)=false:=by simp; omega
     simp [lt,this,hw]
  ·refine zah ?_
   simp only [zl0]
   rw [xab (by simp; omega)]
   have hd:rdN b=none:=by
    cases hd:rdN b with
    | none=>rfl
    | some p=>
     exfalso
     obtain ⟨n,r⟩:=p
     obtain ⟨h2,h3⟩:=zf6 hd
     have hl:=zie h3
     have hp:=num_pos n
     have hbl:b.length=(num n).length+r.length:=by rw [h2,xaa]
     have ht:b.take (num n).length=num n:=by
      have:(num n++r).take (num n).length=num n:=by simp
      rw [<- h2] at this; exact this
     exact hn (num n).length (by omega) (by omega) (by omega) ⟨by rw [ht,val_num]; exact h3,by rw [ht,val_num]⟩
   unfold rnat
   rw [hd]; rfl
theorem zny (b:B8)(hb:b.length<=1000000000000):zkq b=some (rnat b):=by
 have:=numAt_loop b hb 5 1 (by omega) (by omega) (by omega) (fun j h1 h2=>by omega)
 exact this
theorem addText_eq (s r:B8)(hs:s.length<=1000000000)(hr:r.length<=1000000000):ze6 s r=some (r++wrT s):=by
 have h5:=zie hs
 unfold ze6
 rw [addNum_eq s.length r (by omega),zac,zaa (by simp; omega),xaf]; rfl
theorem zno (s:B8)(hs:s.length<=1000000000):(wrT s).length<=s.length+5/\s.length<(wrT s).length:=by
 have h5:=zie hs
 have h1:=num_pos s.length
 unfold wrT
 simp; omega
def tfin:Option (B8×B8)->B8×Reader
 | some (s,r)=>(s,⟨r,false⟩)
 | none=>([],⟨[],true⟩)
theorem text_eq (b:B8)(hb:b.length<=1000000000):zcq ⟨b,false⟩=some (tfin (rdT b)):=by
 have h0:=num_eq b false (by omega)
 unfold zcq
 cases hd:rdN b with
 | none=>
  have e:rdT b=none:=by simp [rdT,hd]
  have h1:zcd ⟨b,false⟩=some (0,⟨[],true⟩):=by rw [h0,hd]; rfl
  rw [h1,zac,e]; rfl
 | some p=>
  obtain ⟨n,r⟩:=p
  have hn:=(zf6 hd).2
  have h1:zcd ⟨b,false⟩=some ((n:Int),⟨r,false⟩):=by rw [h0,hd]; rfl
  rw [h1,zac]
  dsimp only
  rw [xd1]
  by_cases c:n<=r.length
  ·have e:rdT b=some (r.take n,r.drop n):=by simp [rdT,hd,c]
   rw [ifF ..,zaa ..,zaa ..,zde,zb8,e]; rfl
  ·have e:rdT b=none:=by simp [rdT,hd,c]
   rw [ifT ..,e]; rfl
theorem rdT_len {b s r:B8}(h:rdT b=some (s,r)):r.length<b.length:=by
 obtain ⟨h1,h2⟩:=rdT_some h
 have:=(zno s h2).2
 rw [h1,xaa]; omega
def ah (a b:Cell):Prop:=Op.bytesLess a.Row b.Row=true\/(a.Row=b.Row/\(Op.bytesLess a.Col b.Col=true\/(a.Col=b.Col/\b.Time<a.Time)))
theorem za0 (a b:Cell):zcf a b=true↔ah a b:=by
 unfold zcf ah
 by_cases h1:a.Row=b.Row
 ·rw [xab (n_f h1)]
  have e1:Op.bytesLess a.Row b.Row=false:=by rw [h1,zkv]
  by_cases h2:a.Col=b.Col
  ·rw [xab (n_f h2)]
   have e2:Op.bytesLess a.Col b.Col=false:=by rw [h2,zkv]
   simp [h1,h2,zkv]
  ·rw [xac (n_t h2)]
   simp [h1,h2,zkv]
 ·rw [xac (n_t h1)]
  simp [h1]
theorem ahead_f {a b:Cell}:zcf a b=false↔¬ ah a b:=by
 rw [<- za0]; simp
theorem ah_irr (a:Cell):¬ ah a a:=by
 unfold ah; simp [zkv]
theorem zpz {a b c:Cell}(h1:ah a b)(h2:ah b c):ah a c:=by
 unfold ah at *
 rcases h1 with h1 | ⟨e1,h1⟩
 ·rcases h2 with h2 | ⟨e2,h2⟩
  ·exact .inl (bl_trans h1 h2)
  ·rw [<- e2]; exact .inl h1
 ·rcases h2 with h2 | ⟨e2,h2⟩
  ·rw [e1]; exact .inl h2
  ·refine .inr ⟨e1.trans e2,?_⟩
   rcases h1 with h1 | ⟨f1,h1⟩
   ·rcases h2 with h2 | ⟨f2,h2⟩
    ·exact .inl (bl_trans h1 h2)
    ·rw [<- f2]; exact .inl h1
   ·rcases h2 with h2 | ⟨f2,h2⟩
    ·rw [f1]; exact .inl h2
    ·exact .inr ⟨f1.trans f2,by omega⟩
theorem zs8 {a b:Cell}(h1:ah a b):¬ ah b a:=fun h2=>ah_irr a (zpz h1 h2)
def key (a b:Cell):Prop:=a.Row=b.Row/\a.Col=b.Col/\a.Time=b.Time
theorem ah_tri (a b:Cell):ah a b\/key a b\/ah b a:=by
 unfold ah key
 rcases bl_tri a.Row b.Row with h | h | h
 ·exact .inl (.inl h)
 ·rcases bl_tri a.Col b.Col with g | g | g
  ·exact .inl (.inr ⟨h,.inl g⟩)
  ·by_cases c1:b.Time<a.Time
   ·exact .inl (.inr ⟨h,.inr ⟨g,c1⟩⟩)
   ·by_cases c2:a.Time<b.Time
    ·exact .inr (.inr (.inr ⟨h.symm,.inr ⟨g.symm,c2⟩⟩))
    ·exact .inr (.inl ⟨h,g,by omega⟩)
  ·exact .inr (.inr (.inr ⟨h.symm,.inl g⟩))
 ·exact .inr (.inr (.inl h))
def cmpS (x y:B8):Int:=if Op.bytesLess x y=true then -1 else if Op.bytesLess y x=true then 1 else 0
theorem cmpS_eq (x y:B8):zfc x y=cmpS x y:=by
 simp [zfc,zhz,lt,cmpS]
def cmpI (x y:Int):Int:=if x<y then -1 else if y<x then 1 else 0
theorem cmpI_eq (x y:Int):ziz x y=cmpI x y:=by
 simp [ziz,zlt,lt,cmpI]
theorem or_eq (x y z:Int):zq8 [x,y,z]=some (if x≠0 then x else if y≠0 then y else z):=by
 have w1:w64 (0+1)=1:=by decide
 have w2:w64 (1+1)=2:=by decide
 have w3:w64 (2+1)=3:=by decide
 have g0:zad [x,y,z] 0=x:=rfl
 have g1:zad [x,y,z] 1=y:=rfl
 have g2:zad [x,y,z] 2=z:=rfl
 have b0:ze0 [x,y,z] 0=if x≠0 then some (.inr x) else some (.inl 1):=by
  simp only [ze0]
  rw [xac (d_t (by simp)),zaa (by simp),g0,w1]
  by_cases h:x=0 <;> simp [h]
 have b1:ze0 [x,y,z] 1=if y≠0 then some (.inr y) else some (.inl 2):=by
  simp only [ze0]
  rw [xac (d_t (by simp)),zaa (by simp),g1,w2]
  by_cases h:y=0 <;> simp [h]
 have b2:ze0 [x,y,z] 2=if z≠0 then some (.inr z) else some (.inl 3):=by
  simp only [ze0]
  rw [xac (d_t (by simp)),zaa (by simp),g2,w3]
  by_cases h:z=0 <;> simp [h]
 have b3:ze0 [x,y,z] 3=some (.inr 0):=by
  simp only [ze0]
  rw [xab (d_f (by simp))]; rfl
 unfold zq8
 by_cases h0:x=0
 ·rw [xab (by simp [h0])]
  refine (zak (b0.trans (xab (by simp [h0])))).trans ?_
  by_cases h1:y=0
  ·rw [xab (by simp [h1])]
   refine (zak (b1.trans (xab (by simp [h1])))).trans ?_
   by_cases h2:z=0
   ·refine (zak (b2.trans (xab (by simp [h2])))).trans ?_
    rw [h2]; exact zah b3
   ·exact zah (b2.trans (xac h2))
  ·rw [xac h1]
   exact zah (b1.trans (xac h1))
 ·rw [xac h0]
  exact zah (b0.trans (xac h0))
noncomputable def ord (a b:Cell):Int:=if zcf a b=true then -1 else if zcf b a=true then 1 else 0
theorem zn3 (a b:Cell):zge a b=some (ord a b):=by
 unfold zge
 simp only [lt,cmpS_eq,cmpI_eq,or_eq,zac,Option.some.injEq]
 unfold ord cmpS cmpI
 rcases bl_tri a.Row b.Row with h | h | h
 ·have:zcf a b=true:=(za0 _ _).2 (.inl h)
  simp [h,this]
 ·rcases bl_tri a.Col b.Col with g | g | g
  ·have:zcf a b=true:=(za0 _ _).2 (.inr ⟨h,.inl g⟩)
   simp [h,g,this,zkv]
  ·by_cases c1:b.Time<a.Time
   ·have:zcf a b=true:=(za0 _ _).2 (.inr ⟨h,.inr ⟨g,c1⟩⟩)
    simp [h,g,this,zkv,c1]
   ·by_cases c2:a.Time<b.Time
    ·have h1:zcf b a=true:=(za0 _ _).2 (.inr ⟨h.symm,.inr ⟨g.symm,c2⟩⟩)
     have h2:zcf a b=false:=ahead_f.2 (zs8 ((za0 _ _).1 h1))
     simp [h,g,h1,h2,zkv,c1,c2]
    ·have e:a.Time=b.Time:=by omega
     have h1:zcf b a=false:=ahead_f.2 (by unfold ah; simp [h,g,zkv,e])
     have h2:zcf a b=false:=ahead_f.2 (by unfold ah; simp [h,g,zkv,e])
     simp [h,g,h1,h2,zkv,c1,c2]
  ·have h1:zcf b a=true:=(za0 _ _).2 (.inr ⟨h.symm,.inl g⟩)
   have h2:zcf a b=false:=ahead_f.2 (zs8 ((za0 _ _).1 h1))
   simp [h,g,h1,h2,zkv,bl_asymm g]
 ·have h1:zcf b a=true:=(za0 _ _).2 (.inl h)
  have h2:zcf a b=false:=ahead_f.2 (zs8 ((za0 _ _).1 h1))
  simp [h,h1,h2,bl_asymm h]
theorem zo9 (a b:Cell):ord a b<0↔zcf a b=true:=by
 unfold ord
 by_cases h:zcf a b=true
 ·simp [h]
 ·by_cases h2:zcf b a=true <;> simp [h,h2]
theorem zby (c:Cell):(⟨c.Row,c.Col,c.Time,c.Gone,c.Value⟩:Cell)=c:=rfl
theorem code_eq (c:Cell):cell_code c=za1 c:=rfl
noncomputable def okp (p:Option Cell)(c:Cell):Bool:=match p with
 | some q=>zcf q c
 | none=>true
noncomputable def ck:Option Cell->Cs->Int->Fault
 | _,[],_=>⟨0,0⟩
 | p,c::l,i=>if za1 c≠0 then ⟨za1 c,i⟩ else if okp p c=true then ck (some c) l (i+1) else ⟨10,i⟩
def prv (l:Cs)(k:Nat):Option Cell:=if k=0 then none else some (zad l ((k:Int) - 1))
theorem prv_succ (l:Cs)(k:Nat):prv l (k+1)=some (zad l (k:Int)):=by
 unfold prv
 rw [xab (by omega)]
 have:((k+1:Nat):Int) - 1=(k:Int):=by omega
 rw [this]
theorem check_loop (l:Cs)(hl:l.length<=1000)(z:Fault):∀ (m k:Nat),l.length - k=m->k<=l.length->zsv l (z,(k:Int))=some (ck (prv l k) (l.drop k) k)
 | 0,k,e,hk=>by
  have:k=l.length:=by omega
  subst this
  refine zah ?_
  simp only [zhu]
  rw [ifF ..,xbw]; rfl
 | m+1,k,e,hk=>by
  have hlt:k<l.length:=by omega
  have hw:w64 ((k:Int)+1)=((k+1:Nat):Int):=by rw [zai ..]; omega
  have hw2:w64 ((k:Int) - 1)=(k:Int) - 1:=zai ..
  have ih:=check_loop l hl z m (k+1) (by omega) (by omega)
  rw [zct l k hlt,ck]
  by_cases c1:za1 (zad l (k:Int))=0
  ·rw [xab (by simp [c1])]
   by_cases hk0:k=0
   ·subst hk0
    have e1:okp (prv l 0) (zad l ((0:Nat):Int))=true:=rfl
    rw [xac e1]
    refine (zak (y:=(z,((0+1:Nat):Int))) ?_).trans (ih.trans (by rw [prv_succ]; rfl))
    simp only [zhu]
    rw [ifT ..,zaa ..]
    rw [zby,code_eq]
    dsimp only [lt]
    rw [xab (n_f c1),zaa (fun h=>by simp at h),xab (by simp),zac,xab (by simp),hw]
   ·have ep:prv l k=some (zad l ((k:Int) - 1)):=by unfold prv; rw [xab hk0]
    have hpos:(0:Int)<(k:Int):=by omega
    have eo:okp (some (zad l ((k:Int) - 1))) (zad l (k:Int))=zcf (zad l ((k:Int) - 1)) (zad l (k:Int)):=rfl
    rw [ep,eo]
    by_cases c2:zcf (zad l ((k:Int) - 1)) (zad l (k:Int))=true
    ·rw [xac c2]
     have e1:(k:Int)+1=((k+1:Nat):Int):=by omega
     refine (zak (y:=(z,((k+1:Nat):Int))) ?_).trans (ih.trans (by rw [prv_succ,e1]))
     simp only [zhu]
     rw [ifT ..,zaa ..]
     have h0:=(zo9 _ _).2 c2
     rw [zby,code_eq]
     dsimp only [lt]
     rw [xab (n_f c1),hw2,zaa (fun h=>by omega),xac (d_t hpos),zby,zn3,zac,xab (an_f (by omega)),hw]
    ·rw [xab c2]
     have h0:¬ ord (zad l ((k:Int) - 1)) (zad l (k:Int))<0:=fun h=>c2 ((zo9 _ _).1 h)
     refine zah ?_
     simp only [zhu]
     rw [ifT ..,zaa ..]
     rw [zby,code_eq]
     dsimp only [lt]
     rw [xab (n_f c1),hw2,zaa (fun h=>by omega),xac (d_t hpos),zby,zn3,zac,xac (an_t (by omega))]
     rfl
  ·rw [xac c1]
   refine zah ?_
   simp only [zhu]
   rw [ifT ..,zaa ..]
   rw [zby,code_eq]
   dsimp only [lt]
   rw [xac (n_t c1)]; rfl
theorem rcheck_loop (l:Cs)(hl:l.length<=1000)(z:Fault):∀ (m k:Nat),l.length - k=m->k<=l.length->zoz l (z,(k:Int))=some (ck (prv l k) (l.drop k) k)
 | 0,k,e,hk=>by
  have:k=l.length:=by omega
  subst this
  refine zah ?_
  simp only [zfx]
  rw [ifF ..,xbw]; rfl
 | m+1,k,e,hk=>by
  have hlt:k<l.length:=by omega
  have hw:w64 ((k:Int)+1)=((k+1:Nat):Int):=by rw [zai ..]; omega
  have hw2:w64 ((k:Int) - 1)=(k:Int) - 1:=zai ..
  have ih:=rcheck_loop l hl z m (k+1) (by omega) (by omega)
  rw [zct l k hlt,ck]
  by_cases c1:za1 (zad l (k:Int))=0
  ·rw [xab (by simp [c1])]
   by_cases hk0:k=0
   ·subst hk0
    have e1:okp (prv l 0) (zad l ((0:Nat):Int))=true:=rfl
    rw [xac e1]
    refine (zak (y:=(z,((0+1:Nat):Int))) ?_).trans (ih.trans (by rw [prv_succ]; rfl))
    simp only [zfx]
    rw [ifT ..,zaa ..]
    rw [zby]
    dsimp only [lt]
    rw [xab (n_f c1),zaa (fun h=>by simp at h),zaa (fun h=>by simp at h),xab (by simp),hw]
   ·have ep:prv l k=some (zad l ((k:Int) - 1)):=by unfold prv; rw [xab hk0]
    have hpos:(0:Int)<(k:Int):=by omega
    have eo:okp (some (zad l ((k:Int) - 1))) (zad l (k:Int))=zcf (zad l ((k:Int) - 1)) (zad l (k:Int)):=rfl
    rw [ep,eo]
    have e1:(k:Int)+1=((k+1:Nat):Int):=by omega
    have hd:decide ((0:Int)<(k:Int))=true:=d_t hpos
    by_cases c2:zcf (zad l ((k:Int) - 1)) (zad l (k:Int))=true
    ·rw [xac c2]
     refine (zak (y:=(z,((k+1:Nat):Int))) ?_).trans (ih.trans (by rw [prv_succ,e1]))
     simp only [zfx]
     rw [ifT ..,zaa ..]
     rw [zby]
     dsimp only [lt]
     rw [xab (n_f c1),hw2,zaa (fun h=>by omega),zaa (fun h=>by omega),zby,c2,xab (by simp),hw]
    ·rw [xab c2]
     refine zah ?_
     simp only [zfx]
     rw [ifT ..,zaa ..]
     have c2':zcf (zad l ((k:Int) - 1)) (zad l (k:Int))=false:=by simpa using c2
     rw [zby]
     dsimp only [lt]
     rw [xab (n_f c1),hw2,zaa (fun h=>by omega),zaa (fun h=>by omega),zby,c2',hd,xac (by rfl)]
     rfl
  ·rw [xac c1]
   refine zah ?_
   simp only [zfx]
   rw [ifT ..,zaa ..]
   rw [zby]
   dsimp only [lt]
   rw [xac (n_t c1)]; rfl
noncomputable def zk1 (l:Cs):Fault:=if 1000<l.length then ⟨2,0⟩ else ck none l 0
theorem check_eq (l:Cs):zje l=some (zk1 l):=by
 unfold zje zk1
 by_cases c:1000<l.length
 ·rw [ifT ..,xac c]; rfl
 ·rw [ifF ..,xab c]
  exact check_loop l (by omega) ⟨0,0⟩ l.length 0 (by omega) (by omega)
theorem rcheck_eq (l:Cs):zi8 l=some (zk1 l):=by
 unfold zi8 zk1
 by_cases c:1000<l.length
 ·rw [ifT ..,xac c]; rfl
 ·rw [ifF ..,xab c]
  exact rcheck_loop l (by omega) ⟨0,0⟩ l.length 0 (by omega) (by omega)
theorem ck_good:∀ (l:Cs) (p:Option Cell) (i:Int),(ck p l i).Code=0->ck p l i=⟨0,0⟩/\(∀ c∈l,za1 c=0)/\l.Pairwise ah/\∀ q,p=some q->∀ c∈l,ah q c
 | [],p,i,h=>⟨rfl,by simp,.nil,by simp⟩
 | c::l,p,i,h=>by
  rw [ck] at h ⊢
  by_cases c1:za1 c=0
  ·rw [xab (by simp [c1])] at h ⊢
   by_cases c2:okp p c=true
   ·rw [xac c2] at h ⊢
    obtain ⟨h1,h2,h3,h4⟩:=ck_good l (some c) (i+1) h
    refine ⟨h1,?_,xbh.2 ⟨h4 c rfl,h3⟩,?_⟩
    ·intro x hx
     rcases xap.1 hx with rfl | hx
     ·exact c1
     ·exact h2 x hx
    ·rintro q rfl x hx
     have hq:ah q c:=(za0 _ _).1 c2
     rcases xap.1 hx with rfl | hx
     ·exact hq
     ·exact zpz hq (h4 c rfl x hx)
   ·rw [xab c2] at h; cases h
  ·rw [xac c1] at h; exact absurd h c1
structure Good (l:Cs):Prop where
 f:zk1 l=⟨0,0⟩
 len:l.length<=1000
 code:∀ c∈l,za1 c=0
 srt:l.Pairwise ah
theorem zl9 {l:Cs}(h:(zk1 l).Code=0):Good l:=by
 unfold zk1 at h
 by_cases c:1000<l.length
 ·rw [xac c] at h; cases h
 ·rw [xab c] at h
  obtain ⟨h1,h2,h3,_⟩:=ck_good l none 0 h
  exact ⟨by unfold zk1; rw [xab c,h1],by omega,h2,h3⟩
def cell0:Cell:=⟨[],[],0,false,[]⟩
theorem zil {c:Cell}(h:za1 c=0):c.Row.length<=40/\c.Col.length<=40/\c.Value.length<=200/\0<=c.Time/\c.Time<=1000000000:=by
 unfold za1 at h
 split at h
 ·cases h
 ·rename_i h1
  split at h
  ·cases h
  ·rename_i h2
   simp at h1 h2
   omega
def wrC (c:Cell):B8:=wrT c.Row++(wrT c.Col++(num c.Time.toNat++((if c.Gone=true then [1] else [0])++wrT c.Value)))
theorem zsh {c:Cell}(h:za1 c=0):(wrC c).length<=310/\0<(wrC c).length:=by
 obtain ⟨h1,h2,h3,h4,h5⟩:=zil h
 have a1:=zno c.Row (by omega)
 have a2:=zno c.Col (by omega)
 have a3:=zno c.Value (by omega)
 have a4:=zie (n:=c.Time.toNat) (by omega)
 have a5:(if c.Gone=true then ([1]:B8) else [0]).length=1:=by split <;> rfl
 unfold wrC
 simp only [xaa,a5]; omega
theorem num01 (b:Bool):num (if b=true then 1 else 0)=if b=true then [1] else [0]:=by
 cases b
 ·rw [xab (by simp),zo2 (by omega)]; rfl
 ·rw [xac rfl,zo2 (by omega)]; rfl
theorem add_eq (c:Cell)(h:za1 c=0)(row:B8)(hr:row.length<=1000000):zmr c row=some (row++wrC c):=by
 obtain ⟨h1,h2,h3,h4,h5⟩:=zil h
 have a1:=zno c.Row (by omega)
 have a2:=zno c.Col (by omega)
 have a4:=zie (n:=c.Time.toNat) (by omega)
 have et:(c.Time)=((c.Time.toNat:Nat):Int):=by omega
 unfold zmr
 rw [addText_eq c.Row row (by omega) (by omega),zac,addText_eq c.Col _ (by omega) (by simp; omega),zac]
 have e:(if c.Gone=true then some (c,(1:Int)) else some (c,0))=some (c,((if c.Gone=true then 1 else 0:Nat):Int)):=by cases c.Gone <;> rfl
 rw [e,zac]
 dsimp only
 have hn:(num (if c.Gone=true then 1 else 0)).length=1:=by rw [num01]; split <;> rfl
 rw [et,addNum_eq _ _ (by simp; omega),zac,addNum_eq _ _ (by simp; omega),zac,addText_eq c.Value _ (by omega) (by simp; omega),zac,num01]
 simp [wrC]
def zft (l:Cs):B8:=zi5 wrC l
theorem encC_cons (c:Cell)(l:Cs):zft (c::l)=wrC c++zft l:=by simp [zft,zi5]
noncomputable def rdC (b:B8):Option (Cell×B8):=
 match rdT b with
 | none=>none
 | some (row,b1)=>match rdT b1 with
  | none=>none
  | some (col,b2)=>match rdN b2 with
   | none=>none
   | some (t,b3)=>match rdN b3 with
    | none=>none
    | some (k,b4)=>match rdT b4 with
     | none=>none
     | some (v,b5)=>if k<2/\za1 ⟨row,col,t,decide ((k:Int)=1),v⟩=0 then some (⟨row,col,t,decide ((k:Int)=1),v⟩,b5) else none
theorem text_bad:zcq ⟨[],true⟩=some ([],⟨[],true⟩):=by
 have h1:zcd ⟨[],true⟩=some (0,⟨[],true⟩):=by rw [num_eq [] true (by simp)]; rfl
 unfold zcq
 rw [h1,zac,xac (by rfl)]
theorem num_bad:zcd ⟨[],true⟩=some (0,⟨[],true⟩):=by rw [num_eq [] true (by simp)]; rfl
theorem text_some {b s r:B8}(hb:b.length<=1000000)(h:rdT b=some (s,r)):zcq ⟨b,false⟩=some (s,⟨r,false⟩)/\r.length<=1000000:=by
 have:=rdT_len h
 exact ⟨by rw [text_eq b (by omega),h]; rfl,by omega⟩
theorem text_none {b:B8}(hb:b.length<=1000000)(h:rdT b=none):zcq ⟨b,false⟩=some ([],⟨[],true⟩):=by
 rw [text_eq b (by omega),h]; rfl
theorem num_some {b r:B8}{n:Nat}(hb:b.length<=1000000)(h:rdN b=some (n,r)):zcd ⟨b,false⟩=some ((n:Int),⟨r,false⟩)/\r.length<=1000000:=by
 have:=(zf6 h).1
 have h2:b.length=(num n).length+r.length:=by rw [this,xaa]
 exact ⟨by rw [num_eq b false (by omega),h]; rfl,by omega⟩
theorem num_none {b:B8}(hb:b.length<=1000000)(h:rdN b=none):zcd ⟨b,false⟩=some (0,⟨[],true⟩):=by
 rw [num_eq b false (by omega),h]; rfl
theorem from_eq (b:B8)(hb:b.length<=1000000):(∃ c r,rdC b=some (c,r)/\zrc ⟨b,false⟩=some (c,true,⟨r,false⟩))\/(rdC b=none/\∃ x,zrc ⟨b,false⟩=some x/\x.2.1=false):=by
 unfold rdC zrc
 cases e1:rdT b with
 | none=>
  refine .inr ⟨rfl,?_⟩
  simp only [text_none hb e1,zac,text_bad,num_bad,lt,zd6]
  exact ⟨_,rfl,by simp⟩
 | some p1=>
 obtain ⟨row,b1⟩:=p1
 obtain ⟨f1,hb1⟩:=text_some hb e1
 simp only [f1,zac]
 cases e2:rdT b1 with
 | none=>
  refine .inr ⟨rfl,?_⟩
  simp only [text_none hb1 e2,zac,text_bad,num_bad,lt,zd6]
  exact ⟨_,rfl,by simp⟩
 | some p2=>
 obtain ⟨col,b2⟩:=p2
 obtain ⟨f2,hb2⟩:=text_some hb1 e2
 simp only [f2,zac]
 cases e3:rdN b2 with
 | none=>
  refine .inr ⟨rfl,?_⟩
  simp only [num_none hb2 e3,zac,text_bad,num_bad,lt,zd6]
  exact ⟨_,rfl,by simp⟩
 | some p3=>
 obtain ⟨t,b3⟩:=p3
 obtain ⟨f3,hb3⟩:=num_some hb2 e3
 simp only [f3,zac]
 cases e4:rdN b3 with
 | none=>
  refine .inr ⟨rfl,?_⟩
  simp only [num_none hb3 e4,zac,text_bad,num_bad,lt,zd6]
  exact ⟨_,rfl,by simp⟩
 | some p4=>
 obtain ⟨k,b4⟩:=p4
 obtain ⟨f4,hb4⟩:=num_some hb3 e4
 simp only [f4,zac]
 cases e5:rdT b4 with
 | none=>
  refine .inr ⟨rfl,?_⟩
  simp only [text_none hb4 e5,zac,lt,zd6]
  exact ⟨_,rfl,by simp⟩
 | some p5=>
 obtain ⟨v,b5⟩:=p5
 obtain ⟨f5,hb5⟩:=text_some hb4 e5
 simp only [f5,zac,lt,zd6,code_eq]
 by_cases hc:k<2/\za1 ⟨row,col,t,decide ((k:Int)=1),v⟩=0
 ·refine .inl ⟨⟨row,col,t,decide ((k:Int)=1),v⟩,b5,by rw [xac hc],?_⟩
  have h2:(k:Int)<2:=by omega
  rw [xbm h2]
  refine congrArg some (Prod.ext rfl (Prod.ext ?_ rfl))
  exact xb7.2 ⟨rfl,@xbm _ _ hc.2⟩
 ·refine .inr ⟨by rw [xab hc],_,rfl,?_⟩
  by_cases h2:k<2
  ·have h3:¬ za1 ⟨row,col,t,decide ((k:Int)=1),v⟩=0:=fun h=>hc ⟨h2,h⟩
   exact Bool.and_eq_false_iff.2 (.inr (@xa0 _ _ h3))
  ·have h3:¬ (k:Int)<2:=by omega
   simp only [xa0 h3,Bool.false_and]
theorem rdC_some {b r:B8}{c:Cell}(h:rdC b=some (c,r)):za1 c=0/\b=wrC c++r:=by
 unfold rdC at h
 split at h
 ·cases h
 ·rename_i row b1 e1
  split at h
  ·cases h
  ·rename_i col b2 e2
   split at h
   ·cases h
   ·rename_i t b3 e3
    split at h
    ·cases h
    ·rename_i k b4 e4
     split at h
     ·cases h
     ·rename_i v b5 e5
      split at h
      ·rename_i hc
       simp only [Option.some.injEq,Prod.mk.injEq] at h
       obtain ⟨rfl,rfl⟩:=h
       refine ⟨hc.2,?_⟩
       have g1:=(rdT_some e1).1
       have g2:=(rdT_some e2).1
       have g3:=(zf6 e3).1
       have g4:=(zf6 e4).1
       have g5:=(rdT_some e5).1
       have hk:num k=if decide ((k:Int)=1)=true then [1] else [0]:=by
        have h01:k=0\/k=1:=by omega
        rcases h01 with rfl | rfl
        ·rw [zo2 (by omega)]; rfl
        ·rw [zo2 (by omega)]; rfl
       unfold wrC
       rw [g1,g2,g3,g4,g5,hk]
       simp
      ·cases h
theorem rdC_wrC {c:Cell}(h:za1 c=0)(r:B8):rdC (wrC c++r)=some (c,r):=by
 obtain ⟨h1,h2,h3,h4,h5⟩:=zil h
 have e0:wrC c++r=wrT c.Row++(wrT c.Col++(num c.Time.toNat++(num (if c.Gone=true then 1 else 0)++(wrT c.Value++r)))):=by
  rw [num01]; simp [wrC]
 have hk:(if c.Gone=true then 1 else 0)<=1000000000:=by split <;> omega
 have ec:(⟨c.Row,c.Col,((c.Time.toNat:Nat):Int),decide (((if c.Gone=true then 1 else 0:Nat):Int)=1),c.Value⟩:Cell)=c:=by
  have h6:((c.Time.toNat:Nat):Int)=c.Time:=by omega
  rw [h6]
  cases c with | mk a b t g v=>cases g <;> rfl
 unfold rdC
 rw [e0,rdT_wrT (by omega)]
 simp only []
 rw [rdT_wrT (by omega)]
 simp only []
 rw [rdN_num (by omega)]
 simp only []
 rw [rdN_num hk]
 simp only []
 rw [rdT_wrT (by omega)]
 simp only [ec]
 rw [xac ⟨by split <;> omega,h⟩]
noncomputable def rcS:Cs⊕Nat->Cs×Fault
 | .inl l=>if (zk1 l).Code=0 then (l,⟨0,0⟩) else ([],zk1 l)
 | .inr n=>([],⟨5,n⟩)
noncomputable def zjt (b:B8):Cs×Fault:=if 60000<b.length then ([],⟨8,0⟩) else rcS (zqn rdC b.length b [])
theorem read_J1 (z:Fault)(l:Cs):zna (z,l)=some (rcS (.inl l)):=by
 simp only [zna,rcS,check_eq,zac]
 by_cases c:(zk1 l).Code=0
 ·rw [xab (n_f c),xac c]
 ·rw [xac (n_t c),xab c]
theorem rdC_len {b r:B8}{c:Cell}(h:rdC b=some (c,r)):b.length=(wrC c).length+r.length/\0<(wrC c).length:=by
 obtain ⟨h1,h2⟩:=rdC_some h
 exact ⟨by rw [h2,xaa],(zsh h1).2⟩
theorem read_loop (z:Fault):∀ (k:Nat) (b:B8) (acc:Cs),b.length<=k->acc.length+b.length<=1000000->
  cell_Read_L1 (z,acc,⟨b,false⟩)=some (rcS (zqn rdC k b acc))
 | k,[],acc,hk,ha=>by
  rw [rdAll_nil]
  refine zah ?_
  simp [zne,zgd,lt,read_J1,zev]
 | 0,x::b,acc,hk,ha=>by simp at hk
 | k+1,x::b,acc,hk,ha=>by
  rw [zqn,xab (by simp)]
  have hm:zgd ⟨x::b,false⟩=true:=by simp [zgd]
  have hb:(x::b).length<=1000000:=by omega
  generalize hbb:x::b=bb at *
  rcases from_eq bb hb with ⟨c,r,h1,h2⟩ | ⟨h1,y,h2,h3⟩
  ·obtain ⟨h3,h4⟩:=rdC_len h1
   rw [h1]
   refine (zak (y:=(z,acc++[c],⟨r,false⟩)) ?_).trans (read_loop z k r (acc++[c]) (by omega) (by simp; omega))
   simp only [zne,hm,lt,xc4]
   rw [h2,zac]
   dsimp only
   rw [xab (by simp),zaa (by simp; omega)]
  ·rw [h1]
   refine zah ?_
   simp only [zne,hm,lt,xc4]
   rw [h2,zac,xac (by rw [h3]; rfl)]
   rfl
theorem read_eq (b:B8):zrn b=some (zjt b):=by
 unfold zrn zjt
 by_cases c:60000<b.length
 ·rw [ifT ..,xac c]; rfl
 ·rw [ifF ..,xab c]
  exact read_loop _ b.length b [] (xae _) (by simp; omega)
theorem cellAt_text (b:B8)(hb:b.length<=1000000)(z:Cell)(ps:B9)(ns:List Int)(p i:Nat)(hp:p<=b.length)(hps:ps.length<=10)(hi:i=0\/i=1\/i=4) :
  zki b (z,ps,ns,(p:Int),(i:Int))=match rdT (b.drop p) with
   | none=>some (.inr (cell0,0))
   | some (s,r)=>some (.inl (z,ps++[s],ns,((b.length - r.length:Nat):Int),((i+1:Nat):Int))):=by
 have hw:w64 ((i:Int)+1)=((i+1:Nat):Int):=by rw [zai ..]; omega
 have hdl:(b.drop p).length=b.length - p:=xa7
 simp only [zki,zmu]
 rw [ifT ..,zaa ..,zb8,zny _ (by omega),zac]
 cases hd:rdN (b.drop p) with
 | none=>
  have e:rdT (b.drop p)=none:=by simp [rdT,hd]
  have e2:rnat (b.drop p)=(0,0):=by simp [rnat,hd]
  rw [e2,e,xac (by simp)]; rfl
 | some q=>
  obtain ⟨n,r⟩:=q
  have e2:rnat (b.drop p)=((n:Int),((num n).length:Int)):=by simp [rnat,hd]
  obtain ⟨h1,hn⟩:=zf6 hd
  have h2:=num_pos n
  have h3:b.length - p=(num n).length+r.length:=by rw [<- hdl,h1,xaa]
  have hw1:w64 ((p:Int)+((num n).length:Int))=((p+(num n).length:Nat):Int):=by rw [zai ..]; omega
  have hw2:w64 ((b.length:Int) - ((p+(num n).length:Nat):Int))=(r.length:Int):=by rw [zai ..]; omega
  rw [e2]
  dsimp only
  rw [ifF ..,xab (or_f (by omega)),hw1,hw2]
  by_cases c:n<=r.length
  ·have e:rdT (b.drop p)=some (r.take n,r.drop n):=by simp [rdT,hd,c]
   have hw3:w64 (((p+(num n).length:Nat):Int)+(n:Int))=((p+(num n).length+n:Nat):Int):=by rw [zai ..]; omega
   have h4:(b.take (p+(num n).length+n)).drop (p+(num n).length)=r.take n:=by
    have hb':b.drop (p+(num n).length)=r:=by
     rw [<- xca,h1]; simp
    rw [List.drop_take,hb']; congr 1; omega
   have h5:b.length - (r.drop n).length=p+(num n).length+n:=by simp; omega
   rw [e]
   dsimp only
   rw [ifF ..,hw3,zaa ..,zde,zb8,h4,zaa (by simp; omega),hw,h5]
   rfl
  ·have e:rdT (b.drop p)=none:=by simp [rdT,hd,c]
   rw [e,ifT ..]; rfl
theorem cellAt_num (b:B8)(hb:b.length<=1000000)(z:Cell)(ps:B9)(ns:List Int)(p i:Nat)(hp:p<=b.length)(hns:ns.length<=10)(hi:i=2\/i=3) :
  zki b (z,ps,ns,(p:Int),(i:Int))=match rdN (b.drop p) with
   | none=>some (.inr (cell0,0))
   | some (n,r)=>some (.inl (z,ps,ns++[(n:Int)],((b.length - r.length:Nat):Int),((i+1:Nat):Int))):=by
 have hw:w64 ((i:Int)+1)=((i+1:Nat):Int):=by rw [zai ..]; omega
 have hdl:(b.drop p).length=b.length - p:=xa7
 simp only [zki,zmu]
 rw [ifT ..,zaa ..,zb8,zny _ (by omega),zac]
 cases hd:rdN (b.drop p) with
 | none=>
  have e2:rnat (b.drop p)=(0,0):=by simp [rnat,hd]
  rw [e2,xac (by simp)]; rfl
 | some q=>
  obtain ⟨n,r⟩:=q
  have e2:rnat (b.drop p)=((n:Int),((num n).length:Int)):=by simp [rnat,hd]
  obtain ⟨h1,hn⟩:=zf6 hd
  have h2:=num_pos n
  have h3:b.length - p=(num n).length+r.length:=by rw [<- hdl,h1,xaa]
  have hw1:w64 ((p:Int)+((num n).length:Int))=((p+(num n).length:Nat):Int):=by rw [zai ..]; omega
  have h5:b.length - r.length=p+(num n).length:=by omega
  rw [e2]
  dsimp only
  rw [ifF ..,xac (or_t (by omega)),hw1,hw,zaa (by simp; omega),h5]
theorem drop_rest {b r:B8}{p:Nat}{x:B8}(hp:p<=b.length)(h:b.drop p=x++r):b.drop (b.length - r.length)=r/\b.length - r.length<=b.length:=by
 have h1:b.length - p=x.length+r.length:=by rw [<- xa7,h,xaa]
 refine ⟨?_,by omega⟩
 have:b.length - r.length=p+x.length:=by omega
 rw [this,<- xca,h]; simp
noncomputable def catS (b:B8):Cell×Int:=match rdC b with
 | some (c,r)=>(c,((b.length - r.length:Nat):Int))
 | none=>(cell0,0)
theorem cellAt_J1 (z:Cell)(x y v:B8)(t k:Nat)(p:Int):zor (z,[x,y,v],[(t:Int),(k:Int)],p)=some (if k<2/\za1 ⟨x,y,t,decide ((k:Int)=1),v⟩=0 then (⟨x,y,t,decide ((k:Int)=1),v⟩,p) else (cell0,0)):=by
 unfold zor
 have g0:zad [x,y,v] 0=x:=rfl
 have g1:zad [x,y,v] 1=y:=rfl
 have g2:zad [x,y,v] 2=v:=rfl
 have n0:zad [(t:Int),(k:Int)] 0=(t:Int):=rfl
 have n1:zad [(t:Int),(k:Int)] 1=(k:Int):=rfl
 dsimp only
 rw [zaa (by simp),zaa (by simp),zaa (by simp),zaa (by simp),zaa (by simp),zaa (by simp),zaa (by simp),zaa (by simp),zaa (by simp),zaa (by simp),zaa (by simp),zaa (by simp),g0,g1,g2,n0,n1]
 dsimp only [lt]
 by_cases hc:k<2/\za1 ⟨x,y,t,decide ((k:Int)=1),v⟩=0
 ·have h1:¬ (1:Int)<(k:Int):=by omega
  rw [xac hc,xab]
  rw [xa0 h1,xbm hc.2]; simp
 ·rw [xab hc,xac]
  ·rfl
  ·by_cases h1:(1:Int)<(k:Int)
   ·rw [xbm h1]; rfl
   ·have h3:¬ za1 ⟨x,y,t,decide ((k:Int)=1),v⟩=0:=fun h=>hc ⟨by omega,h⟩
    rw [xa0 h3]; simp
theorem cellAt_eq (b:B8)(hb:b.length<=1000000):R_CellAt b=some (catS b):=by
 unfold R_CellAt catS rdC
 have s0:=cellAt_text b hb cell0 [] [] 0 0 (by omega) (by simp) (by omega)
 rw [xb3] at s0
 cases e1:rdT b with
 | none=>rw [e1] at s0; exact zah s0
 | some p1=>
 obtain ⟨row,b1⟩:=p1
 rw [e1] at s0
 refine (zak s0).trans ?_
 obtain ⟨d1,l1⟩:=drop_rest (b:=b) (p:=0) (by omega) (by rw [xb3]; exact (rdT_some e1).1)
 have s1:=cellAt_text b hb cell0 ([]++[row]) [] (b.length - b1.length) 1 l1 (by simp) (by omega)
 rw [d1] at s1
 dsimp only
 cases e2:rdT b1 with
 | none=>rw [e2] at s1; exact zah s1
 | some p2=>
 obtain ⟨col,b2⟩:=p2
 rw [e2] at s1
 refine (zak s1).trans ?_
 obtain ⟨d2,l2⟩:=drop_rest l1 (by rw [d1]; exact (rdT_some e2).1)
 have s2:=cellAt_num b hb cell0 ([]++[row]++[col]) [] (b.length - b2.length) 2 l2 (by simp) (by omega)
 rw [d2] at s2
 dsimp only
 cases e3:rdN b2 with
 | none=>rw [e3] at s2; exact zah s2
 | some p3=>
 obtain ⟨t,b3⟩:=p3
 rw [e3] at s2
 refine (zak s2).trans ?_
 obtain ⟨d3,l3⟩:=drop_rest l2 (by rw [d2]; exact (zf6 e3).1)
 have s3:=cellAt_num b hb cell0 ([]++[row]++[col]) ([]++[(t:Int)]) (b.length - b3.length) 3 l3 (by simp) (by omega)
 rw [d3] at s3
 dsimp only
 cases e4:rdN b3 with
 | none=>rw [e4] at s3; exact zah s3
 | some p4=>
 obtain ⟨k,b4⟩:=p4
 rw [e4] at s3
 refine (zak s3).trans ?_
 obtain ⟨d4,l4⟩:=drop_rest l3 (by rw [d3]; exact (zf6 e4).1)
 have s4:=cellAt_text b hb cell0 ([]++[row]++[col]) ([]++[(t:Int)]++[(k:Int)]) (b.length - b4.length) 4 l4 (by simp) (by omega)
 rw [d4] at s4
 dsimp only
 cases e5:rdT b4 with
 | none=>rw [e5] at s4; exact zah s4
 | some p5=>
 obtain ⟨v,b5⟩:=p5
 rw [e5] at s4
 refine (zak s4).trans ?_
 refine zah ?_
 simp only [zki]
 have hJ:=cellAt_J1 cell0 row col v t k ((b.length - b5.length:Nat):Int)
 simp only [xbk,xbq]
 rw [ifF ..,hJ]
 by_cases hc:k<2/\za1 ⟨row,col,t,decide ((k:Int)=1),v⟩=0
 ·rw [xac hc,xac hc]; rfl
 ·rw [xab hc,xab hc]; rfl
theorem cellsOf_J1 (z:Fault)(l:Cs):znc (z,l)=some (rcS (.inl l)):=by
 simp only [znc,rcS,rcheck_eq,zac]
 by_cases c:(zk1 l).Code=0
 ·rw [xab (n_f c),xac c]
 ·rw [xac (n_t c),xab c]
theorem cellsOf_loop (z:Fault):∀ (k:Nat) (b:B8) (acc:Cs),b.length<=k->acc.length+b.length<=1000000->
  R_CellsOf_L1 (b,z,acc)=some (rcS (zqn rdC k b acc))
 | k,[],acc,hk,ha=>by
  rw [rdAll_nil]
  refine zah ?_
  simp [znh,cellsOf_J1,zev]
 | 0,x::b,acc,hk,ha=>by simp at hk
 | k+1,x::b,acc,hk,ha=>by
  rw [zqn,xab (by simp)]
  have hpos:0<(x::b).length:=by simp
  have hb:(x::b).length<=1000000:=by omega
  generalize hbb:x::b=bb at *
  cases hd:rdC bb with
  | none=>
   have e2:catS bb=(cell0,0):=by simp [catS,hd]
   refine zah ?_
   simp only [znh]
   rw [ifT ..,cellAt_eq bb hb,zac,e2,xac (by simp)]
   rfl
  | some p=>
   obtain ⟨c,r⟩:=p
   have e2:catS bb=(c,((bb.length - r.length:Nat):Int)):=by simp [catS,hd]
   obtain ⟨h3,h4⟩:=rdC_len hd
   obtain ⟨h5,h6⟩:=rdC_some hd
   have hdr:bb.drop (bb.length - r.length)=r:=(drop_rest (p:=0) (by omega) (by rw [xb3]; exact h6)).1
   refine (zak (y:=(r,z,acc++[c])) ?_).trans (cellsOf_loop z k r (acc++[c]) (by omega) (by simp; omega))
   simp only [znh]
   rw [ifT ..,cellAt_eq bb hb,zac,e2]
   dsimp only
   rw [ifF ..,zaa (by simp; omega),zaa ..,zb8,hdr]
theorem cellsOf_eq (b:B8):zrs b=some (zjt b):=by
 unfold zrs zjt
 by_cases c:60000<b.length
 ·rw [ifT ..,xac c]; rfl
 ·rw [ifF ..,xab c]
  exact cellsOf_loop _ b.length b [] (xae _) (by simp; omega)
theorem written_eq (s:B8)(hs:s.length<=1000000000):zlw s=some (wrT s):=by
 have h5:=zie hs
 unfold zlw
 rw [rnumber s.length (by omega),zac,zaa (by simp; omega)]; rfl
theorem cellBytes_eq (c:Cell)(h:za1 c=0):zmi c=some (wrC c):=by
 obtain ⟨h1,h2,h3,h4,h5⟩:=zil h
 have a1:=zno c.Row (by omega)
 have a2:=zno c.Col (by omega)
 have a3:=zno c.Value (by omega)
 have a4:=zie (n:=c.Time.toNat) (by omega)
 have et:(c.Time)=((c.Time.toNat:Nat):Int):=by omega
 unfold zmi
 rw [written_eq c.Row (by omega),zac,written_eq c.Col (by omega),zac,zaa (by simp; omega),et,rnumber _ (by omega),zac,zaa (by simp; omega)]
 have e:(if c.Gone=true then zao (((((wrT c.Row++wrT c.Col)++num c.Time.toNat)++([(1:UInt8)]:B8)).length:Int)*1<=140737488351232) (some (c,(((wrT c.Row++wrT c.Col)++num c.Time.toNat)++([(1:UInt8)]:B8)))) else zao (((((wrT c.Row++wrT c.Col)++num c.Time.toNat)++([(0:UInt8)]:B8)).length:Int)*1<=140737488351232) (some (c,(((wrT c.Row++wrT c.Col)++num c.Time.toNat)++([(0:UInt8)]:B8)))))=some (c,((wrT c.Row++wrT c.Col)++num c.Time.toNat)++(if c.Gone=true then [1] else [0])):=by
  cases c.Gone
  ·rw [xab (by simp),zaa (by simp; omega)]; rfl
  ·rw [xac rfl,zaa (by simp; omega)]; rfl
 rw [e,zac]
 dsimp only
 have a5:(if c.Gone=true then ([1]:B8) else [0]).length=1:=by split <;> rfl
 rw [written_eq c.Value (by omega),zac,zaa (by simp only [xaa,a5]; omega)]
 simp [wrC]
theorem readS_len (b:B8):(zjt b).1.length<=60000:=by
 unfold zjt
 split
 ·simp
 ·have key:∀ (k:Nat) (b:B8) (acc l:Cs),zqn rdC k b acc = .inl l->l.length<=acc.length+k:=by
   intro k
   induction k with
   | zero=>intro b acc l h; simp only [zqn,Sum.inl.injEq] at h; subst h; omega
   | succ k ih=>
    intro b acc l h
    rw [zqn] at h
    split at h
    ·simp only [Sum.inl.injEq] at h; subst h; omega
    ·split at h
     ·have:=ih _ _ _ h; simp at this; omega
     ·cases h
  cases hr:zqn rdC b.length b [] with
  | inr n=>simp [rcS]
  | inl l=>
   have:=key _ _ _ _ hr
   simp only [rcS]
   split
   ·have h3:l.length<=b.length:=by simpa using this
    show l.length<=60000
    omega
   ·simp
theorem zj9 (a:Cell):key a a:=⟨rfl,rfl,rfl⟩
theorem zc7 {a b:Cell}(h:key a b):key b a:=⟨h.1.symm,h.2.1.symm,h.2.2.symm⟩
theorem zlc {a b c:Cell}(h:key a b)(g:key b c):key a c:=⟨h.1.trans g.1,h.2.1.trans g.2.1,h.2.2.trans g.2.2⟩
theorem zjv {a b:Cell}(h:ah a b):¬ key a b:=by
 rintro ⟨e1,e2,e3⟩
 unfold ah at h
 rw [e1,e2,e3] at h
 simp [zkv] at h
theorem ah_left {a a' b:Cell}(k:key a a')(h:ah a b):ah a' b:=by
 obtain ⟨e1,e2,e3⟩:=k
 unfold ah at *
 rw [<- e1,<- e2,<- e3]; exact h
theorem ah_right {a b b':Cell}(k:key b b')(h:ah a b):ah a b':=by
 obtain ⟨e1,e2,e3⟩:=k
 unfold ah at *
 rw [<- e1,<- e2,<- e3]; exact h
def le (a b:Cell):Prop:=¬ ah b a
theorem le_refl (a:Cell):le a a:=ah_irr a
theorem le_of_ah {a b:Cell}(h:ah a b):le a b:=zs8 h
theorem le_or {a b:Cell}(h:le a b):ah a b\/key a b:=by
 rcases ah_tri a b with q | q | q
 ·exact .inl q
 ·exact .inr q
 ·exact absurd q h
theorem ah_of {a b c:Cell}(h:ah a b)(g:le b c):ah a c:=by
 rcases le_or g with q | q
 ·exact zpz h q
 ·exact ah_right q h
theorem ah_of' {a b c:Cell}(h:le a b)(g:ah b c):ah a c:=by
 rcases le_or h with q | q
 ·exact zpz q g
 ·exact ah_left (zc7 q) g
theorem le_trans {a b c:Cell}(h:le a b)(g:le b c):le a c:=fun q=>h (ah_of' g q)
def Srt (l:Cs):Prop:=l.Pairwise le
instance (a b:Cell):Decidable (key a b):=inferInstanceAs (Decidable (_/\_))
def fk (k:Cell)(l:Cs):Cs:=l.filter fun x=>decide (key k x)
theorem fk_app (k:Cell)(a b:Cs):fk k (a++b)=fk k a++fk k b:=by unfold fk; rw [xcu]
theorem zme (k x:Cell)(l:Cs):fk k (x::l)=if key k x then x::fk k l else fk k l:=by
 unfold fk; rw [List.filter_cons]; by_cases c:key k x <;> simp [c]
def Stab (l x:Cs):Prop:=∀ k,fk k x=fk k l
theorem Stab.refl (l:Cs):Stab l l:=fun _=>rfl
theorem Stab.trans {a b c:Cs}(h:Stab a b)(g:Stab b c):Stab a c:=fun k=>(g k).trans (h k)
theorem Stab.app {a a' b b':Cs}(h:Stab a a')(g:Stab b b'):Stab (a++b) (a'++b'):=fun k=>by rw [fk_app,fk_app,h k,g k]
theorem fk_none {k:Cell}{l:Cs}(h:∀ x∈l,¬ key k x):fk k l=[]:=by
 unfold fk
 rw [List.filter_eq_nil_iff]
 intro x hx q
 exact h x hx (xa5 q)
theorem Stab.swap {u v:Cs}(h:∀ x∈u,∀ y∈v,¬ key x y):Stab (u++v) (v++u):=fun k=>by
 rw [fk_app,fk_app]
 by_cases c:∃ x∈u,key k x
 ·obtain ⟨x,hx,hk⟩:=c
  rw [fk_none (l:=v) (fun y hy q=>h x hx y hy (zlc (zc7 hk) q))]; simp
 ·rw [fk_none (l:=u) (fun y hy q=>c ⟨y,hy,q⟩)]; simp
theorem Stab.mem {l x:Cs}(h:Stab l x){c:Cell}(hc:c∈x):c∈l:=by
 have:c∈fk c x:=by unfold fk; rw [xck]; exact ⟨hc,xbm (zj9 c)⟩
 rw [h c] at this
 unfold fk at this
 exact (xck.1 this).1
theorem Stab.symm {l x:Cs}(h:Stab l x):Stab x l:=fun k=>(h k).symm
theorem srt_app {a b:Cs}(ha:Srt a)(hb:Srt b)(h:∀ x∈a,∀ y∈b,le x y):Srt (a++b):=xa6.2 ⟨ha,hb,h⟩
def Firsts (l x:Cs):Prop:=x.Pairwise ah/\∀ c,c∈x↔(fk c l).head?=some c
theorem firsts_uniq {l x y:Cs}(h:Firsts l x)(g:Firsts l y):x=y:=by
 obtain ⟨h1,h2⟩:=h
 obtain ⟨g1,g2⟩:=g
 have hm:∀ c,c∈x↔c∈y:=fun c=>by rw [h2,g2]
 clear h2 g2
 induction x generalizing y with
 | nil=>
  cases y with
  | nil=>rfl
  | cons b y=>exact absurd ((hm b).2 (xa8 ..)) (by simp)
 | cons a x ih=>
  cases y with
  | nil=>exact absurd ((hm a).1 (xa8 ..)) (by simp)
  | cons b y=>
   obtain ⟨p1,p2⟩:=xbh.1 h1
   obtain ⟨q1,q2⟩:=xbh.1 g1
   have hab:a=b:=by
    rcases xap.1 ((hm a).1 (xa8 ..)) with e | e
    ·exact e
    ·rcases xap.1 ((hm b).2 (xa8 ..)) with e2 | e2
     ·exact e2.symm
     ·exact absurd (p1 b e2) (zs8 (q1 a e))
   subst hab
   rw [ih p2 q2 fun c=>?_]
   constructor
   ·intro hc
    rcases xap.1 ((hm c).1 (xbl _ hc)) with e | e
    ·subst e; exact absurd (p1 c hc) (ah_irr c)
    ·exact e
   ·intro hc
    rcases xap.1 ((hm c).2 (xbl _ hc)) with e | e
    ·subst e; exact absurd (q1 c hc) (ah_irr c)
    ·exact e
theorem Firsts.stab {l m x:Cs}(h:Firsts l x)(g:Stab m l):Firsts m x:=⟨h.1,fun c=>by rw [h.2 c,g c]⟩
theorem key_of_le {a b:Cell}(h:le a b)(g:le b a):key a b:=by
 rcases le_or h with q | q
 ·exact absurd q g
 ·exact q
theorem srt_uniq:∀ {x y:Cs},Srt x->Srt y->Stab x y->x=y
 | [],[],_,_,_=>rfl
 | [],b::y,_,_,h=>by have:=h.mem (xa8 (a:=b) (l:=y)); cases this
 | a::x,[],_,_,h=>by have:=h.symm.mem (xa8 (a:=a) (l:=x)); cases this
 | a::x,b::y,hx,hy,h=>by
  obtain ⟨p1,p2⟩:=xbh.1 hx
  obtain ⟨q1,q2⟩:=xbh.1 hy
  have h1:le a b:=by
   rcases xap.1 (h.mem (xa8 (a:=b) (l:=y))) with e | e
   ·rw [e]; exact le_refl _
   ·exact p1 b e
  have h2:le b a:=by
   rcases xap.1 (h.symm.mem (xa8 (a:=a) (l:=x))) with e | e
   ·rw [e]; exact le_refl _
   ·exact q1 a e
  have hk:=key_of_le h1 h2
  have ha:=h a
  rw [zme,zme,xac hk,xac (zj9 a)] at ha
  have hab:b=a:=(List.cons.inj ha).1
  subst hab
  rw [srt_uniq p2 q2 fun k=>?_]
  have:=h k
  rw [zme,zme] at this
  by_cases c:key k b
  ·rw [xac c,xac c] at this; exact (List.cons.inj this).2
  ·rw [xab c,xab c] at this; exact this
theorem put_left (x:Cell){t:Cs}(ht:Srt t):∃ u v,t=u++v/\(∀ y∈u,ah y x)/\(∀ y∈v,le x y):=by
 induction t with
 | nil=>exact ⟨[],[],rfl,by simp,by simp⟩
 | cons a t ih=>
  obtain ⟨p1,p2⟩:=xbh.1 ht
  by_cases c:zcf a x=true
  ·obtain ⟨u,v,rfl,h1,h2⟩:=ih p2
   exact ⟨a::u,v,rfl,fun y hy=>by
    rcases xap.1 hy with e | e
    ·rw [e]; exact (za0 _ _).1 c
    ·exact h1 y e,h2⟩
  ·have c':le x a:=fun q=>c ((za0 _ _).2 q)
   exact ⟨[],a::t,rfl,by simp,fun y hy=>by
    rcases xap.1 hy with e | e
    ·rw [e]; exact c'
    ·exact le_trans c' (p1 y e)⟩
theorem put_srt {u v:Cs}{x:Cell}(h:Srt (u++v))(h1:∀ y∈u,le y x)(h2:∀ y∈v,le x y):Srt (u++x::v):=by
 obtain ⟨p1,p2,p3⟩:=xa6.1 h
 refine xa6.2 ⟨p1,xbh.2 ⟨h2,p2⟩,fun y hy z hz=>?_⟩
 rcases xap.1 hz with e | e
 ·rw [e]; exact h1 y hy
 ·exact p3 y hy z e
theorem srt_ex:∀ l:Cs,∃ x,Srt x/\Stab l x
 | []=>⟨[],.nil,Stab.refl _⟩
 | a::l=>by
  obtain ⟨t,h1,h2⟩:=srt_ex l
  obtain ⟨u,v,rfl,h3,h4⟩:=put_left a h1
  refine ⟨u++a::v,put_srt h1 (fun y hy=>le_of_ah (h3 y hy)) h4,?_⟩
  have e1:Stab (a::l) (a::(u++v)):=Stab.app (Stab.refl [a]) h2
  have e2:Stab ([a]++u) (u++[a]):=Stab.swap fun x hx y hy q=>by
   rw [xau.1 hx] at q
   exact zjv (h3 y hy) (zc7 q)
  have e3:Stab (([a]++u)++v) ((u++[a])++v):=Stab.app e2 (Stab.refl v)
  rw [xaf,xaf] at e3
  exact e1.trans e3
noncomputable def zik (l:Cs):Cs:=Classical.choose (srt_ex l)
theorem zk6 (l:Cs):Srt (zik l):=(xc8 (srt_ex l)).1
theorem zja (l:Cs):Stab l (zik l):=(xc8 (srt_ex l)).2
theorem srtd_is {l x:Cs}(h:Srt x)(g:Stab l x):x=zik l:=srt_uniq h (zk6 l) (g.symm.trans (zja l))
theorem zpa {l:Cs}(h:Srt l):zik l=l:=(srtd_is h (Stab.refl l)).symm
theorem srtd_congr {l m:Cs}(h:Stab l m):zik m=zik l:=srtd_is (zk6 m) (h.trans (zja m))
theorem stab_len:∀ {l x:Cs},Stab l x->x.length=l.length:=by
 have key:∀ (n:Nat) (l x:Cs),l.length=n->Stab l x->x.length=l.length:=by
  intro n
  induction n with
  | zero=>
   intro l x e h
   cases x with
   | nil=>rw [e]; rfl
   | cons a x=>have:=h.mem (xa8 (a:=a) (l:=x)); rw [xag e] at this; cases this
  | succ n ih=>
   intro l x e h
   cases l with
   | nil=>cases e
   | cons a l=>
    have ha:a∈x:=h.symm.mem (xa8 ..)
    have hf:=h a
    rw [zme,xac (zj9 a)] at hf
    obtain ⟨u,v,rfl⟩:=List.append_of_mem (show a∈x from ha)
    obtain ⟨u,b,v,e2,hk,hu⟩:∃ u' b v',u++a::v=u'++b::v'/\key a b/\∀ y∈u',¬ key a y:=by
     clear h hf ha
     generalize hw:u++a::v=w
     have hm:a∈w:=by rw [<- hw]; simp
     clear hw u v
     induction w with
     | nil=>cases hm
     | cons c w ih2=>
      by_cases hc:key a c
      ·exact ⟨[],c,w,rfl,hc,by simp⟩
      ·rcases xap.1 hm with e | e
       ·rw [e] at hc; exact absurd (zj9 c) hc
       ·obtain ⟨u',b,v',h1,h2,h3⟩:=ih2 e
        exact ⟨c::u',b,v',by rw [h1]; rfl,h2,fun y hy=>by
         rcases xap.1 hy with q | q
         ·rw [q]; exact hc
         ·exact h3 y q⟩
    rw [e2] at h hf ⊢
    rw [fk_app,fk_none hu,zme,xac hk,xbk] at hf
    have hb:b=a:=(List.cons.inj hf).1
    subst hb
    have hs:Stab l (u++v):=fun k=>by
     have:=h k
     rw [fk_app,zme,zme] at this
     rw [fk_app]
     by_cases c:key k b
     ·rw [xac c,xac c] at this
      rw [fk_none (fun y hy q=>hu y hy (zlc (zc7 c) q))] at this ⊢
      exact (List.cons.inj this).2
     ·rw [xab c,xab c] at this; exact this
    have:=ih l (u++v) (by simpa using e) hs
    simp only [xaa,xah] at this ⊢
    omega
 intro l x h
 exact key _ l x rfl h
theorem zfk (l:Cs):(zik l).length=l.length:=stab_len (zja l)
theorem zqe (a:Cs)(x:Cell)(b:Cs):zad (a++x::b) (a.length:Int)=x:=by simp [zad]
theorem zth (a:Cs)(x y:Cell)(b:Cs):zem (a++x::b) (a.length:Int) y=a++y::b:=by simp [zem]
section
variable (A B C:Cs)(x y:Cell)
theorem sw_i:zad (A++x::(B++y::C)) (A.length:Int)=x:=zqe _ _ _
theorem sw_j {j:Int}(h:j=((A.length+1+B.length:Nat):Int)):zad (A++x::(B++y::C)) j=y:=by
 have e:A++x::(B++y::C)=(A++x::B)++y::C:=by simp
 have e2:j=((A++x::B).length:Int):=by rw [h,xaa,xah]; omega
 rw [e,e2,zqe]
theorem sw_ij {j:Int}(h:j=((A.length+1+B.length:Nat):Int)):zem (zem (A++x::(B++y::C)) (A.length:Int) y) j x=A++y::(B++x::C):=by
 rw [zth]
 have e:A++y::(B++y::C)=(A++y::B)++y::C:=by simp
 have e2:j=((A++y::B).length:Int):=by rw [h,xaa,xah]; omega
 rw [e,e2,zth]; simp
theorem sw_ji {j:Int}(h:j=((A.length+1+B.length:Nat):Int)):zem (zem (A++x::(B++y::C)) j x) (A.length:Int) y=A++y::(B++x::C):=by
 have e:A++x::(B++y::C)=(A++x::B)++y::C:=by simp
 have e2:j=((A++x::B).length:Int):=by rw [h,xaa,xah]; omega
 rw [e,e2,zth]
 have e3:A++x::B++x::C=A++x::(B++x::C):=by simp
 rw [e3,zth]
end
theorem bs_any {ρ:Type}(step:Int×Int->Option ((Int×Int)⊕ρ))(k:Int->Option ρ)(p:Nat->Prop)[DecidablePred p](lo hi:Nat)
  (hp:∀ s t:Nat,lo<=s->s<t->t<hi->p t->p s)
  (hs:∀ i j:Nat,lo<=i->i<j->j<=hi->step ((i:Int),(j:Int))=some (.inl (if p ((i+j) / 2) then ((((i+j) / 2+1:Nat):Int),(j:Int)) else ((i:Int),(((i+j) / 2:Nat):Int)))))
  (he:∀ i:Nat,lo<=i->i<=hi->step ((i:Int),(i:Int))=zev (k (i:Int))) :
  ∀ (d i j:Nat),j - i=d->lo<=i->i<=j->j<=hi->(∀ t,lo<=t->t<i->p t)->(∀ t,j<=t->t<hi->¬ p t)->
   ∃ n,lo<=n/\n<=hi/\(∀ t,lo<=t->t<n->p t)/\(∀ t,n<=t->t<hi->¬ p t)/\zbg step ((i:Int),(j:Int))=k (n:Int):=by
 intro d
 induction d using Nat.strongRecOn with
 | _ d ih=>
  intro i j e h1 h2 h3 h4 h5
  by_cases c:i<j
  ·have hst:=hs i j h1 c h3
   generalize hh:(i+j) / 2=h at hst
   by_cases cp:p h
   ·rw [xac cp] at hst
    obtain ⟨n,r⟩:=ih (j - (h+1)) (by omega) (h+1) j rfl (by omega) (by omega) h3 (fun t g1 g2=>by
     by_cases q:t=h
     ·rw [q]; exact cp
     ·exact hp t h g1 (by omega) (by omega) cp) h5
    exact ⟨n,r.1,r.2.1,r.2.2.1,r.2.2.2.1,(zak hst).trans r.2.2.2.2⟩
   ·rw [xab cp] at hst
    obtain ⟨n,r⟩:=ih (h - i) (by omega) i h rfl h1 (by omega) (by omega) h4 (fun t g1 g2 q=>by
     by_cases q2:t=h
     ·rw [q2] at q; exact cp q
     ·exact cp (hp h t (by omega) (by omega) g2 q))
    exact ⟨n,r.1,r.2.1,r.2.2.1,r.2.2.2.1,(zak hst).trans r.2.2.2.2⟩
  ·have:i=j:=by omega
   subst this
   refine ⟨i,h1,h3,h4,h5,?_⟩
   rw [znx,he i h1 h3]
   cases k (i:Int) <;> rfl
theorem mid_w (i j:Nat)(h:i+j<=9000000000000000000):w64 (Int.fdiv (IntKind.u64.wrap (w64 ((i:Int)+(j:Int)))) (2 ^ (min (1:Int).toNat 64)))=(((i+j) / 2:Nat):Int):=by
 have e2:(2:Int) ^ (min (1:Int).toNat 64)=((2:Nat):Int):=by decide
 have e1:IntKind.u64.wrap (w64 ((i:Int)+(j:Int)))=((i+j:Nat):Int):=by
  rw [zai ..]
  unfold IntKind.wrap
  simp only [IntKind.signed,IntKind.bits]
  simp
  omega
 rw [e1,e2,fdiv_nat',zai ..]
theorem ins_in (P:Cs)(v1:Cs×Int):∀ (n:Nat) (U W:Cs) (x:Cell),U.length=n->Srt U->(P++(U++x::W)).length<=1000000000000->
  ∃ U1 U2,U=U1++U2/\(∀ y∈U1,le y x)/\(∀ y∈U2,ah x y)/\
   zc6 (P.length:Int) v1 (P++(U++x::W),((P.length+U.length:Nat):Int))=some (.inl (P++(U1++x::(U2++W)),w64 (v1.2+1))):=by
 intro n
 induction n with
 | zero=>
  intro U W x e hs hl
  have:U=[]:=xag e
  subst this
  refine ⟨[],[],rfl,by simp,by simp,zah ?_⟩
  have hc:decide ((P.length:Int)<((P.length+([]:Cs).length:Nat):Int))=false:=xa0 (by simp)
  unfold zba
  dsimp only
  rw [hc,zaa (fun q=>by cases q),zaa (fun q=>by cases q),zaa (fun q=>by cases q),zaa (fun q=>by cases q),xab (by decide),zac,xab (by simp)]
  rfl
 | succ n ih=>
  intro U W x e hs hl
  rcases xc6 U with h0 | ⟨U',y,rfl⟩
  ·subst h0; cases e
  ·rw [xc7] at *
   have hU':U'.length=n:=by simpa using e
   have hd:P++((U'++[y])++x::W)=(P++U')++y::([]++x::W):=by simp
   have hj:((P.length+(U'++[y]).length:Nat):Int)=(((P++U').length+1+([]:Cs).length:Nat):Int):=by simp; omega
   have hi:w64 ((((P++U').length+1+([]:Cs).length:Nat):Int) - 1)=((P++U').length:Int):=by
    simp only [xaa,xah,xax] at hl ⊢
    rw [zai ..]; omega
   have hlen:((P++U')++y::([]++x::W)).length=(P++U').length+2+W.length:=by simp; omega
   rw [hd,hj]
   have hB:zba (P.length:Int) v1 ((P++U')++y::([]++x::W),(((P++U').length+1+([]:Cs).length:Nat):Int)) =
     if zcf x y=true then some (.inl ((P++U')++x::([]++y::W),((P++U').length:Int))) else some (.inr (.inl ((P++U')++y::([]++x::W),w64 (v1.2+1)))):=by
    have hc:decide ((P.length:Int)<(((P++U').length+1+([]:Cs).length:Nat):Int))=true:=xbm (by simp only [xaa,xax]; omega)
    have hr1:0<=(((P++U').length+1+([]:Cs).length:Nat):Int)/\(((P++U').length+1+([]:Cs).length:Nat):Int)<(((P++U')++y::([]++x::W)).length:Int):=by rw [hlen]; simp only [xax]; omega
    have hr2:0<=((P++U').length:Int)/\((P++U').length:Int)<(((P++U')++y::([]++x::W)).length:Int):=by rw [hlen]; omega
    unfold zba
    dsimp only
    rw [hc,hi,zaa (fun _=>hr1),zaa (fun _=>hr1),zaa (fun _=>hr2),zaa (fun _=>hr2),xac rfl,sw_i,sw_j _ _ _ _ _ rfl]
    simp only [zby]
    rw [zn3,zac]
    by_cases c:zcf x y=true
    ·rw [xac c,xac (by simp [(zo9 x y).2 c]),zaa hr2,zaa hr2,zaa hr1,zaa hr1,zaa hr1,zaa hr1,zaa (by rw [ze8]; exact hr2),zaa (by rw [ze8]; exact hr2),sw_ji _ _ _ _ _ rfl]
     rfl
    ·have:decide (ord x y<0)=false:=xa0 fun q=>c ((zo9 x y).1 q)
     rw [xab c,this,xab (by decide)]; rfl
   by_cases c:zcf x y=true
   ·rw [xac c] at hB
    have hs':Srt U':=(xa6.1 hs).1
    obtain ⟨U1,U2,e1,h1,h2,h3⟩:=ih U' (y::W) x hU' hs' (by simpa using hl)
    refine ⟨U1,U2++[y],by rw [e1]; simp,h1,fun z hz=>?_,(zak hB).trans ?_⟩
    ·rcases xar.1 hz with q | q
     ·exact h2 z q
     ·rw [xau.1 q]; exact (za0 _ _).1 c
    ·have e2:P++U'++x::([]++y::W)=P++(U'++x::(y::W)):=by simp
     have e3:P++(U1++x::(U2++[y]++W))=P++(U1++x::(U2++y::W)):=by simp
     rw [e2,e3,xaa]; exact h3
   ·rw [xab c] at hB
    have c':le y x:=fun q=>c ((za0 _ _).2 q)
    refine ⟨U'++[y],[],by simp,fun z hz=>?_,by simp,?_⟩
    ·rcases xar.1 hz with q | q
     ·exact le_trans ((xa6.1 hs).2.2 z q y (xau.2 rfl)) c'
     ·rw [xau.1 q]; exact c'
    ·have e3:P++(U'++[y]++x::([]++W))=P++U'++y::([]++x::W):=by simp
     rw [e3]; exact zah hB
theorem ins_out (P S:Cs):∀ (M2 M1:Cs),(P++(M1++(M2++S))).length<=1000000000000->
  zbx (P.length:Int) ((P.length+(M1.length+M2.length):Nat):Int) (P++(zik M1++(M2++S)),((P.length+M1.length:Nat):Int))=some (P++(zik (M1++M2)++S))
 | [],M1,hl=>by
  refine zah ?_
  unfold zbb
  dsimp only
  rw [xab (d_f (by simp)),xa4]; rfl
 | x::M2,M1,hl=>by
  have hsl:=zfk M1
  obtain ⟨U1,U2,e1,h1,h2,h3⟩:=ins_in P (P++(zik M1++(x::M2++S)),((P.length+M1.length:Nat):Int)) _ (zik M1) (M2++S) x rfl (zk6 M1) (by simp only [xaa,xah] at hl ⊢; omega)
  have hw:w64 (((P.length+M1.length:Nat):Int)+1)=((P.length+(M1++[x]).length:Nat):Int):=by
   simp only [xaa,xah,xax] at hl ⊢
   rw [zai ..]; omega
  have hsx:U1++x::U2=zik (M1++[x]):=by
   refine srtd_is (put_srt (e1▸zk6 M1) h1 fun y hy=>le_of_ah (h2 y hy)) ?_
   have a1:Stab (M1++[x]) (zik M1++[x]):=Stab.app (zja M1) (Stab.refl _)
   have a2:Stab (U2++[x]) ([x]++U2):=Stab.swap fun y hy z hz q=>by
    rw [xau.1 hz] at q
    exact zjv (h2 y hy) (zc7 q)
   have a3:Stab (U1++(U2++[x])) (U1++([x]++U2)):=Stab.app (Stab.refl U1) a2
   rw [e1,xaf] at a1
   exact a1.trans a3
  have ih:=ins_out P S M2 (M1++[x]) (by simpa using hl)
  refine (zak ?_).trans ((congrArg (fun z=>zbx (P.length:Int) z (P++(zik (M1++[x])++(M2++S)),((P.length+(M1++[x]).length:Nat):Int))) (show ((P.length+(M1.length+(x::M2).length):Nat):Int)=((P.length+((M1++[x]).length+M2.length):Nat):Int) by simp only [xaa,xah,xax]; omega)).trans (ih.trans ?_))
  ·unfold zbb
   dsimp only
   rw [xac (d_t (by simp only [xah]; omega))]
   rw [hsl] at h3
   refine h3.trans ?_
   rw [hw,<- hsx]; simp
  ·rw [xaf]; rfl
theorem insertion_eq (P M S:Cs)(hl:(P++(M++S)).length<=1000000000000):za7 (P.length:Int) ((P.length+M.length:Nat):Int) (P++(M++S))=some (P++(zik M++S)):=by
 have hw:w64 ((P.length:Int)+1)=((P.length+1:Nat):Int):=by simp only [xaa] at hl; rw [zai ..]; omega
 unfold za7
 rw [hw]
 cases M with
 | nil=>
  have e:zik []=[]:=zpa .nil
  rw [e]
  refine zah ?_
  unfold zbb
  dsimp only
  rw [xab (d_f (by simp; omega))]; rfl
 | cons x M=>
  have e:zik [x]=[x]:=zpa (xdp _ _)
  have:=ins_out P S M [x] (by simpa using hl)
  rw [e] at this
  have e2:((P.length+(x::M).length:Nat):Int)=((P.length+([x].length+M.length):Nat):Int):=by simp only [xah,xax]; omega
  rw [e2]; exact this
theorem swr_loop (P Q S:Cs)(a b num:Int):∀ (Xr Yr Xd Yd:Cs) (t:Nat),Xr.length=Yr.length->Xd.length=t->Yd.length=t->num=((t+Xr.length:Nat):Int)->a=(P.length:Int)->b=((P.length+(t+Xr.length)+Q.length:Nat):Int)->
  (P++(Yd++(Xr++(Q++(Xd++(Yr++S)))))).length<=1000000000000->
  zdm a b num (P++(Yd++(Xr++(Q++(Xd++(Yr++S))))),(t:Int))=some (P++((Yd++Yr)++(Q++((Xd++Xr)++S))))
 | [],[],Xd,Yd,t,e1,e2,e3,e4,e5,e6,hl=>by
  refine zah ?_
  unfold zch
  dsimp only
  rw [xab (d_f (by rw [e4]; simp))]
  simp only [xa4,xbk]; rfl
 | x::Xr,y::Yr,Xd,Yd,t,e1,e2,e3,e4,e5,e6,hl=>by
  have ih:=swr_loop P Q S a b num Xr Yr (Xd++[x]) (Yd++[y]) (t+1) (by simpa using e1) (by simp [e2]) (by simp [e3]) (by rw [e4]; simp only [xah]; omega) e5 (by rw [e6]; simp only [xah]; omega) (by simp only [xaa,xah,xax] at hl ⊢; omega)
  have hd:P++(Yd++(x::Xr++(Q++(Xd++(y::Yr++S)))))=(P++Yd)++x::((Xr++(Q++Xd))++y::(Yr++S)):=by simp
  have hd2:P++((Yd++[y])++(Xr++(Q++((Xd++[x])++(Yr++S)))))=(P++Yd)++y::((Xr++(Q++Xd))++x::(Yr++S)):=by simp
  have hlen:((P++Yd)++x::((Xr++(Q++Xd))++y::(Yr++S))).length=(P++Yd).length+1+(Xr++(Q++Xd)).length+1+(Yr++S).length:=by simp; omega
  rw [hd] at hl ⊢
  rw [hd2] at ih
  rw [hlen] at hl
  have hA:w64 (a+(t:Int))=((P++Yd).length:Int):=by
   simp only [xaa,xah] at hl ⊢
   rw [e5,zai ..]; omega
  have hJ:w64 (b+(t:Int))=(((P++Yd).length+1+(Xr++(Q++Xd)).length:Nat):Int):=by
   simp only [xaa,xah] at hl e6 ⊢
   rw [e6,zai ..]; omega
  have hr1:0<=(((P++Yd).length+1+(Xr++(Q++Xd)).length:Nat):Int)/\(((P++Yd).length+1+(Xr++(Q++Xd)).length:Nat):Int)<(((P++Yd)++x::((Xr++(Q++Xd))++y::(Yr++S))).length:Int):=by rw [hlen]; omega
  have hr2:0<=((P++Yd).length:Int)/\((P++Yd).length:Int)<(((P++Yd)++x::((Xr++(Q++Xd))++y::(Yr++S))).length:Int):=by rw [hlen]; omega
  refine (zak ?_).trans (ih.trans ?_)
  ·unfold zch
   dsimp only
   rw [xac (d_t (by rw [e4]; simp only [xah]; omega)),hA,hJ,zaa hr1,zaa hr1,zaa hr2,zaa hr2,zaa hr2,zaa hr2,zaa (by rw [ze8]; exact hr1),zaa (by rw [ze8]; exact hr1),sw_i,sw_j _ _ _ _ _ rfl]
   simp only [zby,lt]
   rw [sw_ij _ _ _ _ _ rfl,zai (by simp only [xaa] at hl; omega) (by simp only [xaa] at hl; omega)]
   rfl
  ·simp
theorem swapRange_eq (P X Q Y S:Cs)(h:X.length=Y.length)(hl:(P++(X++(Q++(Y++S)))).length<=1000000000000){a b num:Int}(ha:a=(P.length:Int))(hb:b=((P.length+X.length+Q.length:Nat):Int))(hn:num=(X.length:Int)) :
  za6 a b num (P++(X++(Q++(Y++S))))=some (P++(Y++(Q++(X++S)))):=by
 unfold za6
 have:=swr_loop P Q S a b num X Y [] [] 0 h rfl rfl (by rw [hn]; simp) ha (by rw [hb]; simp) (by simpa using hl)
 simpa using this
theorem rot_loop (m:Int):∀ (n:Nat) (P U V S:Cs),U.length+V.length=n->U≠[]->V≠[]->m=((P.length+U.length:Nat):Int)->(P++(U++(V++S))).length<=1000000000000->
  zd7 m (P++(U++(V++S)),(U.length:Int),(V.length:Int))=some (P++(V++(U++S))):=by
 intro n
 induction n using Nat.strongRecOn with
 | _ n ih=>
  intro P U V S e hU hV hm hl
  have hu:=xaq.2 hU
  have hv:=xaq.2 hV
  have hl':=hl
  simp only [xaa] at hl'
  have hmi:w64 (m - (U.length:Int))=(P.length:Int):=by rw [hm,zai ..]; omega
  by_cases c:U.length=V.length
  ·refine zah ?_
   unfold zb1
   dsimp only
   rw [xab (n_f (by omega))]
   unfold zc0
   dsimp only
   have:=swapRange_eq P U [] V S c (by simpa using hl) (a:=(P.length:Int)) (b:=m) (num:=(U.length:Int)) rfl (by rw [hm]; simp) rfl
   simp only [xbk] at this
   rw [hmi,this]; rfl
  ·by_cases c2:V.length<U.length
   ·have hsp:U=U.take V.length++U.drop V.length:=(xa1 ..).symm
    have h1:(U.take V.length).length=V.length:=by rw [xal]; omega
    have h2:(U.drop V.length).length=U.length - V.length:=by rw [xa7]
    generalize U.take V.length=U1 at *
    generalize U.drop V.length=U2 at *
    subst hsp
    have ih':=ih (U2.length+U1.length) (by simp only [xaa] at e; omega) (P++V) U2 U1 S rfl (xaq.1 (by omega)) (xaq.1 (by omega)) (by rw [hm]; simp only [xaa]; omega) (by simp only [xaa] at hl ⊢; omega)
    have hd:P++(U1++U2++(V++S))=P++(U1++(U2++(V++S))):=by simp
    have hw:w64 (((U1++U2).length:Int) - (V.length:Int))=(U2.length:Int):=by simp only [xaa] at hl' ⊢; rw [zai ..]; omega
    have hsw:=swapRange_eq P U1 U2 V S h1 (by rw [<- hd]; exact hl) (a:=(P.length:Int)) (b:=m) (num:=(V.length:Int)) rfl (by rw [hm]; simp only [xaa]; omega) (by omega)
    refine (zak ?_).trans (ih'.trans (by simp))
    unfold zb1
    dsimp only
    rw [xac (n_t (by omega)),ifT ..,hmi,hd,hsw,zac,hw,h1]
    simp
   ·have hsp:V=V.take (V.length - U.length)++V.drop (V.length - U.length):=(xa1 ..).symm
    have h1:(V.take (V.length - U.length)).length=V.length - U.length:=by rw [xal]; omega
    have h2:(V.drop (V.length - U.length)).length=U.length:=by rw [xa7]; omega
    generalize V.take (V.length - U.length)=V1 at *
    generalize V.drop (V.length - U.length)=V2 at *
    subst hsp
    have ih':=ih (V2.length+V1.length) (by simp only [xaa] at e; omega) P V2 V1 (U++S) rfl (xaq.1 (by omega)) (xaq.1 (by omega)) (by rw [hm]; omega) (by simp only [xaa] at hl ⊢; omega)
    have hd:P++(U++(V1++V2++S))=P++(U++(V1++(V2++S))):=by simp
    have hw:w64 (((V1++V2).length:Int) - (U.length:Int))=(V1.length:Int):=by simp only [xaa] at hl' ⊢; rw [zai ..]; omega
    have hw2:w64 (w64 (m+((V1++V2).length:Int)) - (U.length:Int))=((P.length+U.length+V1.length:Nat):Int):=by
     simp only [xaa] at hl' ⊢
     have h3:w64 (m+((V1.length+V2.length:Nat):Int))=m+((V1.length+V2.length:Nat):Int):=zai ..
     rw [h3,zai ..]; omega
    have hsw:=swapRange_eq P U V1 V2 S h2.symm (by rw [<- hd]; exact hl) (a:=(P.length:Int)) (b:=((P.length+U.length+V1.length:Nat):Int)) (num:=(U.length:Int)) rfl rfl rfl
    refine (zak ?_).trans (ih'.trans (by simp))
    unfold zb1
    dsimp only
    rw [xac (n_t (by omega)),ifF ..,hmi,hw2,hd,hsw,zac,hw,h2]
theorem rotate_eq (P U V S:Cs)(hU:U≠[])(hV:V≠[])(hl:(P++(U++(V++S))).length<=1000000000000){a m b:Int}(ha:a=(P.length:Int))(hm:m=((P.length+U.length:Nat):Int))(hb:b=((P.length+U.length+V.length:Nat):Int)) :
  zbv a m b (P++(U++(V++S)))=some (P++(V++(U++S))):=by
 have hl':=hl
 simp only [xaa] at hl'
 unfold zbv
 have e1:w64 (m - a)=(U.length:Int):=by rw [ha,hm,zai ..]; omega
 have e2:w64 (b - m)=(V.length:Int):=by rw [hb,hm,zai ..]; omega
 rw [e1,e2]
 exact rot_loop m _ P U V S rfl hU hV hm hl
theorem srt_at {l:Cs}(h:Srt l){i j:Nat}(hij:i<j)(hj:j<l.length):le (zad l (i:Int)) (zad l (j:Int)):=by
 rw [zbi l i (by omega),zbi l j hj]
 exact List.pairwise_iff_getElem.1 h i j (by omega) hj hij
theorem srt_at' {l:Cs}(h:Srt l){i j:Nat}(hij:i<=j)(hj:j<l.length):le (zad l (i:Int)) (zad l (j:Int)):=by
 by_cases e:i=j
 ·rw [e]; exact le_refl _
 ·exact srt_at h (by omega) hj
theorem get_A (P A R:Cs)(i:Nat)(h:i<A.length):zad (P++(A++R)) ((P.length+i:Nat):Int)=zad A (i:Int):=by
 rw [zbi _ _ (by simp only [xaa]; omega),zbi _ _ h,xdb (by omega),xdg (by omega)]
 congr 1; omega
theorem get_B (P A B S:Cs)(i:Nat)(h:i<B.length):zad (P++(A++(B++S))) ((P.length+A.length+i:Nat):Int)=zad B (i:Int):=by
 have:=get_A (P++A) B S i h
 rw [xaf,xaa] at this
 exact this
theorem zpu {l:Cs}{x:Cell}{n:Nat}(h:x∈l.take n):∃ i,i<n/\i<l.length/\x=zad l (i:Int):=by
 obtain ⟨i,hi,rfl⟩:=xcd.1 h
 rw [xal] at hi
 exact ⟨i,by omega,by omega,by rw [zbi l i (by omega),List.getElem_take]⟩
theorem zqi {l:Cs}{x:Cell}{n:Nat}(h:x∈l.drop n):∃ i,n<=i/\i<l.length/\x=zad l (i:Int):=by
 obtain ⟨i,hi,rfl⟩:=xcd.1 h
 rw [xa7] at hi
 exact ⟨n+i,by omega,by omega,by rw [zbi l (n+i) (by omega),List.getElem_drop]⟩
theorem mvR (P R:Cs)(x:Cell)(v:Int):∀ (Br Bd:Cs),v - 1=((P.length+Bd.length+Br.length:Nat):Int)->(P++(Bd++x::(Br++R))).length<=1000000000000->
  zds v (P++(Bd++x::(Br++R)),((P.length+Bd.length:Nat):Int))=some (P++((Bd++Br)++x::R))
 | [],Bd,hv,hl=>by
  have hl':=hl
  simp only [xaa,xah] at hl'
  have hw:w64 (v - 1)=v - 1:=zai ..
  refine zah ?_
  unfold zco
  dsimp only
  rw [hw,xab (d_f (by rw [hv]; simp))]
  simp only [xa4,xbk]; rfl
 | y::Br,Bd,hv,hl=>by
  have hl':=hl
  simp only [xaa,xah] at hl' hv
  have hw:w64 (v - 1)=v - 1:=zai ..
  have ih:=mvR P R x v Br (Bd++[y]) (by rw [hv]; simp only [xaa,xah,xax]; omega) (by simp only [xaa,xah,xax]; omega)
  have hd:P++(Bd++x::(y::Br++R))=(P++Bd)++x::([]++y::(Br++R)):=by simp
  have hd2:P++((Bd++[y])++x::(Br++R))=(P++Bd)++y::([]++x::(Br++R)):=by simp
  have hk:((P.length+Bd.length:Nat):Int)=((P++Bd).length:Int):=by rw [xaa]
  have hk2:w64 (((P++Bd).length:Int)+1)=(((P++Bd).length+1+([]:Cs).length:Nat):Int):=by
   simp only [xaa,xax]; rw [zai ..]; omega
  have hlen:((P++Bd)++x::([]++y::(Br++R))).length=(P++Bd).length+2+(Br++R).length:=by simp; omega
  have hr1:0<=(((P++Bd).length+1+([]:Cs).length:Nat):Int)/\(((P++Bd).length+1+([]:Cs).length:Nat):Int)<(((P++Bd)++x::([]++y::(Br++R))).length:Int):=by rw [hlen]; simp only [xax]; omega
  have hr2:0<=((P++Bd).length:Int)/\((P++Bd).length:Int)<(((P++Bd)++x::([]++y::(Br++R))).length:Int):=by rw [hlen]; omega
  rw [hd2] at ih
  rw [hd,hk]
  refine (zak ?_).trans (ih.trans (by simp))
  unfold zco
  dsimp only
  rw [hw,xac (d_t (by rw [hv,xaa]; omega)),hk2,zaa hr1,zaa hr1,zaa hr2,zaa hr2,zaa hr2,zaa hr2,zaa (by rw [ze8]; exact hr1),zaa (by rw [ze8]; exact hr1),sw_i,sw_j _ _ _ _ _ rfl]
  simp only [zby,lt]
  rw [sw_ij _ _ _ _ _ rfl]
  have:(((P++Bd).length+1+([]:Cs).length:Nat):Int)=((P.length+(Bd++[y]).length:Nat):Int):=by simp only [xaa,xah,xax]; omega
  rw [this]
theorem mvL (Q:Cs)(x:Cell):∀ (n:Nat) (U R:Cs),U.length=n->(Q++(U++x::R)).length<=1000000000000->
  zdu (Q.length:Int) (Q++(U++x::R),((Q.length+U.length:Nat):Int))=some (Q++(x::(U++R))):=by
 intro n
 induction n with
 | zero=>
  intro U R e hl
  have:U=[]:=xag e
  subst this
  refine zah ?_
  unfold zcl
  dsimp only
  rw [xab (d_f (by simp))]; rfl
 | succ n ih=>
  intro U R e hl
  rcases xc6 U with h0 | ⟨U',y,rfl⟩
  ·subst h0; cases e
  ·rw [xc7] at *
   have hd:Q++((U'++[y])++x::R)=(Q++U')++y::([]++x::R):=by simp
   have hd2:(Q++U')++x::([]++y::R)=Q++(U'++x::(y::R)):=by simp
   have hj:((Q.length+(U'++[y]).length:Nat):Int)=(((Q++U').length+1+([]:Cs).length:Nat):Int):=by simp; omega
   have hi:w64 ((((Q++U').length+1+([]:Cs).length:Nat):Int) - 1)=((Q++U').length:Int):=by
    simp only [xaa,xah,xax] at hl ⊢
    rw [zai ..]; omega
   have hlen:((Q++U')++y::([]++x::R)).length=(Q++U').length+2+R.length:=by simp; omega
   have hr1:0<=(((Q++U').length+1+([]:Cs).length:Nat):Int)/\(((Q++U').length+1+([]:Cs).length:Nat):Int)<(((Q++U')++y::([]++x::R)).length:Int):=by rw [hlen]; simp only [xax]; omega
   have hr2:0<=((Q++U').length:Int)/\((Q++U').length:Int)<(((Q++U')++y::([]++x::R)).length:Int):=by rw [hlen]; omega
   have ih':=ih U' (y::R) (by simpa using e) (by simpa using hl)
   rw [hd,hj]
   refine (zak ?_).trans (ih'.trans (by simp))
   unfold zcl
   dsimp only
   rw [xac (d_t (by simp only [xaa,xax]; omega)),hi,zaa hr2,zaa hr2,zaa hr1,zaa hr1,zaa hr1,zaa hr1,zaa (by rw [ze8]; exact hr2),zaa (by rw [ze8]; exact hr2),sw_i,sw_j _ _ _ _ _ rfl]
   simp only [zby,lt]
   rw [sw_ji _ _ _ _ _ rfl,hd2,xaa]
abbrev RecT:=(Int×Int×Int×Cs)->Option Cs
theorem sym_one (f:RecT)(P:Cs)(x:Cell)(B S:Cs)(hB:Srt B)(hl:(P++([x]++(B++S))).length<=1000000000000) :
  zam f (P.length:Int) ((P.length+1:Nat):Int) ((P.length+1+B.length:Nat):Int) (P++([x]++(B++S)))=some (P++(zik ([x]++B)++S)):=by
 have hl':=hl
 simp only [xaa,xah,xax] at hl'
 have hlen:(P++([x]++(B++S))).length=P.length+1+B.length+S.length:=by simp only [xaa,xah,xax]; omega
 have hx:zad (P++([x]++(B++S))) (P.length:Int)=x:=zqe P x (B++S)
 have hb:∀ t,P.length+1<=t->t<P.length+1+B.length->zad (P++([x]++(B++S))) (t:Int)=zad B ((t - (P.length+1):Nat):Int):=fun t h1 h2=>by
  have:=get_B P [x] B S (t - (P.length+1)) (by omega)
  rw [<- this]; congr 1; simp only [xah,xax]; omega
 unfold zam
 rw [xac (d_t (by rw [zai ..]; omega))]
 unfold zd0
 obtain ⟨n,h1,h2,h3,h4,h5⟩:=bs_any (fun y=>zbq (P.length:Int) (P++([x]++(B++S))) y) (zbo (P.length:Int) (P++([x]++(B++S))))
  (fun t=>zcf (zad (P++([x]++(B++S))) (t:Int)) x=true) (P.length+1) (P.length+1+B.length)
  (fun s t g1 g2 g3 g4=>by
   rw [hb t (by omega) g3,za0] at g4
   rw [hb s g1 (by omega),za0]
   exact ah_of' (srt_at hB (by omega) (by omega)) g4)
  (fun i j g1 g2 g3=>by
   have hm:P.length+1<=(i+j) / 2/\(i+j) / 2<P.length+1+B.length:=by omega
   unfold zbq
   dsimp only
   rw [ifT ..,mid_w i j (by omega)]
   generalize (i+j) / 2=h at hm
   dsimp only [lt]
   rw [zaa (by rw [hlen]; omega),zaa (by rw [hlen]; omega),zaa (by rw [hlen]; omega),zaa (by rw [hlen]; omega),hx]
   simp only [zby]
   rw [zn3,zac]
   by_cases c:zcf (zad (P++([x]++(B++S))) (h:Int)) x=true
   ·rw [xac (d_t ((zo9 _ _).2 c)),xac c,zai ..]; rfl
   ·rw [xab (d_f (fun q=>c ((zo9 _ _).1 q))),xab c])
  (fun i g1 g2=>by
   unfold zbq
   dsimp only
   rw [ifF ..])
  _ (P.length+1) (P.length+1+B.length) rfl (xae _) (by omega) (xae _) (fun t g1 g2=>by omega) (fun t g1 g2=>by omega)
 have e1:((P.length+1:Nat):Int)=((P.length+1:Nat):Int):=rfl
 refine h5.trans ?_
 unfold zbo
 have hsp:B=B.take (n - (P.length+1))++B.drop (n - (P.length+1)):=(xa1 ..).symm
 have hlt:(B.take (n - (P.length+1))).length=n - (P.length+1):=by rw [xal]; omega
 have q1:∀ y∈B.take (n - (P.length+1)),ah y x:=fun y hy=>by
  obtain ⟨i,i1,i2,rfl⟩:=zpu hy
  have:=h3 (P.length+1+i) (by omega) (by omega)
  rw [hb _ (by omega) (by omega),za0] at this
  have e:P.length+1+i - (P.length+1)=i:=by omega
  rwa [e] at this
 have q2:∀ y∈B.drop (n - (P.length+1)),le x y:=fun y hy=>by
  obtain ⟨i,i1,i2,rfl⟩:=zqi hy
  have:=h4 (P.length+1+i) (by omega) (by omega)
  rw [hb _ (by omega) (by omega),za0] at this
  have e:P.length+1+i - (P.length+1)=i:=by omega
  rwa [e] at this
 generalize B.take (n - (P.length+1))=B1 at *
 generalize B.drop (n - (P.length+1))=B2 at *
 subst hsp
 have hmv:=mvR P (B2++S) x (n:Int) B1 [] (by rw [hlt]; simp only [xax]; omega) (by simpa using hl)
 have hd:P++([x]++(B1++B2++S))=P++([]++x::(B1++(B2++S))):=by simp
 rw [hd]
 refine hmv.trans ?_
 have hsr:B1++x::B2=zik ([x]++(B1++B2)):=by
  refine srtd_is (put_srt hB (fun y hy=>le_of_ah (q1 y hy)) q2) ?_
  have a2:Stab ([x]++B1) (B1++[x]):=Stab.swap fun y hy z hz q=>by
   rw [xau.1 hy] at q
   exact zjv (q1 z hz) (zc7 q)
  have a3:=Stab.app a2 (Stab.refl B2)
  simpa using a3
 rw [<- hsr]; simp
theorem sym_last (f:RecT)(P A:Cs)(x:Cell)(S:Cs)(hA:Srt A)(hA1:A.length≠1)(hl:(P++(A++([x]++S))).length<=1000000000000) :
  zam f (P.length:Int) ((P.length+A.length:Nat):Int) ((P.length+A.length+1:Nat):Int) (P++(A++([x]++S)))=some (P++(zik (A++[x])++S)):=by
 have hl':=hl
 simp only [xaa,xah,xax] at hl'
 have hlen:(P++(A++([x]++S))).length=P.length+A.length+1+S.length:=by simp only [xaa,xah,xax]; omega
 have hx:zad (P++(A++([x]++S))) ((P.length+A.length:Nat):Int)=x:=by
  have:=get_B P A [x] S 0 (by simp)
  exact this
 have hb:∀ t,P.length<=t->t<P.length+A.length->zad (P++(A++([x]++S))) (t:Int)=zad A ((t - P.length:Nat):Int):=fun t h1 h2=>by
  have:=get_A P A ([x]++S) (t - P.length) (by omega)
  rw [<- this]; congr 1; omega
 unfold zam
 rw [xab (d_f (by rw [zai ..]; omega)),xac (d_t (by rw [zai ..]; omega))]
 unfold zdz
 obtain ⟨n,h1,h2,h3,h4,h5⟩:=bs_any (fun y=>zbr ((P.length+A.length:Nat):Int) (P++(A++([x]++S))) y) (zbn ((P.length+A.length:Nat):Int) (P++(A++([x]++S))))
  (fun t=>¬ zcf x (zad (P++(A++([x]++S))) (t:Int))=true) P.length (P.length+A.length)
  (fun s t g1 g2 g3 g4 q=>by
   rw [hb s g1 (by omega),za0] at q
   rw [hb t (by omega) g3,za0] at g4
   exact g4 (ah_of q (srt_at hA (by omega) (by omega))))
  (fun i j g1 g2 g3=>by
   have hm:P.length<=(i+j) / 2/\(i+j) / 2<P.length+A.length:=by omega
   unfold zbr
   dsimp only
   rw [ifT ..,mid_w i j (by omega)]
   generalize (i+j) / 2=h at hm
   dsimp only [lt]
   rw [zaa (by rw [hlen]; omega),zaa (by rw [hlen]; omega),zaa (by rw [hlen]; omega),zaa (by rw [hlen]; omega),hx]
   simp only [zby]
   rw [zn3,zac]
   by_cases c:zcf x (zad (P++(A++([x]++S))) (h:Int))=true
   ·rw [xab (n_f ((zo9 _ _).2 c)),xab (xat c)]
   ·rw [xac (n_t (fun q=>c ((zo9 _ _).1 q))),xac c,zai ..]; rfl)
  (fun i g1 g2=>by
   unfold zbr
   dsimp only
   rw [ifF ..])
  _ P.length (P.length+A.length) rfl (xae _) (by omega) (xae _) (fun t g1 g2=>by omega) (fun t g1 g2=>by omega)
 refine h5.trans ?_
 unfold zbn
 have hsp:A=A.take (n - P.length)++A.drop (n - P.length):=(xa1 ..).symm
 have hlt:(A.take (n - P.length)).length=n - P.length:=by rw [xal]; omega
 have q1:∀ y∈A.take (n - P.length),le y x:=fun y hy=>by
  obtain ⟨i,i1,i2,rfl⟩:=zpu hy
  have:=h3 (P.length+i) (by omega) (by omega)
  rw [hb _ (by omega) (by omega),za0] at this
  have e:P.length+i - P.length=i:=by omega
  rwa [e] at this
 have q2:∀ y∈A.drop (n - P.length),ah x y:=fun y hy=>by
  obtain ⟨i,i1,i2,rfl⟩:=zqi hy
  have:=xcp.1 (h4 (P.length+i) (by omega) (by omega))
  rw [hb _ (by omega) (by omega),za0] at this
  have e:P.length+i - P.length=i:=by omega
  rwa [e] at this
 generalize A.take (n - P.length)=A1 at *
 generalize A.drop (n - P.length)=A2 at *
 subst hsp
 have hmv:=mvL (P++A1) x _ A2 S rfl (by simpa using hl)
 have hd:P++(A1++A2++([x]++S))=P++A1++(A2++x::S):=by simp
 have en:(n:Int)=((P++A1).length:Int):=by rw [xaa]; omega
 have em:((P.length+(A1++A2).length:Nat):Int)=(((P++A1).length+A2.length:Nat):Int):=by simp only [xaa]; omega
 rw [hd,en,em]
 refine hmv.trans ?_
 have hsr:A1++x::A2=zik ((A1++A2)++[x]):=by
  refine srtd_is (put_srt hA q1 fun y hy=>le_of_ah (q2 y hy)) ?_
  have a2:Stab (A2++[x]) ([x]++A2):=Stab.swap fun y hy z hz q=>by
   rw [xau.1 hz] at q
   exact zjv (q2 y hy) (zc7 q)
  have a3:=Stab.app (Stab.refl A1) a2
  simpa using a3
 rw [<- hsr]; simp
theorem ob_id {α:Type}(x:Option α):(ob x fun y=>some y)=x:=by cases x <;> rfl
theorem sym_find (f:RecT)(P A B S:Cs)(hA:Srt A)(hB:Srt B)(hA0:A≠[])(hB0:B≠[])(hA1:A.length≠1)(hB1:B.length≠1)(hl:(P++(A++(B++S))).length<=1000000000000)(h lo hi:Nat)(hh:h=(A.length+B.length) / 2)(hlo:lo=P.length+(if h<A.length then h - B.length else 0))(hhi:hi=P.length+(if h<A.length then h else A.length)) :
  ∃ s,s<=A.length/\s<=h/\h - s<=B.length/\(∀ y∈B.take (h - s),∀ x∈A.drop s,ah y x)/\(∀ x∈A.take s,∀ y∈B.drop (h - s),le x y)/\
   zbu (P.length:Int) ((P.length+A.length:Nat):Int) ((P.length+A.length+B.length:Nat):Int) (P++(A++(B++S))) f ((P.length+h:Nat):Int) ((lo:Int),(hi:Int)) =
    za8 (P.length:Int) ((P.length+A.length:Nat):Int) ((P.length+A.length+B.length:Nat):Int) (P++(A++(B++S))) f ((P.length+h:Nat):Int) ((P.length+s:Nat):Int):=by
 have hl':=hl
 simp only [xaa] at hl'
 have hu:=xaq.2 hA0
 have hv:=xaq.2 hB0
 have hlen:(P++(A++(B++S))).length=P.length+A.length+B.length+S.length:=by simp only [xaa]; omega
 have hn:w64 (((P.length+h:Nat):Int)+((P.length+A.length:Nat):Int))=((P.length+h+(P.length+A.length):Nat):Int):=by rw [zai ..]; omega
 have hn1:w64 (((P.length+h+(P.length+A.length):Nat):Int) - 1)=((P.length+h+(P.length+A.length) - 1:Nat):Int):=by rw [zai ..]; omega
 have hlo1:P.length<=lo:=by omega
 have hlo2:h<=B.length+(lo - P.length):=by
  rw [hlo]; split <;> omega
 have hhi1:hi<=P.length+A.length/\hi<=P.length+h:=by rw [hhi]; constructor <;> split <;> omega
 have hlh:lo<=hi:=by rw [hlo,hhi]; split <;> omega
 have hlo3:lo=P.length\/lo+B.length=P.length+h:=by rw [hlo]; split <;> omega
 have hhi3:hi=P.length+A.length\/hi=P.length+h:=by rw [hhi]; split <;> omega
 have gA:∀ t,lo<=t->t<hi->zad (P++(A++(B++S))) (t:Int)=zad A ((t - P.length:Nat):Int):=fun t h1 h2=>by
  have:=get_A P A (B++S) (t - P.length) (by omega)
  rw [<- this]; congr 1; omega
 have gB:∀ t,lo<=t->t<hi->zad (P++(A++(B++S))) ((P.length+h+(P.length+A.length) - 1 - t:Nat):Int)=zad B ((h - 1 - (t - P.length):Nat):Int):=fun t h1 h2=>by
  have:=get_B P A B S (h - 1 - (t - P.length)) (by omega)
  rw [<- this]; congr 1; omega
 have hwp:∀ t:Nat,lo<=t->t<hi->w64 (((P.length+h+(P.length+A.length) - 1:Nat):Int) - (t:Int))=((P.length+h+(P.length+A.length) - 1 - t:Nat):Int):=fun t h1 h2=>by rw [zai ..]; omega
 obtain ⟨n,h1,h2,h3,h4,h5⟩:=bs_any (fun y=>zbs (P.length:Int) ((P.length+A.length:Nat):Int) ((P.length+A.length+B.length:Nat):Int) (P++(A++(B++S))) f ((P.length+h:Nat):Int) y)
  (za8 (P.length:Int) ((P.length+A.length:Nat):Int) ((P.length+A.length+B.length:Nat):Int) (P++(A++(B++S))) f ((P.length+h:Nat):Int))
  (fun t=>¬ zcf (zad (P++(A++(B++S))) ((P.length+h+(P.length+A.length) - 1 - t:Nat):Int)) (zad (P++(A++(B++S))) (t:Int))=true) lo hi
  (fun s t g1 g2 g3 g4 q=>by
   rw [gA s g1 (by omega),gB s g1 (by omega),za0] at q
   rw [gA t (by omega) g3,gB t (by omega) g3,za0] at g4
   exact g4 (ah_of' (srt_at' hB (by omega) (by omega)) (ah_of q (srt_at hA (by omega) (by omega)))))
  (fun i j g1 g2 g3=>by
   have hm:lo<=(i+j) / 2/\(i+j) / 2<hi:=by omega
   unfold zbs
   dsimp only
   rw [ifT ..,mid_w i j (by omega)]
   generalize (i+j) / 2=c at hm
   dsimp only [lt]
   rw [hn,hn1,hwp c hm.1 hm.2,zaa (by rw [hlen]; omega),zaa (by rw [hlen]; omega),zaa (by rw [hlen]; omega),zaa (by rw [hlen]; omega)]
   simp only [zby]
   rw [zn3,zac]
   by_cases q:zcf (zad (P++(A++(B++S))) ((P.length+h+(P.length+A.length) - 1 - c:Nat):Int)) (zad (P++(A++(B++S))) (c:Int))=true
   ·rw [xab (n_f ((zo9 _ _).2 q)),xab (xat q)]
   ·rw [xac (n_t (fun z=>q ((zo9 _ _).1 z))),xac q,zai ..]; rfl)
  (fun i g1 g2=>by
   unfold zbs
   dsimp only
   rw [ifF ..])
  _ lo hi rfl (xae _) hlh (xae _) (fun t g1 g2=>by omega) (fun t g1 g2=>by omega)
 obtain ⟨s,rfl⟩:∃ s,n=P.length+s:=⟨n - P.length,by omega⟩
 have hs1:s<=A.length/\s<=h/\h - s<=B.length:=by omega
 have F1:∀ y∈B.take (h - s),∀ x∈A.drop s,ah y x:=by
  intro y hy x hx
  obtain ⟨i,i1,i2,rfl⟩:=zpu hy
  obtain ⟨j,j1,j2,rfl⟩:=zqi hx
  have hlt:P.length+s<hi:=by omega
  have:=xcp.1 (h4 (P.length+s) (xae _) hlt)
  rw [gA _ h1 hlt,gB _ h1 hlt,za0] at this
  have e:P.length+s - P.length=s:=by omega
  rw [e] at this
  exact ah_of' (srt_at' hB (by omega) (by omega)) (ah_of this (srt_at' hA j1 j2))
 have F2:∀ x∈A.take s,∀ y∈B.drop (h - s),le x y:=by
  intro x hx y hy
  obtain ⟨i,i1,i2,rfl⟩:=zpu hx
  obtain ⟨j,j1,j2,rfl⟩:=zqi hy
  have hge:lo<=P.length+(s - 1):=by omega
  have:=h3 (P.length+(s - 1)) hge (by omega)
  rw [gA _ hge (by omega),gB _ hge (by omega),za0] at this
  have e:P.length+(s - 1) - P.length=s - 1:=by omega
  have e2:h - 1 - (s - 1)=h - s:=by omega
  rw [e,e2] at this
  exact le_trans (srt_at' hA (by omega) (by omega)) (le_trans this (srt_at' hB j1 j2))
 exact ⟨s,hs1.1,hs1.2.1,hs1.2.2,F1,F2,h5⟩
theorem sym_step (f:RecT)(P A B S:Cs)(hA:Srt A)(hB:Srt B)(hA0:A≠[])(hB0:B≠[])(hA1:A.length≠1)(hB1:B.length≠1)(hl:(P++(A++(B++S))).length<=1000000000000) :
  ∃ A1 A2 B1 B2,A=A1++A2/\B=B1++B2/\A1.length+B1.length=(A.length+B.length) / 2/\(∀ y∈B1,∀ x∈A2,ah y x)/\(∀ x∈A1,∀ y∈B2,le x y)/\
   zam f (P.length:Int) ((P.length+A.length:Nat):Int) ((P.length+A.length+B.length:Nat):Int) (P++(A++(B++S))) =
    ob (if (decide (0<A1.length)&&decide (0<B1.length))=true then f ((P.length:Int),((P.length+A1.length:Nat):Int),((P.length+A1.length+B1.length:Nat):Int),P++(A1++(B1++(A2++(B2++S))))) else some (P++(A1++(B1++(A2++(B2++S)))))) fun r=>
    if (decide (0<A2.length)&&decide (0<B2.length))=true then f (((P.length+A1.length+B1.length:Nat):Int),((P.length+A1.length+B1.length+A2.length:Nat):Int),((P.length+A1.length+B1.length+A2.length+B2.length:Nat):Int),r) else some r:=by
 have hl':=hl
 simp only [xaa] at hl'
 have hu:=xaq.2 hA0
 have hv:=xaq.2 hB0
 have hlen:(P++(A++(B++S))).length=P.length+A.length+B.length+S.length:=by simp only [xaa]; omega
 obtain ⟨h,hh⟩:∃ h,h=(A.length+B.length) / 2:=⟨_,rfl⟩
 have hmid:w64 (Int.fdiv (IntKind.u64.wrap (w64 ((P.length:Int)+((P.length+A.length+B.length:Nat):Int)))) (2 ^ (min (1:Int).toNat 64)))=((P.length+h:Nat):Int):=by
  rw [mid_w P.length (P.length+A.length+B.length) (by omega)]; omega
 have hn:w64 (((P.length+h:Nat):Int)+((P.length+A.length:Nat):Int))=((P.length+h+(P.length+A.length):Nat):Int):=by rw [zai ..]; omega
 have hnb:h<A.length->w64 (((P.length+h+(P.length+A.length):Nat):Int) - ((P.length+A.length+B.length:Nat):Int))=((P.length+(h - B.length):Nat):Int):=fun q=>by rw [zai ..]; omega
 obtain ⟨lo,hlo⟩:∃ lo,lo=P.length+(if h<A.length then h - B.length else 0):=⟨_,rfl⟩
 obtain ⟨hi,hhi⟩:∃ hi,hi=P.length+(if h<A.length then h else A.length):=⟨_,rfl⟩
 obtain ⟨s,s1,s2,s3,F1,F2,h5⟩:=sym_find f P A B S hA hB hA0 hB0 hA1 hB1 hl h lo hi hh hlo hhi
 have hLA1:(A.take s).length=s:=by rw [xal]; omega
 have hLA2:(A.drop s).length=A.length - s:=xa7
 have hLB1:(B.take (h - s)).length=h - s:=by rw [xal]; omega
 have hLB2:(B.drop (h - s)).length=B.length - (h - s):=xa7
 have hsA:A=A.take s++A.drop s:=(xa1 ..).symm
 have hsB:B=B.take (h - s)++B.drop (h - s):=(xa1 ..).symm
 refine ⟨A.take s,A.drop s,B.take (h - s),B.drop (h - s),hsA,hsB,by omega,F1,F2,?_⟩
 have hrow:P++(A++(B++S))=(P++A.take s)++(A.drop s++(B.take (h - s)++(B.drop (h - s)++S))):=by
  conv=>lhs; rw [hsA,hsB]
  simp only [xaf]
 unfold zam
 rw [xab (d_f (by rw [zai ..]; omega)),xab (d_f (by rw [zai ..]; omega)),hmid]
 dsimp only [lt]
 rw [hn]
 have hst:(ob (if (decide (((P.length+h:Nat):Int)<((P.length+A.length:Nat):Int)))=true then some (w64 (((P.length+h+(P.length+A.length):Nat):Int) - ((P.length+A.length+B.length:Nat):Int)),((P.length+h:Nat):Int)) else some ((P.length:Int),((P.length+A.length:Nat):Int))) fun (v13:Int×Int)=>
   zbu (P.length:Int) ((P.length+A.length:Nat):Int) ((P.length+A.length+B.length:Nat):Int) (P++(A++(B++S))) f ((P.length+h:Nat):Int) (v13.1,v13.2)) =
   zbu (P.length:Int) ((P.length+A.length:Nat):Int) ((P.length+A.length+B.length:Nat):Int) (P++(A++(B++S))) f ((P.length+h:Nat):Int) ((lo:Int),(hi:Int)):=by
  by_cases c:h<A.length
  ·rw [ifT ..,hnb c,zac,hlo,hhi,xac c,xac c]
  ·rw [ifF ..,zac,hlo,hhi,xab c,xab c]; rfl
 refine hst.trans ?_
 refine h5.trans ?_
 unfold za8
 have hend:w64 (((P.length+h+(P.length+A.length):Nat):Int) - ((P.length+s:Nat):Int))=((P.length+h+(A.length - s):Nat):Int):=by rw [zai ..]; omega
 rw [hn,hend]
 have hrot:(if ((decide (((P.length+s:Nat):Int)<((P.length+A.length:Nat):Int)))&&(decide (((P.length+A.length:Nat):Int)<((P.length+h+(A.length - s):Nat):Int))))=true then
   ob (zbv ((P.length+s:Nat):Int) ((P.length+A.length:Nat):Int) ((P.length+h+(A.length - s):Nat):Int) (P++(A++(B++S)))) fun x2=>some x2 else some (P++(A++(B++S))))=some (P++(A.take s++(B.take (h - s)++(A.drop s++(B.drop (h - s)++S))))):=by
  by_cases c:s<A.length/\s<h
  ·have:=rotate_eq (P++A.take s) (A.drop s) (B.take (h - s)) (B.drop (h - s)++S) (xaq.1 (by omega)) (xaq.1 (by omega)) (by rw [<- hrow]; exact hl) (a:=((P.length+s:Nat):Int)) (m:=((P.length+A.length:Nat):Int)) (b:=((P.length+h+(A.length - s):Nat):Int))
    (by rw [xaa,hLA1]) (by rw [xaa,hLA1,hLA2]; omega) (by rw [xaa,hLA1,hLA2,hLB1]; omega)
   rw [xac (an_t ⟨by omega,by omega⟩),ob_id,hrow,this]; simp only [xaf]
  ·rw [xab (an_f (by omega)),hrow]
   by_cases c2:s<A.length
   ·have:B.take (h - s)=[]:=xag (by omega)
    rw [this]; simp only [xaf,xbk]
   ·have:A.drop s=[]:=xag (by omega)
    rw [this]; simp only [xaf,xbk]
 rw [hrot,zac,hLA1,hLA2,hLB1,hLB2]
 simp only [ob_id]
 have c1:((decide ((P.length:Int)<((P.length+s:Nat):Int)))&&(decide (((P.length+s:Nat):Int)<((P.length+h:Nat):Int))))=(decide (0<s)&&decide (0<h - s)):=by
  rw [xbu]; simp only [xaw,xaz]; omega
 have c2:((decide (((P.length+h:Nat):Int)<((P.length+h+(A.length - s):Nat):Int)))&&(decide (((P.length+h+(A.length - s):Nat):Int)<((P.length+A.length+B.length:Nat):Int))))=(decide (0<A.length - s)&&decide (0<B.length - (h - s))):=by
  rw [xbu]; simp only [xaw,xaz]; omega
 have k1:((P.length+h:Nat):Int)=((P.length+s+(h - s):Nat):Int):=by omega
 have k2:((P.length+h+(A.length - s):Nat):Int)=((P.length+s+(h - s)+(A.length - s):Nat):Int):=by omega
 have k3:((P.length+A.length+B.length:Nat):Int)=((P.length+s+(h - s)+(A.length - s)+(B.length - (h - s)):Nat):Int):=by omega
 rw [c1,c2,<- k1,<- k2,<- k3]
theorem srtd_four {A1 A2 B1 B2:Cs}(hA:Srt (A1++A2))(hB:Srt (B1++B2))(h1:∀ y∈B1,∀ x∈A2,ah y x)(h2:∀ x∈A1,∀ y∈B2,le x y):zik (A1++B1)++zik (A2++B2)=zik ((A1++A2)++(B1++B2)):=by
 refine srtd_is (srt_app (zk6 _) (zk6 _) fun x hx y hy=>?_) ?_
 ·have hx:=(zja (A1++B1)).mem hx
  have hy:=(zja (A2++B2)).mem hy
  rcases xar.1 hx with hx | hx
  ·rcases xar.1 hy with hy | hy
   ·exact pw_mid hA hx hy
   ·exact h2 x hx y hy
  ·rcases xar.1 hy with hy | hy
   ·exact le_of_ah (h1 x hx y hy)
   ·exact pw_mid hB hx hy
 ·have a:Stab (A2++B1) (B1++A2):=Stab.swap fun x hx y hy q=>zjv (h1 y hy x hx) (zc7 q)
  have b:Stab (A1++((A2++B1)++B2)) (A1++((B1++A2)++B2)):=Stab.app (Stab.refl _) (Stab.app a (Stab.refl _))
  have c:Stab ((A1++B1)++(A2++B2)) (zik (A1++B1)++zik (A2++B2)):=Stab.app (zja _) (zja _)
  simp only [xaf] at b c ⊢
  exact b.trans c
where
 pw_mid {a b:Cs} {x y:Cell} (h:Srt (a++b)) (hx:x∈a) (hy:y∈b):le x y:=(xa6.1 h).2.2 x hx y hy
noncomputable def gM (x:Int×Int×Int×Cs):Cs:=x.2.2.2.take x.1.toNat++(zik ((x.2.2.2.take x.2.2.1.toNat).drop x.1.toNat)++x.2.2.2.drop x.2.2.1.toNat)
def iM (x:Int×Int×Int×Cs):Prop:=∃ P A B S:Cs,x=((P.length:Int),((P.length+A.length:Nat):Int),((P.length+A.length+B.length:Nat):Int),P++(A++(B++S)))/\A≠[]/\B≠[]/\Srt A/\Srt B/\(P++(A++(B++S))).length<=1000000000000
theorem gM_eq (P A B S:Cs):gM ((P.length:Int),((P.length+A.length:Nat):Int),((P.length+A.length+B.length:Nat):Int),P++(A++(B++S)))=P++(zik (A++B)++S):=by
 unfold gM
 dsimp only
 rw [xbe,xbe]
 have e1:(P++(A++(B++S))).take P.length=P:=xc2
 have e2:P++(A++(B++S))=(P++(A++B))++S:=by simp only [xaf]
 have e3:P.length+A.length+B.length=(P++(A++B)).length:=by simp only [xaa]; omega
 rw [e1,e2,e3,xc2,xd9,xd9]
theorem sym_eq {P A B S:Cs}(hA0:A≠[])(hB0:B≠[])(hA:Srt A)(hB:Srt B)(hl:(P++(A++(B++S))).length<=1000000000000) :
  zb9 (P.length:Int) ((P.length+A.length:Nat):Int) ((P.length+A.length+B.length:Nat):Int) (P++(A++(B++S)))=some (P++(zik (A++B)++S)):=by
 have one:∀ (f:RecT) (P A B S:Cs),A≠[]->B≠[]->Srt A->Srt B->(P++(A++(B++S))).length<=1000000000000->A.length=1\/B.length=1->
   zam f (P.length:Int) ((P.length+A.length:Nat):Int) ((P.length+A.length+B.length:Nat):Int) (P++(A++(B++S)))=some (P++(zik (A++B)++S)):=by
  intro f P A B S hA0 hB0 hA hB hl h
  by_cases c:A.length=1
  ·obtain ⟨x,rfl⟩:=List.length_eq_one_iff.1 c
   exact sym_one f P x B S hB hl
  ·have c2:B.length=1:=by omega
   obtain ⟨x,rfl⟩:=List.length_eq_one_iff.1 c2
   exact sym_last f P A x S hA c hl
 have first:∀ (P A1 A2 B1 B2 S:Cs) (hA:Srt (A1++A2)) (hB:Srt (B1++B2)),¬ (0<A1.length/\0<B1.length)->zik (A1++B1)=A1++B1:=by
  intro P A1 A2 B1 B2 S hA hB h
  have a:=(xa6.1 hA).1
  have b:=(xa6.1 hB).1
  by_cases c:A1.length=0
  ·rw [xag c]; exact zpa b
  ·rw [xag (show B1.length=0 by omega),xa4]; exact zpa a
 have last:∀ (P A1 A2 B1 B2 S:Cs) (hA:Srt (A1++A2)) (hB:Srt (B1++B2)),¬ (0<A2.length/\0<B2.length)->zik (A2++B2)=A2++B2:=by
  intro P A1 A2 B1 B2 S hA hB h
  have a:=(xa6.1 hA).2.1
  have b:=(xa6.1 hB).2.1
  by_cases c:A2.length=0
  ·rw [xag c]; exact zpa b
  ·rw [xag (show B2.length=0 by omega),xa4]; exact zpa a
 have y1:∀ (P A1 A2 B1 B2 S:Cs),Srt (A1++A2)->Srt (B1++B2)->0<A1.length->0<B1.length->(P++((A1++A2)++((B1++B2)++S))).length<=1000000000000->iM ((P.length:Int),((P.length+A1.length:Nat):Int),((P.length+A1.length+B1.length:Nat):Int),P++(A1++(B1++(A2++(B2++S))))):=
  fun P A1 A2 B1 B2 S hA hB ha hb hl=>⟨P,A1,B1,A2++(B2++S),rfl,xaq.1 ha,xaq.1 hb,(xa6.1 hA).1,(xa6.1 hB).1,by simp only [xaa] at hl ⊢; omega⟩
 have y2:∀ (P A1 A2 B1 B2 S:Cs),Srt (A1++A2)->Srt (B1++B2)->0<A2.length->0<B2.length->(P++((A1++A2)++((B1++B2)++S))).length<=1000000000000->
   iM (((P.length+A1.length+B1.length:Nat):Int),((P.length+A1.length+B1.length+A2.length:Nat):Int),((P.length+A1.length+B1.length+A2.length+B2.length:Nat):Int),P++(zik (A1++B1)++(A2++(B2++S))))/\
   gM (((P.length+A1.length+B1.length:Nat):Int),((P.length+A1.length+B1.length+A2.length:Nat):Int),((P.length+A1.length+B1.length+A2.length+B2.length:Nat):Int),P++(zik (A1++B1)++(A2++(B2++S))))=P++(zik (A1++B1)++(zik (A2++B2)++S)):=by
  intro P A1 A2 B1 B2 S hA hB ha hb hl
  have e:P.length+A1.length+B1.length=(P++zik (A1++B1)).length:=by rw [xaa,zfk,xaa]; omega
  have e2:P++(zik (A1++B1)++(A2++(B2++S)))=(P++zik (A1++B1))++(A2++(B2++S)):=by simp only [xaf]
  rw [e,e2]
  refine ⟨⟨P++zik (A1++B1),A2,B2,S,rfl,xaq.1 ha,xaq.1 hb,(xa6.1 hA).2.1,(xa6.1 hB).2.1,?_⟩,?_⟩
  ·simp only [xaa,zfk] at hl ⊢; omega
  ·rw [gM_eq]; simp only [xaf]
 have:=recO_spec (S:=fun rec (x:Int×Int×Int×Cs)=>zam rec x.1 x.2.1 x.2.2.1 x.2.2.2) iM (fun x=>(x.2.2.1 - x.1).toNat) gM
  (by
   rintro x f ⟨P,A,B,S,rfl,hA0,hB0,hA,hB,hl⟩ ih r e
   dsimp only at ih e
   rw [gM_eq]
   have hu:=xaq.2 hA0
   have hv:=xaq.2 hB0
   by_cases c:A.length=1\/B.length=1
   ·rw [one f P A B S hA0 hB0 hA hB hl c] at e; exact (zq5 e).symm
   ·obtain ⟨A1,A2,B1,B2,rfl,rfl,hh,F1,F2,hS⟩:=sym_step f P A B S hA hB hA0 hB0 (by omega) (by omega) hl
    rw [hS] at e
    obtain ⟨r2,e1,e2⟩:=ob_elim e
    rw [<- srtd_four hA hB F1 F2]
    simp only [xaa] at ih hh c hu hv
    have hr2:r2=P++(zik (A1++B1)++(A2++(B2++S))):=by
     by_cases c1:0<A1.length/\0<B1.length
     ·rw [xac (an_t c1)] at e1
      have:=ih _ r2 (y1 P A1 A2 B1 B2 S hA hB c1.1 c1.2 hl) (by dsimp only; omega) e1
      rw [this,gM_eq]
     ·rw [xab (an_f c1)] at e1
      rw [first P A1 A2 B1 B2 S hA hB c1,<- zq5 e1]; simp only [xaf]
    rw [hr2] at e2
    by_cases c2:0<A2.length/\0<B2.length
    ·rw [xac (an_t c2)] at e2
     obtain ⟨k1,k2⟩:=y2 P A1 A2 B1 B2 S hA hB c2.1 c2.2 hl
     have:=ih _ r k1 (by dsimp only; omega) e2
     rw [this,k2]; simp only [xaf]
    ·rw [xab (an_f c2)] at e2
     rw [last P A1 A2 B1 B2 S hA hB c2,<- zq5 e2]; simp only [xaf])
  (by
   rintro x f ⟨P,A,B,S,rfl,hA0,hB0,hA,hB,hl⟩ ih
   dsimp only at ih ⊢
   rw [gM_eq]
   have hu:=xaq.2 hA0
   have hv:=xaq.2 hB0
   by_cases c:A.length=1\/B.length=1
   ·exact one f P A B S hA0 hB0 hA hB hl c
   ·obtain ⟨A1,A2,B1,B2,rfl,rfl,hh,F1,F2,hS⟩:=sym_step f P A B S hA hB hA0 hB0 (by omega) (by omega) hl
    rw [hS,<- srtd_four hA hB F1 F2]
    simp only [xaa] at ih hh c hu hv
    have hr2:(if (decide (0<A1.length)&&decide (0<B1.length))=true then f ((P.length:Int),((P.length+A1.length:Nat):Int),((P.length+A1.length+B1.length:Nat):Int),P++(A1++(B1++(A2++(B2++S))))) else some (P++(A1++(B1++(A2++(B2++S))))))=some (P++(zik (A1++B1)++(A2++(B2++S)))):=by
     by_cases c1:0<A1.length/\0<B1.length
     ·rw [xac (an_t c1),ih _ (y1 P A1 A2 B1 B2 S hA hB c1.1 c1.2 hl) (by dsimp only; omega),gM_eq]
     ·rw [xab (an_f c1),first P A1 A2 B1 B2 S hA hB c1]; simp only [xaf]
    rw [hr2,zac]
    by_cases c2:0<A2.length/\0<B2.length
    ·obtain ⟨k1,k2⟩:=y2 P A1 A2 B1 B2 S hA hB c2.1 c2.2 hl
     rw [xac (an_t c2),ih _ k1 (by dsimp only; omega),k2]; simp only [xaf]
    ·rw [xab (an_f c2),last P A1 A2 B1 B2 S hA hB c2]; simp only [xaf])
  (x:=((P.length:Int),((P.length+A.length:Nat):Int),((P.length+A.length+B.length:Nat):Int),P++(A++(B++S)))) ⟨P,A,B,S,rfl,hA0,hB0,hA,hB,hl⟩
 unfold zb9
 rw [this,gM_eq]
theorem srtd_nil:zik []=[]:=zpa .nil
inductive Chs (bs:Nat):Cs->Cs->Prop
 | last (l:Cs) (h:l.length<=bs):Chs bs l (zik l)
 | more (A l r:Cs) (h:A.length=bs) (t:Chs bs l r):Chs bs (A++l) (zik A++r)
theorem Chs.len {bs:Nat}{l r:Cs}(h:Chs bs l r):r.length=l.length:=by
 induction h with
 | last l h=>exact zfk l
 | more A l r h t ih=>rw [xaa,xaa,zfk,ih]
theorem Chs.short {bs:Nat}{l r:Cs}(h:Chs bs l r)(h0:0<bs)(hl:l.length<=bs):r=zik l:=by
 cases h with
 | last _ h=>rfl
 | more A l r h t=>
  have:l=[]:=xag (by rw [xaa] at hl; omega)
  subst this
  have:=t.len
  have:r=[]:=xag (by simpa using this)
  rw [this,xa4,xa4]
theorem Chs.two {bs:Nat}{l r:Cs}(h:Chs bs l r)(h0:0<bs)(hl:bs<l.length):∃ A l' r',l=A++l'/\r=zik A++r'/\A.length=bs/\Chs bs l' r':=by
 cases h with
 | last _ h=>omega
 | more A l r h t=>exact ⟨A,l,r,rfl,rfl,h,t⟩
theorem stab2 (A B:Cs):zik (zik A++zik B)=zik (A++B):=srtd_congr (Stab.app (zja A) (zja B))
theorem first_pass (num:Int):∀ (n:Nat) (P l:Cs),l.length=n->num=((P.length+l.length:Nat):Int)->(P++l).length<=500000000000->
  ∃ r,Chs 20 l r/\zb2 num (P++l,(P.length:Int),((P.length+20:Nat):Int))=za5 num (P++r,20):=by
 intro n
 induction n using Nat.strongRecOn with
 | _ n ih=>
  intro P l e hn hl
  have hl':=hl
  rw [xaa] at hl'
  by_cases c:20<=l.length
  ·have hsp:l=l.take 20++l.drop 20:=(xa1 ..).symm
   have h1:(l.take 20).length=20:=by rw [xal]; omega
   have h2:(l.drop 20).length=l.length - 20:=xa7
   generalize l.take 20=A at *
   generalize l.drop 20=l2 at *
   subst hsp
   have hp:(P++zik A).length=P.length+20:=by rw [xaa,zfk,h1]
   obtain ⟨r,r1,r2⟩:=ih l2.length (by rw [xaa] at e; omega) (P++zik A) l2 rfl (by rw [hn,hp,xaa]; omega) (by rw [xaa,hp]; rw [xaa] at hl'; omega)
   refine ⟨zik A++r,.more A l2 r h1 r1,?_⟩
   have hi:=insertion_eq P A l2 (by simp only [xaa] at hl ⊢; omega)
   rw [h1] at hi
   rw [hp] at r2
   refine (zak ?_).trans (r2.trans (by simp only [xaf]))
   unfold zb3
   dsimp only
   rw [ifT ..,hi,zac,zai ..,xaf]
   rfl
  ·refine ⟨zik l,.last l (by omega),?_⟩
   have hi:=insertion_eq P l [] (by simpa using (by omega:P.length+l.length<=1000000000000))
   simp only [xa4] at hi
   have hB:zb3 num (P++l,(P.length:Int),((P.length+20:Nat):Int))=zev (za5 num (P++zik l,20)):=by
    unfold zb3
    dsimp only
    rw [ifF ..]
    unfold zcw
    dsimp only
    rw [hn,hi,zac]
   unfold zb2
   rw [znx,hB]
   cases za5 num (P++zik l,20) <;> rfl
theorem second_pass (num:Int)(bs:Nat)(h0:0<bs)(h1:bs<=1000000000000)(z:Cs):∀ (n:Nat) (P l r:Cs),l.length=n->Chs bs l r->num=((P.length+l.length:Nat):Int)->(P++l).length<=500000000000->
  ∃ r',Chs (2*bs) l r'/\zea num (z,(bs:Int)) (P++r,(P.length:Int),((P.length+2*bs:Nat):Int))=some (.inl (P++r',((2*bs:Nat):Int))):=by
 intro n
 have hw2:w64 (2*(bs:Int))=((2*bs:Nat):Int):=by rw [zai ..]; omega
 have hw3:w64 ((bs:Int)*2)=((2*bs:Nat):Int):=by rw [zai ..]; omega
 induction n using Nat.strongRecOn with
 | _ n ih=>
  intro P l r e hc hn hl
  have hl':=hl
  rw [xaa] at hl'
  have hwa:w64 ((P.length:Int)+(bs:Int))=((P.length+bs:Nat):Int):=by rw [zai ..]; omega
  by_cases c:2*bs<=l.length
  ·obtain ⟨A,l1,r1,rfl,rfl,hA,hc1⟩:=hc.two h0 (by omega)
   rw [xaa] at c e hl'
   obtain ⟨B,l2,r2,hl1,hr1,hB,hc2⟩:∃ B l2 r2,l1=B++l2/\r1=zik B++r2/\B.length=bs/\Chs bs l2 r2:=by
    by_cases q:bs<l1.length
    ·exact hc1.two h0 q
    ·refine ⟨l1,[],[],by simp,by rw [hc1.short h0 (by omega)]; simp,by omega,?_⟩
     have:=Chs.last (bs:=bs) [] (by simp)
     rwa [srtd_nil] at this
   subst hl1 hr1
   rw [xaa] at c e hl'
   have hr2:=hc2.len
   have hs:=sym_eq (P:=P) (A:=zik A) (B:=zik B) (S:=r2) (xaq.1 (by rw [zfk]; omega)) (xaq.1 (by rw [zfk]; omega)) (zk6 A) (zk6 B) (by simp only [xaa,zfk]; omega)
   rw [zfk,zfk,stab2,hA,hB] at hs
   have e2:P.length+bs+bs=P.length+2*bs:=by omega
   rw [e2] at hs
   have hp:(P++zik (A++B)).length=P.length+2*bs:=by rw [xaa,zfk,xaa]; omega
   obtain ⟨r',k1,k2⟩:=ih l2.length (by omega) (P++zik (A++B)) l2 r2 rfl hc2 (by rw [hn,hp]; simp only [xaa]; omega) (by rw [xaa,hp]; omega)
   refine ⟨zik (A++B)++r',?_,?_⟩
   ·have:=Chs.more (bs:=2*bs) (A++B) l2 r' (by rw [xaa]; omega) k1
    rwa [xaf] at this
   ·rw [hp] at k2
    refine (zak ?_).trans (k2.trans (by simp only [xaf]))
    unfold zcy
    dsimp only
    rw [xac (d_t (by rw [hn]; simp only [xaa]; omega)),hwa,hs,zac,hw2,zai ..,xaf]
    have:((P.length+2*bs:Nat):Int)+((2*bs:Nat):Int)=((P.length+2*bs+2*bs:Nat):Int):=by omega
    rw [this]
  ·refine ⟨zik l,.last l (by omega),zah ?_⟩
   unfold zcy
   dsimp only
   rw [ifF ..]
   unfold zcx
   dsimp only
   rw [hwa,hw3]
   by_cases q:bs<l.length
   ·obtain ⟨A,l1,r1,rfl,rfl,hA,hc1⟩:=hc.two h0 q
    rw [xaa] at c q hl'
    have hr1:=hc1.short h0 (by omega)
    subst hr1
    have hs:=sym_eq (P:=P) (A:=zik A) (B:=zik l1) (S:=[]) (xaq.1 (by rw [zfk]; omega)) (xaq.1 (by rw [zfk]; omega)) (zk6 A) (zk6 l1) (by simp only [xaa,zfk,xax]; omega)
    rw [zfk,zfk,stab2,hA,xa4,xa4] at hs
    have e3:num=((P.length+bs+l1.length:Nat):Int):=by rw [hn,xaa]; omega
    rw [xac (d_t (by rw [e3]; omega)),e3,hs]; rfl
   ·rw [ifF ..,hc.short h0 (by omega)]; rfl
theorem all_passes (l:Cs)(hl:l.length<=500000000000):∀ (n bs:Nat) (r:Cs),l.length - bs=n->0<bs->bs<=1000000000000->Chs bs l r->za5 (l.length:Int) (r,(bs:Int))=some (zik l):=by
 intro n
 induction n using Nat.strongRecOn with
 | _ n ih=>
  intro bs r e h0 h1 hc
  by_cases c:bs<l.length
  ·obtain ⟨r',k1,k2⟩:=second_pass (l.length:Int) bs h0 h1 r _ [] l r rfl hc (by simp) (by simpa using hl)
   refine (zak ?_).trans (ih (l.length - 2*bs) (by omega) (2*bs) r' rfl (by omega) (by omega) k1)
   unfold zcz
   dsimp only
   have hw2:w64 (2*(bs:Int))=((2*bs:Nat):Int):=by rw [zai ..]; omega
   rw [ifT ..,hw2]
   simpa using k2
  ·refine zah ?_
   unfold zcz
   dsimp only
   rw [ifF ..,hc.short h0 (by omega)]; rfl
theorem stable_eq (l:Cs)(hl:l.length<=500000000000):zbc l=some (zik l):=by
 unfold zbc zdk
 obtain ⟨r,k1,k2⟩:=first_pass (l.length:Int) _ [] l rfl (by simp) (by simpa using hl)
 have:=all_passes l hl _ 20 r rfl (by omega) (by omega) k1
 have k2':zb2 (l.length:Int) (l,0,20)=za5 (l.length:Int) (r,20):=k2
 rw [k2']
 have h20:((20:Nat):Int)=20:=rfl
 rw [h20] at this
 rw [this]; rfl
theorem ord_zero (a b:Cell):ord a b=0↔key a b:=by
 unfold ord
 constructor
 ·intro h
  split at h
  ·cases h
  ·rename_i h1
   split at h
   ·cases h
   ·rename_i h2
    rcases ah_tri a b with q | q | q
    ·exact absurd ((za0 _ _).2 q) h1
    ·exact q
    ·exact absurd ((za0 _ _).2 q) h2
 ·intro h
  rw [xab (fun q=>zjv ((za0 _ _).1 q) h),xab (fun q=>zjv ((za0 _ _).1 q) (zc7 h))]
theorem same_eq (a b:Cell):zkx a b=some (decide (key a b)):=by
 unfold zkx
 rw [zn3,zac]
 congr 1
 rw [xbu,xd8,xd8,ord_zero]
noncomputable def ddpP:Cell->Cs->Cs
 | _,[]=>[]
 | y,x::l=>if key x y then ddpP x l else x::ddpP x l
noncomputable def ddp:Cs->Cs
 | []=>[]
 | x::l=>x::ddpP x l
theorem lclear_take {α:Type}(l:List α)(k n:Nat)(z:α)(h:k<=l.length):(zo3 l k n z).take k=l.take k/\k<=(zo3 l k n z).length:=by
 unfold zo3
 have e:(l.take k).length=k:=by rw [xal]; omega
 constructor
 ·rw [xaf,List.take_append_of_le_length (by omega),List.take_of_length_le (by omega)]
 ·rw [xaa,xaa,e]; omega
theorem compact_in (row:Cs)(v1:Int)(k0:Nat)(hv:v1=(k0:Int))(hl:row.length<=500000000000):∀ (l D G:Cs) (y:Cell) (k2:Nat),1<=k2->D.length+G.length+1=k0+k2->(D++(G++y::l)).length=row.length->
  zbw row v1 (D++(G++y::l),(D.length:Int),(k2:Int))=some (.inr (D++ddpP y l))
 | [],D,G,y,k2,h1,h2,h3=>by
  have h3':=h3
  simp only [xaa,xah,xax] at h3'
  refine zah ?_
  unfold zbd
  dsimp only
  rw [hv,xbe,ifF ..]
  unfold zbz
  dsimp only
  rw [xbe,zaa (by rw [h3]; omega)]
  dsimp only [lt]
  obtain ⟨c1,c2⟩:=lclear_take (D++(G++[y])) D.length ((D++(G++[y])).length - D.length) (⟨([]:B8),([]:B8),0,false,([]:B8)⟩:Cell) (by rw [h3]; omega)
  rw [zaa ..,zaa c2,c1,xc2,ddpP,xa4]; rfl
 | z::l,D,G,y,k2,h1,h2,h3=>by
  have h3':=h3
  simp only [xaa,xah] at h3'
  have e1:D++(G++y::z::l)=(D++G)++y::([]++z::l):=by simp
  have g1:zad (D++(G++y::z::l)) ((k0+k2:Nat):Int)=z:=by
   rw [e1]; exact sw_j (D++G) [] l y z (by simp only [xaa,xax]; omega)
  have g2:zad (D++(G++y::z::l)) ((k0+(k2 - 1):Nat):Int)=y:=by
   rw [e1]
   have:=sw_i (D++G) [] l y z
   rw [xaa] at this
   exact Eq.trans (congrArg _ (by omega)) this
  have w1:w64 ((k2:Int) - 1)=((k2 - 1:Nat):Int):=by rw [zai ..]; omega
  have w2:w64 ((k2:Int)+1)=((k2+1:Nat):Int):=by rw [zai ..]; omega
  have hB:zbd row v1 (D++(G++y::z::l),(D.length:Int),(k2:Int))=some (.inl (if key z y then (D++(G++y::z::l),(D.length:Int),((k2+1:Nat):Int)) else (zem (D++(G++y::z::l)) (D.length:Int) z,((D.length+1:Nat):Int),((k2+1:Nat):Int)))):=by
   unfold zbd
   dsimp only
   rw [hv,xbe,xbe,w1,xbe,w2,ifT ..,zaa ..,zaa (by rw [h3]; omega),zaa ..,zaa (by rw [h3]; omega),g1,g2]
   simp only [zby]
   rw [same_eq,zac]
   by_cases c:key z y
   ·rw [xab (n_f c),xac c]; rfl
   ·rw [xac (n_t c),xab c,zaa ..,zaa (by rw [h3]; omega),zaa (by rw [h3]; omega),zaa (by rw [h3]; omega)]
    dsimp only [lt]
    rw [zac,zai ..]; rfl
  by_cases c:key z y
  ·rw [xac c] at hB
   have ih:=compact_in row v1 k0 hv hl l D (G++[y]) z (k2+1) (by omega) (by simp only [xaa,xah,xax]; omega) (by rw [<- h3]; simp)
   have e2:D++(G++[y]++z::l)=D++(G++y::z::l):=by simp
   rw [e2] at ih
   rw [ddpP,xac c]
   exact (zak hB).trans ih
  ·rw [xab c] at hB
   obtain ⟨G',hG'⟩:∃ G',zem (D++(G++y::z::l)) (D.length:Int) z=(D++[z])++(G'++z::l)/\G'.length=G.length:=by
    cases G with
    | nil=>exact ⟨[],by rw [xbk,zth]; simp,rfl⟩
    | cons g G=>exact ⟨G++[y],by rw [xbq,zth]; simp,by simp⟩
   have ih:=compact_in row v1 k0 hv hl l (D++[z]) G' z (k2+1) (by omega) (by simp only [xaa,xah,xax]; omega) (by rw [<- hG'.1,ze8]; exact h3)
   rw [hG'.1] at hB
   rw [ddpP,xab c]
   have e3:(((D++[z]).length:Nat):Int)=((D.length+1:Nat):Int):=by simp
   rw [e3] at ih
   refine (zak hB).trans (ih.trans ?_)
   simp
theorem compact_out (row:Cs)(hl:row.length<=500000000000):∀ (l D:Cs) (y:Cell),row=D++y::l->zc4 row ((D.length+1:Nat):Int)=some (D++y::ddpP y l)
 | [],D,y,h=>by
  refine zah ?_
  unfold za9
  rw [xab (d_f (by rw [h]; simp))]
  unfold zb0
  rw [h,ddpP]; rfl
 | x::l,D,y,h=>by
  have hlen:row.length=D.length+2+l.length:=by rw [h]; simp; omega
  have e1:row=D++y::([]++x::l):=h
  have g1:zad row ((D.length+1:Nat):Int)=x:=by rw [e1]; exact sw_j D [] l y x rfl
  have g2:zad row (D.length:Int)=y:=by rw [e1]; exact sw_i D [] l y x
  have w1:w64 (((D.length+1:Nat):Int) - 1)=(D.length:Int):=by rw [zai ..]; omega
  have w2:w64 (((D.length+1:Nat):Int)+1)=(((D++[y]).length+1:Nat):Int):=by rw [zai ..]; simp
  by_cases c:key x y
  ·rw [ddpP,xac c]
   refine zah ?_
   unfold za9
   rw [w1,ifT ..,zaa ..,zaa ..,zaa ..,zaa ..,g1,g2]
   simp only [zby]
   rw [same_eq,zac,xac (d_t c),zaa ..]
   have:=compact_in row ((D.length+1:Nat):Int) (D.length+1) rfl hl l (D++[y]) [] x 1 (by omega) (by simp) (by rw [h]; simp)
   have e4:D++[y]++([]++x::l)=row:=by rw [h]; simp
   have e5:(((D++[y]).length:Nat):Int)=((D.length+1:Nat):Int):=by simp
   rw [e4,e5] at this
   refine Eq.trans (b:=zbw row ((D.length+1:Nat):Int) (row,((D.length+1:Nat):Int),((1:Nat):Int))) rfl (this.trans ?_)
   simp
  ·rw [ddpP,xab c]
   have ih:=compact_out row hl l (D++[y]) x (by rw [h]; simp)
   refine (zak ?_).trans (ih.trans (by simp))
   unfold za9
   rw [w1,w2,ifT ..,zaa ..,zaa ..,zaa ..,zaa ..,g1,g2]
   simp only [zby]
   rw [same_eq,zac,xab (d_f c)]
theorem compact_eq (l:Cs)(hl:l.length<=500000000000):zbh l=some (ddp l):=by
 unfold zbh
 match l with
 | []=>rw [xac (by simp)]; rfl
 | [x]=>rw [xac (by simp)]; rfl
 | x::y::l=>
  rw [xab (d_f (by simp only [xah]; omega))]
  exact compact_out (x::y::l) hl (y::l) [] x rfl
theorem ddp_firsts:∀ (l:Cs) (y:Cell),Srt (y::l)->Firsts (y::l) (y::ddpP y l)
 | [],y,h=>by
  refine ⟨xdp _ _,fun c=>?_⟩
  rw [ddpP,zme,xau]
  by_cases q:key c y
  ·rw [xac q]
   simp only [xep,Option.some.injEq]
   exact eq_comm
  ·rw [xab q]
   constructor
   ·rintro rfl; exact absurd (zj9 c) q
   ·intro e; simp [fk] at e
 | x::l,y,h=>by
  obtain ⟨p1,p2⟩:=xbh.1 h
  obtain ⟨i1,i2⟩:=ddp_firsts l x p2
  obtain ⟨j1,j2⟩:=xbh.1 i1
  have hyx:=p1 x (xa8 ..)
  rw [ddpP]
  by_cases c:key x y
  ·rw [xac c]
   have hy:∀ z∈ddpP x l,ah y z:=fun z hz=>ah_left c (j1 z hz)
   refine ⟨xbh.2 ⟨hy,j2⟩,fun w=>?_⟩
   rw [zme]
   by_cases q:key w y
   ·rw [xac q]
    simp only [xep,Option.some.injEq]
    constructor
    ·intro hw
     rcases xap.1 hw with e | e
     ·exact e.symm
     ·exact absurd (zc7 q) (zjv (hy w e))
    ·rintro rfl; exact xa8 ..
   ·rw [xab q,<- i2 w]
    constructor
    ·intro hw
     rcases xap.1 hw with e | e
     ·rw [e] at q; exact absurd (zj9 y) q
     ·exact xbl _ e
    ·intro hw
     rcases xap.1 hw with e | e
     ·rw [e] at q; exact absurd c q
     ·exact xbl _ e
  ·rw [xab c]
   have hxy:ah y x:=by
    rcases le_or hyx with e | e
    ·exact e
    ·exact absurd (zc7 e) c
   have hy:∀ z∈x::ddpP x l,ah y z:=fun z hz=>by
    rcases xap.1 hz with e | e
    ·rw [e]; exact hxy
    ·exact zpz hxy (j1 z e)
   refine ⟨xbh.2 ⟨hy,i1⟩,fun w=>?_⟩
   rw [zme]
   by_cases q:key w y
   ·rw [xac q]
    simp only [xep,Option.some.injEq]
    constructor
    ·intro hw
     rcases xap.1 hw with e | e
     ·exact e.symm
     ·exact absurd (zc7 q) (zjv (hy w e))
    ·rintro rfl; exact xa8 ..
   ·rw [xab q,<- i2 w]
    constructor
    ·intro hw
     rcases xap.1 hw with e | e
     ·rw [e] at q; exact absurd (zj9 y) q
     ·exact e
    ·intro hw; exact xbl _ hw
theorem ddp_srtd (l:Cs):Firsts l (ddp (zik l)):=by
 have h:Firsts (zik l) (ddp (zik l)):=by
  cases hs:zik l with
  | nil=>exact ⟨.nil,fun c=>by simp [ddp,fk]⟩
  | cons y t=>
   have:=zk6 l
   rw [hs] at this
   exact ddp_firsts t y this
 exact h.stab (zja l)
theorem grow_eqC (n:Nat)(hn:n<=500000000000):zci (n:Int)=some []:=by
 unfold zci
 have h0:w64 (0 - 0)=0:=by decide
 have hw:w64 ((n:Int) - 0)=(n:Int):=by rw [zai ..]; omega
 rw [h0,hw,ifF ..,zac]
 by_cases c:0<n
 ·rw [ifT ..,zaa ..,zaa (by simp)]
  dsimp only [lt]
  rw [zaa (by simp),zac]; rfl
 ·rw [ifF ..,zac]
theorem cat_loop (L:List Cs)(hf:L.flatten.length<=500000000000)(hL:L.length<=500000000000):∀ (R D:List Cs),L=D++R->zc9 L (D.flatten,(D.length:Int))=some L.flatten
 | [],D,h=>by
  refine zah ?_
  unfold zdb
  dsimp only
  rw [xab (d_f (by rw [h]; simp))]
  unfold zdc
  rw [h,xa4]; rfl
 | g::R,D,h=>by
  have ih:=cat_loop L hf hL R (D++[g]) (by rw [h]; simp)
  have hlen:L.length=D.length+1+R.length:=by rw [h]; simp; omega
  have hg:zad L (D.length:Int)=g:=by rw [h]; simp [zad]
  have hfl:(D.flatten++g).length<=500000000000:=by
   have:L.flatten.length=(D.flatten++g).length+R.flatten.length:=by rw [h]; simp; omega
   omega
  refine (zak ?_).trans ih
  unfold zdb
  dsimp only
  rw [ifT ..,zaa ..,hg,zaa ..,zai ..]
  have e1:(D++[g]).flatten=D.flatten++g:=by simp
  have e2:(((D++[g]).length:Nat):Int)=(D.length:Int)+1:=by simp
  rw [e1,e2]
theorem cat_size (L:List Cs)(hf:L.flatten.length<=500000000000)(hL:L.length<=500000000000):∀ (R D:List Cs),L=D++R->zef L ((D.flatten.length:Int),(D.length:Int))=some L.flatten
 | [],D,h=>by
  have hB:zb7 L ((D.flatten.length:Int),(D.length:Int))=some (.inr L.flatten):=by
   unfold zb7
   dsimp only
   rw [xab (d_f (by rw [h]; simp))]
   unfold zc8
   have hD:D.flatten.length<=500000000000:=by
    have:L=D:=by rw [h]; simp
    rw [<- this]; exact hf
   rw [grow_eqC _ hD,zac]
   have:=cat_loop L hf hL L [] rfl
   have this':zc9 L ([],0)=some L.flatten:=this
   rw [this']; rfl
  exact zah hB
 | g::R,D,h=>by
  have ih:=cat_size L hf hL R (D++[g]) (by rw [h]; simp)
  have hlen:L.length=D.length+1+R.length:=by rw [h]; simp; omega
  have hg:zad L (D.length:Int)=g:=by rw [h]; simp [zad]
  have hfl:D.flatten.length+g.length<=500000000000:=by
   have:L.flatten.length=D.flatten.length+g.length+R.flatten.length:=by rw [h]; simp; omega
   omega
  refine (zak ?_).trans ih
  unfold zb7
  dsimp only
  rw [ifT ..,zaa ..,hg]
  have w1:w64 ((D.flatten.length:Int)+(g.length:Int))=(((D++[g]).flatten.length:Nat):Int):=by
   have e1:(D++[g]).flatten.length=D.flatten.length+g.length:=by simp
   rw [e1,zai ..]; omega
  have e2:(((D++[g]).length:Nat):Int)=(D.length:Int)+1:=by simp
  rw [w1,ifF ..,zac,zai ..,e2]
theorem concat_eq (L:List Cs)(hf:L.flatten.length<=500000000000)(hL:L.length<=500000000000):zdn L=some L.flatten:=cat_size L hf hL L [] rfl
noncomputable def firsts (l:Cs):Cs:=ddp (zik l)
theorem zf2 (l:Cs):Firsts l (firsts l):=ddp_srtd l
theorem zpm {l x:Cs}(h:Firsts l x):x=firsts l:=firsts_uniq h (zf2 l)
theorem merge_eq (L:List Cs)(hf:L.flatten.length<=500000000000)(hL:L.length<=500000000000):zmh L=some (firsts L.flatten):=by
 unfold zmh
 rw [concat_eq L hf hL,zac,stable_eq _ hf,zac,compact_eq _ (by rw [zfk]; exact hf),zac]; rfl
theorem Firsts.put {m l x:Cs}{c:Cell}(h:Firsts m l)(hx:x.Pairwise ah)(hm:∀ w,w∈x↔w=c\/(w∈l/\¬ key w c)):Firsts (c::m) x:=by
 refine ⟨hx,fun w=>?_⟩
 rw [hm,zme]
 by_cases q:key w c
 ·rw [xac q]
  simp only [xep,Option.some.injEq]
  constructor
  ·rintro (e | ⟨_,e⟩)
   ·exact e.symm
   ·exact absurd q e
  ·intro e; exact .inl e.symm
 ·rw [xab q,<- h.2 w]
  constructor
  ·rintro (e | ⟨e,_⟩)
   ·rw [e] at q; exact absurd (zj9 c) q
   ·exact e
  ·intro e; exact .inr ⟨e,q⟩
theorem split_at (c:Cell):∀ l:Cs,l.Pairwise ah->∃ u v,l=u++v/\(∀ x∈u,ah x c)/\(∀ x∈v,¬ ah x c)
 | [],_=>⟨[],[],rfl,by simp,by simp⟩
 | a::l,h=>by
  obtain ⟨p1,p2⟩:=xbh.1 h
  by_cases q:zcf a c=true
  ·obtain ⟨u,v,rfl,h1,h2⟩:=split_at c l p2
   exact ⟨a::u,v,rfl,fun x hx=>by
    rcases xap.1 hx with e | e
    ·rw [e]; exact (za0 _ _).1 q
    ·exact h1 x e,h2⟩
  ·have q':¬ ah a c:=fun z=>q ((za0 _ _).2 z)
   exact ⟨[],a::l,rfl,by simp,fun x hx=>by
    rcases xap.1 hx with e | e
    ·rw [e]; exact q'
    ·exact fun z=>q' (zpz (p1 x e) z)⟩
theorem put_loop (c:Cell)(u v:Cs)(hu:∀ x∈u,ah x c)(hv:∀ x∈v,¬ ah x c)(hl:(u++v).length<=1000000000000):∀ (m k:Nat),u.length - k=m->k<=u.length->
  zp1 (u++v) (c,(k:Int))=zhi (u++v) (c,(u.length:Int)):=by
 intro m
 induction m with
 | zero=>
  intro k e hk
  have:k=u.length:=by omega
  subst this
  have hB:zm3 (u++v) (c,(u.length:Int))=zev (zhi (u++v) (c,(u.length:Int))):=by
   unfold zm3
   dsimp only
   rw [zaa (fun h=>by have:=xa5 h; omega)]
   simp only [zby,lt]
   rw [xab]
   intro q
   rw [xaw,xd8] at q
   have hin:u.length<(u++v).length:=by omega
   have hm:zad (u++v) (u.length:Int)∈v:=by
    rw [zbi _ _ hin,xdb (xae _)]
    exact xdu _
   exact hv _ hm ((za0 _ _).1 q.2)
  unfold zp1
  rw [znx,hB]
  cases zhi (u++v) (c,(u.length:Int)) <;> rfl
 | succ m ih=>
  intro k e hk
  have hl':=hl
  rw [xaa] at hl'
  refine (zak ?_).trans (ih (k+1) (by omega) (by omega))
  unfold zm3
  dsimp only
  rw [zaa (fun h=>by have:=xa5 h; omega)]
  simp only [zby,lt]
  have hm:zad (u++v) (k:Int)∈u:=by
   rw [zbi _ _ (by rw [xaa]; omega),xdg (by omega)]
   exact xdu _
  rw [(za0 _ _).2 (hu _ hm),xac (by simp only [Bool.and_true]; exact d_t (by rw [xaa]; omega)),zai ..]
  rfl
theorem rput_eq (l:Cs)(c:Cell)(hs:l.Pairwise ah)(hl:l.length<=1000000000):∃ x,R_PutCell l c=some x/\x.Pairwise ah/\(∀ w,w∈x↔w=c\/(w∈l/\¬ key w c))/\x.length<=l.length+1:=by
 obtain ⟨u,v,rfl,hu,hv⟩:=split_at c l hs
 have hl':=hl
 rw [xaa] at hl'
 obtain ⟨su,sv,suv⟩:=xa6.1 hs
 have h0:=put_loop c u v hu hv (by omega) u.length 0 (by omega) (by omega)
 have h0':R_PutCell (u++v) c=zhi (u++v) (c,(u.length:Int)):=h0
 have hdr:zc1 (u++v) (u.length:Int)=v:=by rw [zb8,xd9]
 have htk:zd8 (u++v) (u.length:Int)=u:=by rw [zde,xc2]
 rw [h0']
 have ins:(∀ x∈v,ah c x)->(u++c::v).Pairwise ah/\(∀ w,w∈u++c::v↔w=c\/(w∈u++v/\¬ key w c)):=by
  intro hcv
  refine ⟨xa6.2 ⟨su,xbh.2 ⟨hcv,sv⟩,fun x hx y hy=>?_⟩,fun w=>?_⟩
  ·rcases xap.1 hy with e | e
   ·rw [e]; exact hu x hx
   ·exact suv x hx y e
  ·simp only [xar,xap]
   constructor
   ·rintro (e | e | e)
    ·exact .inr ⟨.inl e,zjv (hu w e)⟩
    ·exact .inl e
    ·exact .inr ⟨.inr e,fun q=>zjv (hcv w e) (zc7 q)⟩
   ·rintro (e | ⟨e | e,_⟩)
    ·exact .inr (.inl e)
    ·exact .inl e
    ·exact .inr (.inr e)
 unfold zhi
 dsimp only
 rw [zaa (fun h=>by have:=xa5 h; omega)]
 simp only [zby,lt]
 cases v with
 | nil=>
  rw [xab (by simp),hdr,htk,zaa (by simp),zaa ..,zaa (by simp; omega),zaa (by simp),zaa (by simp; omega)]
  obtain ⟨i1,i2⟩:=ins (by simp)
  exact ⟨u++[c]++[],rfl,by simpa using i1,by simpa using i2,by simp⟩
 | cons a v=>
  have hg:zad (u++a::v) (u.length:Int)=a:=zqe u a v
  have hlt:((u.length:Int))<((u++a::v).length:Int):=by simp only [xaa,xah]; omega
  obtain ⟨sa,sv'⟩:=xbh.1 sv
  rw [hg]
  by_cases q:zcf c a=true
  ·have q':=(za0 _ _).1 q
   rw [q,xab (by simp),hdr,htk,zaa ..,zaa ..,zaa (by simp; omega),zaa ..,zaa (by simp only [xaa,xah,xax] at hl' ⊢; omega)]
   obtain ⟨i1,i2⟩:=ins (fun x hx=>by
    rcases xap.1 hx with e | e
    ·rw [e]; exact q'
    ·exact zpz q' (sa x e))
   refine ⟨u++[c]++a::v,rfl,by simpa using i1,fun w=>?_,by simp; omega⟩
   rw [<- i2 w]; simp
  ·have q':¬ ah c a:=fun z=>q ((za0 _ _).2 z)
   have hk:key c a:=by
    rcases ah_tri c a with e | e | e
    ·exact absurd e q'
    ·exact e
    ·exact absurd e (hv a (xa8 ..))
   have qf:zcf c a=false:=by simpa using q
   rw [qf,xac (by rw [Bool.not_false,Bool.and_true]; exact d_t hlt),zaa ..,zaa ..,zaa ..,zth]
   refine ⟨u++c::v,rfl,?_,fun w=>?_,by simp⟩
   ·refine xa6.2 ⟨su,xbh.2 ⟨fun x hx=>ah_left (zc7 hk) (sa x hx),sv'⟩,fun x hx y hy=>?_⟩
    rcases xap.1 hy with e | e
    ·rw [e]; exact hu x hx
    ·exact suv x hx y (xbl _ e)
   ·simp only [xar,xap]
    constructor
    ·rintro (e | e | e)
     ·exact .inr ⟨.inl e,zjv (hu w e)⟩
     ·exact .inl e
     ·exact .inr ⟨.inr (.inr e),fun z=>zjv (sa w e) (zc7 (zlc z hk))⟩
    ·rintro (e | ⟨e | e | e,z⟩)
     ·exact .inr (.inl e)
     ·exact .inl e
     ·rw [e] at z; exact absurd (zc7 hk) z
     ·exact .inr (.inr e)
theorem rputs_loop (M:Cs):∀ (R D m l:Cs),M=D++R->Firsts m l->l.length+R.length<=1000000000->M.length<=1000000000->∃ x,ztc M (l,(D.length:Int))=some x/\Firsts (R.reverse++m) x/\x.length<=l.length+R.length
 | [],D,m,l,h,hF,hl,hM=>by
  refine ⟨l,zah ?_,hF,by simp⟩
  unfold znw
  dsimp only
  rw [xab (d_f (by rw [h]; simp))]; rfl
 | c::R,D,m,l,h,hF,hl,hM=>by
  have hlen:M.length=D.length+1+R.length:=by rw [h]; simp; omega
  simp only [xah] at hl
  have hg:zad M (D.length:Int)=c:=by rw [h]; exact zqe D c R
  obtain ⟨x,x1,x2,x3,x4⟩:=rput_eq l c hF.1 (by omega)
  obtain ⟨y,y1,y2,y3⟩:=rputs_loop M R (D++[c]) (c::m) x (by rw [h]; simp) (hF.put x2 x3) (by omega) hM
  refine ⟨y,(zak ?_).trans y1,by simpa using y2,by simp only [xah]; omega⟩
  unfold znw
  dsimp only
  rw [ifT ..,zaa ..,hg]
  simp only [zby]
  rw [x1,zac,zai ..]
  have e2:(((D++[c]).length:Nat):Int)=(D.length:Int)+1:=by simp
  rw [e2]
theorem rputs_eq (l M m:Cs)(hF:Firsts m l)(hl:l.length+M.length<=1000000000):zok l M=some (firsts (M.reverse++m)):=by
 obtain ⟨x,x1,x2,_⟩:=rputs_loop M M [] m l rfl hF hl (by omega)
 have x1':zok l M=some x:=x1
 rw [x1',zpm x2]
theorem zmo (l:Cs):(firsts l).length<=l.length:=by
 have h:∀ (l:Cs) (y:Cell),(ddpP y l).length<=l.length:=by
  intro l
  induction l with
  | nil=>intro y; exact xae _
  | cons x l ih=>
   intro y
   rw [ddpP]
   split
   ·have:=ih x; simp only [xah]; omega
   ·have:=ih x; simp only [xah]; omega
 unfold firsts
 rw [<- zfk l]
 cases zik l with
 | nil=>exact xae _
 | cons x t=>rw [ddp]; have:=h t x; simp only [xah]; omega
theorem fk_key {a b:Cell}(h:key a b)(l:Cs):fk a l=fk b l:=by
 unfold fk
 congr 1
 funext x
 exact xdc.2 ⟨fun q=>zlc (zc7 h) q,fun q=>zlc h q⟩
theorem fk_mem {c:Cell}{l:Cs}(h:(fk c l).head?=some c):c∈l:=by
 have:=List.mem_of_mem_head? h
 unfold fk at this
 exact (xck.1 this).1
theorem firsts_mem {l:Cs}{c:Cell}(h:c∈firsts l):c∈l:=fk_mem (((zf2 l).2 c).1 h)
theorem fk_one {M:Cs}(h:M.Pairwise ah)(k:Cell):(fk k M).length<=1:=by
 have hs:(fk k M).Pairwise ah:=h.sublist List.filter_sublist
 have hm:∀ x∈fk k M,key k x:=fun x hx=>xa5 (xck.1 hx).2
 match hq:fk k M with
 | []=>simp
 | [x]=>simp
 | x::y::t=>
  rw [hq] at hs hm
  have h1:=(xbh.1 hs).1 y (by simp)
  exact absurd (zlc (zc7 (hm x (by simp))) (hm y (by simp))) (zjv h1)
theorem stab_rev {M:Cs}(h:M.Pairwise ah):Stab M M.reverse:=fun k=>by
 have h1:=fk_one h k
 have e:fk k M.reverse=(fk k M).reverse:=by unfold fk; rw [List.filter_reverse]
 rw [e]
 match hq:fk k M with
 | []=>rfl
 | [x]=>rfl
 | x::y::t=>rw [hq] at h1; simp at h1
theorem firsts_congr {a b:Cs}(h:Stab a b):firsts a=firsts b:=zpm ((zf2 a).stab h.symm)
theorem zmv {l:Cs}(h:l.Pairwise ah):firsts l=l:=by
 refine (zpm ⟨h,fun c=>⟨fun hc=>?_,fun hc=>fk_mem hc⟩⟩).symm
 have hm:c∈fk c l:=xck.2 ⟨hc,xbm (zj9 c)⟩
 have h1:=fk_one h c
 match hq:fk c l with
 | []=>rw [hq] at hm; cases hm
 | [x]=>rw [hq] at hm; rw [xau.1 hm]; rfl
 | x::y::t=>rw [hq] at h1; simp at h1
def Hd (m m':Cs):Prop:=∀ c,(fk c m).head?=(fk c m').head?
theorem Hd.firsts {m m':Cs}(h:Hd m m'):firsts m=firsts m':=zpm ⟨(zf2 m).1,fun c=>by rw [(zf2 m).2 c,h c]⟩
theorem Hd.app {a a' b b':Cs}(h:Hd a a')(g:Hd b b'):Hd (a++b) (a'++b'):=fun c=>by
 rw [fk_app,fk_app,List.head?_append,List.head?_append,h c,g c]
theorem Hd.refl (m:Cs):Hd m m:=fun _=>rfl
theorem Hd.symm {m m':Cs}(h:Hd m m'):Hd m' m:=fun c=>(h c).symm
theorem Hd.trans {a b c:Cs}(h:Hd a b)(g:Hd b c):Hd a c:=fun x=>(h x).trans (g x)
theorem kinds_len:∀ (x y:Cs),x.Pairwise ah->y.Pairwise ah->(∀ a∈x,∃ b∈y,key a b)->x.length<=y.length
 | [],_,_,_,_=>xa2 _
 | a::x,[],_,_,h=>by obtain ⟨b,hb,_⟩:=h a (xa8 ..); cases hb
 | a::x,b::y,hx,hy,h=>by
  obtain ⟨p1,p2⟩:=xbh.1 hx
  obtain ⟨q1,q2⟩:=xbh.1 hy
  by_cases c:key a b
  ·have:=kinds_len x y p2 q2 fun z hz=>by
    obtain ⟨w,hw,hk⟩:=h z (xbl _ hz)
    rcases xap.1 hw with e | e
    ·rw [e] at hk
     exact absurd (zlc c (zc7 hk)) (zjv (p1 z hz))
    ·exact ⟨w,e,hk⟩
   simp only [xah]; omega
  ·have:=kinds_len (a::x) y hx q2 fun z hz=>by
    obtain ⟨w,hw,hk⟩:=h z hz
    rcases xap.1 hw with e | e
    ·rw [e] at hk
     rcases xap.1 hz with e2 | e2
     ·rw [e2] at hk; exact absurd hk c
     ·obtain ⟨w2,hw2,hk2⟩:=h a (xa8 ..)
      rcases xap.1 hw2 with e3 | e3
      ·rw [e3] at hk2; exact absurd hk2 c
      ·have h5:=ah_right (zc7 hk2) (q1 w2 e3)
       have h6:=ah_left (zc7 hk) h5
       exact absurd (p1 z e2) (zs8 h6)
    ·exact ⟨w,e,hk⟩
   simp only [xah] at this ⊢; omega
theorem firsts_kind {m:Cs}{c:Cell}(h:c∈m):∃ b∈firsts m,key c b:=by
 have hm:c∈fk c m:=xck.2 ⟨h,xbm (zj9 c)⟩
 cases hx:(fk c m).head? with
 | none=>rw [List.head?_eq_none_iff.1 hx] at hm; cases hm
 | some x=>
  have hk:key c x:=xa5 (xck.1 (List.mem_of_mem_head? hx)).2
  exact ⟨x,((zf2 m).2 x).2 (by rw [<- fk_key hk]; exact hx),hk⟩
theorem firsts_sub_len {a b:Cs}(h:∀ c∈a,c∈b):(firsts a).length<=(firsts b).length:=
 kinds_len _ _ (zf2 a).1 (zf2 b).1 fun c hc=>firsts_kind (h c (firsts_mem hc))
theorem ordz (a b:Cell):ord a b=0↔key a b:=by
 unfold ord
 constructor
 ·intro h
  split at h
  ·cases h
  ·rename_i h1
   split at h
   ·cases h
   ·rename_i h2
    rcases ah_tri a b with q | q | q
    ·exact absurd ((za0 _ _).2 q) h1
    ·exact q
    ·exact absurd ((za0 _ _).2 q) h2
 ·intro h
  rw [xab (fun q=>zjv ((za0 _ _).1 q) h),xab (fun q=>zjv ((za0 _ _).1 q) (zc7 h))]
def hd (s:source):Cell:=zad s.cells 0
def slt (a b:source):Prop:=zcf (hd a) (hd b)=true\/(key (hd a) (hd b)/\a.rank<b.rank)
noncomputable instance (a b:source):Decidable (slt a b):=inferInstanceAs (Decidable (_\/_))
theorem zq3 {a b:source}(h:slt a b):¬ slt b a:=by
 rintro (g | ⟨g1,g2⟩)
 ·have g:=(za0 _ _).1 g
  rcases h with h | ⟨h1,h2⟩
  ·exact zs8 g ((za0 _ _).1 h)
  ·exact zjv g (zc7 h1)
 ·rcases h with h | ⟨h1,h2⟩
  ·exact zjv ((za0 _ _).1 h) (zc7 g1)
  ·omega
theorem nslt_trans {a b c:source}(h:¬ slt b a)(g:¬ slt c b):¬ slt c a:=by
 have h1:le (hd a) (hd b):=fun q=>h (.inl ((za0 _ _).2 q))
 have g1:le (hd b) (hd c):=fun q=>g (.inl ((za0 _ _).2 q))
 rintro (q | ⟨q1,q2⟩)
 ·exact g1 (ah_of ((za0 _ _).1 q) h1)
 ·rcases le_or h1 with k | k
  ·exact g1 (ah_left (zc7 q1) k)
  ·have e1:¬ b.rank<a.rank:=fun z=>h (.inr ⟨zc7 k,z⟩)
   have e2:¬ c.rank<b.rank:=fun z=>g (.inr ⟨zlc q1 k,z⟩)
   omega
theorem slt_trans {a b c:source}(h:slt a b)(g:slt b c):slt a c:=xcp.1 fun q=>nslt_trans q (zq3 h) g
def At (ar:List source)(row:List Nat)(p:Nat):source:=zad ar ((zad row (p:Int):Nat):Int)
def Okr (ar:List source)(row:List Nat):Prop:=∀ x∈row,x<ar.length/\(zad ar (x:Int)).cells≠[]
theorem Okr.at {ar:List source}{row:List Nat}(h:Okr ar row){p:Nat}(hp:p<row.length):zad row (p:Int)<ar.length/\0<(At ar row p).cells.length:=by
 have hm:zad row (p:Int)∈row:=zcb row _ (by omega)
 obtain ⟨h1,h2⟩:=h _ hm
 exact ⟨h1,xaq.2 h2⟩
theorem less_eq {ar:List source}{row:List Nat}(h:Okr ar row){i k:Nat}(hi:i<row.length)(hk:k<row.length):zhe (i:Int) (k:Int) row ar=some (decide (slt (At ar row i) (At ar row k))):=by
 obtain ⟨a1,a2⟩:=h.at hi
 obtain ⟨b1,b2⟩:=h.at hk
 unfold At at a2 b2 ⊢
 unfold zhe
 rw [zaa ..,zaa ..,zaa ..,zaa ..,zaa ..,zaa ..,zaa ..,zaa ..]
 simp only [zby]
 rw [zn3,zac,zaa (fun _ _=>by omega),zaa (fun _ _=>by omega),zaa (fun _ _=>by omega),zaa (fun _ _=>by omega),zaa (fun _ _=>by omega),zaa (fun _ _=>by omega)]
 dsimp only [lt]
 congr 1
 rw [xbu]
 simp only [xbb,xaw,xaz,zo9,ordz]
 rfl
def HF (ar:List source)(row:List Nat)(a:Nat):Prop:=∀ p c:Nat,a<=p->(c=2*p+1\/c=2*p+2)->c<row.length->¬ slt (At ar row c) (At ar row p)
def HA (ar:List source)(row:List Nat)(a i:Nat):Prop:=
 (∀ p c:Nat,a<=p->p≠i->(c=2*p+1\/c=2*p+2)->c<row.length->¬ slt (At ar row c) (At ar row p))/\
 (∀ p c:Nat,a<=p->(i=2*p+1\/i=2*p+2)->(c=2*i+1\/c=2*i+2)->c<row.length->¬ slt (At ar row c) (At ar row p))
theorem HF.min {ar:List source}{row:List Nat}(h:HF ar row 0):∀ j:Nat,j<row.length->¬ slt (At ar row j) (At ar row 0):=by
 intro j
 induction j using Nat.strongRecOn with
 | _ j ih=>
  intro hj
  by_cases c:j=0
  ·subst c; exact fun q=>zq3 q q
  ·obtain ⟨p,hp⟩:∃ p,j=2*p+1\/j=2*p+2:=⟨(j - 1) / 2,by omega⟩
   exact nslt_trans (ih p (by omega) (by omega)) (h p j (xa2 _) hp hj)
theorem HF.step {ar:List source}{row:List Nat}{i:Nat}(h:HF ar row (i+1)):HA ar row i i:=
 ⟨fun p c h1 h2 h3 h4=>h p c (by omega) h3 h4,fun p c h1 h2 h3 h4=>by omega⟩
theorem best_eq {ar:List source}{row:List Nat}(h:Okr ar row)(hl:row.length<=1000000){i:Nat}(hi:i<row.length) :
  ∃ b:Nat,zid ar (row,(i:Int))=zfa (row,(i:Int)) (b:Int)/\(b=i\/((b=2*i+1\/b=2*i+2)/\b<row.length/\slt (At ar row b) (At ar row i)))/\
   ∀ c:Nat,(c=2*i+1\/c=2*i+2)->c<row.length->¬ slt (At ar row c) (At ar row b):=by
 have w0:w64 (2*(i:Int))=((2*i:Nat):Int):=by rw [zai ..]; omega
 have w1:w64 (((2*i:Nat):Int)+1)=((2*i+1:Nat):Int):=by rw [zai ..]; omega
 have w2:w64 (((2*i:Nat):Int)+2)=((2*i+2:Nat):Int):=by rw [zai ..]; omega
 unfold zid
 dsimp only
 rw [w0,w1,w2]
 have self:∀ x:source,¬ slt x x:=fun x q=>zq3 q q
 by_cases c1:2*i+1<row.length
 ·rw [ifT ..,less_eq h c1 hi,zac]
  by_cases s1:slt (At ar row (2*i+1)) (At ar row i)
  ·rw [xac (by rw [d_t (show ((2*i+1:Nat):Int)<(row.length:Int) by omega),d_t s1]; rfl),zac]
   dsimp only
   by_cases c2:2*i+2<row.length
   ·rw [ifT ..,less_eq h c2 c1,zac]
    by_cases s2:slt (At ar row (2*i+2)) (At ar row (2*i+1))
    ·rw [xac (by rw [d_t (show ((2*i+2:Nat):Int)<(row.length:Int) by omega),d_t s2]; rfl),zac]
     refine ⟨2*i+2,rfl,.inr ⟨.inr rfl,c2,?_⟩,fun c hc _=>?_⟩
     ·exact slt_trans s2 s1
     ·rcases hc with rfl | rfl
      ·exact zq3 s2
      ·exact self _
    ·rw [xab (by rw [xa0 s2]; simp),zac]
     refine ⟨2*i+1,rfl,.inr ⟨.inl rfl,c1,s1⟩,fun c hc _=>?_⟩
     rcases hc with rfl | rfl
     ·exact self _
     ·exact s2
   ·rw [ifF ..,zac,xab (by rw [xa0 (show ¬ ((2*i+2:Nat):Int)<(row.length:Int) by omega)]; simp),zac]
    refine ⟨2*i+1,rfl,.inr ⟨.inl rfl,c1,s1⟩,fun c hc hc2=>?_⟩
    rcases hc with rfl | rfl
    ·exact self _
    ·omega
  ·rw [xab (by rw [xa0 s1]; simp),zac]
   dsimp only
   by_cases c2:2*i+2<row.length
   ·rw [ifT ..,less_eq h c2 hi,zac]
    by_cases s2:slt (At ar row (2*i+2)) (At ar row i)
    ·rw [xac (by rw [d_t (show ((2*i+2:Nat):Int)<(row.length:Int) by omega),d_t s2]; rfl),zac]
     refine ⟨2*i+2,rfl,.inr ⟨.inr rfl,c2,s2⟩,fun c hc _=>?_⟩
     rcases hc with rfl | rfl
     ·exact nslt_trans (zq3 s2) s1
     ·exact self _
    ·rw [xab (by rw [xa0 s2]; simp),zac]
     refine ⟨i,rfl,.inl rfl,fun c hc _=>?_⟩
     rcases hc with rfl | rfl
     ·exact s1
     ·exact s2
   ·rw [ifF ..,zac,xab (by rw [xa0 (show ¬ ((2*i+2:Nat):Int)<(row.length:Int) by omega)]; simp),zac]
    refine ⟨i,rfl,.inl rfl,fun c hc hc2=>?_⟩
    rcases hc with rfl | rfl
    ·exact s1
    ·omega
 ·rw [ifF ..,zac,xab (by rw [xa0 (show ¬ ((2*i+1:Nat):Int)<(row.length:Int) by omega)]; simp),zac]
  dsimp only
  rw [ifF ..,zac,xab (by rw [xa0 (show ¬ ((2*i+2:Nat):Int)<(row.length:Int) by omega)]; simp),zac]
  exact ⟨i,rfl,.inl rfl,fun c hc hc2=>by omega⟩
theorem swap_at (row:List Nat){i b:Nat}(hi:i<row.length)(hb:b<row.length)(p:Nat):zad (zem (zem row (i:Int) (zad row (b:Int))) (b:Int) (zad row (i:Int))) (p:Int)=if p=b then zad row (i:Int) else if p=i then zad row (b:Int) else zad row (p:Int):=by
 rw [lget_lset _ _ _ _ (by rw [ze8]; omega) (by omega),lget_lset _ _ _ _ (by omega) (by omega)]
 by_cases h1:p=b
 ·rw [xac h1,xac (by omega)]
 ·rw [xab h1,xab (by omega)]
  by_cases h2:p=i
  ·rw [xac h2,xac (by omega)]
  ·rw [xab h2,xab (by omega)]
theorem swap_perm (row:List Nat){i b:Nat}(hi:i<row.length)(hb:b<row.length):(zem (zem row (i:Int) (zad row (b:Int))) (b:Int) (zad row (i:Int))).Perm row:=by
 rw [zbi row i hi,zbi row b hb]
 unfold zem
 rw [xbe,xbe]
 exact List.set_set_perm hi hb
theorem HA.swap {ar:List source}{row:List Nat}{a i b:Nat}(h:HA ar row a i)(hai:a<=i)(hi:i<row.length)(hb:b<row.length)(hbi:b=2*i+1\/b=2*i+2)(hs:slt (At ar row b) (At ar row i))
  (hm:∀ c:Nat,(c=2*i+1\/c=2*i+2)->c<row.length->¬ slt (At ar row c) (At ar row b)):HA ar (zem (zem row (i:Int) (zad row (b:Int))) (b:Int) (zad row (i:Int))) a b:=by
 have hA:∀ p,At ar (zem (zem row (i:Int) (zad row (b:Int))) (b:Int) (zad row (i:Int))) p=if p=b then At ar row i else if p=i then At ar row b else At ar row p:=by
  intro p
  unfold At
  rw [swap_at row hi hb]
  split
  ·rfl
  ·split <;> rfl
 have hlen:(zem (zem row (i:Int) (zad row (b:Int))) (b:Int) (zad row (i:Int))).length=row.length:=by rw [ze8,ze8]
 constructor
 ·intro p c h1 h2 h3 h4
  rw [hlen] at h4
  rw [hA,hA,xab h2]
  by_cases e:p=i
  ·rw [xac e]
   subst e
   by_cases e2:c=b
   ·rw [xac e2]; exact zq3 hs
   ·rw [xab e2,xab (by omega)]; exact hm c h3 h4
  ·rw [xab e]
   by_cases e2:c=b
   ·omega
   ·rw [xab e2]
    by_cases e3:c=i
    ·rw [xac e3]
     exact h.2 p b h1 (by omega) hbi hb
    ·rw [xab e3]; exact h.1 p c h1 e h3 h4
 ·intro p c h1 h2 h3 h4
  rw [hlen] at h4
  have e:p=i:=by omega
  rw [hA,hA,xab (by omega),xab (by omega),xab (by omega),xac e]
  exact h.1 b c (by omega) (by omega) h3 h4
theorem Okr.perm {ar:List source}{row row':List Nat}(h:Okr ar row)(hp:row'.Perm row):Okr ar row':=fun x hx=>h x (hp.mem_iff.1 hx)
theorem down_loop (ar:List source):∀ (n:Nat) (row:List Nat) (a i:Nat),row.length - i=n->Okr ar row->row.length<=1000000->i<row.length->a<=i->HA ar row a i->
  ∃ row',zln ar (row,(i:Int))=some row'/\row'.Perm row/\HF ar row' a:=by
 intro n
 induction n using Nat.strongRecOn with
 | _ n ih=>
  intro row a i e h hl hi hai hH
  obtain ⟨b,b1,b2,b3⟩:=best_eq h hl hi
  rcases b2 with rfl | ⟨b2,b4,b5⟩
  ·refine ⟨row,zah ?_,.refl _,fun p c h1 h2 h3=>?_⟩
   ·rw [b1]
    unfold zfa
    rw [xac (d_t rfl)]
   ·by_cases q:p=b
    ·subst q; exact b3 c h2 h3
    ·exact hH.1 p c h1 q h2 h3
  ·have hlen:(zem (zem row (i:Int) (zad row (b:Int))) (b:Int) (zad row (i:Int))).length=row.length:=by rw [ze8,ze8]
   obtain ⟨row',r1,r2,r3⟩:=ih (row.length - b) (by omega) (zem (zem row (i:Int) (zad row (b:Int))) (b:Int) (zad row (i:Int))) a b (by rw [hlen]) (h.perm (swap_perm row hi b4)) (by rw [hlen]; exact hl) (by rw [hlen]; exact b4) (by omega) (hH.swap hai hi b4 b2 b5 b3)
   refine ⟨row',(zak ?_).trans r1,r2.trans (swap_perm row hi b4),r3⟩
   rw [b1]
   unfold zfa
   dsimp only
   rw [ifF ..,zaa ..,zaa ..,zaa ..,zaa ..,zaa ..,zaa ..,zaa (by rw [ze8]; omega),zaa (by rw [ze8]; omega)]
theorem down_eq {ar:List source}{row:List Nat}{a i:Nat}(h:Okr ar row)(hl:row.length<=1000000)(hi:i<row.length)(hai:a<=i)(hH:HA ar row a i):∃ row',zfw (i:Int) row ar=some row'/\row'.Perm row/\HF ar row' a:=
 down_loop ar _ row a i rfl h hl hi hai hH
def cnt (ar:List source):Nat:=(ar.map fun s=>s.cells.length).sum
theorem cnt_set:∀ (ar:List source) (j:Nat) (s:source),j<ar.length->cnt (zem ar (j:Int) s)+(zad ar (j:Int)).cells.length=cnt ar+s.cells.length:=by
 intro ar
 induction ar with
 | nil=>intro j s h; simp at h
 | cons a ar ih=>
  intro j s h
  cases j with
  | zero=>simp [cnt,zem,zad]; omega
  | succ j=>
   have:=ih j s (by simpa using h)
   have e1:zem (a::ar) ((j+1:Nat):Int) s=a::zem ar (j:Int) s:=by simp [zem]
   have e2:zad (a::ar) ((j+1:Nat):Int)=zad ar (j:Int):=by simp [zad]
   rw [e1,e2]
   simp only [cnt,xbr,List.sum_cons] at this ⊢
   omega
structure Inv (l:List Cs)(ar:List source)(row:List Nat)(out:Cs):Prop where
 src:∀ j:Nat,j<ar.length->∃ r:Nat,r<l.length/\(zad ar (j:Int)).rank=(r:Int)/\∃ d,zad l (r:Int)=d++(zad ar (j:Int)).cells
 inc:∀ i j:Nat,i<j->j<ar.length->(zad ar (i:Int)).rank<(zad ar (j:Int)).rank
 all:∀ r:Nat,r<l.length->zad l (r:Int)≠[]->∃ j:Nat,j<ar.length/\(zad ar (j:Int)).rank=(r:Int)
 nod:row.Nodup
 mem:∀ j:Nat,j∈row↔j<ar.length/\(zad ar (j:Int)).cells≠[]
 srt:out.Pairwise ah
 low:∀ j:Nat,j<ar.length->∀ x∈(zad ar (j:Int)).cells,∀ o∈out,le o x
 past:∀ j r:Nat,j<ar.length->(zad ar (j:Int)).rank=(r:Int)->∀ x∈zad l (r:Int),x∈(zad ar (j:Int)).cells\/∃ o∈out,key o x
 fst:∀ o∈out,(fk o l.flatten).head?=some o
section
variable {l:List Cs}(hs:∀ g∈l,g.Pairwise ah)
theorem Inv.okr {ar:List source}{row:List Nat}{out:Cs}(h:Inv l ar row out):Okr ar row:=fun x hx=>(h.mem x).1 hx
theorem Inv.last {ar:List source}{out:Cs}(h:Inv l ar [] out):Firsts l.flatten out:=by
 refine ⟨h.srt,fun c=>⟨h.fst c,fun hc=>?_⟩⟩
 obtain ⟨g,hg,hcg⟩:=xc0.1 (fk_mem hc)
 obtain ⟨r,hr,e⟩:=xcd.1 hg
 have hgr:zad l (r:Int)=g:=by rw [zbi l r hr,e]
 obtain ⟨j,hj,hjr⟩:=h.all r hr (by rw [hgr]; exact xdn hcg)
 have he:(zad ar (j:Int)).cells=[]:=Decidable.byContradiction fun q=>by have:=(h.mem j).2 ⟨hj,q⟩; cases this
 rcases h.past j r hj hjr c (by rw [hgr]; exact hcg) with q | ⟨o,ho,hk⟩
 ·rw [he] at q; cases q
 ·have h1:=h.fst o ho
  rw [fk_key hk,hc] at h1
  cases h1; exact ho
include hs in
theorem Inv.sorted {ar:List source}{row:List Nat}{out:Cs}(h:Inv l ar row out){j:Nat}(hj:j<ar.length):(zad ar (j:Int)).cells.Pairwise ah:=by
 obtain ⟨r,hr,_,d,e⟩:=h.src j hj
 have:=hs _ (zcb l (r:Int) (by omega))
 rw [e] at this
 exact (xa6.1 this).2.1
theorem hd_le {s:source}(h:s.cells.Pairwise ah){x:Cell}(hx:x∈s.cells):hd s=x\/ah (hd s) x:=by
 unfold hd
 cases hc:s.cells with
 | nil=>rw [hc] at hx; cases hx
 | cons c t=>
  rw [hc] at hx h
  rcases xap.1 hx with e | e
  ·exact .inl e.symm
  ·exact .inr ((xbh.1 h).1 x e)
noncomputable def outN (out:Cs)(c:Cell):Cs:=if out=[]\/¬ key (zad out ((out.length:Int) - 1)) c then out++[c] else out
theorem outN_mem {out:Cs}{c o:Cell}(h:o∈outN out c):o∈out\/o=c:=by
 unfold outN at h
 split at h
 ·rcases xar.1 h with q | q
  ·exact .inl q
  ·exact .inr (xau.1 q)
 ·exact .inl h
theorem outN_sub {out:Cs}{c o:Cell}(h:o∈out):o∈outN out c:=by
 unfold outN
 split
 ·exact xer _ h
 ·exact h
theorem last_of {out:Cs}(h:out≠[]):∃ u,out=u++[zad out ((out.length:Int) - 1)]:=by
 rcases xc6 out with e | ⟨u,y,e⟩
 ·exact absurd e h
 ·rw [xc7] at e
  refine ⟨u,?_⟩
  have:zad out ((out.length:Int) - 1)=y:=by
   rw [e]
   have e2:(((u++[y]).length:Nat):Int) - 1=(u.length:Int):=by simp
   rw [e2]; exact zqe u y []
  rw [this]; exact e
include hs in
theorem Inv.step {ar:List source}{row:List Nat}{out:Cs}(h:Inv l ar row out){s0:Nat}(h0:s0∈row)(hmin:∀ j∈row,¬ slt (zad ar (j:Int)) (zad ar (s0:Int)))
  {row':List Nat}{ar':List source}(har:ar'=zem ar (s0:Int) ⟨zc1 (zad ar (s0:Int)).cells 1,(zad ar (s0:Int)).rank⟩)(hnod:row'.Nodup)(hmem:∀ j:Nat,j∈row'↔j∈row/\(j=s0->1<(zad ar (s0:Int)).cells.length)) :
  Inv l ar' row' (outN out (hd (zad ar (s0:Int)))):=by
 obtain ⟨hlt,hne⟩:=(h.mem s0).1 h0
 obtain ⟨c,t,hct⟩:=List.exists_cons_of_ne_nil hne
 have hc:hd (zad ar (s0:Int))=c:=by unfold hd; rw [hct]; rfl
 rw [hc]
 have hget:∀ j:Nat,zad ar' (j:Int)=if j=s0 then ⟨t,(zad ar (s0:Int)).rank⟩ else zad ar (j:Int):=by
  intro j
  rw [har,lget_lset _ _ _ _ (by omega) (by omega)]
  by_cases e:j=s0
  ·rw [xac e,xac (by omega),hct]; rfl
  ·rw [xab e,xab (by omega)]
 have hlen:ar'.length=ar.length:=by rw [har,ze8]
 have hrank:∀ j:Nat,(zad ar' (j:Int)).rank=(zad ar (j:Int)).rank:=fun j=>by
  rw [hget]; split
  ·rename_i e; rw [e]
  ·rfl
 have hsub:∀ (j:Nat) (x:Cell),x∈(zad ar' (j:Int)).cells->x∈(zad ar (j:Int)).cells:=fun j x hx=>by
  rw [hget] at hx
  split at hx
  ·rename_i e; rw [e,hct]; exact xbl _ hx
  ·exact hx
 obtain ⟨r0,hr0,hrk0,d0,hd0⟩:=h.src s0 hlt
 have hs0:=h.sorted hs hlt
 have low:∀ j:Nat,j<ar.length->∀ x∈(zad ar (j:Int)).cells,le c x:=by
  intro j hj x hx
  have hjr:=(h.mem j).2 ⟨hj,xdn hx⟩
  have h1:le c (hd (zad ar (j:Int))):=fun q=>hmin j hjr (.inl ((za0 _ _).2 (by rw [hc]; exact q)))
  rcases hd_le (h.sorted hs hj) hx with e | e
  ·rw [<- e]; exact h1
  ·exact le_trans h1 (le_of_ah e)
 have hcc:c∈(zad ar (s0:Int)).cells:=by rw [hct]; exact xa8 ..
 have hla:out≠[]->le (zad out ((out.length:Int) - 1)) c:=fun q=>h.low s0 hlt c hcc _ (zcb out _ (by have:=xaq.2 q; omega))
 have hout:¬ key (zad out ((out.length:Int) - 1)) c->∀ o∈out,ah o c:=by
  intro q o ho
  have hne':=xdn ho
  obtain ⟨u,hu⟩:=last_of hne'
  have hl:=(le_or (hla hne')).resolve_right q
  have hsr:=h.srt
  rw [hu] at hsr ho
  rcases xar.1 ho with p | p
  ·exact zpz ((xa6.1 hsr).2.2 o p _ (xau.2 rfl)) hl
  ·rw [xau.1 p]; exact hl
 have new:(out=[]\/¬ key (zad out ((out.length:Int) - 1)) c)->(∀ o∈out,ah o c)/\(fk c l.flatten).head?=some c:=by
  intro q
  have ho:∀ o∈out,ah o c:=by
   rcases q with q | q
   ·rw [q]; simp
   ·exact hout q
  refine ⟨ho,?_⟩
  have hr0':l=l.take r0++(zad l (r0:Int)::l.drop (r0+1)):=by
   rw [<- zct l r0 hr0,xa1]
  have e1:fk c (l.take r0).flatten=[]:=by
   refine fk_none fun x hx hk=>?_
   obtain ⟨g,hg,hxg⟩:=xc0.1 hx
   obtain ⟨r,hr,e⟩:=xcd.1 hg
   rw [xal] at hr
   have hgr:zad l (r:Int)=g:=by rw [zbi l r (by omega),<- e,List.getElem_take]
   obtain ⟨j,hj,hjr⟩:=h.all r (by omega) (by rw [hgr]; exact xdn hxg)
   rcases h.past j r hj hjr x (by rw [hgr]; exact hxg) with p | ⟨o,ho',hk'⟩
   ·have hjrow:=(h.mem j).2 ⟨hj,xdn p⟩
    have hm:=hmin j hjrow
    rcases hd_le (h.sorted hs hj) p with e | e
    ·refine hm (.inr ⟨by rw [hc,e]; exact zc7 hk,?_⟩)
     rw [hjr,hrk0]; omega
    ·exact hm (.inl ((za0 _ _).2 (by rw [hc]; exact ah_right (zc7 hk) e)))
   ·exact zjv (ho o ho') (zlc hk' (zc7 hk))
  have e2:fk c d0=[]:=by
   refine fk_none fun x hx hk=>?_
   have:=hs _ (zcb l (r0:Int) (by omega))
   rw [hd0,hct] at this
   exact zjv ((xa6.1 this).2.2 x hx c (xa8 ..)) (zc7 hk)
  rw [hr0',xcj,xcg,fk_app,fk_app,e1,hd0,fk_app,e2,hct,zme,xac (zj9 c)]
  rfl
 refine ⟨fun j hj=>?_,fun i j hij hj=>?_,fun r hr hne=>?_,hnod,fun j=>?_,?_,fun j hj x hx o ho=>?_,fun j r hj hjr x hx=>?_,fun o ho=>?_⟩
 ·rw [hlen] at hj
  obtain ⟨r,h1,h2,d,h3⟩:=h.src j hj
  refine ⟨r,h1,by rw [hrank]; exact h2,?_⟩
  rw [hget]
  by_cases e:j=s0
  ·rw [xac e]
   subst e
   exact ⟨d++[c],by rw [h3,hct]; simp⟩
  ·rw [xab e]; exact ⟨d,h3⟩
 ·rw [hrank,hrank]; exact h.inc i j hij (by rw [<- hlen]; exact hj)
 ·obtain ⟨j,h1,h2⟩:=h.all r hr hne
  exact ⟨j,by rw [hlen]; exact h1,by rw [hrank]; exact h2⟩
 ·rw [hmem,h.mem,hlen,hget]
  by_cases e:j=s0
  ·rw [xac e]
   subst e
   rw [hct]
   constructor
   ·rintro ⟨⟨h1,_⟩,h2⟩
    have:=h2 rfl
    exact ⟨h1,by rintro rfl; simp at this⟩
   ·rintro ⟨h1,h2⟩
    exact ⟨⟨h1,by simp⟩,fun _=>by have:=xaq.2 h2; simp; omega⟩
  ·rw [xab e]
   exact ⟨fun q=>q.1,fun q=>⟨q,fun z=>absurd z e⟩⟩
 ·unfold outN
  split
  ·rename_i q
   obtain ⟨n1,_⟩:=new q
   exact xa6.2 ⟨h.srt,xdp _ _,fun o ho y hy=>by rw [xau.1 hy]; exact n1 o ho⟩
  ·exact h.srt
 ·rw [hlen] at hj
  have hx':=hsub j x hx
  rcases outN_mem ho with q | q
  ·exact h.low j hj x hx' o q
  ·rw [q]; exact low j hj x hx'
 ·rw [hlen] at hj
  rw [hrank] at hjr
  rcases h.past j r hj hjr x hx with q | ⟨o,ho,hk⟩
  ·rw [hget]
   by_cases e:j=s0
   ·rw [xac e]
    subst e
    rw [hct] at q
    rcases xap.1 q with z | z
    ·right
     by_cases w:out=[]\/¬ key (zad out ((out.length:Int) - 1)) c
     ·refine ⟨c,?_,by rw [z]; exact zj9 c⟩
      unfold outN; rw [xac w]; simp
     ·have w1:out≠[]:=fun p=>w (.inl p)
      have w2:key (zad out ((out.length:Int) - 1)) c:=xcp.1 fun p=>w (.inr p)
      exact ⟨zad out ((out.length:Int) - 1),outN_sub (zcb out _ (by have:=xaq.2 w1; omega)),by rw [z]; exact w2⟩
    ·exact .inl z
   ·rw [xab e]; exact .inl q
  ·exact .inr ⟨o,outN_sub ho,hk⟩
 ·by_cases w:out=[]\/¬ key (zad out ((out.length:Int) - 1)) c
  ·rcases outN_mem ho with q | q
   ·exact h.fst o q
   ·rw [q]; exact (new w).2
  ·unfold outN at ho
   rw [xab w] at ho
   exact h.fst o ho
theorem do_eq (c:Cell)(out:Cs)(hl:out.length<=1000000000):zg8 c out=some (true,outN out c):=by
 have hw:w64 ((out.length:Int) - 1)=(out.length:Int) - 1:=zai ..
 unfold zg8 outN
 rw [hw]
 by_cases h0:out=[]
 ·subst h0
  rw [zaa (fun q=>by simp at q),zaa (fun q=>by simp at q),xab (by simp),zac,xac (by simp),xac (.inl rfl),zaa (by simp),zac]
 ·have hp:=xaq.2 h0
  rw [zaa (fun _=>by omega),zaa (fun _=>by omega),xac (n_t (by omega))]
  simp only [zby]
  rw [zn3,zac]
  by_cases k:key (zad out ((out.length:Int) - 1)) c
  ·rw [xab (by rw [d_t ((ordz _ _).2 k)]; simp; omega),xab (fun q=>q.elim h0 (fun z=>z k)),zac]
  ·rw [xac (by rw [xa0 (fun q=>k ((ordz _ _).1 q))]; simp),xac (.inr k),zaa (by simp; omega),zac]
theorem outN_len (out:Cs)(c:Cell):(outN out c).length<=out.length+1:=by
 unfold outN; split <;> simp
end
variable {l:List Cs}(hs:∀ g∈l,g.Pairwise ah)
include hs in
theorem main_loop (F:Nat)(hF:F<=1000000000):∀ (n:Nat) (out:Cs) (row:List Nat) (ar:List source),cnt ar=n->out.length+n<=F->Inv l ar row out->HF ar row 0->row.length<=1000000->
  ∃ x,zrx (out,row,ar)=some x/\Firsts l.flatten x:=by
 intro n
 induction n using Nat.strongRecOn with
 | _ n ih=>
  intro out row ar hn hb hI hH hl
  cases row with
  | nil=>
   refine ⟨out,zah ?_,hI.last⟩
   unfold zls
   dsimp only
   rw [xab (d_f (by simp))]; rfl
  | cons s0 R=>
   have hm0:=(hI.mem s0).1 (xa8 ..)
   obtain ⟨hlt,hne⟩:=hm0
   have hp:=xaq.2 hne
   have hg0:zad (s0::R) 0=s0:=rfl
   have hmin:∀ j∈s0::R,¬ slt (zad ar (j:Int)) (zad ar (s0:Int)):=by
    intro j hj
    obtain ⟨p,hp,e⟩:=xcd.1 hj
    have:=hH.min p hp
    unfold At at this
    rw [zbi _ p hp,e] at this
    exact this
   obtain ⟨s',hs'⟩:∃ s',s'=(⟨zc1 (zad ar (s0:Int)).cells 1,(zad ar (s0:Int)).rank⟩:source):=⟨_,rfl⟩
   obtain ⟨ar',har⟩:∃ ar',ar'=zem ar (s0:Int) s':=⟨_,rfl⟩
   have hlen:ar'.length=ar.length:=by rw [har,ze8]
   have hs0:zad ar' (s0:Int)=s':=by rw [har,lget_lset _ _ _ _ (by omega) (by omega),xac rfl]
   have hoth:∀ j:Nat,j≠s0->zad ar' (j:Int)=zad ar (j:Int):=fun j hj=>by rw [har,lget_lset _ _ _ _ (by omega) (by omega),xab (by omega)]
   have hs'l:s'.cells.length+1=(zad ar (s0:Int)).cells.length:=by
    rw [hs']; show (zc1 (zad ar (s0:Int)).cells 1).length+1=_
    unfold zc1; rw [xa7]; simp; omega
   have hcnt:cnt ar'+1=n:=by
    have:=cnt_set ar s0 s' hlt
    rw [<- har] at this; omega
   obtain ⟨hn0,hnR⟩:=List.nodup_cons.1 hI.nod
   obtain ⟨row',hrow,hnod',hmem',hHF',hlen'⟩:∃ row':List Nat,(ob (
    if (decide ((((zad ar' (s0:Int)).cells).length:Int)=0))=true then
     zao (0<=w64 (((s0::R).length:Int) - 1)/\w64 (((s0::R).length:Int) - 1)<((s0::R).length:Int)) <|
     zao (0<=w64 (((s0::R).length:Int) - 1)/\w64 (((s0::R).length:Int) - 1)<((s0::R).length:Int)) <|
     zao (0<=(0:Int)/\0<((s0::R).length:Int)) <|
     zao (0<=(0:Int)/\0<((s0::R).length:Int)) <|
     zao (0<=w64 (((zem (s0::R) 0 (zad (s0::R) (w64 (((s0::R).length:Int) - 1)))).length:Int) - 1)/\w64 (((zem (s0::R) 0 (zad (s0::R) (w64 (((s0::R).length:Int) - 1)))).length:Int) - 1)<=((zem (s0::R) 0 (zad (s0::R) (w64 (((s0::R).length:Int) - 1)))).length:Int)) <|
     zao (((w64 (((zem (s0::R) 0 (zad (s0::R) (w64 (((s0::R).length:Int) - 1)))).length:Int) - 1)).toNat)<=(zem (s0::R) 0 (zad (s0::R) (w64 (((s0::R).length:Int) - 1)))).length) <|
     some ((zem (s0::R) 0 (zad (s0::R) (w64 (((s0::R).length:Int) - 1)))).take ((w64 (((zem (s0::R) 0 (zad (s0::R) (w64 (((s0::R).length:Int) - 1)))).length:Int) - 1)).toNat))
    else
     some (s0::R)) fun (v5:List Nat)=>some v5)=some row'/\row'.Nodup/\(∀ j:Nat,j∈row'↔j∈s0::R/\(j=s0->1<(zad ar (s0:Int)).cells.length))/\HF ar' row' 1/\row'.length<=(s0::R).length:=by
    by_cases c:s'.cells.length=0
    ·have hwl:w64 (((s0::R).length:Int) - 1)=(R.length:Int):=by rw [xah,zai (by simp only [xah] at hl; omega) (by simp only [xah] at hl; omega)]; omega
     rw [xac (d_t (by rw [hs0]; omega))]
     have hll:((zem (s0::R) 0 (zad (s0::R) (w64 (((s0::R).length:Int) - 1)))).length:Int)=((s0::R).length:Int):=by rw [ze8]
     rw [hll,hwl,zaa (by simp only [xah]; omega),zaa (by simp only [xah]; omega),zaa (by simp only [xah]; omega),zaa (by simp only [xah]; omega),zaa (by simp only [xah]; omega),zaa (by rw [ze8]; simp),zac,xbe]
     refine ⟨_,rfl,?_⟩
     rcases xc6 R with e | ⟨R',z,e⟩
     ·subst e
      refine ⟨.nil,fun j=>?_,fun p c' h1 h2 h3=>by simp at h3,by simp⟩
      simp only [xax,List.take_zero,List.not_mem_nil,xap,or_false,false_iff]
      rintro ⟨e1,e2⟩
      have:=e2 e1; omega
     ·rw [xc7] at e
      have hz:zad (s0::R) (R.length:Int)=z:=by
       rw [e]
       have e2:((R'++[z]).length:Int)=((s0::R').length:Int):=by simp
       rw [e2]
       have:s0::(R'++[z])=(s0::R')++[z]:=rfl
       rw [this]; simp [zad]
      have hv:(zem (s0::R) 0 (zad (s0::R) (R.length:Int))).take R.length=z::R':=by
       rw [hz,e]
       have:zem (s0::(R'++[z])) 0 z=z::(R'++[z]):=rfl
       rw [this,xaa,xan,xci,xc2]
      rw [hv]
      have hnz:z∉R'/\R'.Nodup:=by
       rw [e] at hnR
       have:=List.nodup_append.1 hnR
       exact ⟨fun q=>this.2.2 z q z (xau.2 rfl) rfl,this.1⟩
      refine ⟨List.nodup_cons.2 hnz,fun j=>?_,fun p c' h1 h2 h3=>?_,by rw [e]; simp⟩
      ·have hR:j∈z::R'↔j∈R:=by rw [e]; simp [or_comm]
       rw [hR]
       constructor
       ·intro q
        refine ⟨xbl _ q,fun z=>?_⟩
        rw [z] at q; exact absurd q hn0
       ·rintro ⟨q1,q2⟩
        rcases xap.1 q1 with z | z
        ·have:=q2 z; omega
        ·exact z
      ·have hlR:R.length=R'.length+1:=by rw [e]; simp
       rw [xah] at h3
       have old:∀ q:Nat,1<=q->q<R'.length+1->At ar' (z::R') q=At ar (s0::R) q:=by
        intro q h4 h5
        have g1:zad (z::R') (q:Int)=zad (s0::R) (q:Int):=by
         rw [zbi _ q (by simp; omega),zbi _ q (by simp; omega)]
         obtain ⟨q',rfl⟩:∃ q',q=q'+1:=⟨q - 1,by omega⟩
         simp only [xel,e]
         rw [xdg]
        have g2:zad (s0::R) (q:Int)≠s0:=by
         obtain ⟨q',rfl⟩:∃ q',q=q'+1:=⟨q - 1,by omega⟩
         rw [zbi _ _ (by simp; omega),xel]
         exact fun w=>hn0 (w▸xdu _)
        unfold At
        rw [g1,hoth _ g2]
       rw [old p h1 (by omega),old c' (by omega) h3]
       exact hH p c' (xa2 _) h2 (by simp; omega)
    ·rw [xab (d_f (by rw [hs0]; omega)),zac]
     refine ⟨_,rfl,hI.nod,fun j=>⟨fun q=>⟨q,fun _=>by omega⟩,fun q=>q.1⟩,fun p c' h1 h2 h3=>?_,xae _⟩
     have old:∀ q:Nat,1<=q->q<(s0::R).length->At ar' (s0::R) q=At ar (s0::R) q:=by
      intro q h4 h5
      have g2:zad (s0::R) (q:Int)≠s0:=by
       obtain ⟨q',rfl⟩:∃ q',q=q'+1:=⟨q - 1,by omega⟩
       rw [zbi _ _ h5,xel]
       exact fun w=>hn0 (w▸xdu _)
      unfold At
      rw [hoth _ g2]
     rw [old p h1 (by omega),old c' (by omega) h3]
     exact hH p c' (xa2 _) h2 h3
   have hI':=hI.step hs (xa8 ..) hmin (ar':=ar') (by rw [har,hs']) hnod' hmem'
   have hol:=outN_len out (hd (zad ar (s0:Int)))
   have hF':cnt ar'<n:=by omega
   have hob:∀ {α β:Type} (e:Option α) (f:α->Option β) (r:α),(ob e fun v=>some v)=some r->ob e f=f r:=by
    intro α β e f r h
    cases e with
    | none=>cases h
    | some v=>cases h; rfl
   have hB:zls (out,s0::R,ar)=(if (decide (0<(row'.length:Int)))=true then
     ob (zfw 0 row' ar') fun x1=>some (Sum.inl (outN out (hd (zad ar (s0:Int))),x1,ar')) else some (Sum.inl (outN out (hd (zad ar (s0:Int))),row',ar'))):=by
    unfold zls
    dsimp only
    rw [hg0,xac (d_t (by simp)),zaa (by simp),zaa (by simp),zaa ..,zaa ..]
    simp only [zby]
    have hd0:zad (zad ar (s0:Int)).cells 0=hd (zad ar (s0:Int)):=rfl
    rw [hd0,do_eq _ _ (by omega),zac]
    dsimp only
    rw [xab (by decide),zaa ..,zaa ..,zaa ..]
    dsimp only [lt]
    rw [<- hs',<- har,zaa ..]
    exact hob _ _ _ hrow
   by_cases c:0<row'.length
   ·rw [ifT ..] at hB
    obtain ⟨r2,d1,d2,d3⟩:=down_eq (a:=0) (i:=0) hI'.okr (by omega) c (xae _) hHF'.step
    have d1':zfw 0 row' ar'=some r2:=d1
    rw [d1',zac] at hB
    have hI2:Inv l ar' r2 (outN out (hd (zad ar (s0:Int)))):={ hI' with nod:=d2.nodup_iff.2 hI'.nod,mem:=fun j=>by rw [d2.mem_iff]; exact hI'.mem j }
    obtain ⟨x,x1,x2⟩:=ih (cnt ar') hF' _ r2 ar' rfl (by omega) hI2 d3 (by rw [d2.length_eq]; omega)
    exact ⟨x,(zak hB).trans x1,x2⟩
   ·rw [ifF ..] at hB
    have e:row'=[]:=xag (by omega)
    subst e
    obtain ⟨x,x1,x2⟩:=ih (cnt ar') hF' _ [] ar' rfl (by omega) hI' (fun p c' h1 h2 h3=>by simp at h3) (by simp)
    exact ⟨x,(zak hB).trans x1,x2⟩
include hs in
theorem heap_loop (F:Nat)(hF:F<=1000000000)(row0:List Nat)(ar:List source)(hc:cnt ar<=F):∀ (n:Nat) (row:List Nat),Inv l ar row []->HF ar row n->n<=row.length->row.length<=1000000->
  ∃ x,zss (row0,ar) (row,(n:Int) - 1)=some x/\Firsts l.flatten x
 | 0,row,hI,hH,hn,hl=>by
  obtain ⟨x,x1,x2⟩:=main_loop hs F hF (cnt ar) [] row ar rfl (by simpa using hc) hI hH hl
  refine ⟨x,zah ?_,x2⟩
  unfold zn7
  dsimp only
  rw [xab (d_f (by simp))]
  unfold znz
  rw [x1]; rfl
 | n+1,row,hI,hH,hn,hl=>by
  obtain ⟨r2,d1,d2,d3⟩:=down_eq (a:=n) (i:=n) hI.okr hl (by omega) (xae _) hH.step
  have hI2:Inv l ar r2 []:={ hI with nod:=d2.nodup_iff.2 hI.nod,mem:=fun j=>by rw [d2.mem_iff]; exact hI.mem j }
  obtain ⟨x,x1,x2⟩:=heap_loop F hF row0 ar hc n r2 hI2 d3 (by rw [d2.length_eq]; omega) (by rw [d2.length_eq]; exact hl)
  refine ⟨x,(zak ?_).trans x1,x2⟩
  unfold zn7
  dsimp only
  have e:((n+1:Nat):Int) - 1=(n:Int):=by omega
  rw [e,ifT ..,d1,zac,zai ..]
structure Made (l:List Cs)(k:Nat)(ar:List source):Prop where
 src:∀ j:Nat,j<ar.length->∃ r:Nat,r<k/\(zad ar (j:Int)).rank=(r:Int)/\zad l (r:Int)=(zad ar (j:Int)).cells/\(zad ar (j:Int)).cells≠[]
 inc:∀ i j:Nat,i<j->j<ar.length->(zad ar (i:Int)).rank<(zad ar (j:Int)).rank
 all:∀ r:Nat,r<k->zad l (r:Int)≠[]->∃ j:Nat,j<ar.length/\(zad ar (j:Int)).rank=(r:Int)
 cnt:cnt ar=(l.take k).flatten.length
 few:ar.length<=k
theorem app_get (ar:List source)(s:source)(j:Nat)(hj:j<ar.length+1):zad (ar++[s]) (j:Int)=if j=ar.length then s else zad ar (j:Int):=by
 by_cases e:j=ar.length
 ·rw [xac e,e]; simp [zad]
 ·rw [xab e,lget_app_l _ _ _ (by omega)]
theorem Made.skip {k:Nat}{ar:List source}(h:Made l k ar)(hk:k<l.length)(he:zad l (k:Int)=[]):Made l (k+1) ar:=by
 refine ⟨fun j hj=>?_,h.inc,fun r hr hne=>?_,?_,by have:=h.few; omega⟩
 ·obtain ⟨r,h1,h2⟩:=h.src j hj
  exact ⟨r,by omega,h2⟩
 ·by_cases e:r=k
  ·rw [e] at hne; exact absurd he hne
  ·exact h.all r (by omega) hne
 ·rw [zdq l k hk,xcj,xaa,he,h.cnt]; simp
theorem Made.push {k:Nat}{ar:List source}(h:Made l k ar)(hk:k<l.length)(he:zad l (k:Int)≠[]):Made l (k+1) (ar++[⟨zad l (k:Int),(k:Int)⟩]):=by
 refine ⟨fun j hj=>?_,fun i j hij hj=>?_,fun r hr hne=>?_,?_,by have:=h.few; simp; omega⟩
 ·rw [xaa,xan] at hj
  rw [app_get _ _ _ hj]
  by_cases e:j=ar.length
  ·rw [xac e]; exact ⟨k,by omega,rfl,rfl,he⟩
  ·rw [xab e]
   obtain ⟨r,h1,h2⟩:=h.src j (by omega)
   exact ⟨r,by omega,h2⟩
 ·rw [xaa,xan] at hj
  rw [app_get _ _ _ (by omega),app_get _ _ _ hj,xab (by omega)]
  by_cases e:j=ar.length
  ·rw [xac e]
   obtain ⟨r,h1,h2,_⟩:=h.src i (by omega)
   rw [h2]; show (r:Int)<(k:Int); omega
  ·rw [xab e]; exact h.inc i j hij (by omega)
 ·by_cases e:r=k
  ·refine ⟨ar.length,by simp,?_⟩
   rw [app_get _ _ _ (by omega),xac rfl,e]
  ·obtain ⟨j,h1,h2⟩:=h.all r (by omega) hne
   refine ⟨j,by simp; omega,?_⟩
   rw [app_get _ _ _ (by omega),xab (by omega)]; exact h2
 ·rw [zdq l k hk,xcj,xaa,<- h.cnt]
  simp [G.cnt]
theorem Made.inv {ar:List source}(h:Made l l.length ar):Inv l ar (List.range ar.length) []:=by
 refine ⟨fun j hj=>?_,h.inc,h.all,List.nodup_range,fun j=>?_,.nil,fun _ _ _ _ o ho=>by simp at ho,fun j r hj hjr x hx=>?_,fun o ho=>by simp at ho⟩
 ·obtain ⟨r,h1,h2,h3,_⟩:=h.src j hj
  exact ⟨r,h1,h2,[],by rw [h3]; rfl⟩
 ·rw [xeu]
  constructor
  ·intro hj
   obtain ⟨r,_,_,_,h4⟩:=h.src j hj
   exact ⟨hj,h4⟩
  ·exact fun q=>q.1
 ·obtain ⟨r',h1,h2,h3,_⟩:=h.src j hj
  have:r=r':=by rw [h2] at hjr; omega
  left
  rw [<- h3,<- this]; exact hx
include hs in
theorem make_loop (hl:l.length<=1000000)(hf:l.flatten.length<=1000000000):∀ (m k:Nat) (ar:List source),l.length - k=m->k<=l.length->Made l k ar->
  ∃ x,zsp l (List.range ar.length,(k:Int),ar)=some x/\Firsts l.flatten x:=by
 intro m
 induction m with
 | zero=>
  intro k ar e hk hM
  have:k=l.length:=by omega
  subst this
  have hfew:=hM.few
  have hcnt:=hM.cnt
  rw [xbg] at hcnt
  obtain ⟨x,x1,x2⟩:=heap_loop hs l.flatten.length hf (List.range ar.length) ar (by omega) ar.length (List.range ar.length) hM.inv (fun p c h1 h2 h3=>by rw [xec] at h3; omega) (by simp) (by simp; omega)
  refine ⟨x,zah ?_,x2⟩
  unfold zlm
  dsimp only
  rw [ifF ..]
  unfold zn5
  rw [xec,zai ..,x1]; rfl
 | succ m ih=>
  intro k ar e hk hM
  have hk':k<l.length:=by omega
  have hfew:=hM.few
  by_cases he:zad l (k:Int)=[]
  ·obtain ⟨x,x1,x2⟩:=ih (k+1) ar (by omega) (by omega) (hM.skip hk' he)
   refine ⟨x,(zak ?_).trans x1,x2⟩
   unfold zlm
   dsimp only
   rw [ifT ..,zaa ..,he,xab (by simp),zac,zai ..]
   rfl
  ·have hp:=xaq.2 he
   obtain ⟨x,x1,x2⟩:=ih (k+1) (ar++[⟨zad l (k:Int),(k:Int)⟩]) (by omega) (by omega) (hM.push hk' he)
   refine ⟨x,(zak ?_).trans x1,x2⟩
   unfold zlm
   dsimp only
   rw [ifT ..,zaa ..,ifT ..,zaa (by simp; omega),zac,zai ..,xaa,xan,List.range_succ]
   rfl
include hs in
theorem joined_eq (hl:l.length<=1000000)(hf:l.flatten.length<=1000000000):zkr l=some (firsts l.flatten):=by
 obtain ⟨x,x1,x2⟩:=make_loop hs hl hf l.length 0 [] (by omega) (by omega) ⟨fun j hj=>by simp at hj,fun i j _ hj=>by simp at hj,fun r hr=>by omega,by simp [G.cnt],by simp⟩
 unfold zkr
 have x1':merge_each l=some x:=x1
 rw [x1',zac,zpm x2]
theorem xor_max {v:Nat}(h:v<2 ^ 32):4294967295 ^^^ v=4294967295 - v:=by
 have h1:=BitVec.toNat_not (x:=BitVec.ofNat 32 v)
 rw [BitVec.not_def,BitVec.toNat_xor,BitVec.toNat_allOnes,BitVec.toNat_ofNat,xcs h] at h1
 simpa using h1
theorem pow1_32:(2:Int) ^ (min (1:Int).toNat 32)=((2:Nat):Int):=by decide
theorem crc_step_eq (c:Nat)(h:c<2 ^ 32) :
  (if (decide ((zf8 .and .u32 (c:Int) 1)=1))=true then lt (zf8 .xor .u32 (Int.fdiv (c:Int) (2 ^ (min (1:Int).toNat 32))) 3988292384) fun (v6:Int)=>some v6 else some (Int.fdiv (c:Int) (2 ^ (min (1:Int).toNat 32))))=some ((crcS c:Nat):Int):=by
 have e1:zf8 .and .u32 (c:Int) 1=((c % 2:Nat):Int):=by
  have:=bits_and32 (a:=c) (b:=1) h (by omega)
  rw [and_one] at this; exact this
 have e2:zf8 .xor .u32 (((c / 2:Nat)):Int) 3988292384=(((c / 2) ^^^ crcP:Nat):Int):=bits_xor32 (a:=c / 2) (b:=crcP) (by omega) (by unfold crcP; omega)
 rw [pow1_32,zqg,e1,e2]
 unfold crcS
 by_cases c2:c % 2=1
 ·rw [ifT ..,xac c2]; rfl
 ·rw [ifF ..,xab c2]
theorem crc_L2 (v:Int×Int):∀ (m k c:Nat),8 - k=m->k<=8->c<2 ^ 32->wire_Crc_L2 v ((c:Int),(k:Int))=some (.inl (((crcN (8 - k) c:Nat):Int),w64 (v.2+1)))
 | 0,k,c,e,hk,hc=>by
  have:k=8:=by omega
  subst this
  refine zah ?_
  simp only [zsl]
  rw [ifF ..]; rfl
 | m+1,k,c,e,hk,hc=>by
  have hw:w64 ((k:Int)+1)=((k+1:Nat):Int):=by rw [zai ..]; omega
  have ih:=crc_L2 v m (k+1) (crcS c) (by omega) (by omega) (crcS_lt hc)
  have e8:crcN (8 - k) c=crcN (8 - (k+1)) (crcS c):=by
   have:8 - k=(8 - (k+1))+1:=by omega
   rw [this,crcN]
  rw [e8]
  refine (zak (y:=(((crcS c:Nat):Int),((k+1:Nat):Int))) ?_).trans ih
  simp only [zsl]
  rw [ifT ..,crc_step_eq c hc,zac,hw]
theorem crc_J1 (c:Nat)(hc:c<2 ^ 32):zox (c:Int)=some ((4294967295 - c:Nat):Int):=by
 have e1:(if IntKind.signed .u32=true then (-1:Int) else IntKind.max .u32)=((4294967295:Nat):Int):=by decide
 have e2:=bits_xor32 (a:=4294967295) (b:=c) (by omega) hc
 rw [xor_max hc] at e2
 unfold zox
 rw [e1,e2]
 dsimp only [lt]
theorem crc_L1 (b:B8)(hb:b.length<=140737488351232):∀ (m k c:Nat),b.length - k=m->k<=b.length->c<2 ^ 32->wire_Crc_L1 b ((c:Int),(k:Int))=some ((4294967295 - crcL c (b.drop k):Nat):Int)
 | 0,k,c,e,hk,hc=>by
  have:k=b.length:=by omega
  subst this
  refine zah ?_
  simp only [zsx]
  rw [ifF ..,xbw]
  rw [crc_J1 c hc]
  have e0:crcL c []=c:=rfl
  rw [e0]
  dsimp only [zev]
 | m+1,k,c,e,hk,hc=>by
  have hlt:k<b.length:=by omega
  have hw:w64 ((k:Int)+1)=((k+1:Nat):Int):=by rw [zai ..]; omega
  have hx:=u8_lt32 (zad b (k:Int))
  have h3:crcN 8 (c ^^^ (zad b (k:Int)).toNat)<2 ^ 32:=crcN_lt 8 (xc3 hc hx)
  have ih:=crc_L1 b hb m (k+1) (crcN 8 (c ^^^ (zad b (k:Int)).toNat)) (by omega) (by omega) h3
  rw [zct b k hlt,crcL_cons]
  refine (zak (y:=(((crcN 8 (c ^^^ (zad b (k:Int)).toNat):Nat):Int),((k+1:Nat):Int))) ?_).trans ih
  simp only [zsx]
  rw [ifT ..,zaa ..,u32_id (by omega) (by omega),bits_xor32 hc hx]
  have:=crc_L2 ((c:Int),(k:Int)) 8 0 (c ^^^ (zad b (k:Int)).toNat) (by omega) (by omega) (xc3 hc hx)
  have h0:((0:Nat):Int)=0:=rfl
  rw [h0] at this
  rw [this,hw]
theorem crc_eq (b:B8)(hb:b.length<=140737488351232):zqc b=some ((crc b:Nat):Int):=
 crc_L1 b hb b.length 0 4294967295 (by omega) (by omega) (by omega)
theorem rest_L2 (b:B8)(c0:Int)(i:Nat)(hi:i<b.length):∀ (m k c:Nat),8 - k=m->k<=8->c<2 ^ 32->
  R_Rest_L2 b (c0,(i:Int)) ((c:Int),(k:Int))=some (.inl (((crcR (8 - k) c ((zad b (i:Int)).toNat / 2 ^ k):Nat):Int),w64 ((i:Int)+1)))
 | 0,k,c,e,hk,hc=>by
  have:k=8:=by omega
  subst this
  refine zah ?_
  simp only [R_Rest_B2]
  rw [ifF ..]; rfl
 | m+1,k,c,e,hk,hc=>by
  have hw:w64 ((k:Int)+1)=((k+1:Nat):Int):=by rw [zai ..]; omega
  generalize hx:zad b (i:Int)=x
  have hxl:=x.toNat_lt
  have hbit:x.toNat / 2 ^ k % 2<2:=by omega
  have hct:crcT c (x.toNat / 2 ^ k % 2)<2 ^ 32:=by
   unfold crcT
   split
   ·exact xc3 (by omega) (by unfold crcP; omega)
   ·omega
  have ih:=rest_L2 b c0 i hi m (k+1) (crcT c (x.toNat / 2 ^ k % 2)) (by omega) (by omega) hct
  rw [hx] at ih
  have e8:crcR (8 - k) c (x.toNat / 2 ^ k)=crcR (8 - (k+1)) (crcT c (x.toNat / 2 ^ k % 2)) (x.toNat / 2 ^ (k+1)):=by
   have:8 - k=(8 - (k+1))+1:=by omega
   rw [this,crcR,xd6,Nat.div_div_eq_div_mul]
  rw [e8]
  refine (zak (y:=(((crcT c (x.toNat / 2 ^ k % 2):Nat):Int),((k+1:Nat):Int))) ?_).trans ih
  have ep:(2:Int) ^ (min (k:Int).toNat 8)=((2 ^ k:Nat):Int):=by
   rw [xbe,show min k 8=k by omega]; simp
  have hd:x.toNat / 2 ^ k<256:=Nat.lt_of_le_of_lt (Nat.div_le_self _ _) hxl
  have e1:Int.tmod (IntKind.u32.wrap ((zew (Int.fdiv (x.toNat:Int) (2 ^ (min (k:Int).toNat 8)))).toNat:Int)) 2=((x.toNat / 2 ^ k % 2:Nat):Int):=by
   rw [ep,zqg,zeq,u8_of hd]
   generalize x.toNat / 2 ^ k=q at hd ⊢
   rw [u32_id (by omega) (by omega)]
   exact zob _ 2
  have e2:Int.tmod (IntKind.u32.wrap ((c:Int)+((x.toNat / 2 ^ k % 2:Nat):Int))) 2=(((c+x.toNat / 2 ^ k % 2) % 2:Nat):Int):=by
   generalize x.toNat / 2 ^ k % 2=q at hbit ⊢
   by_cases h:c+q<2 ^ 32
   ·rw [u32_id (by omega) (by omega),<- Int.natCast_add]
    exact zob _ 2
   ·have h1:c+q=4294967296:=by omega
    have h2:(c:Int)+((q:Nat):Int)=4294967296:=by omega
    rw [h1,h2]; decide
  have e3:IntKind.u32.wrap (Int.tdiv (c:Int) 2)=((c / 2:Nat):Int):=by
   have:Int.tdiv (c:Int) 2=((c / 2:Nat):Int):=zsk c 2
   rw [this,u32_id (by omega) (by omega)]
  have e4:zf8 .xor .u32 (((c / 2:Nat)):Int) 3988292384=(((c / 2) ^^^ crcP:Nat):Int):=bits_xor32 (a:=c / 2) (b:=crcP) (by omega) (by unfold crcP; omega)
  simp only [R_Rest_B2,hx,e1,lt,e2,e3,e4]
  rw [ifT ..,zaa ..,zaa ..]
  unfold crcT
  by_cases c2:(c+x.toNat / 2 ^ k % 2) % 2=1
  ·rw [ifT ..,xac c2,zac,hw]
  ·rw [ifF ..,xab c2,zac,hw]
theorem rest_J1 (c:Nat)(hc:c<2 ^ 32):R_Rest_J1 (c:Int)=some ((4294967295 - c:Nat):Int):=by
 have:(4294967295:Int) - (c:Int)=((4294967295 - c:Nat):Int):=by omega
 unfold R_Rest_J1
 rw [u32_id (by omega) (by omega),this]
theorem rest_L1 (b:B8)(hb:b.length<=140737488351232):∀ (m k c:Nat),b.length - k=m->k<=b.length->c<2 ^ 32->R_Rest_L1 b ((c:Int),(k:Int))=some ((4294967295 - crcL c (b.drop k):Nat):Int)
 | 0,k,c,e,hk,hc=>by
  have:k=b.length:=by omega
  subst this
  refine zah ?_
  simp only [R_Rest_B1]
  rw [ifF ..,xbw]
  rw [rest_J1 c hc]
  have e0:crcL c []=c:=rfl
  rw [e0]
  dsimp only [zev]
 | m+1,k,c,e,hk,hc=>by
  have hlt:k<b.length:=by omega
  have hw:w64 ((k:Int)+1)=((k+1:Nat):Int):=by rw [zai ..]; omega
  have hx:=u8_lt32 (zad b (k:Int))
  have h3:crcN 8 (c ^^^ (zad b (k:Int)).toNat)<2 ^ 32:=crcN_lt 8 (xc3 hc hx)
  have ih:=rest_L1 b hb m (k+1) (crcN 8 (c ^^^ (zad b (k:Int)).toNat)) (by omega) (by omega) h3
  rw [zct b k hlt,crcL_cons]
  refine (zak (y:=(((crcN 8 (c ^^^ (zad b (k:Int)).toNat):Nat):Int),((k+1:Nat):Int))) ?_).trans ih
  simp only [R_Rest_B1]
  rw [ifT ..]
  have:=rest_L2 b (c:Int) k hlt 8 0 c (by omega) (by omega) hc
  have h0:((0:Nat):Int)=0:=rfl
  rw [h0] at this
  rw [this,crc_byte c _ (zad b (k:Int)).toNat_lt,hw]
  simp
theorem rest_eq (b:B8)(hb:b.length<=140737488351232):R_Rest b=some ((crc b:Nat):Int):=
 rest_L1 b hb b.length 0 4294967295 (by omega) (by omega) (by omega)
theorem crcB_w (n:Nat):[zew (Int.fdiv (n:Int) (2 ^ (min (24:Int).toNat 32))),zew (Int.fdiv (n:Int) (2 ^ (min (16:Int).toNat 32))),zew (Int.fdiv (n:Int) (2 ^ (min (8:Int).toNat 32))),zew (n:Int)]=crcB n:=by
 have e1:(2:Int) ^ (min (24:Int).toNat 32)=((16777216:Nat):Int):=by decide
 have e2:(2:Int) ^ (min (16:Int).toNat 32)=((65536:Nat):Int):=by decide
 have e3:(2:Int) ^ (min (8:Int).toNat 32)=((256:Nat):Int):=by decide
 unfold crcB
 rw [e1,e2,e3,zqg,zqg,zqg,zeq,zeq,zeq,zeq,ofNat_mod,ofNat_mod,ofNat_mod]
def zjp (l:B9):B8:=zi5 frame l
theorem zgj (s:B8)(l:B9):zjp (s::l)=frame s++zjp l:=by simp [zjp,zi5]
def flen (b:B8):Nat:=(zad b 0).toNat*256+(zad b 1).toNat
def rdF (b:B8):Option (B8×B8):=
 if 6<=b.length/\flen b+6<=b.length/\frame ((b.drop 2).take (flen b))=b.take (flen b+6) then some ((b.drop 2).take (flen b),b.drop (flen b+6)) else none
theorem flen_lt (b:B8):flen b<=65535:=by
 have h1:=(zad b 0).toNat_lt
 have h2:=(zad b 1).toNat_lt
 unfold flen; omega
theorem rdF_some {b x r:B8}(h:rdF b=some (x,r)):b=frame x++r/\x.length<=65535:=by
 unfold rdF at h
 split at h
 ·rename_i c
  simp only [Option.some.injEq,Prod.mk.injEq] at h
  obtain ⟨rfl,rfl⟩:=h
  have:=flen_lt b
  exact ⟨by rw [c.2.2,xa1],by simp; omega⟩
 ·cases h
theorem flen_frame {x:B8}(hx:x.length<=65535)(r:B8):flen (frame x++r)=x.length:=by
 have e:frame x++r=UInt8.ofNat (x.length / 256)::UInt8.ofNat (x.length % 256)::(x++(crcB (crc (UInt8.ofNat (x.length / 256)::UInt8.ofNat (x.length % 256)::x))++r)):=by simp [frame]
 rw [e]
 have e0:zad (UInt8.ofNat (x.length / 256)::UInt8.ofNat (x.length % 256)::(x++(crcB (crc (UInt8.ofNat (x.length / 256)::UInt8.ofNat (x.length % 256)::x))++r))) 0=UInt8.ofNat (x.length / 256):=rfl
 have e1:zad (UInt8.ofNat (x.length / 256)::UInt8.ofNat (x.length % 256)::(x++(crcB (crc (UInt8.ofNat (x.length / 256)::UInt8.ofNat (x.length % 256)::x))++r))) 1=UInt8.ofNat (x.length % 256):=rfl
 unfold flen
 rw [e0,e1,u8_of (by omega),u8_of (by omega)]; omega
theorem body_frame (x r:B8):((frame x++r).drop 2).take x.length=x:=by
 have e:frame x++r=UInt8.ofNat (x.length / 256)::UInt8.ofNat (x.length % 256)::(x++(crcB (crc (UInt8.ofNat (x.length / 256)::UInt8.ofNat (x.length % 256)::x))++r)):=by simp [frame]
 rw [e]; simp
theorem rdF_frame {x:B8}(hx:x.length<=65535)(r:B8):rdF (frame x++r)=some (x,r):=by
 unfold rdF
 have h1:=flen_frame hx r
 have h2:=body_frame x r
 have h3:=zcs x
 rw [h1,h2,xac]
 ·have:(frame x++r).drop (x.length+6)=r:=by rw [<- h3]; simp
  rw [this]
 ·refine ⟨by rw [xaa,h3]; omega,by rw [xaa,h3]; omega,?_⟩
  rw [<- h3]; simp
def opn:Nat->B8->B9->Nat->B9×Nat
 | 0,_,acc,g=>(acc,g)
 | k+1,b,acc,g=>match rdF b with
  | some (x,r)=>opn k r (acc++[x]) (g+(x.length+6))
  | none=>(acc,g)
theorem zka {b:B8}(h:rdF b=none)(k:Nat)(acc:B9)(g:Nat):opn k b acc g=(acc,g):=by
 cases k with
 | zero=>rfl
 | succ k=>rw [opn,h]
theorem zr3 {b x r:B8}(h:rdF b=some (x,r))(k:Nat)(acc:B9)(g:Nat):opn (k+1) b acc g=opn k r (acc++[x]) (g+(x.length+6)):=by
 rw [opn,h]
theorem frame_sum {b:B8}(h:flen b+6<=b.length):frame ((b.drop 2).take (flen b))=b.take (flen b+6)↔(b.drop (2+flen b)).take 4=crcB (crc (b.take (2+flen b))):=by
 have h1:=(zad b 0).toNat_lt
 have h2:=(zad b 1).toNat_lt
 have hl:((b.drop 2).take (flen b)).length=flen b:=by simp; omega
 have e2:b.take (2+flen b)=zad b 0::zad b 1::(b.drop 2).take (flen b):=by
  have a0:=zct b 0 (by omega)
  have a1:=zct b 1 (by omega)
  simp only [xb3] at a0
  have e0:((0:Nat):Int)=0:=rfl
  have e1:((1:Nat):Int)=1:=rfl
  rw [e0,xb2,a1,e1] at a0
  rw [a0,Nat.add_comm 2]
  simp [zad]
 have e3:UInt8.ofNat (flen b / 256)=zad b 0:=by
  apply u8_eq; rw [u8_of (by unfold flen; omega)]; unfold flen; omega
 have e4:UInt8.ofNat (flen b % 256)=zad b 1:=by
  apply u8_eq; rw [u8_of (by omega)]; unfold flen; omega
 have e5:frame ((b.drop 2).take (flen b))=b.take (2+flen b)++crcB (crc (b.take (2+flen b))):=by
  unfold frame
  rw [hl,e3,e4,<- e2]
 have e6:b.take (flen b+6)=b.take (2+flen b)++(b.drop (2+flen b)).take 4:=by
  rw [<- List.take_add]; congr 1; omega
 rw [e5,e6,List.append_cancel_left_eq]
 exact eq_comm
theorem equal_loop (a b:B8)(hl:a.length=b.length)(hb:a.length<=1000000):∀ (m k:Nat),a.length - k=m->k<=a.length->zgq a b (k:Int)=some (decide (a.drop k=b.drop k))
 | 0,k,e,hk=>by
  have:k=a.length:=by omega
  refine zah ?_
  simp only [zd4]
  rw [ifF ..]
  have e1:a.drop k=[]:=xcf (by omega)
  have e2:b.drop k=[]:=xcf (by omega)
  simp [zev,ze3,e1,e2]
 | m+1,k,e,hk=>by
  have hw:w64 ((k:Int)+1)=((k+1:Nat):Int):=by rw [zai ..]; omega
  have ih:=equal_loop a b hl hb m (k+1) (by omega) (by omega)
  rw [zct a k (by omega),zct b k (by omega)]
  by_cases c:zad a (k:Int)=zad b (k:Int)
  ·refine (zak (y:=((k+1:Nat):Int)) ?_).trans (ih.trans (by simp [c]))
   simp only [zd4]
   rw [ifT ..,zaa ..,zaa ..,xab (by simp [c]),hw]
  ·have c':¬ ((zad a (k:Int)).toNat:Int)=((zad b (k:Int)).toNat:Int):=fun h=>c (u8_eq (by omega))
   refine zah ?_
   simp only [zd4]
   rw [ifT ..,zaa ..,zaa ..,xac (n_t c')]
   simp [c]
theorem equal_eq (a b:B8)(hb:a.length<=1000000):zdd a b=some (decide (a=b)):=by
 unfold zdd
 by_cases c:a.length=b.length
 ·rw [xab (by simp [c])]
  have:=equal_loop a b c hb a.length 0 (by omega) (by omega)
  simpa using this
 ·rw [xac (by simp; omega)]
  have:a≠b:=fun h=>c (by rw [h])
  simp [this]
theorem clone_eq (l:B8)(h:l.length<=1000000):zck l=some l:=by
 refine wp_is.1 ?_
 simp only [zck,wp_ubO,wp_asrt,wp_some,xbk]
 refine ⟨fun hl=>?_,⟨by omega,trivial⟩⟩
 have:l=[]:=xef.1 (xa5 hl)
 subst this
 rw [zaa (by simp)]
theorem zrk (b:B8)(g n:Nat):(b.take (g+n)).drop g=(b.drop g).take n:=by
 rw [List.drop_take]; congr 1; omega
theorem opened_loop (b:B8)(hb:b.length<=100000):∀ (k g:Nat) (acc:B9),b.length - g<=k->g<=b.length->acc.length<=g->
  zmg b (acc,(g:Int))=some (((opn k (b.drop g) acc g).1),(((opn k (b.drop g) acc g).2:Nat):Int))
 | k,g,acc,hk,hg,ha=>by
  have hw0:w64 ((b.length:Int) - (g:Int))=((b.length - g:Nat):Int):=by rw [zai ..]; omega
  have hw1:w64 ((g:Int)+1)=((g+1:Nat):Int):=by rw [zai ..]; omega
  have hw2:w64 ((g:Int)+2)=((g+2:Nat):Int):=by rw [zai ..]; omega
  by_cases c6:6<=b.length - g
  ·have hfl:=flen_lt (b.drop g)
   have h0:zad (b.drop g) 0=zad b (g:Int):=by
    have:=zro b (g:Int) 0 (by omega)
    rwa [zb8,Int.add_zero] at this
   have h1:zad (b.drop g) 1=zad b ((g+1:Nat):Int):=by
    have:=zro b (g:Int) 1 (by omega)
    rwa [zb8] at this
   have b0:=(zad b (g:Int)).toNat_lt
   have b1:=(zad b ((g+1:Nat):Int)).toNat_lt
   have en:zf8 .or .i64 (w64 ((w64 ((zad b (g:Int)).toNat:Int))*2 ^ (min (8:Int).toNat 64))) (w64 ((zad b ((g+1:Nat):Int)).toNat:Int))=((flen (b.drop g):Nat):Int):=by
    have e8:(2:Int) ^ (min (8:Int).toNat 64)=((256:Nat):Int):=by decide
    rw [e8,zai (x:=((zad b (g:Int)).toNat:Int)) (by omega) (by omega),<- xdl,zai ..,zai ..,bits_or64 (by omega) (by omega)]
    have:=or_add (a:=(zad b ((g+1:Nat):Int)).toNat) (b:=(zad b (g:Int)).toNat) (k:=8) (by omega)
    have e256:(2:Nat) ^ 8=256:=rfl
    rw [e256] at this
    rw [Nat.or_comm,this]
    unfold flen
    rw [h0,h1]; omega
   generalize hn:flen (b.drop g)=n at *
   have hw3:w64 (((g+2:Nat):Int)+(n:Int))=((g+2+n:Nat):Int):=by rw [zai ..]; omega
   have hw4:w64 (((g+2+n:Nat):Int)+4)=((g+2+n+4:Nat):Int):=by rw [zai ..]; omega
   by_cases c2:b.length<g+2+n+4
   ·have hr:rdF (b.drop g)=none:=by
     unfold rdF
     rw [xab]
     rw [hn,xa7]
     intro h; omega
    rw [zka hr]
    refine zah ?_
    simp only [zfp,hw0,hw1,hw2]
    rw [ifT ..,zaa ..,zaa ..,en]
    simp only [lt,hw3,hw4]
    rw [ifT ..]; rfl
   ·have t1:(b.take (g+2+n)).drop g=(b.drop g).take (2+n):=by rw [xdi,zrk]
    have t2:(b.take (g+2+n+4)).drop (g+2+n)=((b.drop g).drop (2+n)).take 4:=by
     rw [zrk,xca,xdi]
    have t3:(b.take (g+2+n)).drop (g+2)=((b.drop g).drop 2).take n:=by rw [zrk,xca]
    have hle:flen (b.drop g)+6<=(b.drop g).length:=by rw [hn,xa7]; omega
    have hfs:=frame_sum hle
    rw [hn] at hfs
    have hl3:(((b.drop g).drop 2).take n).length=n:=by simp; omega
    by_cases c3:((b.drop g).drop (2+n)).take 4=crcB (crc ((b.drop g).take (2+n)))
    ·have hr:rdF (b.drop g)=some (((b.drop g).drop 2).take n,b.drop (g+(n+6))):=by
      unfold rdF
      have e9:(b.drop g).drop (n+6)=b.drop (g+(n+6)):=by rw [xca]
      rw [hn,xac ⟨by simp; omega,by simp; omega,hfs.2 c3⟩,e9]
     match k,hk with
     | 0,hk=>omega
     | k+1,hk=>
     rw [zr3 hr,hl3]
     have ih:=opened_loop b hb k (g+(n+6)) (acc++[((b.drop g).drop 2).take n]) (by omega) (by omega) (by simp; omega)
     refine (zak (y:=(acc++[((b.drop g).drop 2).take n],((g+(n+6):Nat):Int))) ?_).trans ih
     simp only [zfp,hw0,hw1,hw2]
     rw [ifT ..,zaa ..,zaa ..,en]
     simp only [lt,hw3,hw4]
     rw [ifF ..,zaa ..,zde,zb8,t1,crc_eq _ (by simp; omega),zac,zaa ..,zde,zb8,t2,crcB_w,c3,equal_eq _ _ (by simp [crcB]),zac]
     rw [xab (by simp),zaa ..,zb8,t3,clone_eq _ (by omega),zac,zaa (by simp; omega)]
     have:g+2+n+4=g+(n+6):=by omega
     rw [this]
    ·have hr:rdF (b.drop g)=none:=by
      unfold rdF
      rw [hn,xab]
      intro h; exact c3 (hfs.1 h.2.2)
     rw [zka hr]
     refine zah ?_
     simp only [zfp,hw0,hw1,hw2]
     rw [ifT ..,zaa ..,zaa ..,en]
     simp only [lt,hw3,hw4]
     rw [ifF ..,zaa ..,zde,zb8,t1,crc_eq _ (by simp; omega),zac,zaa ..,zde,zb8,t2,crcB_w,equal_eq _ _ (by simp; omega),zac,xac (n_t c3)]
     rfl
  ·have hr:rdF (b.drop g)=none:=by
    unfold rdF
    rw [xab]
    rw [xa7]
    intro h; omega
   rw [zka hr]
   refine zah ?_
   simp only [zfp,hw0]
   rw [ifF ..]; rfl
theorem opened_eq (b:B8)(hb:b.length<=100000):zjz b=some ((opn b.length b [] 0).1,(((opn b.length b [] 0).2:Nat):Int)):=by
 have:=opened_loop b hb b.length 0 [] (by omega) (by omega) (by simp)
 unfold zjz
 simpa using this
theorem crcB_r (n:Nat)(hn:n<2 ^ 32):[zew (IntKind.u32.wrap (Int.tdiv (n:Int) 16777216)),zew (Int.tmod (IntKind.u32.wrap (Int.tdiv (n:Int) 65536)) 256),zew (Int.tmod (IntKind.u32.wrap (Int.tdiv (n:Int) 256)) 256),zew (Int.tmod (n:Int) 256)]=crcB n:=by
 have e1:Int.tdiv (n:Int) 16777216=((n / 16777216:Nat):Int):=zsk n 16777216
 have e2:Int.tdiv (n:Int) 65536=((n / 65536:Nat):Int):=zsk n 65536
 have e3:Int.tdiv (n:Int) 256=((n / 256:Nat):Int):=zsk n 256
 have e4:Int.tmod (n:Int) 256=((n % 256:Nat):Int):=zob n 256
 have e5:Int.tmod ((n / 65536:Nat):Int) 256=((n / 65536 % 256:Nat):Int):=zob _ 256
 have e6:Int.tmod ((n / 256:Nat):Int) 256=((n / 256 % 256:Nat):Int):=zob _ 256
 unfold crcB
 rw [e1,e2,e3,e4,u32_id (by omega) (by omega),u32_id (by omega) (by omega),u32_id (by omega) (by omega),e5,e6,zeq,zeq,zeq,zeq]
theorem framed_eq (body:B8)(hb:body.length<=1000000000):zlh body=some (frame body):=by
 have eh:[zew (w64 (Int.tdiv (body.length:Int) 256)),zew (Int.tmod (body.length:Int) 256)]=[UInt8.ofNat (body.length / 256),UInt8.ofNat (body.length % 256)]:=by
  have e3:Int.tdiv (body.length:Int) 256=((body.length / 256:Nat):Int):=zsk _ 256
  have e4:Int.tmod (body.length:Int) 256=((body.length % 256:Nat):Int):=zob _ 256
  rw [e3,e4,zai ..,zeq,zeq]
 unfold zlh
 rw [eh,zaa (by simp; omega)]
 dsimp only [lt]
 rw [rest_eq _ (by simp; omega),zac,crcB_r _ (crc_lt _),zaa (by simp [crcB]; omega)]
 simp [frame]
theorem unframed_loop (b:B8)(hb:b.length<=100000):∀ (k g:Nat) (acc:B9),b.length - g<=k->g<=b.length->acc.length<=g->
  zte b (acc,(g:Int))=some (((opn k (b.drop g) acc g).1),(((opn k (b.drop g) acc g).2:Nat):Int))
 | k,g,acc,hk,hg,ha=>by
  have hw1:w64 ((g:Int)+1)=((g+1:Nat):Int):=by rw [zai ..]; omega
  have hw2:w64 ((g:Int)+2)=((g+2:Nat):Int):=by rw [zai ..]; omega
  have hw6:w64 ((g:Int)+6)=((g+6:Nat):Int):=by rw [zai ..]; omega
  by_cases c6:g+6<=b.length
  ·have hfl:=flen_lt (b.drop g)
   have h0:zad (b.drop g) 0=zad b (g:Int):=by
    have:=zro b (g:Int) 0 (by omega)
    rwa [zb8,Int.add_zero] at this
   have h1:zad (b.drop g) 1=zad b ((g+1:Nat):Int):=by
    have:=zro b (g:Int) 1 (by omega)
    rwa [zb8] at this
   have b0:=(zad b (g:Int)).toNat_lt
   have b1:=(zad b ((g+1:Nat):Int)).toNat_lt
   have en:w64 ((w64 ((w64 ((zad b (g:Int)).toNat:Int))*256))+(w64 ((zad b ((g+1:Nat):Int)).toNat:Int)))=((flen (b.drop g):Nat):Int):=by
    rw [zai (x:=((zad b (g:Int)).toNat:Int)) (by omega) (by omega),zai (x:=((zad b (g:Int)).toNat:Int)*256) (by omega) (by omega),zai (x:=((zad b ((g+1:Nat):Int)).toNat:Int)) (by omega) (by omega),zai ..]
    unfold flen
    rw [h0,h1]; omega
   generalize hn:flen (b.drop g)=n at *
   have hw3:w64 (((g+2:Nat):Int)+(n:Int))=((g+2+n:Nat):Int):=by rw [zai ..]; omega
   have hw4:w64 (((g+6:Nat):Int)+(n:Int))=((g+(n+6):Nat):Int):=by rw [zai ..]; omega
   by_cases c2:b.length<g+(n+6)
   ·have hr:rdF (b.drop g)=none:=by
     unfold rdF
     rw [xab]
     rw [hn,xa7]
     intro h; omega
    rw [zka hr]
    refine zah ?_
    simp only [zjd,hw1,hw2,hw6]
    rw [ifT ..,zaa ..,zaa ..,en]
    simp only [lt,hw3,hw4]
    rw [ifT ..]; rfl
   ·have t2:(b.take (g+(n+6))).drop g=(b.drop g).take (n+6):=zrk b g (n+6)
    have t3:(b.take (g+2+n)).drop (g+2)=((b.drop g).drop 2).take n:=by rw [zrk,xca]
    have hl3:(((b.drop g).drop 2).take n).length=n:=by simp; omega
    have e9:(b.drop g).drop (n+6)=b.drop (g+(n+6)):=by rw [xca]
    by_cases c3:frame (((b.drop g).drop 2).take n)=(b.drop g).take (n+6)
    ·have hr:rdF (b.drop g)=some (((b.drop g).drop 2).take n,b.drop (g+(n+6))):=by
      unfold rdF
      rw [hn,xac ⟨by simp; omega,by simp; omega,c3⟩,e9]
     match k,hk with
     | 0,hk=>omega
     | k+1,hk=>
     rw [zr3 hr,hl3]
     have ih:=unframed_loop b hb k (g+(n+6)) (acc++[((b.drop g).drop 2).take n]) (by omega) (by omega) (by simp; omega)
     refine (zak (y:=(acc++[((b.drop g).drop 2).take n],((g+(n+6):Nat):Int))) ?_).trans ih
     simp only [zjd,hw1,hw2,hw6]
     rw [ifT ..,zaa ..,zaa ..,en]
     simp only [lt,hw3,hw4]
     rw [ifF ..,zaa ..,zde,zb8,t3,framed_eq _ (by omega),zac,zaa ..,zde,zb8,t2]
     have hsm:zl1 (frame (((b.drop g).drop 2).take n)) ((b.drop g).take (n+6))=true:=by unfold zl1; exact xbm c3
     rw [hsm,xab (by simp),zaa ..,zaa (by simp; omega)]
    ·have hr:rdF (b.drop g)=none:=by
      unfold rdF
      rw [hn,xab]
      intro h; exact c3 h.2.2
     rw [zka hr]
     refine zah ?_
     simp only [zjd,hw1,hw2,hw6]
     rw [ifT ..,zaa ..,zaa ..,en]
     simp only [lt,hw3,hw4]
     rw [ifF ..,zaa ..,zde,zb8,t3,framed_eq _ (by omega),zac,zaa ..,zde,zb8,t2]
     have hsm:zl1 (frame (((b.drop g).drop 2).take n)) ((b.drop g).take (n+6))=false:=by
      unfold zl1; exact xa0 c3
     rw [hsm,xac (by simp)]
     rfl
  ·have hr:rdF (b.drop g)=none:=by
    unfold rdF
    rw [xab]
    rw [xa7]
    intro h; omega
   rw [zka hr]
   refine zah ?_
   simp only [zjd,hw6]
   rw [ifF ..]; rfl
theorem unframed_eq (b:B8)(hb:b.length<=100000):zmp b=some ((opn b.length b [] 0).1,(((opn b.length b [] 0).2:Nat):Int)):=by
 have:=unframed_loop b hb b.length 0 [] (by omega) (by omega) (by simp)
 unfold zmp
 simpa using this
def wh:B9->Nat->Nat
 | [],_=>0
 | x::l,c=>if x.length+6<=c then wh l (c - (x.length+6))+1 else 0
theorem wh_le:∀ (l:B9) (c:Nat),wh l c<=l.length
 | [],c=>by simp [wh]
 | x::l,c=>by
  rw [wh]
  split
  ·have:=wh_le l (c - (x.length+6)); simp; omega
  ·simp
theorem rdF_short {x:B8}(hx:x.length<=65535)(r:B8)(c:Nat)(hc:c<x.length+6):rdF ((frame x++r).take c)=none:=by
 unfold rdF
 rw [xab]
 intro ⟨h1,h2,_⟩
 have hl:((frame x++r).take c).length<=c:=by simp; omega
 have e0:zad ((frame x++r).take c) 0=zad (frame x++r) 0:=by
  have:=zml (frame x++r) (c:Int) 0 (by omega)
  rwa [zde] at this
 have e1:zad ((frame x++r).take c) 1=zad (frame x++r) 1:=by
  have:=zml (frame x++r) (c:Int) 1 (by omega)
  rwa [zde] at this
 have:flen ((frame x++r).take c)=x.length:=by
  rw [<- flen_frame hx r]; unfold flen; rw [e0,e1]
 omega
theorem opn_cut:∀ (l:B9) (c k:Nat) (acc:B9) (g:Nat),(∀ s∈l,s.length<=65535)->((zjp l).take c).length<=k->
  opn k ((zjp l).take c) acc g=(acc++l.take (wh l c),g+(zjp (l.take (wh l c))).length)
 | [],c,k,acc,g,hs,hk=>by
  have:rdF ((zjp []).take c)=none:=by simp [zjp,zi5,rdF]
  rw [zka this]; simp [wh,zjp,zi5]
 | x::l,c,k,acc,g,hs,hk=>by
  have hx:=hs x (by simp)
  have hfl:=zcs x
  rw [zgj] at hk ⊢
  rw [wh]
  by_cases h:x.length+6<=c
  ·have e:(frame x++zjp l).take c=frame x++(zjp l).take (c - (x.length+6)):=by
    rw [List.take_append,List.take_of_length_le (by omega),hfl]
   rw [e] at hk ⊢
   rw [xaa,hfl] at hk
   rw [xac h]
   match k,hk with
   | 0,hk=>omega
   | k+1,hk=>
   rw [zr3 (rdF_frame hx _),opn_cut l (c - (x.length+6)) k _ _ (fun s h=>hs s (by simp [h])) (by omega),xci,zgj,xaa,hfl]
   simp; omega
  ·rw [xab h,zka (rdF_short hx _ c (by omega))]; simp [zjp,zi5]
theorem opened_eq0 (b:B8)(hb:b.length<=100000):zti b=some ((opn b.length b [] 0).1,(((opn b.length b [] 0).2:Nat):Int)):=opened_eq b hb
theorem cat_L1 (ls:B9)(hl:ls.flatten.length<=100000)(hn:ls.length<=1000):∀ (m n:Nat) (acc:B8),ls.length - n=m->n<=ls.length->acc++(ls.drop n).flatten=ls.flatten->zf9 ls (acc,(n:Int))=some ls.flatten
 | 0,n,acc,hm,hi,he=>by
  have:n=ls.length:=by omega
  subst this
  refine zah ?_
  simp only [zep]
  rw [ifF ..,<- he]
  simp [zet,zev]
 | m+1,n,acc,hm,hi,he=>by
  have hlt:n<ls.length:=by omega
  have hw:w64 ((n:Int)+1)=((n+1:Nat):Int):=by rw [zai ..]; omega
  rw [zct ls n hlt,xcg,<- xaf] at he
  refine (zak (y:=(acc++zad ls (n:Int),((n+1:Nat):Int))) ?_).trans (cat_L1 ls hl hn m (n+1) _ (by omega) (by omega) he)
  have h2:=congrArg List.length he
  rw [xaa] at h2
  simp only [zep]
  rw [ifT ..,zaa ..,zaa ..,hw]
theorem grow_eq (n:Nat)(h:n<=100000):zed (n:Int)=some []:=by
 have hw:w64 ((n:Int) - w64 (0 - 0))=(n:Int):=by
  have:w64 (0 - 0)=0:=by decide
  rw [this,zai ..]; omega
 unfold zed
 rw [hw,ifF ..,zac]
 by_cases h0:n=0
 ·subst h0; rfl
 ·rw [ifT ..,zaa (by simp; omega),zaa (by simp)]
  dsimp only [lt]
  rw [zaa (show Int.toNat 0<=_ from xa2 _)]; rfl
theorem cat_L2 (ls:B9)(hl:ls.flatten.length<=100000)(hn:ls.length<=1000):∀ (m n:Nat) (s:Nat),ls.length - n=m->n<=ls.length->s+(ls.drop n).flatten.length=ls.flatten.length->zga ls ((s:Int),(n:Int))=some ls.flatten
 | 0,n,s,hm,hi,he=>by
  have:n=ls.length:=by omega
  subst this
  refine zah ?_
  simp only [zes]
  rw [ifF ..]
  unfold zer
  rw [grow_eq s (by omega),zac]
  have:=cat_L1 ls hl hn ls.length 0 [] (by omega) (by omega) (by simp)
  have h0:((0:Nat):Int)=0:=rfl
  rw [h0] at this
  rw [this]; rfl
 | m+1,n,s,hm,hi,he=>by
  have hlt:n<ls.length:=by omega
  have hw:w64 ((n:Int)+1)=((n+1:Nat):Int):=by rw [zai ..]; omega
  rw [zct ls n hlt,xcg,xaa] at he
  have hw2:w64 ((s:Int)+((zad ls (n:Int)).length:Int))=((s+(zad ls (n:Int)).length:Nat):Int):=by rw [zai ..]; omega
  refine (zak (y:=(((s+(zad ls (n:Int)).length:Nat):Int),((n+1:Nat):Int))) ?_).trans (cat_L2 ls hl hn m (n+1) _ (by omega) (by omega) (by omega))
  simp only [zes,hw2]
  rw [ifT ..,zaa ..,ifF ..,zac,hw]
theorem cat_eq (ls:B9)(hl:ls.flatten.length<=100000)(hn:ls.length<=1000):zfi ls=some ls.flatten:=by
 have:=cat_L2 ls hl hn ls.length 0 0 (by omega) (by omega) (by simp)
 exact this
def dF (d:Disk):Fault:=if 60000<d.Bytes.length then ⟨8,0⟩ else if d.Kept<0\/(d.Bytes.length:Int)<d.Kept then ⟨3,0⟩ else ⟨0,0⟩
theorem dcheck_eq (d:Disk):zop d=dF d:=by
 unfold zop dF
 by_cases c:60000<d.Bytes.length
 ·rw [ifT ..,xac c]; rfl
 ·rw [ifF ..,xab c]
  by_cases c2:d.Kept<0\/(d.Bytes.length:Int)<d.Kept
  ·rw [xac (or_t c2),xac c2]; rfl
  ·rw [xab (or_f c2),xab c2]
theorem rdisk_eq (d:Disk):zpr d=dF d:=by
 unfold zpr dF
 by_cases c:60000<d.Bytes.length
 ·rw [ifT ..,xac c]; rfl
 ·rw [ifF ..,xab c]
  by_cases c2:d.Kept<0\/(d.Bytes.length:Int)<d.Kept
  ·rw [xac (or_t c2),xac c2]; rfl
  ·rw [xab (or_f c2),xab c2]
structure DGood (d:Disk):Prop where
 len:d.Bytes.length<=60000
 k0:0<=d.Kept
 k1:d.Kept<=(d.Bytes.length:Int)
theorem dF_good {d:Disk}:(dF d).Code=0↔DGood d:=by
 unfold dF
 by_cases c:60000<d.Bytes.length
 ·rw [xac c]; exact ⟨fun h=>(by cases h),fun h=>by have:=h.len; omega⟩
 ·rw [xab c]
  by_cases c2:d.Kept<0\/(d.Bytes.length:Int)<d.Kept
  ·rw [xac c2]; exact ⟨fun h=>(by cases h),fun h=>by have:=h.k0; have:=h.k1; omega⟩
  ·rw [xab c2]; exact ⟨fun _=>⟨by omega,by omega,by omega⟩,fun _=>rfl⟩
theorem dF_zero {d:Disk}(h:DGood d):dF d=⟨0,0⟩:=by
 unfold dF
 rw [xab (by have:=h.len; omega),xab (by have:=h.k0; have:=h.k1; omega)]
theorem sameDisk_iff (a b:Disk):zrh a b=decide (a=b):=by
 unfold zrh zl1 lt
 obtain ⟨x,k⟩:=a
 obtain ⟨y,j⟩:=b
 by_cases h1:x=y <;> by_cases h2:k=j <;> simp [h1,h2]
theorem num_ends (n:Nat):∃ (A:B8) (x:UInt8),num n=A++[x]/\(∀ y∈A,128<=y.toNat)/\x.toNat<128:=by
 induction n using Nat.strongRecOn with
 | _ n ih=>
  by_cases c:n<128
  ·refine ⟨[],UInt8.ofNat n,by rw [zo2 c]; rfl,by simp,?_⟩
   rw [xb5]; omega
  ·obtain ⟨A,x,h1,h2,h3⟩:=ih (n / 128) (by omega)
   refine ⟨UInt8.ofNat (n % 128+128)::A,x,by rw [num_ge c,h1]; rfl,?_,h3⟩
   intro y hy
   rcases xap.1 hy with rfl | hy
   ·rw [xb5]; omega
   ·exact h2 y hy
theorem index_eq (b:B8)(hb:b.length<=60000):(∃ j:Nat,j<b.length/\(zad b (j:Int)).toNat<128/\(∀ i:Nat,i<j->¬ (zad b (i:Int)).toNat<128)/\zcv b=some (j:Int))\/((∀ j:Nat,j<b.length->¬ (zad b (j:Int)).toNat<128)/\zcv b=some (-1)):=by
 have e128:((128:UInt8).toNat:Int)=128:=by decide
 refine loop_first (step:=fun y=>za4 b y) b.length (fun k=>(k:Int)) (fun k=>(zad b (k:Int)).toNat<128) (fun k=>(k:Int)) ?_ ?_ ?_
 ·intro k hk hn
  have hw:w64 ((k:Int)+1)=((k+1:Nat):Int):=by rw [zai ..]; omega
  show za4 b (k:Int)=some (.inl ((k+1:Nat):Int))
  have hn':¬ (zad b (k:Int)).toNat<128:=hn
  have hr:zmc (zad b (k:Int))=false:=by unfold zmc; rw [e128]; exact xa0 (by omega)
  simp only [za4,hr,lt]
  rw [ifT ..,zaa ..,xab (by simp),hw]
 ·intro k hk hn
  show za4 b (k:Int)=some (.inr (k:Int))
  have hn':(zad b (k:Int)).toNat<128:=hn
  have hr:zmc (zad b (k:Int))=true:=by unfold zmc; rw [e128]; exact xbm (by omega)
  simp only [za4,hr,lt]
  rw [ifT ..,zaa ..,xac trivial]
 ·show za4 b (b.length:Int)=some (.inr (-1))
  simp only [za4]
  rw [ifF ..]; rfl
theorem rdN_take {b:B8}(h:rdN b=none)(k:Nat):rdN (b.take k)=none:=by
 cases e:rdN (b.take k) with
 | none=>rfl
 | some p=>
  obtain ⟨n,r⟩:=p
  obtain ⟨h1,h2⟩:=zf6 e
  have:b=num n++(r++b.drop k):=by rw [<- xaf,<- h1,xa1]
  rw [this,rdN_num h2] at h; cases h
theorem cut_eq (b:B8)(hb:b.length<=60000):∃ (i:Int) (k:Nat),zcv b=some i/\w64 (1+i)=(k:Int)/\k<=b.length/\∀ n r,rdN b=some (n,r)->b.take k=num n/\b.drop k=r:=by
 have key:∀ n r,rdN b=some (n,r)->∃ A x,b=A++(x::r)/\num n=A++[x]/\(∀ y∈A,128<=y.toNat)/\x.toNat<128:=by
  intro n r h
  obtain ⟨A,x,h1,h2,h3⟩:=num_ends n
  have h4:=(zf6 h).1
  exact ⟨A,x,by rw [h4,h1]; simp,h1,h2,h3⟩
 rcases index_eq b hb with ⟨j,h1,h2,h3,h4⟩ | ⟨h1,h2⟩
 ·refine ⟨j,j+1,h4,?_,by omega,?_⟩
  ·rw [zai ..]; omega
  ·intro n r h
   obtain ⟨A,x,e1,e2,e3,e4⟩:=key n r h
   have hj:j=A.length:=by
    rcases Nat.lt_trichotomy j A.length with g | g | g
    ·exfalso
     rw [zbi b j h1] at h2
     have:b[j]=A[j]:=by simp only [e1]; rw [xdg g]
     rw [this] at h2
     have:=e3 _ (xdu g)
     omega
    ·exact g
    ·exfalso
     have hA:A.length<b.length:=by rw [e1]; simp
     refine h3 A.length g ?_
     rw [zbi b A.length hA]
     have:b[A.length]=x:=by simp only [e1]; rw [xdb (xae _)]; simp
     rw [this]; exact e4
   subst hj
   rw [e2,e1]
   have e5:A++x::r=(A++[x])++r:=by simp
   have e6:A.length+1=(A++[x]).length:=by simp
   rw [e5,e6]
   exact ⟨xc2,xd9⟩
 ·refine ⟨-1,0,h2,by decide,by omega,?_⟩
  intro n r h
  exfalso
  obtain ⟨A,x,e1,e2,e3,e4⟩:=key n r h
  have hA:A.length<b.length:=by rw [e1]; simp
  refine h1 A.length hA ?_
  rw [zbi b A.length hA]
  have:b[A.length]=x:=by simp only [e1]; rw [xdb (xae _)]; simp
  rw [this]; exact e4
noncomputable def zq0 (n:Note):Fault:=if n.Seq<1\/1000000000<n.Seq then ⟨3,-1⟩ else if n.Cells.length=0\/20<n.Cells.length then ⟨2,-1⟩ else zk1 n.Cells
theorem wcheck_eq (n:Note):zq9 n=some (zq0 n):=by
 unfold zq9 zq0
 by_cases c:n.Seq<1\/1000000000<n.Seq
 ·rw [xac (or_t c),xac c]; rfl
 ·rw [xab (or_f c),xab c]
  by_cases c2:n.Cells.length=0\/20<n.Cells.length
  ·rw [xac (or_t (by omega)),xac c2]; rfl
  ·rw [xab (or_f (by omega)),xab c2,check_eq,zac]
theorem rnote_eq (n:Note):zov n=some (zq0 n):=by
 unfold zov zq0
 by_cases c:n.Seq<1\/1000000000<n.Seq
 ·rw [xac (or_t c),xac c]; rfl
 ·rw [xab (or_f c),xab c]
  by_cases c2:n.Cells.length=0\/20<n.Cells.length
  ·rw [xac (or_t (by omega)),xac c2]; rfl
  ·rw [xab (or_f (by omega)),xab c2,rcheck_eq,zac]
structure NGood (n:Note):Prop where
 f:zq0 n=⟨0,0⟩
 lo:1<=n.Seq
 hi:n.Seq<=1000000000
 len:n.Cells.length<=20
 cells:Good n.Cells
theorem zrd {n:Note}(h:(zq0 n).Code=0):NGood n:=by
 unfold zq0 at h
 by_cases c:n.Seq<1\/1000000000<n.Seq
 ·rw [xac c] at h; cases h
 ·rw [xab c] at h
  by_cases c2:n.Cells.length=0\/20<n.Cells.length
  ·rw [xac c2] at h; cases h
  ·rw [xab c2] at h
   have hg:=zl9 h
   exact ⟨by unfold zq0; rw [xab c,xab c2]; exact hg.f,by omega,by omega,by omega,hg⟩
noncomputable def noteR (n:Note):Note×Fault:=if (zq0 n).Code=0 then (n,⟨0,0⟩) else (⟨0,[]⟩,zq0 n)
noncomputable def zhh (b:B8):Note×Fault:=if 60000<b.length then (⟨0,[]⟩,⟨8,0⟩) else
 match rdN b with
 | none=>(⟨0,[]⟩,⟨5,-1⟩)
 | some (n,r)=>if (zjt r).2.Code=0 then noteR ⟨n,(zjt r).1⟩ else (⟨0,[]⟩,(zjt r).2)
theorem wread_eq (b:B8):wal_Read b=some ((zhh b).1.Seq,(zhh b).1.Cells,(zhh b).2):=by
 unfold wal_Read zhh
 by_cases c:60000<b.length
 ·rw [ifT ..,xac c]; rfl
 ·rw [ifF ..,xab c]
  obtain ⟨i,k,h1,h2,h3,h4⟩:=cut_eq b (by omega)
  rw [h1,zac,h2,zaa ..,zde]
  have hl:(b.take k).length<=1000000000000:=by rw [xal]; omega
  have hn:=num_eq (b.take k) false hl
  have hr:wire_Read (b.take k)=⟨b.take k,false⟩:=rfl
  dsimp only [lt]
  rw [hr,hn,zac,zaa ..,zb8]
  cases hd:rdN b with
  | none=>
   rw [rdN_take hd]; rfl
  | some p=>
   obtain ⟨n,r⟩:=p
   obtain ⟨g1,g2⟩:=h4 n r hd
   have hnn:=(zf6 hd).2
   have e:rdN (num n)=some (n,[]):=by
    have:=rdN_num hnn []
    rwa [xa4] at this
   rw [g1,g2,e,read_eq,zac]
   have ho:zgu (rfin false (some (n,([]:B8)))).2=true:=rfl
   have hv:(rfin false (some (n,([]:B8)))).1=(n:Int):=rfl
   rw [ho,hv,xab (by simp)]
   dsimp only
   by_cases c2:(zjt r).2.Code=0
   ·rw [xab (n_f c2),xac c2,wcheck_eq,zac]
    unfold noteR
    by_cases c3:(zq0 ⟨(n:Int),(zjt r).1⟩).Code=0
    ·rw [xab (n_f c3),xac c3,(zrd c3).f]
    ·rw [xac (n_t c3),xab c3]
   ·rw [xac (n_t c2),xab c2]
theorem noteOf_eq (b:B8):R_NoteOf b=some ((zhh b).1.Seq,(zhh b).1.Cells,(zhh b).2):=by
 unfold R_NoteOf zhh
 by_cases c:60000<b.length
 ·rw [ifT ..,xac c]; rfl
 ·rw [ifF ..,xab c,zny b (by omega),zac]
  cases hd:rdN b with
  | none=>
   have e:rnat b=(0,0):=by simp [rnat,hd]
   rw [e,xac (by simp)]; rfl
  | some p=>
   obtain ⟨n,r⟩:=p
   have e:rnat b=((n:Int),((num n).length:Int)):=by simp [rnat,hd]
   have h1:=(zf6 hd).1
   have h2:=num_pos n
   have h3:b.length=(num n).length+r.length:=by rw [h1,xaa]
   have h4:b.drop (num n).length=r:=by rw [h1]; simp
   rw [e]
   dsimp only
   rw [ifF ..,zaa ..,zb8,h4,cellsOf_eq,zac]
   by_cases c2:(zjt r).2.Code=0
   ·rw [xab (n_f c2),xac c2,rnote_eq,zac]
    unfold noteR
    by_cases c3:(zq0 ⟨(n:Int),(zjt r).1⟩).Code=0
    ·rw [xab (n_f c3),xac c3]
    ·rw [xac (n_t c3),xab c3]
   ·rw [xac (n_t c2),xab c2]
theorem encC_take (l:Cs)(k:Nat)(h:k<l.length):zft (l.take (k+1))=zft (l.take k)++wrC (zad l (k:Int)):=by
 rw [zdq l k h]; simp [zft,zi5]
theorem encC_len (l:Cs)(hc:∀ c∈l,za1 c=0):(zft l).length<=310*l.length:=by
 induction l with
 | nil=>simp [zft,zi5]
 | cons c l ih=>
  have h1:=(zsh (hc c (by simp))).1
  have h2:=ih (fun x hx=>hc x (by simp [hx]))
  rw [encC_cons,xaa,xah]; omega
def zon (n:Note):B8:=num n.Seq.toNat++zft n.Cells
theorem addNum1_eq (n:Nat)(h:n<=1000000000):zj4 (n:Int)=some (num n):=by
 have h1:zj4 (n:Int)=zfm (n:Int) []:=rfl
 have:=zie h
 rw [h1,addNum_eq n [] (by simp; omega)]; simp
theorem wbytes_eq (n:Note)(h:NGood n):zra n=some (zon n):=by
 unfold zra zon
 have hlo:=h.lo
 have hhi:=h.hi
 have hlen:=h.len
 have e:n.Seq=((n.Seq.toNat:Nat):Int):=by omega
 have h5:=zie (n:=n.Seq.toNat) (by omega)
 rw [e,addNum1_eq _ (by omega),zac,xbe]
 have:=zjf (step:=fun y=>znj y) n.Cells.length (fun k=>(num n.Seq.toNat++zft (n.Cells.take k),n.Cells,(n.Cells.length:Int),(k:Int))) (r:=num n.Seq.toNat++zft n.Cells) ?_ ?_
 ·have e0:zft (n.Cells.take 0)=[]:=rfl
  simp only [e0,xa4] at this
  exact this
 ·intro k hk
  have hw:w64 ((k:Int)+1)=((k+1:Nat):Int):=by rw [zai ..]; omega
  have hl:=encC_len (n.Cells.take k) (fun c hc=>h.cells.code c (xbp hc))
  rw [xal] at hl
  have hc:=h.cells.code _ (zcb n.Cells (k:Int) (by omega))
  simp only [znj,zby]
  rw [ifT ..,zaa ..,add_eq _ hc _ (by rw [xaa]; omega),zac,hw,encC_take _ _ hk,xaf]
 ·simp only [znj]
  rw [ifF ..,xbg]; rfl
theorem note1F:zq0 law_oneNote=⟨0,0⟩:=by
 simp [law_oneNote,lt,zq0,zk1,ck,za1,okp]
theorem addFrameW_eq (body:B8)(hb:body.length<=1000000000):zhx body=some (frame body):=by
 have e8:(2:Int) ^ (min (8:Int).toNat 64)=((256:Nat):Int):=by decide
 have eh:[zew (Int.fdiv (body.length:Int) (2 ^ (min (8:Int).toNat 64))),zew (body.length:Int)]=[UInt8.ofNat (body.length / 256),UInt8.ofNat (body.length % 256)]:=by
  rw [e8,zqg,zeq,zeq,ofNat_mod]
 unfold zhx
 rw [eh,zaa (by simp)]
 dsimp only [lt]
 have e0:(0:Int)=((0:Nat):Int):=rfl
 rw [zaa (by simp; omega),zaa (by simp; omega),e0,zb8,xb3]
 have ed:([UInt8.ofNat (body.length / 256),UInt8.ofNat (body.length % 256)]++body)=UInt8.ofNat (body.length / 256)::UInt8.ofNat (body.length % 256)::body:=by simp
 rw [ed,crc_eq _ (by simp; omega),zac,crcB_w,zaa (by simp [crcB]; omega)]
 simp [frame]
theorem append_eq {d:Disk}(h:DGood d)(b:B8)(hb:b.length<=1000000000000000):zpi d b=some (if 60000<d.Bytes.length+b.length then ([],0,⟨9,0⟩) else (d.Bytes++b,d.Kept,⟨0,0⟩)):=by
 have hl:=h.len
 have hw:w64 ((d.Bytes.length:Int)+(b.length:Int))=((d.Bytes.length+b.length:Nat):Int):=by rw [zai ..]; omega
 unfold zpi
 rw [dcheck_eq,dF_zero h,hw]
 dsimp only [lt]
 rw [xab (by simp)]
 by_cases c:60000<d.Bytes.length+b.length
 ·rw [ifT ..,xac c]; rfl
 ·rw [ifF ..,xab c,cat_eq _ (by simp; omega) (by simp),zac]; simp
def sizeF (l:B9):Nat:=(l.map (fun s=>s.length+6)).sum
theorem zru (s:B8)(l:B9):sizeF (s::l)=s.length+6+sizeF l:=by simp [sizeF]
theorem opn_size:∀ (k:Nat) (b:B8) (acc:B9) (g:Nat),∃ m,(opn k b acc g).1=acc++m/\sizeF m<=b.length
 | 0,b,acc,g=>⟨[],by simp [opn],by simp [sizeF]⟩
 | k+1,b,acc,g=>by
  cases e:rdF b with
  | none=>exact ⟨[],by rw [zka e]; simp,by simp [sizeF]⟩
  | some p=>
   obtain ⟨x,r⟩:=p
   obtain ⟨m,h1,h2⟩:=opn_size k r (acc++[x]) (g+(x.length+6))
   have h3:=(rdF_some e).1
   refine ⟨x::m,by rw [zr3 e,h1]; simp,?_⟩
   rw [zru,h3,xaa,zcs]; omega
theorem sizeF_len (l:B9):6*l.length<=sizeF l:=by
 induction l with
 | nil=>simp [sizeF]
 | cons s l ih=>rw [zru,xah]; omega
def bodies (b:B8):B9:=(opn b.length b [] 0).1
theorem zsr (b:B8):sizeF (bodies b)<=b.length:=by
 obtain ⟨m,h1,h2⟩:=opn_size b.length b [] 0
 unfold bodies; rw [h1]; simpa using h2
theorem noteS_good {b:B8}(h:(zhh b).2.Code=0):NGood (zhh b).1/\(zhh b).2=⟨0,0⟩:=by
 unfold zhh at h ⊢
 by_cases c:60000<b.length
 ·rw [xac c] at h; cases h
 ·rw [xab c] at h ⊢
  cases hd:rdN b with
  | none=>rw [hd] at h; cases h
  | some p=>
   obtain ⟨n,r⟩:=p
   rw [hd] at h
   dsimp only at h ⊢
   by_cases c2:(zjt r).2.Code=0
   ·rw [xac c2] at h ⊢
    unfold noteR at h ⊢
    by_cases c3:(zq0 ⟨(n:Int),(zjt r).1⟩).Code=0
    ·rw [xac c3]; exact ⟨zrd c3,rfl⟩
    ·rw [xab c3] at h; exact absurd h c3
   ·rw [xab c2] at h; exact absurd h c2
def lastN (l:List Note):Note:=zad l ((l.length:Int) - 1)
def nxt (acc:List Note)(n:Note):Prop:=acc.length=0\/n.Seq=(lastN acc).Seq+1
instance (acc:List Note)(n:Note):Decidable (nxt acc n):=inferInstanceAs (Decidable (_\/_))
noncomputable def nts (acc:List Note)(g:Nat):B9->List Note×Nat
 | []=>(acc,g)
 | s::l=>if (zhh s).2.Code=0/\nxt acc (zhh s).1 then nts (acc++[(zhh s).1]) (g+(s.length+6)) l else (acc,g)
theorem nts_le:∀ (l:B9) (acc:List Note) (g:Nat),(nts acc g l).2<=g+sizeF l/\(nts acc g l).1.length<=acc.length+l.length/\((∀ n∈acc,NGood n)->∀ n∈(nts acc g l).1,NGood n)
 | [],acc,g=>by rw [nts]; exact ⟨by omega,by simp,fun h=>h⟩
 | s::l,acc,g=>by
  rw [nts,zru]
  split
  ·rename_i c
   obtain ⟨h1,h2,h3⟩:=nts_le l (acc++[(zhh s).1]) (g+(s.length+6))
   rw [xaa,xan] at h2
   refine ⟨by omega,by rw [xah]; omega,fun h=>h3 (fun n hn=>?_)⟩
   rcases xar.1 hn with q | q
   ·exact h n q
   ·rw [xau] at q; subst q; exact (noteS_good c.1).1
  ·exact ⟨by show g<=_; omega,by show acc.length<=_; omega,fun h=>h⟩
theorem last_in {acc:List Note}(h:acc.length≠0)(hg:∀ n∈acc,NGood n):NGood (lastN acc):=hg _ (zcb acc _ (by omega))
theorem note_eta (n:Note):(⟨n.Seq,n.Cells⟩:Note)=n:=rfl
theorem wnotes_loop (L:B9)(z:Int)(hL:L.length<=100000):∀ (r i g:Nat) (acc:List Note),L.length - i=r->i<=L.length->acc.length<=i->g+sizeF (L.drop i)<=100000->(∀ n∈acc,NGood n)->
  wal_Notes_L1 (L,z) (acc,(g:Int),(i:Int))=some ((nts acc g (L.drop i)).1,(((nts acc g (L.drop i)).2:Nat):Int))
 | 0,i,g,acc,e,hi,ha,hg,hn=>by
  have:i=L.length:=by omega
  subst this
  refine zah ?_
  unfold zky
  dsimp only
  rw [ifF ..,xbw,nts]; rfl
 | r+1,i,g,acc,e,hi,ha,hg,hn=>by
  have hlt:i<L.length:=by omega
  have hw:w64 ((i:Int)+1)=((i+1:Nat):Int):=by rw [zai ..]; omega
  rw [zct L i hlt] at hg ⊢
  rw [zru] at hg
  have hw2:w64 ((acc.length:Int) - 1)=(acc.length:Int) - 1:=zai ..
  have hsz:w64 ((g:Int)+w64 (6+((zad L (i:Int)).length:Int)))=((g+((zad L (i:Int)).length+6):Nat):Int):=by
   rw [zai (x:=6+((zad L (i:Int)).length:Int)) (by omega) (by omega),zai ..]; omega
  rw [nts]
  by_cases c1:(zhh (zad L (i:Int))).2.Code=0
  ·have hbad:((!decide ((zhh (zad L (i:Int))).2.Code=0))||((decide (0<(acc.length:Int)))&&(!decide ((zhh (zad L (i:Int))).1.Seq=w64 ((zad acc ((acc.length:Int) - 1)).Seq+1))))) = !decide (nxt acc (zhh (zad L (i:Int))).1):=by
    rw [xbm c1,xez,xd1]
    by_cases c2:acc.length=0
    ·have h1:nxt acc (zhh (zad L (i:Int))).1:=.inl c2
     rw [xa0 (show ¬ 0<(acc.length:Int) by omega),xbm h1]; rfl
    ·have hl:=last_in c2 hn
     have q1:=hl.lo
     have q2:=hl.hi
     have hw3:w64 ((zad acc ((acc.length:Int) - 1)).Seq+1)=(lastN acc).Seq+1:=zai (by unfold lastN at q1; omega) (by unfold lastN at q2; omega)
     rw [hw3,xbm (show 0<(acc.length:Int) by omega),xee]
     congr 1
     exact xdc.2 ⟨fun h=>.inr h,fun h=>h.resolve_left c2⟩
   by_cases c2:nxt acc (zhh (zad L (i:Int))).1
   ·rw [xac ⟨c1,c2⟩]
    refine (zak (y:=(acc++[(zhh (zad L (i:Int))).1],((g+((zad L (i:Int)).length+6):Nat):Int),((i+1:Nat):Int))) ?_).trans (wnotes_loop L z hL r (i+1) (g+((zad L (i:Int)).length+6)) _ (by omega) (by omega) (by rw [xaa,xan]; omega) (by omega) (fun n hh=>by
     rcases xar.1 hh with q | q
     ·exact hn n q
     ·rw [xau] at q; subst q; exact (noteS_good c1).1))
    unfold zky
    dsimp only
    rw [ifT ..,zaa ..,zaa ..,wread_eq,zac,hw2,zaa (fun h _=>by have:=xa5 h; omega),zaa (fun h _=>by have:=xa5 h; omega),hbad,xab (n_f c2),note_eta,zaa (by rw [xaa,xan]; omega),hw,hsz]
   ·rw [xab (fun h=>c2 h.2)]
    refine zah ?_
    unfold zky
    dsimp only
    rw [ifT ..,zaa ..,zaa ..,wread_eq,zac,hw2,zaa (fun h _=>by have:=xa5 h; omega),zaa (fun h _=>by have:=xa5 h; omega),hbad,xac (n_t c2)]; rfl
  ·rw [xab (fun h=>c1 h.1)]
   refine zah ?_
   unfold zky
   dsimp only
   rw [ifT ..,zaa ..,zaa ..,wread_eq,zac,hw2,zaa (fun h _=>by have:=xa5 h; omega),zaa (fun h _=>by have:=xa5 h; omega),xa0 c1,xac (by rfl)]; rfl
noncomputable def logd (b:B8):List Note×Nat:=nts [] 0 (bodies b)
theorem wnotes_eq (d:Disk)(h:d.Bytes.length<=60000):wal_Notes d=some ((logd d.Bytes).1,(((logd d.Bytes).2:Nat):Int)):=by
 have hs:=zsr d.Bytes
 have hl:=sizeF_len (bodies d.Bytes)
 unfold wal_Notes
 rw [opened_eq0 _ (by omega),zac]
 exact wnotes_loop (bodies d.Bytes) _ (by omega) (bodies d.Bytes).length 0 0 [] (by omega) (by omega) (by simp) (by rw [xb3]; omega) (by simp)
theorem rlogd_loop (L:B9)(z:Int)(hL:L.length<=100000):∀ (r i g:Nat) (acc:List Note),L.length - i=r->i<=L.length->acc.length=i->g+sizeF (L.drop i)<=100000->(∀ n∈acc,NGood n)->
  R_Logged_v1_L1 (L,z) (acc,(g:Int),(i:Int))=some ((nts acc g (L.drop i)).1,(((nts acc g (L.drop i)).2:Nat):Int))
 | 0,i,g,acc,e,hi,ha,hg,hn=>by
  have:i=L.length:=by omega
  subst this
  refine zah ?_
  unfold zju
  dsimp only
  rw [ifF ..,xbw,nts]; rfl
 | r+1,i,g,acc,e,hi,ha,hg,hn=>by
  have hlt:i<L.length:=by omega
  have hw:w64 ((i:Int)+1)=((i+1:Nat):Int):=by rw [zai ..]; omega
  rw [zct L i hlt] at hg ⊢
  rw [zru] at hg
  have hw2:w64 ((i:Int) - 1)=(acc.length:Int) - 1:=by rw [zai ..]; omega
  have hsz:w64 (w64 ((g:Int)+6)+((zad L (i:Int)).length:Int))=((g+((zad L (i:Int)).length+6):Nat):Int):=by
   rw [zai (x:=(g:Int)+6) (by omega) (by omega),zai ..]; omega
  rw [nts]
  by_cases c1:(zhh (zad L (i:Int))).2.Code=0
  ·have hgd:=(noteS_good c1).1
   have hlo:=hgd.lo
   have hhi:=hgd.hi
   have hbad:((!decide ((zhh (zad L (i:Int))).2.Code=0))||((decide (0<(i:Int)))&&(!decide (w64 ((zhh (zad L (i:Int))).1.Seq - 1)=(zad acc ((acc.length:Int) - 1)).Seq)))) = !decide (nxt acc (zhh (zad L (i:Int))).1):=by
    rw [xbm c1,xez,xd1]
    by_cases c2:acc.length=0
    ·have h1:nxt acc (zhh (zad L (i:Int))).1:=.inl c2
     rw [xa0 (show ¬ 0<(i:Int) by omega),xbm h1]; rfl
    ·rw [zai ..,xbm (show 0<(i:Int) by omega),xee]
     congr 1
     refine xdc.2 ⟨fun h=>.inr ?_,fun h=>?_⟩
     ·show _=(zad acc ((acc.length:Int) - 1)).Seq+1; omega
     ·have h2:(zhh (zad L (i:Int))).1.Seq=(zad acc ((acc.length:Int) - 1)).Seq+1:=h.resolve_left c2
      omega
   by_cases c2:nxt acc (zhh (zad L (i:Int))).1
   ·rw [xac ⟨c1,c2⟩]
    refine (zak (y:=(acc++[(zhh (zad L (i:Int))).1],((g+((zad L (i:Int)).length+6):Nat):Int),((i+1:Nat):Int))) ?_).trans (rlogd_loop L z hL r (i+1) (g+((zad L (i:Int)).length+6)) _ (by omega) (by omega) (by rw [xaa,xan]; omega) (by omega) (fun n hh=>by
     rcases xar.1 hh with q | q
     ·exact hn n q
     ·rw [xau] at q; subst q; exact hgd))
    unfold zju
    dsimp only
    rw [ifT ..,zaa ..,zaa ..,noteOf_eq,zac,hw2,zaa (fun h _=>by have:=xa5 h; omega),zaa (fun h _=>by have:=xa5 h; omega),hbad,xab (n_f c2),note_eta,zaa (by rw [xaa,xan]; omega),zaa ..,zaa ..,hw,hsz]
   ·rw [xab (fun h=>c2 h.2)]
    refine zah ?_
    unfold zju
    dsimp only
    rw [ifT ..,zaa ..,zaa ..,noteOf_eq,zac,hw2,zaa (fun h _=>by have:=xa5 h; omega),zaa (fun h _=>by have:=xa5 h; omega),hbad,xac (n_t c2)]; rfl
  ·rw [xab (fun h=>c1 h.1)]
   refine zah ?_
   unfold zju
   dsimp only
   rw [ifT ..,zaa ..,zaa ..,noteOf_eq,zac,hw2,zaa (fun h _=>by have:=xa5 h; omega),zaa (fun h _=>by have:=xa5 h; omega),xa0 c1,xac (by rfl)]; rfl
theorem rlogd_eq (b:B8)(h:b.length<=60000):R_Logged_v1 b=some ((logd b).1,(((logd b).2:Nat):Int)):=by
 have hs:=zsr b
 have hl:=sizeF_len (bodies b)
 unfold R_Logged_v1
 rw [unframed_eq _ (by omega),zac]
 exact rlogd_loop (bodies b) _ (by omega) (bodies b).length 0 0 [] (by omega) (by omega) rfl (by rw [xb3]; omega) (by simp)
theorem logd_le (b:B8):(logd b).2<=b.length/\(logd b).1.length<=b.length/\∀ n∈(logd b).1,NGood n:=by
 have hs:=zsr b
 have hl:=sizeF_len (bodies b)
 obtain ⟨h1,h2,h3⟩:=nts_le (bodies b) [] 0
 rw [xax] at h2
 exact ⟨by unfold logd; omega,by unfold logd; omega,h3 (by simp)⟩
def b2n (b:Bool):Nat:=match b with
 | true=>1
 | false=>0
def w8 (a0 a1 a2 a3 a4 a5 a6 a7:Bool):UInt8:=UInt8.ofNat (b2n a0+2*b2n a1+4*b2n a2+8*b2n a3+16*b2n a4+32*b2n a5+64*b2n a6+128*b2n a7)
theorem or8:∀ (k:Fin 8) (a0 a1 a2 a3 a4 a5 a6 a7:Bool),zew (((BitVec.ofInt 8 ((w8 a0 a1 a2 a3 a4 a5 a6 a7).toNat:Int) ||| BitVec.ofInt 8 ((zew (((1:UInt8).toNat:Int)*2 ^ (min ((k.val:Nat):Int).toNat 8))).toNat:Int)).toNat:Int)) =
  w8 (a0||k.val == 0) (a1||k.val == 1) (a2||k.val == 2) (a3||k.val == 3) (a4||k.val == 4) (a5||k.val == 5) (a6||k.val == 6) (a7||k.val == 7):=by decide +kernel
def sel8 (k:Nat)(a0 a1 a2 a3 a4 a5 a6 a7:Bool):Bool:=match k with
 | 0=>a0 | 1=>a1 | 2=>a2 | 3=>a3 | 4=>a4 | 5=>a5 | 6=>a6 | _=>a7
theorem add8:∀ (k:Fin 8) (a0 a1 a2 a3 a4 a5 a6 a7:Bool),sel8 k.val a0 a1 a2 a3 a4 a5 a6 a7=false->zew (((w8 a0 a1 a2 a3 a4 a5 a6 a7).toNat:Int)+((zew (((1:UInt8).toNat:Int)*2 ^ (min ((k.val:Nat):Int).toNat 8))).toNat:Int)) =
  w8 (a0||k.val == 0) (a1||k.val == 1) (a2||k.val == 2) (a3||k.val == 3) (a4||k.val == 4) (a5||k.val == 5) (a6||k.val == 6) (a7||k.val == 7):=by decide +kernel
def zl4 (p:Nat->Bool)(j:Nat):UInt8:=w8 (p (8*j)) (p (8*j+1)) (p (8*j+2)) (p (8*j+3)) (p (8*j+4)) (p (8*j+5)) (p (8*j+6)) (p (8*j+7))
def bytesOf (p:Nat->Bool)(n:Nat):B8:=(List.range n).map (zl4 p)
theorem zei (p:Nat->Bool)(n:Nat):(bytesOf p n).length=n:=by simp [bytesOf]
theorem bytesOf_get (p:Nat->Bool)(n j:Nat)(h:j<n):zad (bytesOf p n) (j:Int)=zl4 p j:=by
 rw [zbi _ j (by rw [zei]; exact h)]
 simp [bytesOf]
theorem zlb {p q:Nat->Bool}(n:Nat)(h:∀ i,i<8*n->p i=q i):bytesOf p n=bytesOf q n:=by
 unfold bytesOf
 apply List.map_congr_left
 intro j hj
 have hj:j<n:=by simpa using hj
 unfold zl4
 rw [h (8*j) (by omega),h (8*j+1) (by omega),h (8*j+2) (by omega),h (8*j+3) (by omega),h (8*j+4) (by omega),h (8*j+5) (by omega),h (8*j+6) (by omega),h (8*j+7) (by omega)]
def setP (p:Nat->Bool)(s:Nat):Nat->Bool:=fun i=>p i||i == s
theorem beq_off (j k i:Nat)(hk:k<8)(hi:i<8):(8*j+i == 8*j+k)=(k == i):=by
 rw [xbu]; simp; omega
theorem byteOf_set (p:Nat->Bool)(j k:Nat)(hk:k<8):zl4 (setP p (8*j+k)) j =
  w8 (p (8*j)||k == 0) (p (8*j+1)||k == 1) (p (8*j+2)||k == 2) (p (8*j+3)||k == 3) (p (8*j+4)||k == 4) (p (8*j+5)||k == 5) (p (8*j+6)||k == 6) (p (8*j+7)||k == 7):=by
 have e0:(8*j == 8*j+k)=(k == 0):=by have:=beq_off j k 0 hk (by omega); simpa using this
 unfold zl4 setP
 rw [e0,beq_off j k 1 hk (by omega),beq_off j k 2 hk (by omega),beq_off j k 3 hk (by omega),beq_off j k 4 hk (by omega),beq_off j k 5 hk (by omega),beq_off j k 6 hk (by omega),beq_off j k 7 hk (by omega)]
theorem byteOf_other (p:Nat->Bool)(j s:Nat)(h:s / 8≠j):zl4 (setP p s) j=zl4 p j:=by
 have key:∀ i,i<8->(setP p s (8*j+i))=p (8*j+i):=by
  intro i hi
  have:(8*j+i == s)=false:=by rw [xev]; omega
  unfold setP; rw [this,xdj]
 have k0:=key 0 (by omega)
 unfold zl4
 rw [key 1 (by omega),key 2 (by omega),key 3 (by omega),key 4 (by omega),key 5 (by omega),key 6 (by omega),key 7 (by omega)]
 rw [xct] at k0
 rw [k0]
theorem zse (p:Nat->Bool)(n s:Nat)(hs:s<8*n):zem (bytesOf p n) ((s / 8:Nat):Int) (zl4 (setP p s) (s / 8))=bytesOf (setP p s) n:=by
 have hl:s / 8<n:=by omega
 apply xch
 intro j
 have e:zem (bytesOf p n) ((s / 8:Nat):Int) (zl4 (setP p s) (s / 8))=(bytesOf p n).set (s / 8) (zl4 (setP p s) (s / 8)):=rfl
 rw [e,xc9,zei]
 by_cases hj:s / 8=j
 ·subst hj
  rw [xac rfl,xac hl]
  simp [bytesOf,hl]
 ·rw [xab hj]
  by_cases h2:j<n
  ·simp [bytesOf,h2,byteOf_other p j s hj]
  ·simp [bytesOf,h2]
theorem div_w (s:Nat)(h:s<=1000000):w64 (Int.tdiv (s:Int) 8)=((s / 8:Nat):Int):=by
 have:Int.tdiv (s:Int) 8=((s / 8:Nat):Int):=rfl
 rw [this,zai ..]
theorem or_set (p:Nat->Bool)(n s:Nat)(hs:s<8*n) :
  zew (((BitVec.ofInt 8 ((zad (bytesOf p n) ((s / 8:Nat):Int)).toNat:Int) ||| BitVec.ofInt 8 ((zew (((1:UInt8).toNat:Int)*2 ^ (min (Int.tmod (s:Int) 8).toNat 8))).toNat:Int)).toNat:Int))=zl4 (setP p s) (s / 8):=by
 have hk:s % 8<8:=xc1 _ (by decide)
 have e:Int.tmod (s:Int) 8=((s % 8:Nat):Int):=rfl
 have h:=or8 ⟨s % 8,hk⟩ (p (8*(s / 8))) (p (8*(s / 8)+1)) (p (8*(s / 8)+2)) (p (8*(s / 8)+3)) (p (8*(s / 8)+4)) (p (8*(s / 8)+5)) (p (8*(s / 8)+6)) (p (8*(s / 8)+7))
 have e2:zl4 (setP p s) (s / 8)=zl4 (setP p (8*(s / 8)+s % 8)) (s / 8):=by rw [xeo]
 rw [bytesOf_get _ _ _ (by omega),e,e2,byteOf_set p _ _ hk]
 exact h
theorem add_set (p:Nat->Bool)(n s:Nat)(hs:s<8*n)(hp:p s=false) :
  zew (((zad (bytesOf p n) ((s / 8:Nat):Int)).toNat:Int)+((zew (((1:UInt8).toNat:Int)*2 ^ (min (Int.tmod (s:Int) 8).toNat 8))).toNat:Int))=zl4 (setP p s) (s / 8):=by
 have hk:s % 8<8:=xc1 _ (by decide)
 have e:Int.tmod (s:Int) 8=((s % 8:Nat):Int):=rfl
 have hps:p (8*(s / 8)+s % 8)=false:=by rw [xeo]; exact hp
 have hsel:sel8 (s % 8) (p (8*(s / 8))) (p (8*(s / 8)+1)) (p (8*(s / 8)+2)) (p (8*(s / 8)+3)) (p (8*(s / 8)+4)) (p (8*(s / 8)+5)) (p (8*(s / 8)+6)) (p (8*(s / 8)+7))=false:=by
  generalize s % 8=k at *
  generalize s / 8=j at *
  match k,hk,hps with
  | 0,_,h=>exact h
  | 1,_,h=>exact h
  | 2,_,h=>exact h
  | 3,_,h=>exact h
  | 4,_,h=>exact h
  | 5,_,h=>exact h
  | 6,_,h=>exact h
  | 7,_,h=>exact h
 have h:=add8 ⟨s % 8,hk⟩ _ _ _ _ _ _ _ _ hsel
 have e2:zl4 (setP p s) (s / 8)=zl4 (setP p (8*(s / 8)+s % 8)) (s / 8):=by rw [xeo]
 rw [bytesOf_get _ _ _ (by omega),e,e2,byteOf_set p _ _ hk]
 exact h
theorem bytesOf_zero (n:Nat):List.replicate n (0:UInt8)=bytesOf (fun _=>false) n:=by
 apply xch
 intro j
 by_cases h:j<n
 ·simp [bytesOf,zl4,h,w8,b2n]
 ·simp [bytesOf,h]
def sp (row:B8)(m i:Nat):Nat:=(crc row % 65536+i*(crc row / 65536)) % m
theorem sp_lt (row:B8)(m i:Nat)(h:0<m):sp row m i<m:=xc1 _ h
theorem spots_eq (row:B8)(m:Nat)(hr:row.length<=140737488351232)(h0:0<m)(h1:m<=1000000):zri row (m:Int)=some ⟨(sp row m 0:Nat),(sp row m 1:Nat),(sp row m 2:Nat)⟩:=by
 have hc:=crc_lt row
 have e1:w64 ((crc row:Nat):Int)=((crc row:Nat):Int):=zai ..
 have e2:Int.tmod ((crc row:Nat):Int) 65536=((crc row % 65536:Nat):Int):=rfl
 have e3:Int.tdiv ((crc row:Nat):Int) 65536=((crc row / 65536:Nat):Int):=rfl
 have q1:crc row % 65536<65536:=xc1 _ (by decide)
 have q2:crc row / 65536<65536:=by omega
 have e4:w64 ((crc row / 65536:Nat):Int)=((crc row / 65536:Nat):Int):=zai ..
 unfold zri znv sp
 rw [zaa ..,crc_eq row (by omega),zac]
 dsimp only [lt]
 rw [zaa ..,zaa ..,zaa ..,e1,e2,e3,e4]
 generalize crc row % 65536=a at *
 generalize crc row / 65536=b at *
 have f0:w64 ((a:Int)+w64 (0*(b:Int)))=((a+0*b:Nat):Int):=by
  have:w64 (0*(b:Int))=0:=by rw [Int.zero_mul]; rfl
  rw [this,zai ..]; omega
 have f1:w64 ((a:Int)+w64 (1*(b:Int)))=((a+1*b:Nat):Int):=by
  have:w64 (1*(b:Int))=b:=by rw [Int.one_mul,zai ..]
  rw [this,zai ..]; omega
 have f2:w64 ((a:Int)+w64 (2*(b:Int)))=((a+2*b:Nat):Int):=by
  have:w64 (2*(b:Int))=2*b:=zai ..
  rw [this,zai ..]; omega
 rw [f0,f1,f2]
 rfl
theorem bits_eq (row:B8)(m:Nat)(hr:row.length<=140737488351232)(h0:0<m)(h1:m<=1000000):R_Bits row (m:Int)=some [((sp row m 0:Nat):Int),((sp row m 1:Nat):Int),((sp row m 2:Nat):Int)]:=by
 have hc:=crc_lt row
 have u:∀ x:Nat,x<=10000000000->IntKind.u64.wrap (x:Int)=(x:Int):=fun x hx=>by rw [IntKind.wrap_u64]; omega
 have e2:Int.tmod ((crc row:Nat):Int) 65536=((crc row % 65536:Nat):Int):=rfl
 have e3:Int.tdiv ((crc row:Nat):Int) 65536=((crc row / 65536:Nat):Int):=rfl
 have q1:crc row % 65536<65536:=xc1 _ (by decide)
 have q2:crc row / 65536<65536:=by omega
 unfold R_Bits sp
 rw [zaa ..,rest_eq row (by omega),zac,u m (by omega),zaa ..,zaa ..,zaa ..,u (crc row) (by omega)]
 dsimp only [lt]
 rw [e2,e3,u _ (by omega)]
 generalize crc row % 65536=a at *
 generalize crc row / 65536=b at *
 have g2:(2*(b:Int))=((2*b:Nat):Int):=by omega
 rw [g2,u _ (by omega),show (a:Int)+(b:Int)=((a+b:Nat):Int) by omega,show (a:Int)+((2*b:Nat):Int)=((a+2*b:Nat):Int) by omega,u _ (by omega),u _ (by omega)]
 have t:∀ x:Nat,w64 (Int.tmod (x:Int) (m:Int))=((x % m:Nat):Int):=fun x=>by
  have e:Int.tmod (x:Int) (m:Int)=((x % m:Nat):Int):=rfl
  have:=xc1 x h0
  rw [e,zai ..]
 rw [t,t,t,xem,Nat.one_mul,xct]
def zdv (l:Cs):Nat->B9
 | 0=>[]
 | k+1=>if (zdv l k).length=0\/zad (zdv l k) ((zdv l k).length - 1)≠(zad l (k:Int)).Row then zdv l k++[(zad l (k:Int)).Row] else zdv l k
theorem rowsK_last (l:Cs):∀ k:Nat,(zdv l (k+1)).length≠0/\zad (zdv l (k+1)) ((zdv l (k+1)).length - 1)=(zad l (k:Int)).Row/\(zdv l (k+1)).length<=k+1
 | 0=>by
  rw [zdv,xac (.inl rfl)]
  exact ⟨by simp [zdv],by simp [zdv,zad],by simp [zdv]⟩
 | k+1=>by
  obtain ⟨h1,h2,h3⟩:=rowsK_last l k
  rw [zdv]
  by_cases c:(zdv l (k+1)).length=0\/zad (zdv l (k+1)) ((zdv l (k+1)).length - 1)≠(zad l ((k+1:Nat):Int)).Row
  ·rw [xac c]
   refine ⟨by simp,?_,by rw [xaa,xan]; omega⟩
   rw [xaa,xan,zre _ _ _ (by omega)]
   have:(((zdv l (k+1)).length+1:Nat):Int) - 1 - ((zdv l (k+1)).length:Int)=0:=by omega
   rw [this]; rfl
  ·rw [xab c]
   exact ⟨h1,xcp.1 (fun q=>c (.inr q)),by omega⟩
theorem rowsK_len (l:Cs)(k:Nat):(zdv l k).length<=k:=by
 cases k with
 | zero=>simp [zdv]
 | succ k=>exact (rowsK_last l k).2.2
theorem rowsK_mem (l:Cs)(x:B8):∀ k:Nat,x∈zdv l k↔∃ j,j<k/\x=(zad l (j:Int)).Row
 | 0=>by simp [zdv]
 | k+1=>by
  have ih:=rowsK_mem l x k
  rw [zdv]
  have hs:(∃ j,j<k+1/\x=(zad l (j:Int)).Row)↔(x∈zdv l k\/x=(zad l (k:Int)).Row):=by
   rw [ih]
   constructor
   ·rintro ⟨j,hj,e⟩
    by_cases c:j=k
    ·subst c; exact .inr e
    ·exact .inl ⟨j,by omega,e⟩
   ·rintro (⟨j,hj,e⟩ | e)
    ·exact ⟨j,by omega,e⟩
    ·exact ⟨k,by omega,e⟩
  rw [hs]
  split
  ·rw [xar,xau]
  ·rename_i c
   constructor
   ·exact .inl
   ·rintro (h | h)
    ·exact h
    ·cases k with
     | zero=>exact absurd (Or.inl rfl) c
     | succ k=>
      have:=xcp.1 (fun q=>c (.inr q))
      rw [h,<- this]
      exact zcb _ _ (by have:=(rowsK_last l k).1; omega)
def spP (p:Nat->Bool)(row:B8)(m:Nat):Nat->Bool:=setP (setP (setP p (sp row m 0)) (sp row m 1)) (sp row m 2)
def hit (row:B8)(m i:Nat):Prop:=i=sp row m 0\/i=sp row m 1\/i=sp row m 2
theorem spP_iff (p:Nat->Bool)(row:B8)(m i:Nat):spP p row m i=true↔(p i=true\/hit row m i):=by
 unfold spP setP hit
 simp only [xbb,beq_iff_eq]
 constructor
 ·rintro (((h | h) | h) | h)
  ·exact .inl h
  ·exact .inr (.inl h)
  ·exact .inr (.inr (.inl h))
  ·exact .inr (.inr (.inr h))
 ·rintro (h | h | h | h)
  ·exact .inl (.inl (.inl h))
  ·exact .inl (.inl (.inr h))
  ·exact .inl (.inr h)
  ·exact .inr h
def rowP (r:B9)(m:Nat):Nat->Nat->Bool
 | 0=>fun _=>false
 | k+1=>spP (rowP r m k) (zad r (k:Int)) m
theorem rowP_iff (r:B9)(m i:Nat):∀ k:Nat,rowP r m k i=true↔∃ j,j<k/\hit (zad r (j:Int)) m i
 | 0=>by simp [rowP]
 | k+1=>by
  rw [rowP,spP_iff,rowP_iff r m i k]
  constructor
  ·rintro (⟨j,hj,h⟩ | h)
   ·exact ⟨j,by omega,h⟩
   ·exact ⟨k,by omega,h⟩
  ·rintro ⟨j,hj,h⟩
   by_cases c:j=k
   ·subst c; exact .inr h
   ·exact .inl ⟨j,by omega,h⟩
def celR (l:Cs):B9:=l.map (fun c=>c.Row)
theorem celR_get (l:Cs)(k:Nat)(h:k<l.length):zad (celR l) (k:Int)=(zad l (k:Int)).Row:=by
 rw [zbi _ k (by simp [celR]; exact h),zbi _ k h]; simp [celR]
def filN (l:Cs):Nat:=max 1 (zdv l l.length).length
def filF (l:Cs):B8:=bytesOf (rowP (celR l) (8*filN l) l.length) (filN l)
theorem filF_rows (l:Cs):filF l=bytesOf (rowP (zdv l l.length) (8*filN l) (zdv l l.length).length) (filN l):=by
 unfold filF
 refine zlb _ fun i _=>?_
 rw [xbu,rowP_iff,rowP_iff]
 constructor
 ·rintro ⟨j,hj,h⟩
  rw [celR_get l j hj] at h
  obtain ⟨q,hq,e⟩:=mem_lget.1 ((rowsK_mem l (zad l (j:Int)).Row l.length).2 ⟨j,hj,rfl⟩)
  exact ⟨q,hq,by rw [e]; exact h⟩
 ·rintro ⟨q,hq,h⟩
  obtain ⟨j,hj,e⟩:=(rowsK_mem l _ l.length).1 (zcb (zdv l l.length) (q:Int) (by omega))
  exact ⟨j,hj,by rw [celR_get l j hj,<- e]; exact h⟩
theorem zqm (l:Cs):1<=filN l/\filN l<=l.length+1:=by
 have:=rowsK_len l l.length
 unfold filN; omega
theorem filter_B1 (l:Cs)(hl:l.length<=100000)(hr:∀ c∈l,c.Row.length<=140737488351232)(n:Nat)(hn0:1<=n)(hn:n<=100001)(p:Nat->Bool)(k:Nat)(hk:k<l.length) :
  zfl l (bytesOf p n,(k:Int))=some (.inl (bytesOf (spP p (zad l (k:Int)).Row (8*n)) n,((k+1:Nat):Int))):=by
 have hw:w64 ((k:Int)+1)=((k+1:Nat):Int):=by rw [zai ..]; omega
 have h8:w64 (8*(n:Int))=((8*n:Nat):Int):=by rw [zai ..]; omega
 have hrow:=hr _ (zcb l (k:Int) (by omega))
 have m0:0<8*n:=by omega
 unfold zfl
 dsimp only
 rw [zei,ifT ..,zaa ..,h8,spots_eq _ _ hrow m0 (by omega),zac]
 dsimp only [lt]
 generalize (zad l (k:Int)).Row=row at *
 have s0:=sp_lt row (8*n) 0 m0
 have s1:=sp_lt row (8*n) 1 m0
 have s2:=sp_lt row (8*n) 2 m0
 unfold spP
 generalize sp row (8*n) 0=a at *
 generalize sp row (8*n) 1=b at *
 generalize sp row (8*n) 2=c at *
 have tm:∀ x:Nat,0<=Int.tmod (x:Int) 8:=fun x=>by have:Int.tmod (x:Int) 8=((x % 8:Nat):Int):=rfl; omega
 rw [div_w a (by omega),div_w b (by omega),div_w c (by omega),zaa ..,zaa ..,zaa (tm a),zaa ..,zaa ..,or_set p n a s0,zse p n a s0,zei,
  zaa ..,zaa ..,zaa (tm b),zaa ..,zaa ..,or_set _ n b s1,zse _ n b s1,zei,
  zaa ..,zaa ..,zaa (tm c),zaa ..,zaa ..,or_set _ n c s2,zse _ n c s2]
 unfold zm1
 dsimp only
 rw [hw]
theorem filter_eq (l:Cs)(hl:l.length<=100000)(hr:∀ c∈l,c.Row.length<=140737488351232):zkn l=some (filF l):=by
 have hN:=zqm l
 unfold zkn zqj
 refine zjf (step:=fun y=>zgv l y) l.length (fun k=>(((zdv l k).length:Int),(k:Int))) (fun k hk=>?_) ?_
 ·have hw:w64 ((k:Int)+1)=((k+1:Nat):Int):=by rw [zai ..]; omega
  have hrl:=rowsK_len l k
  have hw2:w64 (((zdv l k).length:Int)+1)=(((zdv l k).length+1:Nat):Int):=by rw [zai ..]; omega
  have hw3:w64 ((k:Int) - 1)=(k:Int) - 1:=zai ..
  show zgv l (_,(k:Int))=_
  unfold zgv
  dsimp only
  rw [ifT ..,zaa ..,hw3,hw,zaa (fun q=>by have h3:¬ ((k:Int)=0):=(by simpa using q); omega)]
  have hc:((decide ((k:Int)=0))||(!decide ((zad l (k:Int)).Row=(zad l ((k:Int) - 1)).Row)))=decide ((zdv l k).length=0\/zad (zdv l k) ((zdv l k).length - 1)≠(zad l (k:Int)).Row):=by
   rw [xbu]
   simp only [xbb,xaz,xbs,xbi]
   cases k with
   | zero=>simp [zdv]
   | succ k=>
    obtain ⟨h1,h2,_⟩:=rowsK_last l k
    have e:((k+1:Nat):Int) - 1=(k:Int):=by omega
    rw [e,h2]
    constructor
    ·rintro (q | q)
     ·omega
     ·exact .inr fun x=>q x.symm
    ·rintro (q | q)
     ·exact absurd q h1
     ·exact .inr fun x=>q x.symm
  rw [hc,zdv]
  by_cases c:(zdv l k).length=0\/zad (zdv l k) ((zdv l k).length - 1)≠(zad l (k:Int)).Row
  ·rw [xac (d_t c),xac c,hw2,zac,xaa,xan]
  ·rw [xab (d_f c),xab c,zac]
 ·show zgv l (_,(l.length:Int))=_
  unfold zgv
  dsimp only
  rw [ifF ..]
  have hmx:(max 1 ((zdv l l.length).length:Int))=((filN l:Nat):Int):=by unfold filN; omega
  have:zj0 l ((zdv l l.length).length:Int)=some (filF l):=by
   unfold zj0
   rw [hmx,zaa ..,xbe,bytesOf_zero]
   unfold zqt filF
   refine zjf (step:=fun y=>zfl l y) l.length (fun k=>(bytesOf (rowP (celR l) (8*filN l) k) (filN l),(k:Int))) (fun k hk=>?_) ?_
   ·show zfl l (bytesOf _ _,(k:Int))=_
    rw [filter_B1 l hl hr _ hN.1 (by omega) _ k hk,rowP,celR_get l k hk]
   ·show zfl l (bytesOf _ _,(l.length:Int))=_
    unfold zfl
    dsimp only
    rw [ifF ..]; rfl
  rw [this]; rfl
theorem rrows_eq (l:Cs)(hl:l.length<=100000):R_RowsOf l=some (zdv l l.length):=by
 unfold R_RowsOf R_RowsOf_L1
 refine zjf (step:=fun y=>zkh l y) l.length (fun k=>(zdv l k,(k:Int))) (fun k hk=>?_) ?_
 ·have hw:w64 ((k:Int)+1)=((k+1:Nat):Int):=by rw [zai ..]; omega
  have hrl:=rowsK_len l k
  have hw3:w64 (((zdv l k).length:Int) - 1)=((zdv l k).length:Int) - 1:=zai ..
  show zkh l (zdv l k,(k:Int))=_
  unfold zkh
  dsimp only
  have hz:(!(decide (((zdv l k).length:Int)=0)))=true->0<(zdv l k).length:=fun q=>by
   have:¬ (((zdv l k).length:Int)=0):=by simpa using q
   omega
  rw [ifT ..,hw3,hw,zaa (fun q=>by have:=hz q; omega),zaa (fun q=>by have:=hz q; omega),zaa (fun q=>by omega)]
  have hc:((decide (((zdv l k).length:Int)=0))||(!decide ((zad (zdv l k) (((zdv l k).length:Int) - 1))=((zad l (k:Int)).Row))))=decide ((zdv l k).length=0\/zad (zdv l k) ((zdv l k).length - 1)≠(zad l (k:Int)).Row):=by
   rw [xbu]
   simp only [xbb,xaz,xbs,xbi]
   constructor
   ·rintro (q | q)
    ·exact .inl (by omega)
    ·exact .inr q
   ·rintro (q | q)
    ·exact .inl (by omega)
    ·exact .inr q
  rw [hc,zdv]
  by_cases c:(zdv l k).length=0\/zad (zdv l k) ((zdv l k).length - 1)≠(zad l (k:Int)).Row
  ·rw [xac (d_t c),xac c,zaa ..,zaa (by rw [xaa,xan]; omega),zac]
  ·rw [xab (d_f c),xab c,zac]
 ·show zkh l (zdv l l.length,(l.length:Int))=_
  unfold zkh
  dsimp only
  rw [ifF ..]; rfl
def zl6 (p:Nat->Bool)(m:Nat):List Bool:=(List.range m).map p
theorem bools_len (p:Nat->Bool)(m:Nat):(zl6 p m).length=m:=by simp [zl6]
theorem bools_get (p:Nat->Bool)(m i:Nat)(h:i<m):zad (zl6 p m) (i:Int)=p i:=by
 rw [zbi _ i (by rw [bools_len]; exact h)]; simp [zl6]
theorem bools_set (p:Nat->Bool)(m s:Nat):zem (zl6 p m) (s:Int) true=zl6 (setP p s) m:=by
 apply xch
 intro j
 have e:zem (zl6 p m) (s:Int) true=(zl6 p m).set s true:=rfl
 rw [e,xc9,bools_len]
 by_cases hj:s=j
 ·subst hj
  rw [xac rfl]
  by_cases h:s<m
  ·rw [xac h]; simp [zl6,h,setP]
  ·rw [xab h]; simp [zl6,h]
 ·rw [xab hj]
  by_cases h:j<m
  ·have:(j == s)=false:=by rw [xev]; omega
   simp [zl6,h,setP,this]
  ·simp [zl6,h]
theorem bools_zero (m:Nat):List.replicate m false=zl6 (fun _=>false) m:=by
 apply xch
 intro j
 by_cases h:j<m <;> simp [zl6,h]
theorem rfil_L3 (v6:List Bool×Int)(p:Nat->Bool)(m a b c:Nat)(ha:a<m)(hb:b<m)(hc:c<m):zrz v6 [(a:Int),(b:Int),(c:Int)] (zl6 p m,0)=some (.inl (zl6 (setP (setP (setP p a) b) c) m,w64 (v6.2+1))):=by
 have st:∀ (q:Nat->Bool) (k:Nat) (x:Nat),k<3->zad [(a:Int),(b:Int),(c:Int)] (k:Int)=(x:Int)->x<m->zfh v6 [(a:Int),(b:Int),(c:Int)] (zl6 q m,(k:Int))=some (.inl (zl6 (setP q x) m,((k+1:Nat):Int))):=by
  intro q k x hk hx hxm
  have hw:w64 ((k:Int)+1)=((k+1:Nat):Int):=by rw [zai ..]; omega
  have hlen:(([(a:Int),(b:Int),(c:Int)]:List Int).length:Int)=3:=rfl
  unfold zfh
  dsimp only
  rw [hlen,ifT ..,zaa ..,hx,bools_len,zaa ..,zaa ..,bools_set,hw]
 have e1:=zak (step:=fun y=>zfh v6 [(a:Int),(b:Int),(c:Int)] y) (st p 0 a (by omega) rfl ha)
 have e2:=zak (step:=fun y=>zfh v6 [(a:Int),(b:Int),(c:Int)] y) (st (setP p a) 1 b (by omega) rfl hb)
 have e3:=zak (step:=fun y=>zfh v6 [(a:Int),(b:Int),(c:Int)] y) (st (setP (setP p a) b) 2 c (by omega) rfl hc)
 have e4:zbg (fun y=>zfh v6 [(a:Int),(b:Int),(c:Int)] y) (zl6 (setP (setP (setP p a) b) c) m,((2+1:Nat):Int))=some (.inl (zl6 (setP (setP (setP p a) b) c) m,w64 (v6.2+1))):=by
  refine zah ?_
  have hlen:(([(a:Int),(b:Int),(c:Int)]:List Int).length:Int)=3:=rfl
  unfold zfh znu
  dsimp only
  rw [hlen,xab (d_f (by decide))]; rfl
 exact e1.trans (e2.trans (e3.trans e4))
def pre (p:Nat->Bool)(k:Nat):Nat->Bool:=fun i=>p i&&decide (i<k)
theorem pre_succ (p:Nat->Bool)(k:Nat):(p k=true->∀ i,pre p (k+1) i=setP (pre p k) k i)/\(p k=false->∀ i,pre p (k+1) i=pre p k i):=by
 constructor
 ·intro h i
  unfold pre setP
  by_cases c:i=k
  ·subst c; simp [h]
  ·have e1:(i == k)=false:=by rw [xev]; exact c
   have e2:decide (i<k+1)=decide (i<k):=by rw [xdc]; omega
   rw [e1,e2,xdj]
 ·intro h i
  unfold pre
  by_cases c:i=k
  ·subst c; simp [h]
  ·have e2:decide (i<k+1)=decide (i<k):=by rw [xdc]; omega
   rw [e2]
theorem rfil_J1 (p:Nat->Bool)(n:Nat)(h0:1<=n)(h1:n<=100001):zld (n:Int) (zl6 p (8*n))=some (bytesOf p n):=by
 unfold zld
 rw [zaa ..,xbe,bytesOf_zero]
 have e0:bytesOf (fun _=>false) n=bytesOf (pre p 0) n:=zlb n fun i _=>by simp [pre]
 have e1:bytesOf p n=bytesOf (pre p (8*n)) n:=zlb n fun i hi=>by simp [pre,hi]
 rw [e0,e1]
 unfold zsn
 refine zjf (step:=fun y=>zhn (zl6 p (8*n)) y) (8*n) (fun k=>(bytesOf (pre p k) n,(k:Int))) (fun k hk=>?_) ?_
 ·have hw:w64 ((k:Int)+1)=((k+1:Nat):Int):=by rw [zai ..]; omega
  have tm:0<=Int.tmod (k:Int) 8:=by have:Int.tmod (k:Int) 8=((k % 8:Nat):Int):=rfl; omega
  show zhn (zl6 p (8*n)) (bytesOf (pre p k) n,(k:Int))=_
  unfold zhn
  dsimp only
  rw [bools_len,zei,ifT ..,zaa ..,zaa ..,bools_get p _ k hk,hw]
  cases hp:p k with
  | true=>
   rw [xac rfl,div_w k (by omega),zaa ..,zaa ..,zaa tm,zaa ..,zaa ..,add_set _ n k hk (by simp [pre]),zse _ n k hk]
   dsimp only [lt]
   rw [zac,zlb n fun i _=>(pre_succ p k).1 hp i]
  | false=>
   rw [xab (by decide),zac,zlb n fun i _=>(pre_succ p k).2 hp i]
 ·show zhn (zl6 p (8*n)) (bytesOf (pre p (8*n)) n,((8*n:Nat):Int))=_
  unfold zhn
  dsimp only
  rw [bools_len,ifF ..]; rfl
theorem rfilter_eq (l:Cs)(hl:l.length<=100000)(hr:∀ c∈l,c.Row.length<=140737488351232):zkw l=some (filF l):=by
 have hN:=zqm l
 have hrl:=rowsK_len l l.length
 unfold zkw
 rw [rrows_eq l hl,zac]
 have hv:(if (decide (((zdv l l.length).length:Int)=0))=true then (some 1:Option Int) else some ((zdv l l.length).length:Int))=some ((filN l:Nat):Int):=by
  by_cases c:((zdv l l.length).length:Int)=0
  ·rw [xac (d_t c)]; unfold filN; congr 1; omega
  ·rw [xab (d_f c)]; unfold filN; congr 1; omega
 have h8:w64 (8*((filN l:Nat):Int))=((8*filN l:Nat):Int):=by rw [zai ..]; omega
 rw [hv,zac,h8,zaa ..,xbe,bools_zero,filF_rows]
 have hrow:∀ x∈zdv l l.length,x.length<=140737488351232:=by
  intro x hx
  obtain ⟨j,hj,e⟩:=(rowsK_mem l x l.length).1 hx
  rw [e]; exact hr _ (zcb l (j:Int) (by omega))
 have m0:0<8*filN l:=by omega
 unfold zr8
 generalize zdv l l.length=r at *
 refine zjf (step:=fun y=>zhm r ((filN l:Nat):Int) y) r.length (fun k=>(zl6 (rowP r (8*filN l) k) (8*filN l),(k:Int))) (fun k hk=>?_) ?_
 ·have hw:w64 ((k:Int)+1)=((k+1:Nat):Int):=by rw [zai ..]; omega
  show zhm r ((filN l:Nat):Int) (zl6 _ _,(k:Int))=_
  unfold zhm
  dsimp only
  rw [ifT ..,zaa ..,zaa ..,h8,bits_eq _ _ (hrow _ (zcb r (k:Int) (by omega))) m0 (by omega),zac,rfil_L3 _ _ _ _ _ _ (sp_lt _ _ _ m0) (sp_lt _ _ _ m0) (sp_lt _ _ _ m0)]
  dsimp only
  rw [hw,rowP]; rfl
 ·show zhm r ((filN l:Nat):Int) (zl6 _ _,(r.length:Int))=_
  unfold zhm
  dsimp only
  rw [ifF ..,rfil_J1 _ _ hN.1 (by omega)]; rfl
theorem addFrame_eq (body row:B8)(hb:body.length<=1000000000)(hr:row.length<=1000000000):zgc body row=some (row++frame body):=by
 have e8:(2:Int) ^ (min (8:Int).toNat 64)=((256:Nat):Int):=by decide
 have eh:[zew (Int.fdiv (body.length:Int) (2 ^ (min (8:Int).toNat 64))),zew (body.length:Int)]=[UInt8.ofNat (body.length / 256),UInt8.ofNat (body.length % 256)]:=by
  rw [e8,zqg,zeq,zeq,ofNat_mod]
 unfold zgc
 rw [eh,zaa (by simp; omega)]
 dsimp only [lt]
 rw [zaa (by simp; omega),zaa (by simp; omega),zb8]
 have ed:((row++[UInt8.ofNat (body.length / 256),UInt8.ofNat (body.length % 256)])++body).drop row.length=UInt8.ofNat (body.length / 256)::UInt8.ofNat (body.length % 256)::body:=by simp
 rw [ed,crc_eq _ (by simp; omega),zac,crcB_w,zaa (by simp [crcB]; omega)]
 simp [frame]
theorem encC_app:∀ (a b:Cs),zft (a++b)=zft a++zft b
 | [],b=>by simp [zft,zi5]
 | c::a,b=>by rw [xbq,encC_cons,encC_cons,encC_app a b,xaf]
theorem encC_one (c:Cell):zft [c]=wrC c:=by rw [encC_cons]; simp [zft,zi5]
theorem zn9:∀ (a b:B9),zjp (a++b)=zjp a++zjp b
 | [],b=>by simp [zjp,zi5]
 | c::a,b=>by rw [xbq,zgj,zgj,zn9 a b,xaf]
theorem zr7 (c:B8):zjp [c]=frame c:=by rw [zgj]; simp [zjp,zi5]
def hdR (g:Cs):B8:=(zad g 0).Row
theorem hdR_snoc (g:Cs)(c:Cell):hdR (g++[c])=if g=[] then c.Row else hdR g:=by
 cases g with
 | nil=>rfl
 | cons x g=>rw [xab (by simp)]; rfl
def zd1 (l:Cs)(size:Int):Nat->List Cs×Cs
 | 0=>([],[])
 | k+1=>if size<=((zft ((zd1 l size k).2++[zad l (k:Int)])).length:Int)\/k+1=l.length then ((zd1 l size k).1++[(zd1 l size k).2++[zad l (k:Int)]],[]) else ((zd1 l size k).1,(zd1 l size k).2++[zad l (k:Int)])
def zn0 (s:List Cs×Cs):B9:=s.1.map hdR++(if s.2=[] then [] else [hdR s.2])
def zs5 (gs:List Cs):B8:=gs.flatMap fun g=>wrT (hdR g)++num (zft g).length
theorem idxL_snoc (gs:List Cs)(g:Cs):zs5 (gs++[g])=zs5 gs++(wrT (hdR g)++num (zft g).length):=by simp [zs5]
theorem rowsB_step (s:List Cs×Cs)(c:Cell):zn0 (s.1,s.2++[c])=(if s.2=[] then zn0 s++[c.Row] else zn0 s)/\zn0 (s.1++[s.2++[c]],[])=(if s.2=[] then zn0 s++[c.Row] else zn0 s):=by
 unfold zn0
 by_cases h:s.2=[]
 ·rw [h]; constructor <;> (simp [hdR]; rfl)
 ·constructor <;> simp [h,hdR_snoc]
theorem encC_zero {g:Cs}(hg:∀ c∈g,za1 c=0):(zft g).length=0↔g=[]:=by
 cases g with
 | nil=>simp [zft,zi5]
 | cons c g=>
  have:=(zsh (hg c (by simp))).2
  rw [encC_cons,xaa]
  constructor
  ·intro h; omega
  ·intro h; cases h
section
variable {l:Cs}(hg:∀ c∈l,za1 c=0)(hl:l.length<=1000)(size:Int)
include hg hl
theorem blk_bd:∀ k:Nat,k<=l.length->(zjp ((zd1 l size k).1.map zft)).length+(zft (zd1 l size k).2).length<=316*k/\(zs5 (zd1 l size k).1).length<=50*k/\(zn0 (zd1 l size k)).length<=k/\(zd1 l size k).1.length<=k/\
  (∀ c∈(zd1 l size k).2,za1 c=0)/\(∀ g∈(zd1 l size k).1,g≠[]/\∀ c∈g,za1 c=0)/\(zd1 l size k).1.flatten++(zd1 l size k).2=l.take k
 | 0,_=>⟨by simp [zd1,zjp,zft,zi5],by simp [zd1,zs5],by simp [zd1,zn0],by simp [zd1],by simp [zd1],by simp [zd1],by simp [zd1]⟩
 | k+1,h=>by
  obtain ⟨h1,h2,h3,h4,h5,h6,h7⟩:=blk_bd k (by omega)
  have hc:=hg _ (zcb l (k:Int) (by omega))
  have w1:=zsh hc
  have cl:=zil hc
  have ht:=zdq l k (by omega)
  obtain ⟨r1,r2⟩:=rowsB_step (zd1 l size k) (zad l (k:Int))
  have hr:((if (zd1 l size k).2=[] then zn0 (zd1 l size k)++[(zad l (k:Int)).Row] else zn0 (zd1 l size k))).length<=k+1:=by
   split
   ·rw [xaa,xan]; omega
   ·omega
  have hx:(zft ((zd1 l size k).2++[zad l (k:Int)])).length<=(zft (zd1 l size k).2).length+310:=by
   rw [encC_app,encC_one,xaa]; omega
  have hcs:∀ c∈(zd1 l size k).2++[zad l (k:Int)],za1 c=0:=by
   intro c hm
   rcases xar.1 hm with q | q
   ·exact h5 c q
   ·rw [xau] at q; rw [q]; exact hc
  have hne:(zd1 l size k).2++[zad l (k:Int)]≠[]:=by simp
  have hhd:(hdR ((zd1 l size k).2++[zad l (k:Int)])).length<=40:=by
   have:zad ((zd1 l size k).2++[zad l (k:Int)]) 0∈(zd1 l size k).2++[zad l (k:Int)]:=zcb _ 0 (by rw [xaa,xan]; omega)
   exact (zil (hcs _ this)).1
  rw [zd1]
  split
  ·refine ⟨?_,?_,by rw [r2]; exact hr,by rw [xaa,xan]; omega,by simp,?_,?_⟩
   ·rw [xcx,zn9,List.map_singleton,zr7,xaa,zcs]
    have:(zft ([]:Cs)).length=0:=by simp [zft,zi5]
    dsimp only
    omega
   ·have q1:=zno (hdR ((zd1 l size k).2++[zad l (k:Int)])) (by omega)
    have q2:=zie (n:=(zft ((zd1 l size k).2++[zad l (k:Int)])).length) (by omega)
    dsimp only
    rw [idxL_snoc,xaa,xaa]
    omega
   ·intro g hm
    rcases xar.1 hm with q | q
    ·exact h6 g q
    ·rw [xau] at q; rw [q]; exact ⟨hne,hcs⟩
   ·rw [ht,<- h7]; simp
  ·refine ⟨?_,by dsimp only; omega,by rw [r1]; exact hr,by dsimp only; omega,hcs,h6,?_⟩
   ·dsimp only; omega
   ·rw [ht,<- h7]; simp
theorem blocks_eq:zpe l size=some ((zd1 l size l.length).1.map zft,zn0 (zd1 l size l.length)):=by
 unfold zpe zqk
 refine zjf (step:=fun y=>zgr l size y) l.length (fun k=>((zd1 l size k).1.map zft,zn0 (zd1 l size k),zft (zd1 l size k).2,(k:Int))) (fun k hk=>?_) ?_
 ·have hw:w64 ((k:Int)+1)=((k+1:Nat):Int):=by rw [zai ..]; omega
  have hw2:w64 ((l.length:Int) - 1)=(l.length:Int) - 1:=zai ..
  obtain ⟨h1,h2,h3,h4,h5,h6,h7⟩:=blk_bd hg hl size k (by omega)
  have hc:=hg _ (zcb l (k:Int) (by omega))
  have w1:=zsh hc
  obtain ⟨r1,r2⟩:=rowsB_step (zd1 l size k) (zad l (k:Int))
  have hz:=encC_zero h5
  show zgr l size (_,_,zft (zd1 l size k).2,(k:Int))=_
  unfold zgr
  dsimp only
  rw [ifT ..,zaa ..,hw,hw2,zby]
  have hv2:(if (decide ((zft (zd1 l size k).2).length=0))=true then
    zao (((zn0 (zd1 l size k)++([(zad l (k:Int)).Row]:B9)).length:Int)*16<=140737488351232) <|
    some ((zn0 (zd1 l size k)++([(zad l (k:Int)).Row]:B9)),zad l (k:Int))
   else
    some (zn0 (zd1 l size k),zad l (k:Int)))=some ((if (zd1 l size k).2=[] then zn0 (zd1 l size k)++[(zad l (k:Int)).Row] else zn0 (zd1 l size k)),zad l (k:Int)):=by
   by_cases c:(zd1 l size k).2=[]
   ·rw [xac (d_t (hz.2 c)),xac c,zaa (by rw [xaa,xan]; omega)]
   ·rw [xab (d_f (fun q=>c (hz.1 q))),xab c]
  rw [hv2,zac,add_eq _ hc _ (by omega),zac]
  have hx:zft (zd1 l size k).2++wrC (zad l (k:Int))=zft ((zd1 l size k).2++[zad l (k:Int)]):=by rw [encC_app,encC_one]
  rw [hx,zd1]
  have hcond:((decide (size<=((zft ((zd1 l size k).2++[zad l (k:Int)])).length:Int)))||(decide ((k:Int)=(l.length:Int) - 1)))=decide (size<=((zft ((zd1 l size k).2++[zad l (k:Int)])).length:Int)\/k+1=l.length):=by
   rw [xbu]
   simp only [xbb,xaz]
   omega
  rw [hcond]
  by_cases c:size<=((zft ((zd1 l size k).2++[zad l (k:Int)])).length:Int)\/k+1=l.length
  ·rw [xac (d_t c),xac c,zaa (by rw [xaa,xao,xan]; omega),zac,r2,xcx]
   rfl
  ·rw [xab (d_f c),xab c,zac,r1]
 ·show zgr l size (_,_,_,(l.length:Int))=_
  unfold zgr
  dsimp only
  rw [ifF ..]; rfl
def firstK (l:Cs)(size:Int):Nat->B8
 | 0=>[]
 | k+1=>if (zd1 l size k).2=[] then (zad l (k:Int)).Row else firstK l size k
omit hg hl in
theorem firstK_hd:∀ k:Nat,(zd1 l size k).2≠[]->firstK l size k=hdR (zd1 l size k).2
 | 0,h=>absurd rfl h
 | k+1,h=>by
  rw [firstK]
  rw [zd1] at h ⊢
  by_cases c:size<=((zft ((zd1 l size k).2++[zad l (k:Int)])).length:Int)\/k+1=l.length
  ·rw [xac c] at h; exact absurd rfl h
  ·rw [xab c,hdR_snoc]
   by_cases c2:(zd1 l size k).2=[]
   ·rw [xac c2,xac c2]
   ·rw [xab c2,xab c2,firstK_hd k c2]
omit hg hl in
theorem firstK_next (k:Nat):firstK l size (k+1)=hdR ((zd1 l size k).2++[zad l (k:Int)]):=by
 rw [firstK,hdR_snoc]
 by_cases c:(zd1 l size k).2=[]
 ·rw [xac c,xac c]
 ·rw [xab c,xab c,firstK_hd size k c]
def zcg (l:Cs)(size:Int):B9:=(zd1 l size l.length).1.map zft++[zs5 (zd1 l size l.length).1,filF l]
def ze2 (l:Cs)(size:Int):B8:=zjp (zcg l size)
theorem rfile_eq:zkg l size=some (ze2 l size):=by
 unfold zkg zql
 refine zjf (step:=fun y=>zgo l size y) l.length (fun k=>(zjp ((zd1 l size k).1.map zft),zs5 (zd1 l size k).1,zft (zd1 l size k).2,firstK l size k,(k:Int))) (fun k hk=>?_) ?_
 ·have hw:w64 ((k:Int)+1)=((k+1:Nat):Int):=by rw [zai ..]; omega
  have hw2:w64 ((l.length:Int) - 1)=(l.length:Int) - 1:=zai ..
  obtain ⟨h1,h2,h3,h4,h5,h6,h7⟩:=blk_bd hg hl size k (by omega)
  have hc:=hg _ (zcb l (k:Int) (by omega))
  have w1:=zsh hc
  have hz:=encC_zero h5
  have hfn:=firstK_next size k (l:=l)
  show zgo l size (_,_,zft (zd1 l size k).2,firstK l size k,(k:Int))=_
  unfold zgo
  dsimp only
  rw [ifT ..,hw,hw2,zby]
  have hv2:(if (decide (((zft (zd1 l size k).2).length:Int)=0))=true then
    zao (0<=(k:Int)/\(k:Int)<(l.length:Int)) <|
    some ((zad l (k:Int)).Row)
   else
    some (firstK l size k))=some (firstK l size (k+1)):=by
   rw [firstK]
   by_cases c:(zd1 l size k).2=[]
   ·have:=hz.2 c
    rw [ifT ..,xac c,zaa ..]
   ·have:¬ (((zft (zd1 l size k).2).length:Int)=0):=fun q=>c (hz.1 (by omega))
    rw [xab (d_f this),xab c]
  have hx:zft (zd1 l size k).2++wrC (zad l (k:Int))=zft ((zd1 l size k).2++[zad l (k:Int)]):=by rw [encC_app,encC_one]
  have hxl:(zft ((zd1 l size k).2++[zad l (k:Int)])).length<=316310:=by rw [<- hx,xaa]; omega
  have hhd:(hdR ((zd1 l size k).2++[zad l (k:Int)])).length<=40:=by
   have hm:zad ((zd1 l size k).2++[zad l (k:Int)]) 0∈(zd1 l size k).2++[zad l (k:Int)]:=zcb _ 0 (by rw [xaa,xan]; omega)
   rcases xar.1 hm with q | q
   ·exact (zil (h5 _ q)).1
   ·rw [xau] at q
    show (zad ((zd1 l size k).2++[zad l (k:Int)]) 0).Row.length<=40
    rw [q]; exact (zil hc).1
  rw [hv2,zac,zaa ..,cellBytes_eq _ hc,zac,hx,zaa ..,zd1]
  have hcond:((decide (size<=((zft ((zd1 l size k).2++[zad l (k:Int)])).length:Int)))||(decide ((k:Int)=(l.length:Int) - 1)))=decide (size<=((zft ((zd1 l size k).2++[zad l (k:Int)])).length:Int)\/k+1=l.length):=by
   rw [xbu]
   simp only [xbb,xaz]
   omega
  rw [hcond]
  have q1:=zno (hdR ((zd1 l size k).2++[zad l (k:Int)])) (by omega)
  have q2:=zie (n:=(zft ((zd1 l size k).2++[zad l (k:Int)])).length) (by omega)
  by_cases c:size<=((zft ((zd1 l size k).2++[zad l (k:Int)])).length:Int)\/k+1=l.length
  ·rw [xac (d_t c),xac c,framed_eq _ (by omega),zac,zaa (by rw [xaa,zcs]; omega),hfn,written_eq _ (by omega),zac,zaa (by rw [xaa]; omega),rnumber _ (by omega),zac,
    zaa (by rw [xaa,xaa]; omega),zac,xcx,zn9,List.map_singleton,zr7,idxL_snoc,xaf]
   rfl
  ·rw [xab (d_f c),xab c,zac]
 ·obtain ⟨h1,h2,h3,h4,h5,h6,h7⟩:=blk_bd hg hl size l.length (xae _)
  have hN:=zqm l
  have hfl:(filF l).length<=l.length+1:=by unfold filF; rw [zei]; omega
  show zgo l size (_,_,_,_,(l.length:Int))=_
  unfold zgo
  dsimp only
  rw [ifF ..]
  have:zjw l (zjp ((zd1 l size l.length).1.map zft),zs5 (zd1 l size l.length).1)=some (ze2 l size):=by
   unfold zjw
   dsimp only
   rw [framed_eq _ (by omega),zac,zaa (by rw [xaa,zcs]; omega),rfilter_eq l (by omega) (fun c hc=>by have:=(zil (hg c hc)).1; omega),zac,framed_eq _ (by omega),zac,
    zaa (by rw [xaa,xaa,zcs,zcs]; omega)]
   unfold ze2 zcg
   rw [zn9,zgj,zr7,xaf]
  rw [this]; rfl
end
end G
end Go.Proofs.YticbfakiihfgmaaGreat
