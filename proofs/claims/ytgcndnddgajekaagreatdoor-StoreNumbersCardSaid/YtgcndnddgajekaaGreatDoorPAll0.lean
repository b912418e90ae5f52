/- The plain law. -/
import Derived.Test.YtgcndnddgajekaaGreatDoorEmE
import Derived.Test.YtgcndnddgajekaaGreatDoorGf2
import Derived.Test.YtgcndnddgajekaaGreatDoorEmD
namespace Go.Proofs.YtgcndnddgajekaaGreatDoor
open Go Go.Dm
set_option linter.unusedVariables false
set_option linter.unusedSimpArgs false
set_option linter.unusedSectionVars false
namespace G
def rfin (bd:Bool):Option (Nat×B8)->Int×Reader
 | some (n,r)=>((n:Int),⟨r,bd⟩)
 | none=>(0,⟨[],true⟩)
theorem pow128 (i:Nat):128 ^ i=2 ^ (7*i):=by rw [Nat.pow_mul]
theorem num_loop (b:B8)(bd:Bool)(hb:b.length<=1000000000000):∀ (m i n:Nat),b.length - i=m->i<=b.length->i<=5->n<128 ^ i->
  zio (⟨b,bd⟩,(n:Int),b,(b.length:Int),(i:Int))=some (rfin bd (go i n (b.drop i)))
 | 0,i,n,e,hi,h5,hn=>by
  have:i=b.length:=by omega
  subst this;refine zae ?_;simp only [zc7];rw [ifF ..];simp [zey,zd2,go,rfin]
 | m+1,i,n,e,hi,h5,hn=>by
  have hlt:i<b.length:=by omega
  have hw:w64 ((i:Int)+1)=((i+1:Nat):Int):=by rw [zaf ..]; omega
  have hw7:w64 (7*(i:Int))=((7*i:Nat):Int):=by rw [zaf ..]; omega
  rw [zdd b i hlt,go];generalize hx:zad b (i:Int)=x;by_cases c5:4<i
  ·rw [xad (.inl c5)];refine zae ?_;simp only [zc7];rw [ifT ..,zaa ..,zaa ..];have c5':decide (4<(i:Int))=true:=d_t ..;simp only [lt,c5',Bool.true_or,xc1];rfl
  ·have hP:128 ^ i<=128 ^ 4:=xda (by omega) (by omega);have hP4:(128:Nat) ^ 4=268435456:=by decide
   have hy:x.toNat % 128<128:=by omega
   have hyP:x.toNat % 128*128 ^ i<=127*128 ^ 4:=Nat.mul_le_mul (by omega) hP;have epow:(2:Int) ^ (min (((7*i:Nat):Int)).toNat 64)=((128 ^ i:Nat):Int):=by
    rw [xbs,show min (7*i) 64=7*i by omega,pow128]; simp
   have e2:zeh .or .i64 (n:Int) (w64 ((w64 ((x.toNat % 128:Nat):Int))*((128 ^ i:Nat):Int)))=((n+x.toNat % 128*128 ^ i:Nat):Int):=by
    rw [zaf (x:=((x.toNat % 128:Nat):Int)) (by omega) (by omega),<- xc3,zaf ..,bits_or64 (by omega) (by omega)];rw [pow128] at hn ⊢;rw [or_add hn]
   by_cases cb:1000000000<n+x.toNat % 128*128 ^ i
   ·rw [xad (.inr cb)];refine zae ?_;simp only [zc7,hw7,hx,and127,epow,e2];rw [ifT ..,zaa ..,zaa ..];have cb':decide ((1000000000:Int)<((n+x.toNat % 128*128 ^ i:Nat):Int))=true:=d_t ..;simp only [lt,cb',Bool.or_true,xc1];rfl
   ·rw [xab (by omega)];have cb':(decide (4<(i:Int))||decide ((1000000000:Int)<((n+x.toNat % 128*128 ^ i:Nat):Int)))=false:=by rw [xcd]; exact ⟨xbg (by omega),xbg (by omega)⟩
    have e128:((128:UInt8).toNat:Int)=128:=by decide
    have e0:((0:UInt8).toNat:Int)=0:=by decide
    by_cases cx:x.toNat<128
    ·rw [xad cx];by_cases c0:0<i/\x.toNat=0
     ·rw [xad c0];refine zae ?_;simp only [zc7,hw7,hx,and127,epow,e2,e128,e0];rw [ifT ..,zaa ..,zaa ..];simp only [lt,cb',xby,xcw];rw [ifT ..,xad (by simp; omega)];rfl
     ·rw [xab c0];refine zae ?_;simp only [zc7,hw7,hx,and127,epow,e2,e128,e0,hw];rw [ifT ..,zaa ..,zaa ..];simp only [lt,cb',xby,xcw];rw [ifT ..,xab (by simp; omega),zaa ..,zb8];rfl
    ·rw [xab cx];have ih:=num_loop b bd hb m (i+1) (n+x.toNat % 128*128 ^ i) (by omega) (by omega) (by omega) (by
      rw [xdk];have:x.toNat % 128*128 ^ i<=127*128 ^ i:=xa6 _ (by omega);omega)
     refine (zaj (y:=((⟨b,bd⟩:Reader),((n+x.toNat % 128*128 ^ i:Nat):Int),b,(b.length:Int),((i+1:Nat):Int))) ?_).trans ih;simp only [zc7,hw7,hx,and127,epow,e2,e128,e0,hw];rw [ifT ..,zaa ..,zaa ..];simp only [lt,cb',xby,xcw];rw [ifF ..]
theorem num_eq (b:B8)(bd:Bool)(hb:b.length<=1000000000000):zb1 ⟨b,bd⟩=some (rfin bd (rdN b)):=by
 have:=num_loop b bd hb b.length 0 0 (by omega) (by omega) (by omega) (by simp);rw [xce,go_rdN] at this;exact this
theorem rnumber (n:Nat)(hn:n<=9223372036854775807):R_Number (n:Int)=some (num n):=by
 have h1:∀ n:Nat,n<=9223372036854775807->128<=n->w64 (Int.tdiv (n:Int) 128)=((n / 128:Nat):Int)/\zfq (w64 ((Int.tmod (n:Int) 128)+128))=UInt8.ofNat (n % 128+128):=by
  intro n hn h;have e1:Int.tdiv (n:Int) 128=((n / 128:Nat):Int):=znx n 128;have e2:Int.tmod (n:Int) 128+128=((n % 128+128:Nat):Int):=by
   have:Int.tmod (n:Int) 128=((n % 128:Nat):Int):=zkn n 128;omega
  rw [e1,e2,zaf ..,zaf ..,zez];exact ⟨rfl,rfl⟩
 have:=recO_spec (S:=fun rec (x:Int)=>zgu rec x) (fun x=>0<=x/\x<=9223372036854775807) (fun x=>x.toNat) (fun x=>num x.toNat)
  (by
   intro x f hI ih r e;obtain ⟨n,rfl⟩:∃ n:Nat,x=(n:Int):=⟨x.toNat,by omega⟩;simp only [zgu,xbs] at e ih ⊢;by_cases c:n<128
   ·rw [ifT ..,zez] at e;rw [num_lt c]; exact (zjl e).symm
   ·rw [ifF ..,(h1 n (by omega) (by omega)).1,(h1 n (by omega) (by omega)).2] at e;obtain ⟨y,e1,e⟩:=ob_elim e;obtain ⟨_,e⟩:=zjq e;have:=ih _ y (by omega) (by omega) e1;rw [xbs] at this;rw [num_ge c,<- zjl e,this]; rfl)
  (by
   intro x f hI ih;obtain ⟨n,rfl⟩:∃ n:Nat,x=(n:Int):=⟨x.toNat,by omega⟩;simp only [zgu,xbs] at ih ⊢;by_cases c:n<128
   ·rw [ifT ..,zez,num_lt c]
   ·have hl:=num_len 8 (n / 128) (by omega);have e3:=ih ((n / 128:Nat):Int) (by omega) (by omega);rw [xbs] at e3;rw [ifF ..,(h1 n (by omega) (by omega)).1,(h1 n (by omega) (by omega)).2,e3,zac,zaa (by simp; omega),num_ge c]; rfl)
  (x:=(n:Int)) (by omega)
 unfold R_Number;rw [this,xbs]
theorem rnumber1 (n:Nat)(hn:n<=9223372036854775807):zk5 (n:Int)=some (num n):=by
 unfold zk5;by_cases c:n<128
 ·rw [ifT ..,zez,num_lt c]
 ·have e1:Int.tdiv (n:Int) 128=((n / 128:Nat):Int):=znx n 128;have e2:Int.tmod (n:Int) 128+128=((n % 128+128:Nat):Int):=by
   have:Int.tmod (n:Int) 128=((n % 128:Nat):Int):=zkn n 128;omega
  have hl:=num_len 8 (n / 128) (by omega);rw [ifF ..,e1,e2,zaf ..,zaf ..,zez,rnumber _ (by omega),zac,zaa (by simp; omega),num_ge c]; simp
def val:B8->Nat
 | []=>0
 | x::l=>x.toNat % 128+128*val l
theorem val_num (n:Nat):val (num n)=n:=by
 induction n using Nat.strongRecOn with
 | _ n ih=>
  by_cases c:n<128
  ·rw [num_lt c]; simp only [val]; rw [u8_of (by omega)]; omega
  ·rw [num_ge c]; simp only [val]; rw [ih _ (by omega),u8_of (by omega)]; omega
theorem val_lt:∀ l:B8,val l<128 ^ l.length
 | []=>by simp [val]
 | x::l=>by
  have:=val_lt l;simp only [val,xal,xdk]; omega
theorem val_lt5 {l:B8}(h:l.length<=5):val l<34359738368:=by
 have h1:=val_lt l;have h2:128 ^ l.length<=128 ^ 5:=xda (by omega) h;have h3:(128:Nat) ^ 5=34359738368:=by decide
 omega
theorem numAt_L2 (b:B8)(k:Nat)(hk:k<=5)(hkb:k<=b.length):∀ (j:Nat),j<=k->∀ r,zfm b (k:Int) ((val (b.take k):Nat):Int)=some r->
  zon b (k:Int) ((val ((b.take k).drop j):Nat),(j:Int) - 1)=some r
 | 0,hj,r,h=>by
  refine zae ?_;simp only [zkj];rw [ifF ..,xce,h]; rfl
 | j+1,hj,r,h=>by
  have ih:=numAt_L2 b k hk hkb j (by omega) r h;have hlt:j<(b.take k).length:=by simp; omega
  have hv:=val_lt5 (l:=(b.take k).drop (j+1)) (by simp; omega);have hg:zad (b.take k) (j:Int)=zad b (j:Int):=by
   have:=lget_ltake b (k:Int) (j:Int) (by omega);rwa [zdu] at this
  rw [zdd _ _ hlt,hg] at ih;simp only [val] at ih;have e1:((j+1:Nat):Int) - 1=(j:Int):=by omega
  rw [e1];refine (zaj ?_).trans ih;simp only [zkj];have h8:=(zad b (j:Int)).toNat_lt;have e3:Int.tmod (((zad b (j:Int)).toNat:Nat):Int) 128=(((zad b (j:Int)).toNat % 128:Nat):Int):=zkn _ 128;rw [ifT ..,zaa ..,zaf (x:=((zad b (j:Int)).toNat:Int)) (by omega) (by omega),e3,zaf (x:=((val ((b.take k).drop (j+1)):Nat):Int)*128) (by omega) (by omega),zaf ..,zaf ..];have e4:((val ((b.take k).drop (j+1)):Nat):Int)*128+(((zad b (j:Int)).toNat % 128:Nat):Int)=(((zad b (j:Int)).toNat % 128+128*val ((b.take k).drop (j+1)):Nat):Int):=by omega
  simp only [lt,e4]
def rnat (b:B8):Int×Int:=match rdN b with
 | some (n,_)=>((n:Int),((num n).length:Int))
 | none=>(0,0)
def hits (b:B8)(j:Nat):Prop:=val (b.take j)<=1000000000/\num (val (b.take j))=b.take j
theorem numAt_loop (b:B8)(hb:b.length<=1000000000000):∀ (m k:Nat),6 - k=m->1<=k->k<=6->(∀ j,1<=j->j<k->j<=b.length->¬ hits b j)->zof b (k:Int)=some (rnat b)
 | m,k,e,h1,h6,hn=>by
  by_cases c:k<=5/\k<=b.length
  ·have hv:=val_lt5 (l:=b.take k) (by simp; omega);have hlk:(b.take k).length=k:=by simp; omega
   have hw:w64 ((k:Int)+1)=((k+1:Nat):Int):=by rw [zaf ..]; omega
   have step:∀ r,zfm b (k:Int) ((val (b.take k):Nat):Int)=some r->zh6 b (k:Int)=some r:=by
    intro r hr;have:=numAt_L2 b k c.1 c.2 k (by omega) r hr;have e0:(b.take k).drop k=[]:=xcq (by omega);rw [e0] at this;simp only [zh6];rw [xad (by simp; omega),zaf ..];exact this
   by_cases ch:hits b k
   ·refine zae ?_;rw [step (.inr (((val (b.take k):Nat):Int),(k:Int)))]
    ·have hd:rdN b=some (val (b.take k),b.drop k):=by
      have:=rdN_num ch.1 (b.drop k);rwa [ch.2,xbp] at this
     unfold rnat;rw [hd];simp only [ch.2,hlk]
    ·unfold zfm;rw [xad (d_t (by have:=ch.1; omega)),rnumber1 _ (by omega),zac,zaa (fun _=>by omega),zdu];have hl:((val (b.take k):Nat):Int)<=1000000000:=by have:=ch.1; omega
     simp [lt,zju,ch.2,hl]
   ·match m,e with
    | 0,e=>omega
    | m+1,e=>
    refine (zaj (y:=((k+1:Nat):Int)) ?_).trans (numAt_loop b hb m (k+1) (by omega) (by omega) (by omega) (fun j hj1 hj2 hj3=>by
     by_cases hjk:j=k
     ·subst hjk; exact ch
     ·exact hn j hj1 (by omega) hj3))
    refine step _ ?_;unfold zfm;by_cases cv:val (b.take k)<=1000000000
    ·have cn:¬ num (val (b.take k))=b.take k:=fun h=>ch ⟨cv,h⟩;rw [ifT ..,rnumber1 _ (by omega),zac,zaa (fun _=>by omega),zdu];simp [lt,zju,cn,hw]
    ·rw [ifF ..,zac,zaa (fun _=>by omega)];have:decide (((val (b.take k):Nat):Int)<=1000000000)=false:=by simp; omega
     simp [lt,this,hw]
  ·refine zae ?_;simp only [zh6];rw [xab (by simp; omega)];have hd:rdN b=none:=by
    cases hd:rdN b with
    | none=>rfl
    | some p=>
     exfalso;obtain ⟨n,r⟩:=p;obtain ⟨h2,h3⟩:=zeq hd;have hl:=num_len5 h3;have hp:=num_pos n;have hbl:b.length=(num n).length+r.length:=by rw [h2,xaa]
     have ht:b.take (num n).length=num n:=by
      have:(num n++r).take (num n).length=num n:=by simp
      rw [<- h2] at this; exact this
     exact hn (num n).length (by omega) (by omega) (by omega) ⟨by rw [ht,val_num]; exact h3,by rw [ht,val_num]⟩
   unfold rnat;rw [hd]; rfl
theorem zj7 (b:B8)(hb:b.length<=1000000000000):zhz b=some (rnat b):=by
 have:=numAt_loop b hb 5 1 (by omega) (by omega) (by omega) (fun j h1 h2=>by omega);exact this
theorem wrT_len (s:B8)(hs:s.length<=1000000000):(wrT s).length<=s.length+5/\s.length<(wrT s).length:=by
 have h5:=num_len5 hs;have h1:=num_pos s.length;unfold wrT;simp; omega
def tfin:Option (B8×B8)->B8×Reader
 | some (s,r)=>(s,⟨r,false⟩)
 | none=>([],⟨[],true⟩)
theorem text_eq (b:B8)(hb:b.length<=1000000000):zb6 ⟨b,false⟩=some (tfin (rdT b)):=by
 have h0:=num_eq b false (by omega);unfold zb6;cases hd:rdN b with
 | none=>
  have e:rdT b=none:=by simp [rdT,hd]
  have h1:zb1 ⟨b,false⟩=some (0,⟨[],true⟩):=by rw [h0,hd]; rfl
  rw [h1,zac,e]; rfl
 | some p=>
  obtain ⟨n,r⟩:=p;have hn:=(zeq hd).2;have h1:zb1 ⟨b,false⟩=some ((n:Int),⟨r,false⟩):=by rw [h0,hd]; rfl
  rw [h1,zac];dsimp only;rw [xfg];by_cases c:n<=r.length
  ·have e:rdT b=some (r.take n,r.drop n):=by simp [rdT,hd,c]
   rw [ifF ..,zaa ..,zaa ..,zdu,zb8,e]; rfl
  ·have e:rdT b=none:=by simp [rdT,hd,c]
   rw [ifT ..,e]; rfl
theorem rdT_len {b s r:B8}(h:rdT b=some (s,r)):r.length<b.length:=by
 obtain ⟨h1,h2⟩:=rdT_some h;have:=(wrT_len s h2).2;rw [h1,xaa]; omega
def ah (a b:Cell):Prop:=Op.bytesLess a.Row b.Row=true\/(a.Row=b.Row/\(Op.bytesLess a.Col b.Col=true\/(a.Col=b.Col/\b.Time<a.Time)))
theorem zax (a b:Cell):zbo a b=true↔ah a b:=by
 unfold zbo ah;by_cases h1:a.Row=b.Row
 ·rw [xab (n_f h1)];have e1:Op.bytesLess a.Row b.Row=false:=by rw [h1,zj5]
  by_cases h2:a.Col=b.Col
  ·rw [xab (n_f h2)];have e2:Op.bytesLess a.Col b.Col=false:=by rw [h2,zj5]
   simp [h1,h2,zj5]
  ·rw [xad (n_t h2)];simp [h1,h2,zj5]
 ·rw [xad (n_t h1)];simp [h1]
theorem ahead_f {a b:Cell}:zbo a b=false↔¬ ah a b:=by
 rw [<- zax]; simp
theorem ah_irr (a:Cell):¬ ah a a:=by
 unfold ah; simp [zj5]
theorem zko {a b c:Cell}(h1:ah a b)(h2:ah b c):ah a c:=by
 unfold ah at *
 rcases h1 with h1 | ⟨e1,h1⟩
 ·rcases h2 with h2 | ⟨e2,h2⟩
  ·exact .inl (bl_trans h1 h2)
  ·rw [<- e2]; exact .inl h1
 ·rcases h2 with h2 | ⟨e2,h2⟩
  ·rw [e1]; exact .inl h2
  ·refine .inr ⟨e1.trans e2,?_⟩
   rcases h1 with h1 | ⟨f1,h1⟩
   ·rcases h2 with h2 | ⟨f2,h2⟩
    ·exact .inl (bl_trans h1 h2)
    ·rw [<- f2]; exact .inl h1
   ·rcases h2 with h2 | ⟨f2,h2⟩
    ·rw [f1]; exact .inl h2
    ·exact .inr ⟨f1.trans f2,by omega⟩
theorem ah_asymm {a b:Cell}(h1:ah a b):¬ ah b a:=fun h2=>ah_irr a (zko h1 h2)
def key (a b:Cell):Prop:=a.Row=b.Row/\a.Col=b.Col/\a.Time=b.Time
theorem ah_tri (a b:Cell):ah a b\/key a b\/ah b a:=by
 unfold ah key
 rcases bl_tri a.Row b.Row with h | h | h
 ·exact .inl (.inl h)
 ·rcases bl_tri a.Col b.Col with g | g | g
  ·exact .inl (.inr ⟨h,.inl g⟩)
  ·by_cases c1:b.Time<a.Time
   ·exact .inl (.inr ⟨h,.inr ⟨g,c1⟩⟩)
   ·by_cases c2:a.Time<b.Time
    ·exact .inr (.inr (.inr ⟨h.symm,.inr ⟨g.symm,c2⟩⟩))
    ·exact .inr (.inl ⟨h,g,by omega⟩)
  ·exact .inr (.inr (.inr ⟨h.symm,.inl g⟩))
 ·exact .inr (.inr (.inl h))
def cmpS (x y:B8):Int:=if Op.bytesLess x y=true then -1 else if Op.bytesLess y x=true then 1 else 0
theorem cmpS_eq (x y:B8):zd1 x y=cmpS x y:=by
 simp [zd1,zfu,lt,cmpS]
def cmpI (x y:Int):Int:=if x<y then -1 else if y<x then 1 else 0
theorem cmpI_eq (x y:Int):zgh x y=cmpI x y:=by
 simp [zgh,zh9,lt,cmpI]
theorem or_eq (x y z:Int):zmu [x,y,z]=some (if x≠0 then x else if y≠0 then y else z):=by
 have w1:w64 (0+1)=1:=by decide
 have w2:w64 (1+1)=2:=by decide
 have w3:w64 (2+1)=3:=by decide
 have g0:zad [x,y,z] 0=x:=rfl;have g1:zad [x,y,z] 1=y:=rfl;have g2:zad [x,y,z] 2=z:=rfl;have b0:zdv [x,y,z] 0=if x≠0 then some (.inr x) else some (.inl 1):=by
  simp only [zdv];rw [xad (d_t (by simp)),zaa (by simp),g0,w1];by_cases h:x=0 <;> simp [h]
 have b1:zdv [x,y,z] 1=if y≠0 then some (.inr y) else some (.inl 2):=by
  simp only [zdv];rw [xad (d_t (by simp)),zaa (by simp),g1,w2];by_cases h:y=0 <;> simp [h]
 have b2:zdv [x,y,z] 2=if z≠0 then some (.inr z) else some (.inl 3):=by
  simp only [zdv];rw [xad (d_t (by simp)),zaa (by simp),g2,w3];by_cases h:z=0 <;> simp [h]
 have b3:zdv [x,y,z] 3=some (.inr 0):=by
  simp only [zdv];rw [xab (d_f (by simp))]; rfl
 unfold zmu;by_cases h0:x=0
 ·rw [xab (by simp [h0])];refine (zaj (b0.trans (xab (by simp [h0])))).trans ?_;by_cases h1:y=0
  ·rw [xab (by simp [h1])];refine (zaj (b1.trans (xab (by simp [h1])))).trans ?_;by_cases h2:z=0
   ·refine (zaj (b2.trans (xab (by simp [h2])))).trans ?_;rw [h2]; exact zae b3
   ·exact zae (b2.trans (xad h2))
  ·rw [xad h1];exact zae (b1.trans (xad h1))
 ·rw [xad h0];exact zae (b0.trans (xad h0))
noncomputable def ord (a b:Cell):Int:=if zbo a b=true then -1 else if zbo b a=true then 1 else 0
theorem zjc (a b:Cell):zej a b=some (ord a b):=by
 unfold zej;simp only [lt,cmpS_eq,cmpI_eq,or_eq,zac,Option.some.injEq];unfold ord cmpS cmpI
 rcases bl_tri a.Row b.Row with h | h | h
 ·have:zbo a b=true:=(zax _ _).2 (.inl h);simp [h,this]
 ·rcases bl_tri a.Col b.Col with g | g | g
  ·have:zbo a b=true:=(zax _ _).2 (.inr ⟨h,.inl g⟩);simp [h,g,this,zj5]
  ·by_cases c1:b.Time<a.Time
   ·have:zbo a b=true:=(zax _ _).2 (.inr ⟨h,.inr ⟨g,c1⟩⟩);simp [h,g,this,zj5,c1]
   ·by_cases c2:a.Time<b.Time
    ·have h1:zbo b a=true:=(zax _ _).2 (.inr ⟨h.symm,.inr ⟨g.symm,c2⟩⟩);have h2:zbo a b=false:=ahead_f.2 (ah_asymm ((zax _ _).1 h1));simp [h,g,h1,h2,zj5,c1,c2]
    ·have e:a.Time=b.Time:=by omega
     have h1:zbo b a=false:=ahead_f.2 (by unfold ah; simp [h,g,zj5,e]);have h2:zbo a b=false:=ahead_f.2 (by unfold ah; simp [h,g,zj5,e]);simp [h,g,h1,h2,zj5,c1,c2]
  ·have h1:zbo b a=true:=(zax _ _).2 (.inr ⟨h.symm,.inl g⟩);have h2:zbo a b=false:=ahead_f.2 (ah_asymm ((zax _ _).1 h1));simp [h,g,h1,h2,zj5,bl_asymm g]
 ·have h1:zbo b a=true:=(zax _ _).2 (.inl h);have h2:zbo a b=false:=ahead_f.2 (ah_asymm ((zax _ _).1 h1));simp [h,h1,h2,bl_asymm h]
theorem zjy (a b:Cell):ord a b<0↔zbo a b=true:=by
 unfold ord;by_cases h:zbo a b=true
 ·simp [h]
 ·by_cases h2:zbo b a=true <;> simp [h,h2]
theorem zcr (c:Cell):(⟨c.Row,c.Col,c.Time,c.Gone,c.Value⟩:Cell)=c:=rfl
theorem code_eq (c:Cell):cell_code c=zbx c:=rfl
noncomputable def okp (p:Option Cell)(c:Cell):Bool:=match p with
 | some q=>zbo q c
 | none=>true
noncomputable def ck:Option Cell->Cs->Int->Fault
 | _,[],_=>⟨0,0⟩
 | p,c::l,i=>if zbx c≠0 then ⟨zbx c,i⟩ else if okp p c=true then ck (some c) l (i+1) else ⟨10,i⟩
def prv (l:Cs)(k:Nat):Option Cell:=if k=0 then none else some (zad l ((k:Int) - 1))
theorem prv_succ (l:Cs)(k:Nat):prv l (k+1)=some (zad l (k:Int)):=by
 unfold prv;rw [xab (by omega)];have:((k+1:Nat):Int) - 1=(k:Int):=by omega
 rw [this]
theorem check_loop (l:Cs)(hl:l.length<=1000)(z:Fault):∀ (m k:Nat),l.length - k=m->k<=l.length->znn l (z,(k:Int))=some (ck (prv l k) (l.drop k) k)
 | 0,k,e,hk=>by
  have:k=l.length:=by omega
  subst this;refine zae ?_;simp only [zfe];rw [ifF ..,xck]; rfl
 | m+1,k,e,hk=>by
  have hlt:k<l.length:=by omega
  have hw:w64 ((k:Int)+1)=((k+1:Nat):Int):=by rw [zaf ..]; omega
  have hw2:w64 ((k:Int) - 1)=(k:Int) - 1:=zaf ..;have ih:=check_loop l hl z m (k+1) (by omega) (by omega);rw [zdd l k hlt,ck];by_cases c1:zbx (zad l (k:Int))=0
  ·rw [xab (by simp [c1])];by_cases hk0:k=0
   ·subst hk0;have e1:okp (prv l 0) (zad l ((0:Nat):Int))=true:=rfl;rw [xad e1];refine (zaj (y:=(z,((0+1:Nat):Int))) ?_).trans (ih.trans (by rw [prv_succ]; rfl));simp only [zfe];rw [ifT ..,zaa ..];rw [zcr,code_eq];dsimp only [lt];rw [xab (n_f c1),zaa (fun h=>by simp at h),xab (by simp),zac,xab (by simp),hw]
   ·have ep:prv l k=some (zad l ((k:Int) - 1)):=by unfold prv; rw [xab hk0]
    have hpos:(0:Int)<(k:Int):=by omega
    have eo:okp (some (zad l ((k:Int) - 1))) (zad l (k:Int))=zbo (zad l ((k:Int) - 1)) (zad l (k:Int)):=rfl;rw [ep,eo];by_cases c2:zbo (zad l ((k:Int) - 1)) (zad l (k:Int))=true
    ·rw [xad c2];have e1:(k:Int)+1=((k+1:Nat):Int):=by omega
     refine (zaj (y:=(z,((k+1:Nat):Int))) ?_).trans (ih.trans (by rw [prv_succ,e1]));simp only [zfe];rw [ifT ..,zaa ..];have h0:=(zjy _ _).2 c2;rw [zcr,code_eq];dsimp only [lt];rw [xab (n_f c1),hw2,zaa (fun h=>by omega),xad (d_t hpos),zcr,zjc,zac,xab (an_f (by omega)),hw]
    ·rw [xab c2];have h0:¬ ord (zad l ((k:Int) - 1)) (zad l (k:Int))<0:=fun h=>c2 ((zjy _ _).1 h);refine zae ?_;simp only [zfe];rw [ifT ..,zaa ..];rw [zcr,code_eq];dsimp only [lt];rw [xab (n_f c1),hw2,zaa (fun h=>by omega),xad (d_t hpos),zcr,zjc,zac,xad (an_t (by omega))];rfl
  ·rw [xad c1];refine zae ?_;simp only [zfe];rw [ifT ..,zaa ..];rw [zcr,code_eq];dsimp only [lt];rw [xad (n_t c1)]; rfl
theorem rcheck_loop (l:Cs)(hl:l.length<=1000)(z:Fault):∀ (m k:Nat),l.length - k=m->k<=l.length->zle l (z,(k:Int))=some (ck (prv l k) (l.drop k) k)
 | 0,k,e,hk=>by
  have:k=l.length:=by omega
  subst this;refine zae ?_;simp only [zeg];rw [ifF ..,xck]; rfl
 | m+1,k,e,hk=>by
  have hlt:k<l.length:=by omega
  have hw:w64 ((k:Int)+1)=((k+1:Nat):Int):=by rw [zaf ..]; omega
  have hw2:w64 ((k:Int) - 1)=(k:Int) - 1:=zaf ..;have ih:=rcheck_loop l hl z m (k+1) (by omega) (by omega);rw [zdd l k hlt,ck];by_cases c1:zbx (zad l (k:Int))=0
  ·rw [xab (by simp [c1])];by_cases hk0:k=0
   ·subst hk0;have e1:okp (prv l 0) (zad l ((0:Nat):Int))=true:=rfl;rw [xad e1];refine (zaj (y:=(z,((0+1:Nat):Int))) ?_).trans (ih.trans (by rw [prv_succ]; rfl));simp only [zeg];rw [ifT ..,zaa ..];rw [zcr];dsimp only [lt];rw [xab (n_f c1),zaa (fun h=>by simp at h),zaa (fun h=>by simp at h),xab (by simp),hw]
   ·have ep:prv l k=some (zad l ((k:Int) - 1)):=by unfold prv; rw [xab hk0]
    have hpos:(0:Int)<(k:Int):=by omega
    have eo:okp (some (zad l ((k:Int) - 1))) (zad l (k:Int))=zbo (zad l ((k:Int) - 1)) (zad l (k:Int)):=rfl;rw [ep,eo];have e1:(k:Int)+1=((k+1:Nat):Int):=by omega
    have hd:decide ((0:Int)<(k:Int))=true:=d_t hpos;by_cases c2:zbo (zad l ((k:Int) - 1)) (zad l (k:Int))=true
    ·rw [xad c2];refine (zaj (y:=(z,((k+1:Nat):Int))) ?_).trans (ih.trans (by rw [prv_succ,e1]));simp only [zeg];rw [ifT ..,zaa ..];rw [zcr];dsimp only [lt];rw [xab (n_f c1),hw2,zaa (fun h=>by omega),zaa (fun h=>by omega),zcr,c2,xab (by simp),hw]
    ·rw [xab c2];refine zae ?_;simp only [zeg];rw [ifT ..,zaa ..];have c2':zbo (zad l ((k:Int) - 1)) (zad l (k:Int))=false:=by simpa using c2
     rw [zcr];dsimp only [lt];rw [xab (n_f c1),hw2,zaa (fun h=>by omega),zaa (fun h=>by omega),zcr,c2',hd,xad (by rfl)];rfl
  ·rw [xad c1];refine zae ?_;simp only [zeg];rw [ifT ..,zaa ..];rw [zcr];dsimp only [lt];rw [xad (n_t c1)]; rfl
noncomputable def zmb (l:Cs):Fault:=if 1000<l.length then ⟨2,0⟩ else ck none l 0
theorem check_eq (l:Cs):zi6 l=some (zmb l):=by
 unfold zi6 zmb;by_cases c:1000<l.length
 ·rw [ifT ..,xad c]; rfl
 ·rw [ifF ..,xab c];exact check_loop l (by omega) ⟨0,0⟩ l.length 0 (by omega) (by omega)
theorem rcheck_eq (l:Cs):zga l=some (zmb l):=by
 unfold zga zmb;by_cases c:1000<l.length
 ·rw [ifT ..,xad c]; rfl
 ·rw [ifF ..,xab c];exact rcheck_loop l (by omega) ⟨0,0⟩ l.length 0 (by omega) (by omega)
theorem ck_good:∀ (l:Cs) (p:Option Cell) (i:Int),(ck p l i).Code=0->ck p l i=⟨0,0⟩/\(∀ c∈l,zbx c=0)/\l.Pairwise ah/\∀ q,p=some q->∀ c∈l,ah q c
 | [],p,i,h=>⟨rfl,by simp,.nil,by simp⟩
 | c::l,p,i,h=>by
  rw [ck] at h ⊢;by_cases c1:zbx c=0
  ·rw [xab (by simp [c1])] at h ⊢;by_cases c2:okp p c=true
   ·rw [xad c2] at h ⊢;obtain ⟨h1,h2,h3,h4⟩:=ck_good l (some c) (i+1) h;refine ⟨h1,?_,xbu.2 ⟨h4 c rfl,h3⟩,?_⟩
    ·intro x hx
     rcases xaq.1 hx with rfl | hx
     ·exact c1
     ·exact h2 x hx
    ·rintro q rfl x hx;have hq:ah q c:=(zax _ _).1 c2
     rcases xaq.1 hx with rfl | hx
     ·exact hq
     ·exact zko hq (h4 c rfl x hx)
   ·rw [xab c2] at h; cases h
  ·rw [xad c1] at h; exact absurd h c1
structure Good (l:Cs):Prop where
 f:zmb l=⟨0,0⟩
 len:l.length<=1000
 code:∀ c∈l,zbx c=0
 srt:l.Pairwise ah
theorem cellF_good {l:Cs}(h:(zmb l).Code=0):Good l:=by
 unfold zmb at h;by_cases c:1000<l.length
 ·rw [xad c] at h; cases h
 ·rw [xab c] at h;obtain ⟨h1,h2,h3,_⟩:=ck_good l none 0 h;exact ⟨by unfold zmb; rw [xab c,h1],by omega,h2,h3⟩
def cell0:Cell:=⟨[],[],0,false,[]⟩
theorem code_len {c:Cell}(h:zbx c=0):c.Row.length<=40/\c.Col.length<=40/\c.Value.length<=200/\0<=c.Time/\c.Time<=1000000000:=by
 unfold zbx at h;split at h
 ·cases h
 ·rename_i h1;split at h
  ·cases h
  ·rename_i h2;simp at h1 h2;omega
def wrC (c:Cell):B8:=wrT c.Row++(wrT c.Col++(num c.Time.toNat++((if c.Gone=true then [1] else [0])++wrT c.Value)))
theorem wrC_len {c:Cell}(h:zbx c=0):(wrC c).length<=310/\0<(wrC c).length:=by
 obtain ⟨h1,h2,h3,h4,h5⟩:=code_len h;have a1:=wrT_len c.Row (by omega);have a2:=wrT_len c.Col (by omega);have a3:=wrT_len c.Value (by omega);have a4:=num_len5 (n:=c.Time.toNat) (by omega);have a5:(if c.Gone=true then ([1]:B8) else [0]).length=1:=by split <;> rfl
 unfold wrC;simp only [xaa,a5]; omega
def encC (l:Cs):B8:=wrAll wrC l
noncomputable def rdC (b:B8):Option (Cell×B8):=
 match rdT b with
 | none=>none
 | some (row,b1)=>match rdT b1 with
  | none=>none
  | some (col,b2)=>match rdN b2 with
   | none=>none
   | some (t,b3)=>match rdN b3 with
    | none=>none
    | some (k,b4)=>match rdT b4 with
     | none=>none
     | some (v,b5)=>if k<2/\zbx ⟨row,col,t,decide ((k:Int)=1),v⟩=0 then some (⟨row,col,t,decide ((k:Int)=1),v⟩,b5) else none
theorem text_bad:zb6 ⟨[],true⟩=some ([],⟨[],true⟩):=by
 have h1:zb1 ⟨[],true⟩=some (0,⟨[],true⟩):=by rw [num_eq [] true (by simp)]; rfl
 unfold zb6;rw [h1,zac,xad (by rfl)]
theorem num_bad:zb1 ⟨[],true⟩=some (0,⟨[],true⟩):=by rw [num_eq [] true (by simp)]; rfl
theorem text_some {b s r:B8}(hb:b.length<=1000000)(h:rdT b=some (s,r)):zb6 ⟨b,false⟩=some (s,⟨r,false⟩)/\r.length<=1000000:=by
 have:=rdT_len h;exact ⟨by rw [text_eq b (by omega),h]; rfl,by omega⟩
theorem text_none {b:B8}(hb:b.length<=1000000)(h:rdT b=none):zb6 ⟨b,false⟩=some ([],⟨[],true⟩):=by
 rw [text_eq b (by omega),h]; rfl
theorem num_some {b r:B8}{n:Nat}(hb:b.length<=1000000)(h:rdN b=some (n,r)):zb1 ⟨b,false⟩=some ((n:Int),⟨r,false⟩)/\r.length<=1000000:=by
 have:=(zeq h).1;have h2:b.length=(num n).length+r.length:=by rw [this,xaa]
 exact ⟨by rw [num_eq b false (by omega),h]; rfl,by omega⟩
theorem num_none {b:B8}(hb:b.length<=1000000)(h:rdN b=none):zb1 ⟨b,false⟩=some (0,⟨[],true⟩):=by
 rw [num_eq b false (by omega),h]; rfl
theorem from_eq (b:B8)(hb:b.length<=1000000):(∃ c r,rdC b=some (c,r)/\zmp ⟨b,false⟩=some (c,true,⟨r,false⟩))\/(rdC b=none/\∃ x,zmp ⟨b,false⟩=some x/\x.2.1=false):=by
 unfold rdC zmp;cases e1:rdT b with
 | none=>
  refine .inr ⟨rfl,?_⟩;simp only [text_none hb e1,zac,text_bad,num_bad,lt,zdf];exact ⟨_,rfl,by simp⟩
 | some p1=>
 obtain ⟨row,b1⟩:=p1;obtain ⟨f1,hb1⟩:=text_some hb e1;simp only [f1,zac];cases e2:rdT b1 with
 | none=>
  refine .inr ⟨rfl,?_⟩;simp only [text_none hb1 e2,zac,text_bad,num_bad,lt,zdf];exact ⟨_,rfl,by simp⟩
 | some p2=>
 obtain ⟨col,b2⟩:=p2;obtain ⟨f2,hb2⟩:=text_some hb1 e2;simp only [f2,zac];cases e3:rdN b2 with
 | none=>
  refine .inr ⟨rfl,?_⟩;simp only [num_none hb2 e3,zac,text_bad,num_bad,lt,zdf];exact ⟨_,rfl,by simp⟩
 | some p3=>
 obtain ⟨t,b3⟩:=p3;obtain ⟨f3,hb3⟩:=num_some hb2 e3;simp only [f3,zac];cases e4:rdN b3 with
 | none=>
  refine .inr ⟨rfl,?_⟩;simp only [num_none hb3 e4,zac,text_bad,num_bad,lt,zdf];exact ⟨_,rfl,by simp⟩
 | some p4=>
 obtain ⟨k,b4⟩:=p4;obtain ⟨f4,hb4⟩:=num_some hb3 e4;simp only [f4,zac];cases e5:rdT b4 with
 | none=>
  refine .inr ⟨rfl,?_⟩;simp only [text_none hb4 e5,zac,lt,zdf];exact ⟨_,rfl,by simp⟩
 | some p5=>
 obtain ⟨v,b5⟩:=p5;obtain ⟨f5,hb5⟩:=text_some hb4 e5;simp only [f5,zac,lt,zdf,code_eq];by_cases hc:k<2/\zbx ⟨row,col,t,decide ((k:Int)=1),v⟩=0
 ·refine .inl ⟨⟨row,col,t,decide ((k:Int)=1),v⟩,b5,by rw [xad hc],?_⟩;have h2:(k:Int)<2:=by omega
  rw [xb2 h2];refine congrArg some (Prod.ext rfl (Prod.ext ?_ rfl));exact xa2.2 ⟨rfl,@xb2 _ _ hc.2⟩
 ·refine .inr ⟨by rw [xab hc],_,rfl,?_⟩;by_cases h2:k<2
  ·have h3:¬ zbx ⟨row,col,t,decide ((k:Int)=1),v⟩=0:=fun h=>hc ⟨h2,h⟩;exact Bool.and_eq_false_iff.2 (.inr (@xbg _ _ h3))
  ·have h3:¬ (k:Int)<2:=by omega
   simp only [xbg h3,Bool.false_and]
theorem rdC_some {b r:B8}{c:Cell}(h:rdC b=some (c,r)):zbx c=0/\b=wrC c++r:=by
 unfold rdC at h;split at h
 ·cases h
 ·rename_i row b1 e1;split at h
  ·cases h
  ·rename_i col b2 e2;split at h
   ·cases h
   ·rename_i t b3 e3;split at h
    ·cases h
    ·rename_i k b4 e4;split at h
     ·cases h
     ·rename_i v b5 e5;split at h
      ·rename_i hc;simp only [Option.some.injEq,Prod.mk.injEq] at h;obtain ⟨rfl,rfl⟩:=h;refine ⟨hc.2,?_⟩;have g1:=(rdT_some e1).1;have g2:=(rdT_some e2).1;have g3:=(zeq e3).1;have g4:=(zeq e4).1;have g5:=(rdT_some e5).1;have hk:num k=if decide ((k:Int)=1)=true then [1] else [0]:=by
        have h01:k=0\/k=1:=by omega
        rcases h01 with rfl | rfl
        ·rw [num_lt (by omega)]; rfl
        ·rw [num_lt (by omega)]; rfl
       unfold wrC;rw [g1,g2,g3,g4,g5,hk];simp
      ·cases h
noncomputable def rcS:Cs⊕Nat->Cs×Fault
 | .inl l=>if (zmb l).Code=0 then (l,⟨0,0⟩) else ([],zmb l)
 | .inr n=>([],⟨5,n⟩)
noncomputable def zka (b:B8):Cs×Fault:=if 60000<b.length then ([],⟨8,0⟩) else rcS (rdAll rdC b.length b [])
theorem read_J1 (z:Fault)(l:Cs):zjg (z,l)=some (rcS (.inl l)):=by
 simp only [zjg,rcS,check_eq,zac];by_cases c:(zmb l).Code=0
 ·rw [xab (n_f c),xad c]
 ·rw [xad (n_t c),xab c]
theorem rdC_len {b r:B8}{c:Cell}(h:rdC b=some (c,r)):b.length=(wrC c).length+r.length/\0<(wrC c).length:=by
 obtain ⟨h1,h2⟩:=rdC_some h;exact ⟨by rw [h2,xaa],(wrC_len h1).2⟩
theorem read_loop (z:Fault):∀ (k:Nat) (b:B8) (acc:Cs),b.length<=k->acc.length+b.length<=1000000->
  cell_Read_L1 (z,acc,⟨b,false⟩)=some (rcS (rdAll rdC k b acc))
 | k,[],acc,hk,ha=>by
  rw [rdAll_nil];refine zae ?_;simp [zjf,zek,lt,read_J1,zey]
 | 0,x::b,acc,hk,ha=>by simp at hk
 | k+1,x::b,acc,hk,ha=>by
  rw [rdAll,xab (by simp)];have hm:zek ⟨x::b,false⟩=true:=by simp [zek]
  have hb:(x::b).length<=1000000:=by omega
  generalize hbb:x::b=bb at *
  rcases from_eq bb hb with ⟨c,r,h1,h2⟩ | ⟨h1,y,h2,h3⟩
  ·obtain ⟨h3,h4⟩:=rdC_len h1;rw [h1];refine (zaj (y:=(z,acc++[c],⟨r,false⟩)) ?_).trans (read_loop z k r (acc++[c]) (by omega) (by simp; omega));simp only [zjf,hm,lt,xc1];rw [h2,zac];dsimp only;rw [xab (by simp),zaa (by simp; omega)]
  ·rw [h1];refine zae ?_;simp only [zjf,hm,lt,xc1];rw [h2,zac,xad (by rw [h3]; rfl)];rfl
theorem read_eq (b:B8):zmo b=some (zka b):=by
 unfold zmo zka;by_cases c:60000<b.length
 ·rw [ifT ..,xad c]; rfl
 ·rw [ifF ..,xab c];exact read_loop _ b.length b [] (xaf _) (by simp; omega)
theorem cellAt_text (b:B8)(hb:b.length<=1000000)(z:Cell)(ps:B9)(ns:List Int)(p i:Nat)(hp:p<=b.length)(hps:ps.length<=10)(hi:i=0\/i=1\/i=4) :
  zhh b (z,ps,ns,(p:Int),(i:Int))=match rdT (b.drop p) with
   | none=>some (.inr (cell0,0))
   | some (s,r)=>some (.inl (z,ps++[s],ns,((b.length - r.length:Nat):Int),((i+1:Nat):Int))):=by
 have hw:w64 ((i:Int)+1)=((i+1:Nat):Int):=by rw [zaf ..]; omega
 have hdl:(b.drop p).length=b.length - p:=xa8;simp only [zhh,ziy];rw [ifT ..,zaa ..,zb8,zj7 _ (by omega),zac];cases hd:rdN (b.drop p) with
 | none=>
  have e:rdT (b.drop p)=none:=by simp [rdT,hd]
  have e2:rnat (b.drop p)=(0,0):=by simp [rnat,hd]
  rw [e2,e,xad (by simp)]; rfl
 | some q=>
  obtain ⟨n,r⟩:=q;have e2:rnat (b.drop p)=((n:Int),((num n).length:Int)):=by simp [rnat,hd]
  obtain ⟨h1,hn⟩:=zeq hd;have h2:=num_pos n;have h3:b.length - p=(num n).length+r.length:=by rw [<- hdl,h1,xaa]
  have hw1:w64 ((p:Int)+((num n).length:Int))=((p+(num n).length:Nat):Int):=by rw [zaf ..]; omega
  have hw2:w64 ((b.length:Int) - ((p+(num n).length:Nat):Int))=(r.length:Int):=by rw [zaf ..]; omega
  rw [e2];dsimp only;rw [ifF ..,xab (or_f (by omega)),hw1,hw2];by_cases c:n<=r.length
  ·have e:rdT (b.drop p)=some (r.take n,r.drop n):=by simp [rdT,hd,c]
   have hw3:w64 (((p+(num n).length:Nat):Int)+(n:Int))=((p+(num n).length+n:Nat):Int):=by rw [zaf ..]; omega
   have h4:(b.take (p+(num n).length+n)).drop (p+(num n).length)=r.take n:=by
    have hb':b.drop (p+(num n).length)=r:=by
     rw [<- xcm,h1]; simp
    rw [List.drop_take,hb']; congr 1; omega
   have h5:b.length - (r.drop n).length=p+(num n).length+n:=by simp; omega
   rw [e];dsimp only;rw [ifF ..,hw3,zaa ..,zdu,zb8,h4,zaa (by simp; omega),hw,h5];rfl
  ·have e:rdT (b.drop p)=none:=by simp [rdT,hd,c]
   rw [e,ifT ..]; rfl
theorem cellAt_num (b:B8)(hb:b.length<=1000000)(z:Cell)(ps:B9)(ns:List Int)(p i:Nat)(hp:p<=b.length)(hns:ns.length<=10)(hi:i=2\/i=3) :
  zhh b (z,ps,ns,(p:Int),(i:Int))=match rdN (b.drop p) with
   | none=>some (.inr (cell0,0))
   | some (n,r)=>some (.inl (z,ps,ns++[(n:Int)],((b.length - r.length:Nat):Int),((i+1:Nat):Int))):=by
 have hw:w64 ((i:Int)+1)=((i+1:Nat):Int):=by rw [zaf ..]; omega
 have hdl:(b.drop p).length=b.length - p:=xa8;simp only [zhh,ziy];rw [ifT ..,zaa ..,zb8,zj7 _ (by omega),zac];cases hd:rdN (b.drop p) with
 | none=>
  have e2:rnat (b.drop p)=(0,0):=by simp [rnat,hd]
  rw [e2,xad (by simp)]; rfl
 | some q=>
  obtain ⟨n,r⟩:=q;have e2:rnat (b.drop p)=((n:Int),((num n).length:Int)):=by simp [rnat,hd]
  obtain ⟨h1,hn⟩:=zeq hd;have h2:=num_pos n;have h3:b.length - p=(num n).length+r.length:=by rw [<- hdl,h1,xaa]
  have hw1:w64 ((p:Int)+((num n).length:Int))=((p+(num n).length:Nat):Int):=by rw [zaf ..]; omega
  have h5:b.length - r.length=p+(num n).length:=by omega
  rw [e2];dsimp only;rw [ifF ..,xad (or_t (by omega)),hw1,hw,zaa (by simp; omega),h5]
theorem drop_rest {b r:B8}{p:Nat}{x:B8}(hp:p<=b.length)(h:b.drop p=x++r):b.drop (b.length - r.length)=r/\b.length - r.length<=b.length:=by
 have h1:b.length - p=x.length+r.length:=by rw [<- xa8,h,xaa]
 refine ⟨?_,by omega⟩;have:b.length - r.length=p+x.length:=by omega
 rw [this,<- xcm,h]; simp
noncomputable def catS (b:B8):Cell×Int:=match rdC b with
 | some (c,r)=>(c,((b.length - r.length:Nat):Int))
 | none=>(cell0,0)
theorem cellAt_J1 (z:Cell)(x y v:B8)(t k:Nat)(p:Int):zlf (z,[x,y,v],[(t:Int),(k:Int)],p)=some (if k<2/\zbx ⟨x,y,t,decide ((k:Int)=1),v⟩=0 then (⟨x,y,t,decide ((k:Int)=1),v⟩,p) else (cell0,0)):=by
 unfold zlf;have g0:zad [x,y,v] 0=x:=rfl;have g1:zad [x,y,v] 1=y:=rfl;have g2:zad [x,y,v] 2=v:=rfl;have n0:zad [(t:Int),(k:Int)] 0=(t:Int):=rfl;have n1:zad [(t:Int),(k:Int)] 1=(k:Int):=rfl;dsimp only;rw [zaa (by simp),zaa (by simp),zaa (by simp),zaa (by simp),zaa (by simp),zaa (by simp),zaa (by simp),zaa (by simp),zaa (by simp),zaa (by simp),zaa (by simp),zaa (by simp),g0,g1,g2,n0,n1];dsimp only [lt];by_cases hc:k<2/\zbx ⟨x,y,t,decide ((k:Int)=1),v⟩=0
 ·have h1:¬ (1:Int)<(k:Int):=by omega
  rw [xad hc,xab];rw [xbg h1,xb2 hc.2]; simp
 ·rw [xab hc,xad]
  ·rfl
  ·by_cases h1:(1:Int)<(k:Int)
   ·rw [xb2 h1]; rfl
   ·have h3:¬ zbx ⟨x,y,t,decide ((k:Int)=1),v⟩=0:=fun h=>hc ⟨by omega,h⟩;rw [xbg h3]; simp
theorem cellAt_eq (b:B8)(hb:b.length<=1000000):R_CellAt b=some (catS b):=by
 unfold R_CellAt catS rdC;have s0:=cellAt_text b hb cell0 [] [] 0 0 (by omega) (by simp) (by omega);rw [xce] at s0;cases e1:rdT b with
 | none=>rw [e1] at s0; exact zae s0
 | some p1=>
 obtain ⟨row,b1⟩:=p1;rw [e1] at s0;refine (zaj s0).trans ?_;obtain ⟨d1,l1⟩:=drop_rest (b:=b) (p:=0) (by omega) (by rw [xce]; exact (rdT_some e1).1);have s1:=cellAt_text b hb cell0 ([]++[row]) [] (b.length - b1.length) 1 l1 (by simp) (by omega);rw [d1] at s1;dsimp only;cases e2:rdT b1 with
 | none=>rw [e2] at s1; exact zae s1
 | some p2=>
 obtain ⟨col,b2⟩:=p2;rw [e2] at s1;refine (zaj s1).trans ?_;obtain ⟨d2,l2⟩:=drop_rest l1 (by rw [d1]; exact (rdT_some e2).1);have s2:=cellAt_num b hb cell0 ([]++[row]++[col]) [] (b.length - b2.length) 2 l2 (by simp) (by omega);rw [d2] at s2;dsimp only;cases e3:rdN b2 with
 | none=>rw [e3] at s2; exact zae s2
 | some p3=>
 obtain ⟨t,b3⟩:=p3;rw [e3] at s2;refine (zaj s2).trans ?_;obtain ⟨d3,l3⟩:=drop_rest l2 (by rw [d2]; exact (zeq e3).1);have s3:=cellAt_num b hb cell0 ([]++[row]++[col]) ([]++[(t:Int)]) (b.length - b3.length) 3 l3 (by simp) (by omega);rw [d3] at s3;dsimp only;cases e4:rdN b3 with
 | none=>rw [e4] at s3; exact zae s3
 | some p4=>
 obtain ⟨k,b4⟩:=p4;rw [e4] at s3;refine (zaj s3).trans ?_;obtain ⟨d4,l4⟩:=drop_rest l3 (by rw [d3]; exact (zeq e4).1);have s4:=cellAt_text b hb cell0 ([]++[row]++[col]) ([]++[(t:Int)]++[(k:Int)]) (b.length - b4.length) 4 l4 (by simp) (by omega);rw [d4] at s4;dsimp only;cases e5:rdT b4 with
 | none=>rw [e5] at s4; exact zae s4
 | some p5=>
 obtain ⟨v,b5⟩:=p5;rw [e5] at s4;refine (zaj s4).trans ?_;refine zae ?_;simp only [zhh];have hJ:=cellAt_J1 cell0 row col v t k ((b.length - b5.length:Nat):Int);simp only [xbt,xbn];rw [ifF ..,hJ];by_cases hc:k<2/\zbx ⟨row,col,t,decide ((k:Int)=1),v⟩=0
 ·rw [xad hc,xad hc]; rfl
 ·rw [xab hc,xab hc]; rfl
theorem cellsOf_J1 (z:Fault)(l:Cs):zji (z,l)=some (rcS (.inl l)):=by
 simp only [zji,rcS,rcheck_eq,zac];by_cases c:(zmb l).Code=0
 ·rw [xab (n_f c),xad c]
 ·rw [xad (n_t c),xab c]
theorem cellsOf_loop (z:Fault):∀ (k:Nat) (b:B8) (acc:Cs),b.length<=k->acc.length+b.length<=1000000->
  R_CellsOf_L1 (b,z,acc)=some (rcS (rdAll rdC k b acc))
 | k,[],acc,hk,ha=>by
  rw [rdAll_nil];refine zae ?_;simp [zjn,cellsOf_J1,zey]
 | 0,x::b,acc,hk,ha=>by simp at hk
 | k+1,x::b,acc,hk,ha=>by
  rw [rdAll,xab (by simp)];have hpos:0<(x::b).length:=by simp
  have hb:(x::b).length<=1000000:=by omega
  generalize hbb:x::b=bb at *
  cases hd:rdC bb with
  | none=>
   have e2:catS bb=(cell0,0):=by simp [catS,hd]
   refine zae ?_;simp only [zjn];rw [ifT ..,cellAt_eq bb hb,zac,e2,xad (by simp)];rfl
  | some p=>
   obtain ⟨c,r⟩:=p;have e2:catS bb=(c,((bb.length - r.length:Nat):Int)):=by simp [catS,hd]
   obtain ⟨h3,h4⟩:=rdC_len hd;obtain ⟨h5,h6⟩:=rdC_some hd;have hdr:bb.drop (bb.length - r.length)=r:=(drop_rest (p:=0) (by omega) (by rw [xce]; exact h6)).1;refine (zaj (y:=(r,z,acc++[c])) ?_).trans (cellsOf_loop z k r (acc++[c]) (by omega) (by simp; omega));simp only [zjn];rw [ifT ..,cellAt_eq bb hb,zac,e2];dsimp only;rw [ifF ..,zaa (by simp; omega),zaa ..,zb8,hdr]
theorem zcw (b:B8):zni b=some (zka b):=by
 unfold zni zka;by_cases c:60000<b.length
 ·rw [ifT ..,xad c]; rfl
 ·rw [ifF ..,xab c];exact cellsOf_loop _ b.length b [] (xaf _) (by simp; omega)
theorem readS_len (b:B8):(zka b).1.length<=60000:=by
 unfold zka;split
 ·simp
 ·have key:∀ (k:Nat) (b:B8) (acc l:Cs),rdAll rdC k b acc = .inl l->l.length<=acc.length+k:=by
   intro k
   induction k with
   | zero=>intro b acc l h; simp only [rdAll,Sum.inl.injEq] at h; subst h; omega
   | succ k ih=>
    intro b acc l h;rw [rdAll] at h;split at h
    ·simp only [Sum.inl.injEq] at h; subst h; omega
    ·split at h
     ·have:=ih _ _ _ h; simp at this; omega
     ·cases h
  cases hr:rdAll rdC b.length b [] with
  | inr n=>simp [rcS]
  | inl l=>
   have:=key _ _ _ _ hr;simp only [rcS];split
   ·have h3:l.length<=b.length:=by simpa using this
    show l.length<=60000;omega
   ·simp
theorem zkf (a:Cell):key a a:=⟨rfl,rfl,rfl⟩
theorem zep {a b:Cell}(h:key a b):key b a:=⟨h.1.symm,h.2.1.symm,h.2.2.symm⟩
theorem key_trans {a b c:Cell}(h:key a b)(g:key b c):key a c:=⟨h.1.trans g.1,h.2.1.trans g.2.1,h.2.2.trans g.2.2⟩
theorem zlq {a b:Cell}(h:ah a b):¬ key a b:=by
 rintro ⟨e1,e2,e3⟩;unfold ah at h;rw [e1,e2,e3] at h;simp [zj5] at h
theorem ah_left {a a' b:Cell}(k:key a a')(h:ah a b):ah a' b:=by
 obtain ⟨e1,e2,e3⟩:=k;unfold ah at *
 rw [<- e1,<- e2,<- e3]; exact h
theorem ah_right {a b b':Cell}(k:key b b')(h:ah a b):ah a b':=by
 obtain ⟨e1,e2,e3⟩:=k;unfold ah at *
 rw [<- e1,<- e2,<- e3]; exact h
def le (a b:Cell):Prop:=¬ ah b a
theorem le_refl (a:Cell):le a a:=ah_irr a
theorem le_of_ah {a b:Cell}(h:ah a b):le a b:=ah_asymm h
theorem le_or {a b:Cell}(h:le a b):ah a b\/key a b:=by
 rcases ah_tri a b with q | q | q
 ·exact .inl q
 ·exact .inr q
 ·exact absurd q h
theorem ah_of {a b c:Cell}(h:ah a b)(g:le b c):ah a c:=by
 rcases le_or g with q | q
 ·exact zko h q
 ·exact ah_right q h
theorem ah_of' {a b c:Cell}(h:le a b)(g:ah b c):ah a c:=by
 rcases le_or h with q | q
 ·exact zko q g
 ·exact ah_left (zep q) g
theorem le_trans {a b c:Cell}(h:le a b)(g:le b c):le a c:=fun q=>h (ah_of' g q)
def Srt (l:Cs):Prop:=l.Pairwise le
instance (a b:Cell):Decidable (key a b):=inferInstanceAs (Decidable (_/\_))
def fk (k:Cell)(l:Cs):Cs:=l.filter fun x=>decide (key k x)
theorem fk_app (k:Cell)(a b:Cs):fk k (a++b)=fk k a++fk k b:=by unfold fk; rw [List.filter_append]
theorem zjx (k x:Cell)(l:Cs):fk k (x::l)=if key k x then x::fk k l else fk k l:=by
 unfold fk; rw [List.filter_cons]; by_cases c:key k x <;> simp [c]
def Stab (l x:Cs):Prop:=∀ k,fk k x=fk k l
theorem Stab.refl (l:Cs):Stab l l:=fun _=>rfl
theorem Stab.trans {a b c:Cs}(h:Stab a b)(g:Stab b c):Stab a c:=fun k=>(g k).trans (h k)
theorem Stab.app {a a' b b':Cs}(h:Stab a a')(g:Stab b b'):Stab (a++b) (a'++b'):=fun k=>by rw [fk_app,fk_app,h k,g k]
theorem fk_none {k:Cell}{l:Cs}(h:∀ x∈l,¬ key k x):fk k l=[]:=by
 unfold fk;rw [xe3];intro x hx q;exact h x hx (xa7 q)
theorem Stab.swap {u v:Cs}(h:∀ x∈u,∀ y∈v,¬ key x y):Stab (u++v) (v++u):=fun k=>by
 rw [fk_app,fk_app];by_cases c:∃ x∈u,key k x
 ·obtain ⟨x,hx,hk⟩:=c;rw [fk_none (l:=v) (fun y hy q=>h x hx y hy (key_trans (zep hk) q))]; simp
 ·rw [fk_none (l:=u) (fun y hy q=>c ⟨y,hy,q⟩)]; simp
theorem Stab.mem {l x:Cs}(h:Stab l x){c:Cell}(hc:c∈x):c∈l:=by
 have:c∈fk c x:=by unfold fk; rw [xc2]; exact ⟨hc,xb2 (zkf c)⟩
 rw [h c] at this;unfold fk at this;exact (xc2.1 this).1
theorem Stab.symm {l x:Cs}(h:Stab l x):Stab x l:=fun k=>(h k).symm
theorem srt_app {a b:Cs}(ha:Srt a)(hb:Srt b)(h:∀ x∈a,∀ y∈b,le x y):Srt (a++b):=xbj.2 ⟨ha,hb,h⟩
def Firsts (l x:Cs):Prop:=x.Pairwise ah/\∀ c,c∈x↔(fk c l).head?=some c
theorem firsts_uniq {l x y:Cs}(h:Firsts l x)(g:Firsts l y):x=y:=by
 obtain ⟨h1,h2⟩:=h;obtain ⟨g1,g2⟩:=g;have hm:∀ c,c∈x↔c∈y:=fun c=>by rw [h2,g2]
 clear h2 g2
 induction x generalizing y with
 | nil=>
  cases y with
  | nil=>rfl
  | cons b y=>exact absurd ((hm b).2 (xbo ..)) (by simp)
 | cons a x ih=>
  cases y with
  | nil=>exact absurd ((hm a).1 (xbo ..)) (by simp)
  | cons b y=>
   obtain ⟨p1,p2⟩:=xbu.1 h1;obtain ⟨q1,q2⟩:=xbu.1 g1;have hab:a=b:=by
    rcases xaq.1 ((hm a).1 (xbo ..)) with e | e
    ·exact e
    ·rcases xaq.1 ((hm b).2 (xbo ..)) with e2 | e2
     ·exact e2.symm
     ·exact absurd (p1 b e2) (ah_asymm (q1 a e))
   subst hab;rw [ih p2 q2 fun c=>?_];constructor
   ·intro hc
    rcases xaq.1 ((hm c).1 (xb3 _ hc)) with e | e
    ·subst e; exact absurd (p1 c hc) (ah_irr c)
    ·exact e
   ·intro hc
    rcases xaq.1 ((hm c).2 (xb3 _ hc)) with e | e
    ·subst e; exact absurd (q1 c hc) (ah_irr c)
    ·exact e
theorem Firsts.stab {l m x:Cs}(h:Firsts l x)(g:Stab m l):Firsts m x:=⟨h.1,fun c=>by rw [h.2 c,g c]⟩
section
theorem key_of_le {a b:Cell}(h:le a b)(g:le b a):key a b:=by
 rcases le_or h with q | q
 ·exact absurd q g
 ·exact q
theorem srt_uniq:∀ {x y:Cs},Srt x->Srt y->Stab x y->x=y
 | [],[],_,_,_=>rfl
 | [],b::y,_,_,h=>by have:=h.mem (xbo (a:=b) (l:=y)); cases this
 | a::x,[],_,_,h=>by have:=h.symm.mem (xbo (a:=a) (l:=x)); cases this
 | a::x,b::y,hx,hy,h=>by
  obtain ⟨p1,p2⟩:=xbu.1 hx;obtain ⟨q1,q2⟩:=xbu.1 hy;have h1:le a b:=by
   rcases xaq.1 (h.mem (xbo (a:=b) (l:=y))) with e | e
   ·rw [e]; exact le_refl _
   ·exact p1 b e
  have h2:le b a:=by
   rcases xaq.1 (h.symm.mem (xbo (a:=a) (l:=x))) with e | e
   ·rw [e]; exact le_refl _
   ·exact q1 a e
  have hk:=key_of_le h1 h2;have ha:=h a;rw [zjx,zjx,xad hk,xad (zkf a)] at ha;have hab:b=a:=(List.cons.inj ha).1;subst hab;rw [srt_uniq p2 q2 fun k=>?_];have:=h k;rw [zjx,zjx] at this;by_cases c:key k b
  ·rw [xad c,xad c] at this; exact (List.cons.inj this).2
  ·rw [xab c,xab c] at this; exact this
theorem put_left (x:Cell){t:Cs}(ht:Srt t):∃ u v,t=u++v/\(∀ y∈u,ah y x)/\(∀ y∈v,le x y):=by
 induction t with
 | nil=>exact ⟨[],[],rfl,by simp,by simp⟩
 | cons a t ih=>
  obtain ⟨p1,p2⟩:=xbu.1 ht;by_cases c:zbo a x=true
  ·obtain ⟨u,v,rfl,h1,h2⟩:=ih p2;exact ⟨a::u,v,rfl,fun y hy=>by
    rcases xaq.1 hy with e | e
    ·rw [e]; exact (zax _ _).1 c
    ·exact h1 y e,h2⟩
  ·have c':le x a:=fun q=>c ((zax _ _).2 q);exact ⟨[],a::t,rfl,by simp,fun y hy=>by
    rcases xaq.1 hy with e | e
    ·rw [e]; exact c'
    ·exact le_trans c' (p1 y e)⟩
theorem put_srt {u v:Cs}{x:Cell}(h:Srt (u++v))(h1:∀ y∈u,le y x)(h2:∀ y∈v,le x y):Srt (u++x::v):=by
 obtain ⟨p1,p2,p3⟩:=xbj.1 h;refine xbj.2 ⟨p1,xbu.2 ⟨h2,p2⟩,fun y hy z hz=>?_⟩
 rcases xaq.1 hz with e | e
 ·rw [e]; exact h1 y hy
 ·exact p3 y hy z e
theorem srt_ex:∀ l:Cs,∃ x,Srt x/\Stab l x
 | []=>⟨[],.nil,Stab.refl _⟩
 | a::l=>by
  obtain ⟨t,h1,h2⟩:=srt_ex l;obtain ⟨u,v,rfl,h3,h4⟩:=put_left a h1;refine ⟨u++a::v,put_srt h1 (fun y hy=>le_of_ah (h3 y hy)) h4,?_⟩;have e1:Stab (a::l) (a::(u++v)):=Stab.app (Stab.refl [a]) h2;have e2:Stab ([a]++u) (u++[a]):=Stab.swap fun x hx y hy q=>by
   rw [xba.1 hx] at q;exact zlq (h3 y hy) (zep q)
  have e3:Stab (([a]++u)++v) ((u++[a])++v):=Stab.app e2 (Stab.refl v);rw [xaj,xaj] at e3;exact e1.trans e3
noncomputable def zf3 (l:Cs):Cs:=Classical.choose (srt_ex l)
theorem zig (l:Cs):Srt (zf3 l):=(xdm (srt_ex l)).1
theorem zgb (l:Cs):Stab l (zf3 l):=(xdm (srt_ex l)).2
theorem srtd_is {l x:Cs}(h:Srt x)(g:Stab l x):x=zf3 l:=srt_uniq h (zig l) (g.symm.trans (zgb l))
theorem zk8 {l:Cs}(h:Srt l):zf3 l=l:=(srtd_is h (Stab.refl l)).symm
theorem srtd_congr {l m:Cs}(h:Stab l m):zf3 m=zf3 l:=srtd_is (zig m) (h.trans (zgb m))
theorem stab_len:∀ {l x:Cs},Stab l x->x.length=l.length:=by
 have key:∀ (n:Nat) (l x:Cs),l.length=n->Stab l x->x.length=l.length:=by
  intro n
  induction n with
  | zero=>
   intro l x e h;cases x with
   | nil=>rw [e]; rfl
   | cons a x=>have:=h.mem (xbo (a:=a) (l:=x)); rw [xai e] at this; cases this
  | succ n ih=>
   intro l x e h;cases l with
   | nil=>cases e
   | cons a l=>
    have ha:a∈x:=h.symm.mem (xbo ..);have hf:=h a;rw [zjx,xad (zkf a)] at hf;obtain ⟨u,v,rfl⟩:=xcy (show a∈x from ha);obtain ⟨u,b,v,e2,hk,hu⟩:∃ u' b v',u++a::v=u'++b::v'/\key a b/\∀ y∈u',¬ key a y:=by
     clear h hf ha;generalize hw:u++a::v=w;have hm:a∈w:=by rw [<- hw]; simp
     clear hw u v
     induction w with
     | nil=>cases hm
     | cons c w ih2=>
      by_cases hc:key a c
      ·exact ⟨[],c,w,rfl,hc,by simp⟩
      ·rcases xaq.1 hm with e | e
       ·rw [e] at hc; exact absurd (zkf c) hc
       ·obtain ⟨u',b,v',h1,h2,h3⟩:=ih2 e;exact ⟨c::u',b,v',by rw [h1]; rfl,h2,fun y hy=>by
         rcases xaq.1 hy with q | q
         ·rw [q]; exact hc
         ·exact h3 y q⟩
    rw [e2] at h hf ⊢;rw [fk_app,fk_none hu,zjx,xad hk,xbt] at hf;have hb:b=a:=(List.cons.inj hf).1;subst hb;have hs:Stab l (u++v):=fun k=>by
     have:=h k;rw [fk_app,zjx,zjx] at this;rw [fk_app];by_cases c:key k b
     ·rw [xad c,xad c] at this;rw [fk_none (fun y hy q=>hu y hy (key_trans (zep c) q))] at this ⊢;exact (List.cons.inj this).2
     ·rw [xab c,xab c] at this; exact this
    have:=ih l (u++v) (by simpa using e) hs;simp only [xaa,xal] at this ⊢;omega
 intro l x h;exact key _ l x rfl h
theorem zea (l:Cs):(zf3 l).length=l.length:=stab_len (zgb l)
theorem lget_mid (a:Cs)(x:Cell)(b:Cs):zad (a++x::b) (a.length:Int)=x:=by simp [zad]
theorem znz (a:Cs)(x y:Cell)(b:Cs):zmc (a++x::b) (a.length:Int) y=a++y::b:=by simp [zmc]
section
variable (A B C:Cs)(x y:Cell)
theorem sw_i:zad (A++x::(B++y::C)) (A.length:Int)=x:=lget_mid _ _ _
theorem sw_j {j:Int}(h:j=((A.length+1+B.length:Nat):Int)):zad (A++x::(B++y::C)) j=y:=by
 have e:A++x::(B++y::C)=(A++x::B)++y::C:=by simp
 have e2:j=((A++x::B).length:Int):=by rw [h,xaa,xal]; omega
 rw [e,e2,lget_mid]
theorem sw_ij {j:Int}(h:j=((A.length+1+B.length:Nat):Int)):zmc (zmc (A++x::(B++y::C)) (A.length:Int) y) j x=A++y::(B++x::C):=by
 rw [znz];have e:A++y::(B++y::C)=(A++y::B)++y::C:=by simp
 have e2:j=((A++y::B).length:Int):=by rw [h,xaa,xal]; omega
 rw [e,e2,znz]; simp
theorem sw_ji {j:Int}(h:j=((A.length+1+B.length:Nat):Int)):zmc (zmc (A++x::(B++y::C)) j x) (A.length:Int) y=A++y::(B++x::C):=by
 have e:A++x::(B++y::C)=(A++x::B)++y::C:=by simp
 have e2:j=((A++x::B).length:Int):=by rw [h,xaa,xal]; omega
 rw [e,e2,znz];have e3:A++x::B++x::C=A++x::(B++x::C):=by simp
 rw [e3,znz]
end
theorem bs_any {ρ:Type}(step:Int×Int->Option ((Int×Int)⊕ρ))(k:Int->Option ρ)(p:Nat->Prop)[DecidablePred p](lo hi:Nat)
  (hp:∀ s t:Nat,lo<=s->s<t->t<hi->p t->p s)
  (hs:∀ i j:Nat,lo<=i->i<j->j<=hi->step ((i:Int),(j:Int))=some (.inl (if p ((i+j) / 2) then ((((i+j) / 2+1:Nat):Int),(j:Int)) else ((i:Int),(((i+j) / 2:Nat):Int)))))
  (he:∀ i:Nat,lo<=i->i<=hi->step ((i:Int),(i:Int))=zey (k (i:Int))) :
  ∀ (d i j:Nat),j - i=d->lo<=i->i<=j->j<=hi->(∀ t,lo<=t->t<i->p t)->(∀ t,j<=t->t<hi->¬ p t)->
   ∃ n,lo<=n/\n<=hi/\(∀ t,lo<=t->t<n->p t)/\(∀ t,n<=t->t<hi->¬ p t)/\zb7 step ((i:Int),(j:Int))=k (n:Int):=by
 intro d
 induction d using Nat.strongRecOn with
 | _ d ih=>
  intro i j e h1 h2 h3 h4 h5;by_cases c:i<j
  ·have hst:=hs i j h1 c h3;generalize hh:(i+j) / 2=h at hst;by_cases cp:p h
   ·rw [xad cp] at hst;obtain ⟨n,r⟩:=ih (j - (h+1)) (by omega) (h+1) j rfl (by omega) (by omega) h3 (fun t g1 g2=>by
     by_cases q:t=h
     ·rw [q]; exact cp
     ·exact hp t h g1 (by omega) (by omega) cp) h5
    exact ⟨n,r.1,r.2.1,r.2.2.1,r.2.2.2.1,(zaj hst).trans r.2.2.2.2⟩
   ·rw [xab cp] at hst;obtain ⟨n,r⟩:=ih (h - i) (by omega) i h rfl h1 (by omega) (by omega) h4 (fun t g1 g2 q=>by
     by_cases q2:t=h
     ·rw [q2] at q; exact cp q
     ·exact cp (hp h t (by omega) (by omega) g2 q))
    exact ⟨n,r.1,r.2.1,r.2.2.1,r.2.2.2.1,(zaj hst).trans r.2.2.2.2⟩
  ·have:i=j:=by omega
   subst this;refine ⟨i,h1,h3,h4,h5,?_⟩;rw [zn4,he i h1 h3];cases k (i:Int) <;> rfl
theorem mid_w (i j:Nat)(h:i+j<=9000000000000000000):w64 (Int.fdiv (IntKind.u64.wrap (w64 ((i:Int)+(j:Int)))) (2 ^ (min (1:Int).toNat 64)))=(((i+j) / 2:Nat):Int):=by
 have e2:(2:Int) ^ (min (1:Int).toNat 64)=((2:Nat):Int):=by decide
 have e1:IntKind.u64.wrap (w64 ((i:Int)+(j:Int)))=((i+j:Nat):Int):=by
  rw [zaf ..];unfold IntKind.wrap;simp only [IntKind.signed,IntKind.bits];simp;omega
 rw [e1,e2,fdiv_nat',zaf ..]
end
theorem ins_in (P:Cs)(v1:Cs×Int):∀ (n:Nat) (U W:Cs) (x:Cell),U.length=n->Srt U->(P++(U++x::W)).length<=1000000000000->
  ∃ U1 U2,U=U1++U2/\(∀ y∈U1,le y x)/\(∀ y∈U2,ah x y)/\
   zcf (P.length:Int) v1 (P++(U++x::W),((P.length+U.length:Nat):Int))=some (.inl (P++(U1++x::(U2++W)),w64 (v1.2+1))):=by
 intro n
 induction n with
 | zero=>
  intro U W x e hs hl;have:U=[]:=xai e;subst this;refine ⟨[],[],rfl,by simp,by simp,zae ?_⟩;have hc:decide ((P.length:Int)<((P.length+([]:Cs).length:Nat):Int))=false:=xbg (by simp);unfold za3;dsimp only;rw [hc,zaa (fun q=>by cases q),zaa (fun q=>by cases q),zaa (fun q=>by cases q),zaa (fun q=>by cases q),xab (by decide),zac,xab (by simp)];rfl
 | succ n ih=>
  intro U W x e hs hl
  rcases List.eq_nil_or_concat U with h0 | ⟨U',y,rfl⟩
  ·subst h0; cases e
  ·rw [List.concat_eq_append] at *
   have hU':U'.length=n:=by simpa using e
   have hd:P++((U'++[y])++x::W)=(P++U')++y::([]++x::W):=by simp
   have hj:((P.length+(U'++[y]).length:Nat):Int)=(((P++U').length+1+([]:Cs).length:Nat):Int):=by simp; omega
   have hi:w64 ((((P++U').length+1+([]:Cs).length:Nat):Int) - 1)=((P++U').length:Int):=by
    simp only [xaa,xal,xa3] at hl ⊢;rw [zaf ..]; omega
   have hlen:((P++U')++y::([]++x::W)).length=(P++U').length+2+W.length:=by simp; omega
   rw [hd,hj];have hB:za3 (P.length:Int) v1 ((P++U')++y::([]++x::W),(((P++U').length+1+([]:Cs).length:Nat):Int)) =
     if zbo x y=true then some (.inl ((P++U')++x::([]++y::W),((P++U').length:Int))) else some (.inr (.inl ((P++U')++y::([]++x::W),w64 (v1.2+1)))):=by
    have hc:decide ((P.length:Int)<(((P++U').length+1+([]:Cs).length:Nat):Int))=true:=xb2 (by simp only [xaa,xa3]; omega);have hr1:0<=(((P++U').length+1+([]:Cs).length:Nat):Int)/\(((P++U').length+1+([]:Cs).length:Nat):Int)<(((P++U')++y::([]++x::W)).length:Int):=by rw [hlen]; simp only [xa3]; omega
    have hr2:0<=((P++U').length:Int)/\((P++U').length:Int)<(((P++U')++y::([]++x::W)).length:Int):=by rw [hlen]; omega
    unfold za3;dsimp only;rw [hc,hi,zaa (fun _=>hr1),zaa (fun _=>hr1),zaa (fun _=>hr2),zaa (fun _=>hr2),xad rfl,sw_i,sw_j _ _ _ _ _ rfl];simp only [zcr];rw [zjc,zac];by_cases c:zbo x y=true
    ·rw [xad c,xad (by simp [(zjy x y).2 c]),zaa hr2,zaa hr2,zaa hr1,zaa hr1,zaa hr1,zaa hr1,zaa (by rw [zj8]; exact hr2),zaa (by rw [zj8]; exact hr2),sw_ji _ _ _ _ _ rfl];rfl
    ·have:decide (ord x y<0)=false:=xbg fun q=>c ((zjy x y).1 q);rw [xab c,this,xab (by decide)]; rfl
   by_cases c:zbo x y=true
   ·rw [xad c] at hB;have hs':Srt U':=(xbj.1 hs).1;obtain ⟨U1,U2,e1,h1,h2,h3⟩:=ih U' (y::W) x hU' hs' (by simpa using hl);refine ⟨U1,U2++[y],by rw [e1]; simp,h1,fun z hz=>?_,(zaj hB).trans ?_⟩
    ·rcases xax.1 hz with q | q
     ·exact h2 z q
     ·rw [xba.1 q]; exact (zax _ _).1 c
    ·have e2:P++U'++x::([]++y::W)=P++(U'++x::(y::W)):=by simp
     have e3:P++(U1++x::(U2++[y]++W))=P++(U1++x::(U2++y::W)):=by simp
     rw [e2,e3,xaa]; exact h3
   ·rw [xab c] at hB;have c':le y x:=fun q=>c ((zax _ _).2 q);refine ⟨U'++[y],[],by simp,fun z hz=>?_,by simp,?_⟩
    ·rcases xax.1 hz with q | q
     ·exact le_trans ((xbj.1 hs).2.2 z q y (xba.2 rfl)) c'
     ·rw [xba.1 q]; exact c'
    ·have e3:P++(U'++[y]++x::([]++W))=P++U'++y::([]++x::W):=by simp
     rw [e3]; exact zae hB
theorem ins_out (P S:Cs):∀ (M2 M1:Cs),(P++(M1++(M2++S))).length<=1000000000000->
  zbp (P.length:Int) ((P.length+(M1.length+M2.length):Nat):Int) (P++(zf3 M1++(M2++S)),((P.length+M1.length:Nat):Int))=some (P++(zf3 (M1++M2)++S))
 | [],M1,hl=>by
  refine zae ?_;unfold za6;dsimp only;rw [xab (d_f (by simp)),xbh]; rfl
 | x::M2,M1,hl=>by
  have hsl:=zea M1;obtain ⟨U1,U2,e1,h1,h2,h3⟩:=ins_in P (P++(zf3 M1++(x::M2++S)),((P.length+M1.length:Nat):Int)) _ (zf3 M1) (M2++S) x rfl (zig M1) (by simp only [xaa,xal] at hl ⊢; omega);have hw:w64 (((P.length+M1.length:Nat):Int)+1)=((P.length+(M1++[x]).length:Nat):Int):=by
   simp only [xaa,xal,xa3] at hl ⊢;rw [zaf ..]; omega
  have hsx:U1++x::U2=zf3 (M1++[x]):=by
   refine srtd_is (put_srt (e1▸zig M1) h1 fun y hy=>le_of_ah (h2 y hy)) ?_;have a1:Stab (M1++[x]) (zf3 M1++[x]):=Stab.app (zgb M1) (Stab.refl _);have a2:Stab (U2++[x]) ([x]++U2):=Stab.swap fun y hy z hz q=>by
    rw [xba.1 hz] at q;exact zlq (h2 y hy) (zep q)
   have a3:Stab (U1++(U2++[x])) (U1++([x]++U2)):=Stab.app (Stab.refl U1) a2;rw [e1,xaj] at a1;exact a1.trans a3
  have ih:=ins_out P S M2 (M1++[x]) (by simpa using hl);refine (zaj ?_).trans ((congrArg (fun z=>zbp (P.length:Int) z (P++(zf3 (M1++[x])++(M2++S)),((P.length+(M1++[x]).length:Nat):Int))) (show ((P.length+(M1.length+(x::M2).length):Nat):Int)=((P.length+((M1++[x]).length+M2.length):Nat):Int) by simp only [xaa,xal,xa3]; omega)).trans (ih.trans ?_))
  ·unfold za6;dsimp only;rw [xad (d_t (by simp only [xal]; omega))];rw [hsl] at h3;refine h3.trans ?_;rw [hw,<- hsx]; simp
  ·rw [xaj]; rfl
theorem insertion_eq (P M S:Cs)(hl:(P++(M++S)).length<=1000000000000):zay (P.length:Int) ((P.length+M.length:Nat):Int) (P++(M++S))=some (P++(zf3 M++S)):=by
 have hw:w64 ((P.length:Int)+1)=((P.length+1:Nat):Int):=by simp only [xaa] at hl; rw [zaf ..]; omega
 unfold zay;rw [hw];cases M with
 | nil=>
  have e:zf3 []=[]:=zk8 .nil;rw [e];refine zae ?_;unfold za6;dsimp only;rw [xab (d_f (by simp; omega))]; rfl
 | cons x M=>
  have e:zf3 [x]=[x]:=zk8 (xe0 _ _);have:=ins_out P S M [x] (by simpa using hl);rw [e] at this;have e2:((P.length+(x::M).length:Nat):Int)=((P.length+([x].length+M.length):Nat):Int):=by simp only [xal,xa3]; omega
  rw [e2]; exact this
theorem swr_loop (P Q S:Cs)(a b num:Int):∀ (Xr Yr Xd Yd:Cs) (t:Nat),Xr.length=Yr.length->Xd.length=t->Yd.length=t->num=((t+Xr.length:Nat):Int)->a=(P.length:Int)->b=((P.length+(t+Xr.length)+Q.length:Nat):Int)->
  (P++(Yd++(Xr++(Q++(Xd++(Yr++S)))))).length<=1000000000000->
  zcx a b num (P++(Yd++(Xr++(Q++(Xd++(Yr++S))))),(t:Int))=some (P++((Yd++Yr)++(Q++((Xd++Xr)++S))))
 | [],[],Xd,Yd,t,e1,e2,e3,e4,e5,e6,hl=>by
  refine zae ?_;unfold zb2;dsimp only;rw [xab (d_f (by rw [e4]; simp))];simp only [xbh,xbt]; rfl
 | x::Xr,y::Yr,Xd,Yd,t,e1,e2,e3,e4,e5,e6,hl=>by
  have ih:=swr_loop P Q S a b num Xr Yr (Xd++[x]) (Yd++[y]) (t+1) (by simpa using e1) (by simp [e2]) (by simp [e3]) (by rw [e4]; simp only [xal]; omega) e5 (by rw [e6]; simp only [xal]; omega) (by simp only [xaa,xal,xa3] at hl ⊢; omega);have hd:P++(Yd++(x::Xr++(Q++(Xd++(y::Yr++S)))))=(P++Yd)++x::((Xr++(Q++Xd))++y::(Yr++S)):=by simp
  have hd2:P++((Yd++[y])++(Xr++(Q++((Xd++[x])++(Yr++S)))))=(P++Yd)++y::((Xr++(Q++Xd))++x::(Yr++S)):=by simp
  have hlen:((P++Yd)++x::((Xr++(Q++Xd))++y::(Yr++S))).length=(P++Yd).length+1+(Xr++(Q++Xd)).length+1+(Yr++S).length:=by simp; omega
  rw [hd] at hl ⊢;rw [hd2] at ih;rw [hlen] at hl;have hA:w64 (a+(t:Int))=((P++Yd).length:Int):=by
   simp only [xaa,xal] at hl ⊢;rw [e5,zaf ..]; omega
  have hJ:w64 (b+(t:Int))=(((P++Yd).length+1+(Xr++(Q++Xd)).length:Nat):Int):=by
   simp only [xaa,xal] at hl e6 ⊢;rw [e6,zaf ..]; omega
  have hr1:0<=(((P++Yd).length+1+(Xr++(Q++Xd)).length:Nat):Int)/\(((P++Yd).length+1+(Xr++(Q++Xd)).length:Nat):Int)<(((P++Yd)++x::((Xr++(Q++Xd))++y::(Yr++S))).length:Int):=by rw [hlen]; omega
  have hr2:0<=((P++Yd).length:Int)/\((P++Yd).length:Int)<(((P++Yd)++x::((Xr++(Q++Xd))++y::(Yr++S))).length:Int):=by rw [hlen]; omega
  refine (zaj ?_).trans (ih.trans ?_)
  ·unfold zb2;dsimp only;rw [xad (d_t (by rw [e4]; simp only [xal]; omega)),hA,hJ,zaa hr1,zaa hr1,zaa hr2,zaa hr2,zaa hr2,zaa hr2,zaa (by rw [zj8]; exact hr1),zaa (by rw [zj8]; exact hr1),sw_i,sw_j _ _ _ _ _ rfl];simp only [zcr,lt];rw [sw_ij _ _ _ _ _ rfl,zaf (by simp only [xaa] at hl; omega) (by simp only [xaa] at hl; omega)];rfl
  ·simp
theorem swapRange_eq (P X Q Y S:Cs)(h:X.length=Y.length)(hl:(P++(X++(Q++(Y++S)))).length<=1000000000000){a b num:Int}(ha:a=(P.length:Int))(hb:b=((P.length+X.length+Q.length:Nat):Int))(hn:num=(X.length:Int)) :
  zaw a b num (P++(X++(Q++(Y++S))))=some (P++(Y++(Q++(X++S)))):=by
 unfold zaw;have:=swr_loop P Q S a b num X Y [] [] 0 h rfl rfl (by rw [hn]; simp) ha (by rw [hb]; simp) (by simpa using hl);simpa using this
theorem rot_loop (m:Int):∀ (n:Nat) (P U V S:Cs),U.length+V.length=n->U≠[]->V≠[]->m=((P.length+U.length:Nat):Int)->(P++(U++(V++S))).length<=1000000000000->
  zdh m (P++(U++(V++S)),(U.length:Int),(V.length:Int))=some (P++(V++(U++S))):=by
 intro n
 induction n using Nat.strongRecOn with
 | _ n ih=>
  intro P U V S e hU hV hm hl;have hu:=xa4.2 hU;have hv:=xa4.2 hV;have hl':=hl;simp only [xaa] at hl';have hmi:w64 (m - (U.length:Int))=(P.length:Int):=by rw [hm,zaf ..]; omega
  by_cases c:U.length=V.length
  ·refine zae ?_;unfold zbw;dsimp only;rw [xab (n_f (by omega))];unfold zce;dsimp only;have:=swapRange_eq P U [] V S c (by simpa using hl) (a:=(P.length:Int)) (b:=m) (num:=(U.length:Int)) rfl (by rw [hm]; simp) rfl;simp only [xbt] at this;rw [hmi,this]; rfl
  ·by_cases c2:V.length<U.length
   ·have hsp:U=U.take V.length++U.drop V.length:=(xbp ..).symm;have h1:(U.take V.length).length=V.length:=by rw [xar]; omega
    have h2:(U.drop V.length).length=U.length - V.length:=by rw [xa8]
    generalize U.take V.length=U1 at *
    generalize U.drop V.length=U2 at *
    subst hsp;have ih':=ih (U2.length+U1.length) (by simp only [xaa] at e; omega) (P++V) U2 U1 S rfl (xa4.1 (by omega)) (xa4.1 (by omega)) (by rw [hm]; simp only [xaa]; omega) (by simp only [xaa] at hl ⊢; omega);have hd:P++(U1++U2++(V++S))=P++(U1++(U2++(V++S))):=by simp
    have hw:w64 (((U1++U2).length:Int) - (V.length:Int))=(U2.length:Int):=by simp only [xaa] at hl' ⊢; rw [zaf ..]; omega
    have hsw:=swapRange_eq P U1 U2 V S h1 (by rw [<- hd]; exact hl) (a:=(P.length:Int)) (b:=m) (num:=(V.length:Int)) rfl (by rw [hm]; simp only [xaa]; omega) (by omega);refine (zaj ?_).trans (ih'.trans (by simp));unfold zbw;dsimp only;rw [xad (n_t (by omega)),ifT ..,hmi,hd,hsw,zac,hw,h1];simp
   ·have hsp:V=V.take (V.length - U.length)++V.drop (V.length - U.length):=(xbp ..).symm;have h1:(V.take (V.length - U.length)).length=V.length - U.length:=by rw [xar]; omega
    have h2:(V.drop (V.length - U.length)).length=U.length:=by rw [xa8]; omega
    generalize V.take (V.length - U.length)=V1 at *
    generalize V.drop (V.length - U.length)=V2 at *
    subst hsp;have ih':=ih (V2.length+V1.length) (by simp only [xaa] at e; omega) P V2 V1 (U++S) rfl (xa4.1 (by omega)) (xa4.1 (by omega)) (by rw [hm]; omega) (by simp only [xaa] at hl ⊢; omega);have hd:P++(U++(V1++V2++S))=P++(U++(V1++(V2++S))):=by simp
    have hw:w64 (((V1++V2).length:Int) - (U.length:Int))=(V1.length:Int):=by simp only [xaa] at hl' ⊢; rw [zaf ..]; omega
    have hw2:w64 (w64 (m+((V1++V2).length:Int)) - (U.length:Int))=((P.length+U.length+V1.length:Nat):Int):=by
     simp only [xaa] at hl' ⊢;have h3:w64 (m+((V1.length+V2.length:Nat):Int))=m+((V1.length+V2.length:Nat):Int):=zaf ..;rw [h3,zaf ..]; omega
    have hsw:=swapRange_eq P U V1 V2 S h2.symm (by rw [<- hd]; exact hl) (a:=(P.length:Int)) (b:=((P.length+U.length+V1.length:Nat):Int)) (num:=(U.length:Int)) rfl rfl rfl;refine (zaj ?_).trans (ih'.trans (by simp));unfold zbw;dsimp only;rw [xad (n_t (by omega)),ifF ..,hmi,hw2,hd,hsw,zac,hw,h2]
theorem rotate_eq (P U V S:Cs)(hU:U≠[])(hV:V≠[])(hl:(P++(U++(V++S))).length<=1000000000000){a m b:Int}(ha:a=(P.length:Int))(hm:m=((P.length+U.length:Nat):Int))(hb:b=((P.length+U.length+V.length:Nat):Int)) :
  zbl a m b (P++(U++(V++S)))=some (P++(V++(U++S))):=by
 have hl':=hl;simp only [xaa] at hl';unfold zbl;have e1:w64 (m - a)=(U.length:Int):=by rw [ha,hm,zaf ..]; omega
 have e2:w64 (b - m)=(V.length:Int):=by rw [hb,hm,zaf ..]; omega
 rw [e1,e2];exact rot_loop m _ P U V S rfl hU hV hm hl
theorem srt_at {l:Cs}(h:Srt l){i j:Nat}(hij:i<j)(hj:j<l.length):le (zad l (i:Int)) (zad l (j:Int)):=by
 rw [zdk l i (by omega),zdk l j hj];exact List.pairwise_iff_getElem.1 h i j (by omega) hj hij
theorem srt_at' {l:Cs}(h:Srt l){i j:Nat}(hij:i<=j)(hj:j<l.length):le (zad l (i:Int)) (zad l (j:Int)):=by
 by_cases e:i=j
 ·rw [e]; exact le_refl _
 ·exact srt_at h (by omega) hj
theorem get_A (P A R:Cs)(i:Nat)(h:i<A.length):zad (P++(A++R)) ((P.length+i:Nat):Int)=zad A (i:Int):=by
 rw [zdk _ _ (by simp only [xaa]; omega),zdk _ _ h,xdp (by omega),xev (by omega)];congr 1; omega
theorem get_B (P A B S:Cs)(i:Nat)(h:i<B.length):zad (P++(A++(B++S))) ((P.length+A.length+i:Nat):Int)=zad B (i:Int):=by
 have:=get_A (P++A) B S i h;rw [xaj,xaa] at this;exact this
theorem zl8 {l:Cs}{x:Cell}{n:Nat}(h:x∈l.take n):∃ i,i<n/\i<l.length/\x=zad l (i:Int):=by
 obtain ⟨i,hi,rfl⟩:=xdc.1 h;rw [xar] at hi;exact ⟨i,by omega,by omega,by rw [zdk l i (by omega),List.getElem_take]⟩
theorem zlt {l:Cs}{x:Cell}{n:Nat}(h:x∈l.drop n):∃ i,n<=i/\i<l.length/\x=zad l (i:Int):=by
 obtain ⟨i,hi,rfl⟩:=xdc.1 h;rw [xa8] at hi;exact ⟨n+i,by omega,by omega,by rw [zdk l (n+i) (by omega),List.getElem_drop]⟩
theorem mvR (P R:Cs)(x:Cell)(v:Int):∀ (Br Bd:Cs),v - 1=((P.length+Bd.length+Br.length:Nat):Int)->(P++(Bd++x::(Br++R))).length<=1000000000000->
  zc3 v (P++(Bd++x::(Br++R)),((P.length+Bd.length:Nat):Int))=some (P++((Bd++Br)++x::R))
 | [],Bd,hv,hl=>by
  have hl':=hl;simp only [xaa,xal] at hl';have hw:w64 (v - 1)=v - 1:=zaf ..;refine zae ?_;unfold zb4;dsimp only;rw [hw,xab (d_f (by rw [hv]; simp))];simp only [xbh,xbt]; rfl
 | y::Br,Bd,hv,hl=>by
  have hl':=hl;simp only [xaa,xal] at hl' hv;have hw:w64 (v - 1)=v - 1:=zaf ..;have ih:=mvR P R x v Br (Bd++[y]) (by rw [hv]; simp only [xaa,xal,xa3]; omega) (by simp only [xaa,xal,xa3]; omega);have hd:P++(Bd++x::(y::Br++R))=(P++Bd)++x::([]++y::(Br++R)):=by simp
  have hd2:P++((Bd++[y])++x::(Br++R))=(P++Bd)++y::([]++x::(Br++R)):=by simp
  have hk:((P.length+Bd.length:Nat):Int)=((P++Bd).length:Int):=by rw [xaa]
  have hk2:w64 (((P++Bd).length:Int)+1)=(((P++Bd).length+1+([]:Cs).length:Nat):Int):=by
   simp only [xaa,xa3]; rw [zaf ..]; omega
  have hlen:((P++Bd)++x::([]++y::(Br++R))).length=(P++Bd).length+2+(Br++R).length:=by simp; omega
  have hr1:0<=(((P++Bd).length+1+([]:Cs).length:Nat):Int)/\(((P++Bd).length+1+([]:Cs).length:Nat):Int)<(((P++Bd)++x::([]++y::(Br++R))).length:Int):=by rw [hlen]; simp only [xa3]; omega
  have hr2:0<=((P++Bd).length:Int)/\((P++Bd).length:Int)<(((P++Bd)++x::([]++y::(Br++R))).length:Int):=by rw [hlen]; omega
  rw [hd2] at ih;rw [hd,hk];refine (zaj ?_).trans (ih.trans (by simp));unfold zb4;dsimp only;rw [hw,xad (d_t (by rw [hv,xaa]; omega)),hk2,zaa hr1,zaa hr1,zaa hr2,zaa hr2,zaa hr2,zaa hr2,zaa (by rw [zj8]; exact hr1),zaa (by rw [zj8]; exact hr1),sw_i,sw_j _ _ _ _ _ rfl];simp only [zcr,lt];rw [sw_ij _ _ _ _ _ rfl];have:(((P++Bd).length+1+([]:Cs).length:Nat):Int)=((P.length+(Bd++[y]).length:Nat):Int):=by simp only [xaa,xal,xa3]; omega
  rw [this]
theorem mvL (Q:Cs)(x:Cell):∀ (n:Nat) (U R:Cs),U.length=n->(Q++(U++x::R)).length<=1000000000000->
  zc2 (Q.length:Int) (Q++(U++x::R),((Q.length+U.length:Nat):Int))=some (Q++(x::(U++R))):=by
 intro n
 induction n with
 | zero=>
  intro U R e hl;have:U=[]:=xai e;subst this;refine zae ?_;unfold zb5;dsimp only;rw [xab (d_f (by simp))]; rfl
 | succ n ih=>
  intro U R e hl
  rcases List.eq_nil_or_concat U with h0 | ⟨U',y,rfl⟩
  ·subst h0; cases e
  ·rw [List.concat_eq_append] at *
   have hd:Q++((U'++[y])++x::R)=(Q++U')++y::([]++x::R):=by simp
   have hd2:(Q++U')++x::([]++y::R)=Q++(U'++x::(y::R)):=by simp
   have hj:((Q.length+(U'++[y]).length:Nat):Int)=(((Q++U').length+1+([]:Cs).length:Nat):Int):=by simp; omega
   have hi:w64 ((((Q++U').length+1+([]:Cs).length:Nat):Int) - 1)=((Q++U').length:Int):=by
    simp only [xaa,xal,xa3] at hl ⊢;rw [zaf ..]; omega
   have hlen:((Q++U')++y::([]++x::R)).length=(Q++U').length+2+R.length:=by simp; omega
   have hr1:0<=(((Q++U').length+1+([]:Cs).length:Nat):Int)/\(((Q++U').length+1+([]:Cs).length:Nat):Int)<(((Q++U')++y::([]++x::R)).length:Int):=by rw [hlen]; simp only [xa3]; omega
   have hr2:0<=((Q++U').length:Int)/\((Q++U').length:Int)<(((Q++U')++y::([]++x::R)).length:Int):=by rw [hlen]; omega
   have ih':=ih U' (y::R) (by simpa using e) (by simpa using hl);rw [hd,hj];refine (zaj ?_).trans (ih'.trans (by simp));unfold zb5;dsimp only;rw [xad (d_t (by simp only [xaa,xa3]; omega)),hi,zaa hr2,zaa hr2,zaa hr1,zaa hr1,zaa hr1,zaa hr1,zaa (by rw [zj8]; exact hr2),zaa (by rw [zj8]; exact hr2),sw_i,sw_j _ _ _ _ _ rfl];simp only [zcr,lt];rw [sw_ji _ _ _ _ _ rfl,hd2,xaa]
abbrev RecT:=(Int×Int×Int×Cs)->Option Cs
theorem sym_one (f:RecT)(P:Cs)(x:Cell)(B S:Cs)(hB:Srt B)(hl:(P++([x]++(B++S))).length<=1000000000000) :
  zah f (P.length:Int) ((P.length+1:Nat):Int) ((P.length+1+B.length:Nat):Int) (P++([x]++(B++S)))=some (P++(zf3 ([x]++B)++S)):=by
 have hl':=hl;simp only [xaa,xal,xa3] at hl';have hlen:(P++([x]++(B++S))).length=P.length+1+B.length+S.length:=by simp only [xaa,xal,xa3]; omega
 have hx:zad (P++([x]++(B++S))) (P.length:Int)=x:=lget_mid P x (B++S);have hb:∀ t,P.length+1<=t->t<P.length+1+B.length->zad (P++([x]++(B++S))) (t:Int)=zad B ((t - (P.length+1):Nat):Int):=fun t h1 h2=>by
  have:=get_B P [x] B S (t - (P.length+1)) (by omega);rw [<- this]; congr 1; simp only [xal,xa3]; omega
 unfold zah;rw [xad (d_t (by rw [zaf ..]; omega))];unfold zc4;obtain ⟨n,h1,h2,h3,h4,h5⟩:=bs_any (fun y=>zbg (P.length:Int) (P++([x]++(B++S))) y) (zbh (P.length:Int) (P++([x]++(B++S))))
  (fun t=>zbo (zad (P++([x]++(B++S))) (t:Int)) x=true) (P.length+1) (P.length+1+B.length)
  (fun s t g1 g2 g3 g4=>by
   rw [hb t (by omega) g3,zax] at g4;rw [hb s g1 (by omega),zax];exact ah_of' (srt_at hB (by omega) (by omega)) g4)
  (fun i j g1 g2 g3=>by
   have hm:P.length+1<=(i+j) / 2/\(i+j) / 2<P.length+1+B.length:=by omega
   unfold zbg;dsimp only;rw [ifT ..,mid_w i j (by omega)];generalize (i+j) / 2=h at hm;dsimp only [lt];rw [zaa (by rw [hlen]; omega),zaa (by rw [hlen]; omega),zaa (by rw [hlen]; omega),zaa (by rw [hlen]; omega),hx];simp only [zcr];rw [zjc,zac];by_cases c:zbo (zad (P++([x]++(B++S))) (h:Int)) x=true
   ·rw [xad (d_t ((zjy _ _).2 c)),xad c,zaf ..]; rfl
   ·rw [xab (d_f (fun q=>c ((zjy _ _).1 q))),xab c])
  (fun i g1 g2=>by
   unfold zbg;dsimp only;rw [ifF ..])
  _ (P.length+1) (P.length+1+B.length) rfl (xaf _) (by omega) (xaf _) (fun t g1 g2=>by omega) (fun t g1 g2=>by omega)
 have e1:((P.length+1:Nat):Int)=((P.length+1:Nat):Int):=rfl;refine h5.trans ?_;unfold zbh;have hsp:B=B.take (n - (P.length+1))++B.drop (n - (P.length+1)):=(xbp ..).symm;have hlt:(B.take (n - (P.length+1))).length=n - (P.length+1):=by rw [xar]; omega
 have q1:∀ y∈B.take (n - (P.length+1)),ah y x:=fun y hy=>by
  obtain ⟨i,i1,i2,rfl⟩:=zl8 hy;have:=h3 (P.length+1+i) (by omega) (by omega);rw [hb _ (by omega) (by omega),zax] at this;have e:P.length+1+i - (P.length+1)=i:=by omega
  rwa [e] at this
 have q2:∀ y∈B.drop (n - (P.length+1)),le x y:=fun y hy=>by
  obtain ⟨i,i1,i2,rfl⟩:=zlt hy;have:=h4 (P.length+1+i) (by omega) (by omega);rw [hb _ (by omega) (by omega),zax] at this;have e:P.length+1+i - (P.length+1)=i:=by omega
  rwa [e] at this
 generalize B.take (n - (P.length+1))=B1 at *
 generalize B.drop (n - (P.length+1))=B2 at *
 subst hsp;have hmv:=mvR P (B2++S) x (n:Int) B1 [] (by rw [hlt]; simp only [xa3]; omega) (by simpa using hl);have hd:P++([x]++(B1++B2++S))=P++([]++x::(B1++(B2++S))):=by simp
 rw [hd];refine hmv.trans ?_;have hsr:B1++x::B2=zf3 ([x]++(B1++B2)):=by
  refine srtd_is (put_srt hB (fun y hy=>le_of_ah (q1 y hy)) q2) ?_;have a2:Stab ([x]++B1) (B1++[x]):=Stab.swap fun y hy z hz q=>by
   rw [xba.1 hy] at q;exact zlq (q1 z hz) (zep q)
  have a3:=Stab.app a2 (Stab.refl B2);simpa using a3
 rw [<- hsr]; simp
theorem sym_last (f:RecT)(P A:Cs)(x:Cell)(S:Cs)(hA:Srt A)(hA1:A.length≠1)(hl:(P++(A++([x]++S))).length<=1000000000000) :
  zah f (P.length:Int) ((P.length+A.length:Nat):Int) ((P.length+A.length+1:Nat):Int) (P++(A++([x]++S)))=some (P++(zf3 (A++[x])++S)):=by
 have hl':=hl;simp only [xaa,xal,xa3] at hl';have hlen:(P++(A++([x]++S))).length=P.length+A.length+1+S.length:=by simp only [xaa,xal,xa3]; omega
 have hx:zad (P++(A++([x]++S))) ((P.length+A.length:Nat):Int)=x:=by
  have:=get_B P A [x] S 0 (by simp);exact this
 have hb:∀ t,P.length<=t->t<P.length+A.length->zad (P++(A++([x]++S))) (t:Int)=zad A ((t - P.length:Nat):Int):=fun t h1 h2=>by
  have:=get_A P A ([x]++S) (t - P.length) (by omega);rw [<- this]; congr 1; omega
 unfold zah;rw [xab (d_f (by rw [zaf ..]; omega)),xad (d_t (by rw [zaf ..]; omega))];unfold zc1;obtain ⟨n,h1,h2,h3,h4,h5⟩:=bs_any (fun y=>zbf ((P.length+A.length:Nat):Int) (P++(A++([x]++S))) y) (zbj ((P.length+A.length:Nat):Int) (P++(A++([x]++S))))
  (fun t=>¬ zbo x (zad (P++(A++([x]++S))) (t:Int))=true) P.length (P.length+A.length)
  (fun s t g1 g2 g3 g4 q=>by
   rw [hb s g1 (by omega),zax] at q;rw [hb t (by omega) g3,zax] at g4;exact g4 (ah_of q (srt_at hA (by omega) (by omega))))
  (fun i j g1 g2 g3=>by
   have hm:P.length<=(i+j) / 2/\(i+j) / 2<P.length+A.length:=by omega
   unfold zbf;dsimp only;rw [ifT ..,mid_w i j (by omega)];generalize (i+j) / 2=h at hm;dsimp only [lt];rw [zaa (by rw [hlen]; omega),zaa (by rw [hlen]; omega),zaa (by rw [hlen]; omega),zaa (by rw [hlen]; omega),hx];simp only [zcr];rw [zjc,zac];by_cases c:zbo x (zad (P++(A++([x]++S))) (h:Int))=true
   ·rw [xab (n_f ((zjy _ _).2 c)),xab (xc8 c)]
   ·rw [xad (n_t (fun q=>c ((zjy _ _).1 q))),xad c,zaf ..]; rfl)
  (fun i g1 g2=>by
   unfold zbf;dsimp only;rw [ifF ..])
  _ P.length (P.length+A.length) rfl (xaf _) (by omega) (xaf _) (fun t g1 g2=>by omega) (fun t g1 g2=>by omega)
 refine h5.trans ?_;unfold zbj;have hsp:A=A.take (n - P.length)++A.drop (n - P.length):=(xbp ..).symm;have hlt:(A.take (n - P.length)).length=n - P.length:=by rw [xar]; omega
 have q1:∀ y∈A.take (n - P.length),le y x:=fun y hy=>by
  obtain ⟨i,i1,i2,rfl⟩:=zl8 hy;have:=h3 (P.length+i) (by omega) (by omega);rw [hb _ (by omega) (by omega),zax] at this;have e:P.length+i - P.length=i:=by omega
  rwa [e] at this
 have q2:∀ y∈A.drop (n - P.length),ah x y:=fun y hy=>by
  obtain ⟨i,i1,i2,rfl⟩:=zlt hy;have:=xdo.1 (h4 (P.length+i) (by omega) (by omega));rw [hb _ (by omega) (by omega),zax] at this;have e:P.length+i - P.length=i:=by omega
  rwa [e] at this
 generalize A.take (n - P.length)=A1 at *
 generalize A.drop (n - P.length)=A2 at *
 subst hsp;have hmv:=mvL (P++A1) x _ A2 S rfl (by simpa using hl);have hd:P++(A1++A2++([x]++S))=P++A1++(A2++x::S):=by simp
 have en:(n:Int)=((P++A1).length:Int):=by rw [xaa]; omega
 have em:((P.length+(A1++A2).length:Nat):Int)=(((P++A1).length+A2.length:Nat):Int):=by simp only [xaa]; omega
 rw [hd,en,em];refine hmv.trans ?_;have hsr:A1++x::A2=zf3 ((A1++A2)++[x]):=by
  refine srtd_is (put_srt hA q1 fun y hy=>le_of_ah (q2 y hy)) ?_;have a2:Stab (A2++[x]) ([x]++A2):=Stab.swap fun y hy z hz q=>by
   rw [xba.1 hz] at q;exact zlq (q2 y hy) (zep q)
  have a3:=Stab.app (Stab.refl A1) a2;simpa using a3
 rw [<- hsr]; simp
theorem ob_id {α:Type}(x:Option α):(ob x fun y=>some y)=x:=by cases x <;> rfl
theorem sym_find (f:RecT)(P A B S:Cs)(hA:Srt A)(hB:Srt B)(hA0:A≠[])(hB0:B≠[])(hA1:A.length≠1)(hB1:B.length≠1)(hl:(P++(A++(B++S))).length<=1000000000000)(h lo hi:Nat)(hh:h=(A.length+B.length) / 2)(hlo:lo=P.length+(if h<A.length then h - B.length else 0))(hhi:hi=P.length+(if h<A.length then h else A.length)) :
  ∃ s,s<=A.length/\s<=h/\h - s<=B.length/\(∀ y∈B.take (h - s),∀ x∈A.drop s,ah y x)/\(∀ x∈A.take s,∀ y∈B.drop (h - s),le x y)/\
   zbk (P.length:Int) ((P.length+A.length:Nat):Int) ((P.length+A.length+B.length:Nat):Int) (P++(A++(B++S))) f ((P.length+h:Nat):Int) ((lo:Int),(hi:Int)) =
    zaz (P.length:Int) ((P.length+A.length:Nat):Int) ((P.length+A.length+B.length:Nat):Int) (P++(A++(B++S))) f ((P.length+h:Nat):Int) ((P.length+s:Nat):Int):=by
 have hl':=hl;simp only [xaa] at hl';have hu:=xa4.2 hA0;have hv:=xa4.2 hB0;have hlen:(P++(A++(B++S))).length=P.length+A.length+B.length+S.length:=by simp only [xaa]; omega
 have hn:w64 (((P.length+h:Nat):Int)+((P.length+A.length:Nat):Int))=((P.length+h+(P.length+A.length):Nat):Int):=by rw [zaf ..]; omega
 have hn1:w64 (((P.length+h+(P.length+A.length):Nat):Int) - 1)=((P.length+h+(P.length+A.length) - 1:Nat):Int):=by rw [zaf ..]; omega
 have hlo1:P.length<=lo:=by omega
 have hlo2:h<=B.length+(lo - P.length):=by
  rw [hlo]; split <;> omega
 have hhi1:hi<=P.length+A.length/\hi<=P.length+h:=by rw [hhi]; constructor <;> split <;> omega
 have hlh:lo<=hi:=by rw [hlo,hhi]; split <;> omega
 have hlo3:lo=P.length\/lo+B.length=P.length+h:=by rw [hlo]; split <;> omega
 have hhi3:hi=P.length+A.length\/hi=P.length+h:=by rw [hhi]; split <;> omega
 have gA:∀ t,lo<=t->t<hi->zad (P++(A++(B++S))) (t:Int)=zad A ((t - P.length:Nat):Int):=fun t h1 h2=>by
  have:=get_A P A (B++S) (t - P.length) (by omega);rw [<- this]; congr 1; omega
 have gB:∀ t,lo<=t->t<hi->zad (P++(A++(B++S))) ((P.length+h+(P.length+A.length) - 1 - t:Nat):Int)=zad B ((h - 1 - (t - P.length):Nat):Int):=fun t h1 h2=>by
  have:=get_B P A B S (h - 1 - (t - P.length)) (by omega);rw [<- this]; congr 1; omega
 have hwp:∀ t:Nat,lo<=t->t<hi->w64 (((P.length+h+(P.length+A.length) - 1:Nat):Int) - (t:Int))=((P.length+h+(P.length+A.length) - 1 - t:Nat):Int):=fun t h1 h2=>by rw [zaf ..]; omega
 obtain ⟨n,h1,h2,h3,h4,h5⟩:=bs_any (fun y=>zbi (P.length:Int) ((P.length+A.length:Nat):Int) ((P.length+A.length+B.length:Nat):Int) (P++(A++(B++S))) f ((P.length+h:Nat):Int) y)
  (zaz (P.length:Int) ((P.length+A.length:Nat):Int) ((P.length+A.length+B.length:Nat):Int) (P++(A++(B++S))) f ((P.length+h:Nat):Int))
  (fun t=>¬ zbo (zad (P++(A++(B++S))) ((P.length+h+(P.length+A.length) - 1 - t:Nat):Int)) (zad (P++(A++(B++S))) (t:Int))=true) lo hi
  (fun s t g1 g2 g3 g4 q=>by
   rw [gA s g1 (by omega),gB s g1 (by omega),zax] at q;rw [gA t (by omega) g3,gB t (by omega) g3,zax] at g4;exact g4 (ah_of' (srt_at' hB (by omega) (by omega)) (ah_of q (srt_at hA (by omega) (by omega)))))
  (fun i j g1 g2 g3=>by
   have hm:lo<=(i+j) / 2/\(i+j) / 2<hi:=by omega
   unfold zbi;dsimp only;rw [ifT ..,mid_w i j (by omega)];generalize (i+j) / 2=c at hm;dsimp only [lt];rw [hn,hn1,hwp c hm.1 hm.2,zaa (by rw [hlen]; omega),zaa (by rw [hlen]; omega),zaa (by rw [hlen]; omega),zaa (by rw [hlen]; omega)];simp only [zcr];rw [zjc,zac];by_cases q:zbo (zad (P++(A++(B++S))) ((P.length+h+(P.length+A.length) - 1 - c:Nat):Int)) (zad (P++(A++(B++S))) (c:Int))=true
   ·rw [xab (n_f ((zjy _ _).2 q)),xab (xc8 q)]
   ·rw [xad (n_t (fun z=>q ((zjy _ _).1 z))),xad q,zaf ..]; rfl)
  (fun i g1 g2=>by
   unfold zbi;dsimp only;rw [ifF ..])
  _ lo hi rfl (xaf _) hlh (xaf _) (fun t g1 g2=>by omega) (fun t g1 g2=>by omega)
 obtain ⟨s,rfl⟩:∃ s,n=P.length+s:=⟨n - P.length,by omega⟩;have hs1:s<=A.length/\s<=h/\h - s<=B.length:=by omega
 have F1:∀ y∈B.take (h - s),∀ x∈A.drop s,ah y x:=by
  intro y hy x hx;obtain ⟨i,i1,i2,rfl⟩:=zl8 hy;obtain ⟨j,j1,j2,rfl⟩:=zlt hx;have hlt:P.length+s<hi:=by omega
  have:=xdo.1 (h4 (P.length+s) (xaf _) hlt);rw [gA _ h1 hlt,gB _ h1 hlt,zax] at this;have e:P.length+s - P.length=s:=by omega
  rw [e] at this;exact ah_of' (srt_at' hB (by omega) (by omega)) (ah_of this (srt_at' hA j1 j2))
 have F2:∀ x∈A.take s,∀ y∈B.drop (h - s),le x y:=by
  intro x hx y hy;obtain ⟨i,i1,i2,rfl⟩:=zl8 hx;obtain ⟨j,j1,j2,rfl⟩:=zlt hy;have hge:lo<=P.length+(s - 1):=by omega
  have:=h3 (P.length+(s - 1)) hge (by omega);rw [gA _ hge (by omega),gB _ hge (by omega),zax] at this;have e:P.length+(s - 1) - P.length=s - 1:=by omega
  have e2:h - 1 - (s - 1)=h - s:=by omega
  rw [e,e2] at this;exact le_trans (srt_at' hA (by omega) (by omega)) (le_trans this (srt_at' hB j1 j2))
 exact ⟨s,hs1.1,hs1.2.1,hs1.2.2,F1,F2,h5⟩
theorem sym_step (f:RecT)(P A B S:Cs)(hA:Srt A)(hB:Srt B)(hA0:A≠[])(hB0:B≠[])(hA1:A.length≠1)(hB1:B.length≠1)(hl:(P++(A++(B++S))).length<=1000000000000) :
  ∃ A1 A2 B1 B2,A=A1++A2/\B=B1++B2/\A1.length+B1.length=(A.length+B.length) / 2/\(∀ y∈B1,∀ x∈A2,ah y x)/\(∀ x∈A1,∀ y∈B2,le x y)/\
   zah f (P.length:Int) ((P.length+A.length:Nat):Int) ((P.length+A.length+B.length:Nat):Int) (P++(A++(B++S))) =
    ob (if (decide (0<A1.length)&&decide (0<B1.length))=true then f ((P.length:Int),((P.length+A1.length:Nat):Int),((P.length+A1.length+B1.length:Nat):Int),P++(A1++(B1++(A2++(B2++S))))) else some (P++(A1++(B1++(A2++(B2++S)))))) fun r=>
    if (decide (0<A2.length)&&decide (0<B2.length))=true then f (((P.length+A1.length+B1.length:Nat):Int),((P.length+A1.length+B1.length+A2.length:Nat):Int),((P.length+A1.length+B1.length+A2.length+B2.length:Nat):Int),r) else some r:=by
 have hl':=hl;simp only [xaa] at hl';have hu:=xa4.2 hA0;have hv:=xa4.2 hB0;have hlen:(P++(A++(B++S))).length=P.length+A.length+B.length+S.length:=by simp only [xaa]; omega
 obtain ⟨h,hh⟩:∃ h,h=(A.length+B.length) / 2:=⟨_,rfl⟩;have hmid:w64 (Int.fdiv (IntKind.u64.wrap (w64 ((P.length:Int)+((P.length+A.length+B.length:Nat):Int)))) (2 ^ (min (1:Int).toNat 64)))=((P.length+h:Nat):Int):=by
  rw [mid_w P.length (P.length+A.length+B.length) (by omega)]; omega
 have hn:w64 (((P.length+h:Nat):Int)+((P.length+A.length:Nat):Int))=((P.length+h+(P.length+A.length):Nat):Int):=by rw [zaf ..]; omega
 have hnb:h<A.length->w64 (((P.length+h+(P.length+A.length):Nat):Int) - ((P.length+A.length+B.length:Nat):Int))=((P.length+(h - B.length):Nat):Int):=fun q=>by rw [zaf ..]; omega
 obtain ⟨lo,hlo⟩:∃ lo,lo=P.length+(if h<A.length then h - B.length else 0):=⟨_,rfl⟩;obtain ⟨hi,hhi⟩:∃ hi,hi=P.length+(if h<A.length then h else A.length):=⟨_,rfl⟩;obtain ⟨s,s1,s2,s3,F1,F2,h5⟩:=sym_find f P A B S hA hB hA0 hB0 hA1 hB1 hl h lo hi hh hlo hhi;have hLA1:(A.take s).length=s:=by rw [xar]; omega
 have hLA2:(A.drop s).length=A.length - s:=xa8;have hLB1:(B.take (h - s)).length=h - s:=by rw [xar]; omega
 have hLB2:(B.drop (h - s)).length=B.length - (h - s):=xa8;have hsA:A=A.take s++A.drop s:=(xbp ..).symm;have hsB:B=B.take (h - s)++B.drop (h - s):=(xbp ..).symm;refine ⟨A.take s,A.drop s,B.take (h - s),B.drop (h - s),hsA,hsB,by omega,F1,F2,?_⟩;have hrow:P++(A++(B++S))=(P++A.take s)++(A.drop s++(B.take (h - s)++(B.drop (h - s)++S))):=by
  conv=>lhs; rw [hsA,hsB]
  simp only [xaj]
 unfold zah;rw [xab (d_f (by rw [zaf ..]; omega)),xab (d_f (by rw [zaf ..]; omega)),hmid];dsimp only [lt];rw [hn];have hst:(ob (if (decide (((P.length+h:Nat):Int)<((P.length+A.length:Nat):Int)))=true then some (w64 (((P.length+h+(P.length+A.length):Nat):Int) - ((P.length+A.length+B.length:Nat):Int)),((P.length+h:Nat):Int)) else some ((P.length:Int),((P.length+A.length:Nat):Int))) fun (v13:Int×Int)=>
   zbk (P.length:Int) ((P.length+A.length:Nat):Int) ((P.length+A.length+B.length:Nat):Int) (P++(A++(B++S))) f ((P.length+h:Nat):Int) (v13.1,v13.2)) =
   zbk (P.length:Int) ((P.length+A.length:Nat):Int) ((P.length+A.length+B.length:Nat):Int) (P++(A++(B++S))) f ((P.length+h:Nat):Int) ((lo:Int),(hi:Int)):=by
  by_cases c:h<A.length
  ·rw [ifT ..,hnb c,zac,hlo,hhi,xad c,xad c]
  ·rw [ifF ..,zac,hlo,hhi,xab c,xab c]; rfl
 refine hst.trans ?_;refine h5.trans ?_;unfold zaz;have hend:w64 (((P.length+h+(P.length+A.length):Nat):Int) - ((P.length+s:Nat):Int))=((P.length+h+(A.length - s):Nat):Int):=by rw [zaf ..]; omega
 rw [hn,hend];have hrot:(if ((decide (((P.length+s:Nat):Int)<((P.length+A.length:Nat):Int)))&&(decide (((P.length+A.length:Nat):Int)<((P.length+h+(A.length - s):Nat):Int))))=true then
   ob (zbl ((P.length+s:Nat):Int) ((P.length+A.length:Nat):Int) ((P.length+h+(A.length - s):Nat):Int) (P++(A++(B++S)))) fun x2=>some x2 else some (P++(A++(B++S))))=some (P++(A.take s++(B.take (h - s)++(A.drop s++(B.drop (h - s)++S))))):=by
  by_cases c:s<A.length/\s<h
  ·have:=rotate_eq (P++A.take s) (A.drop s) (B.take (h - s)) (B.drop (h - s)++S) (xa4.1 (by omega)) (xa4.1 (by omega)) (by rw [<- hrow]; exact hl) (a:=((P.length+s:Nat):Int)) (m:=((P.length+A.length:Nat):Int)) (b:=((P.length+h+(A.length - s):Nat):Int))
    (by rw [xaa,hLA1]) (by rw [xaa,hLA1,hLA2]; omega) (by rw [xaa,hLA1,hLA2,hLB1]; omega)
   rw [xad (an_t ⟨by omega,by omega⟩),ob_id,hrow,this]; simp only [xaj]
  ·rw [xab (an_f (by omega)),hrow];by_cases c2:s<A.length
   ·have:B.take (h - s)=[]:=xai (by omega);rw [this]; simp only [xaj,xbt]
   ·have:A.drop s=[]:=xai (by omega);rw [this]; simp only [xaj,xbt]
 rw [hrot,zac,hLA1,hLA2,hLB1,hLB2];simp only [ob_id];have c1:((decide ((P.length:Int)<((P.length+s:Nat):Int)))&&(decide (((P.length+s:Nat):Int)<((P.length+h:Nat):Int))))=(decide (0<s)&&decide (0<h - s)):=by
  rw [xb0]; simp only [xaw,xav]; omega
 have c2:((decide (((P.length+h:Nat):Int)<((P.length+h+(A.length - s):Nat):Int)))&&(decide (((P.length+h+(A.length - s):Nat):Int)<((P.length+A.length+B.length:Nat):Int))))=(decide (0<A.length - s)&&decide (0<B.length - (h - s))):=by
  rw [xb0]; simp only [xaw,xav]; omega
 have k1:((P.length+h:Nat):Int)=((P.length+s+(h - s):Nat):Int):=by omega
 have k2:((P.length+h+(A.length - s):Nat):Int)=((P.length+s+(h - s)+(A.length - s):Nat):Int):=by omega
 have k3:((P.length+A.length+B.length:Nat):Int)=((P.length+s+(h - s)+(A.length - s)+(B.length - (h - s)):Nat):Int):=by omega
 rw [c1,c2,<- k1,<- k2,<- k3]
theorem srtd_four {A1 A2 B1 B2:Cs}(hA:Srt (A1++A2))(hB:Srt (B1++B2))(h1:∀ y∈B1,∀ x∈A2,ah y x)(h2:∀ x∈A1,∀ y∈B2,le x y):zf3 (A1++B1)++zf3 (A2++B2)=zf3 ((A1++A2)++(B1++B2)):=by
 refine srtd_is (srt_app (zig _) (zig _) fun x hx y hy=>?_) ?_
 ·have hx:=(zgb (A1++B1)).mem hx;have hy:=(zgb (A2++B2)).mem hy
  rcases xax.1 hx with hx | hx
  ·rcases xax.1 hy with hy | hy
   ·exact pw_mid hA hx hy
   ·exact h2 x hx y hy
  ·rcases xax.1 hy with hy | hy
   ·exact le_of_ah (h1 x hx y hy)
   ·exact pw_mid hB hx hy
 ·have a:Stab (A2++B1) (B1++A2):=Stab.swap fun x hx y hy q=>zlq (h1 y hy x hx) (zep q);have b:Stab (A1++((A2++B1)++B2)) (A1++((B1++A2)++B2)):=Stab.app (Stab.refl _) (Stab.app a (Stab.refl _));have c:Stab ((A1++B1)++(A2++B2)) (zf3 (A1++B1)++zf3 (A2++B2)):=Stab.app (zgb _) (zgb _);simp only [xaj] at b c ⊢;exact b.trans c
where
 pw_mid {a b:Cs} {x y:Cell} (h:Srt (a++b)) (hx:x∈a) (hy:y∈b):le x y:=(xbj.1 h).2.2 x hx y hy
noncomputable def gM (x:Int×Int×Int×Cs):Cs:=x.2.2.2.take x.1.toNat++(zf3 ((x.2.2.2.take x.2.2.1.toNat).drop x.1.toNat)++x.2.2.2.drop x.2.2.1.toNat)
def iM (x:Int×Int×Int×Cs):Prop:=∃ P A B S:Cs,x=((P.length:Int),((P.length+A.length:Nat):Int),((P.length+A.length+B.length:Nat):Int),P++(A++(B++S)))/\A≠[]/\B≠[]/\Srt A/\Srt B/\(P++(A++(B++S))).length<=1000000000000
theorem gM_eq (P A B S:Cs):gM ((P.length:Int),((P.length+A.length:Nat):Int),((P.length+A.length+B.length:Nat):Int),P++(A++(B++S)))=P++(zf3 (A++B)++S):=by
 unfold gM;dsimp only;rw [xbs,xbs];have e1:(P++(A++(B++S))).take P.length=P:=xd4;have e2:P++(A++(B++S))=(P++(A++B))++S:=by simp only [xaj]
 have e3:P.length+A.length+B.length=(P++(A++B)).length:=by simp only [xaa]; omega
 rw [e1,e2,e3,xd4,xen,xen]
theorem sym_eq {P A B S:Cs}(hA0:A≠[])(hB0:B≠[])(hA:Srt A)(hB:Srt B)(hl:(P++(A++(B++S))).length<=1000000000000) :
  zby (P.length:Int) ((P.length+A.length:Nat):Int) ((P.length+A.length+B.length:Nat):Int) (P++(A++(B++S)))=some (P++(zf3 (A++B)++S)):=by
 have one:∀ (f:RecT) (P A B S:Cs),A≠[]->B≠[]->Srt A->Srt B->(P++(A++(B++S))).length<=1000000000000->A.length=1\/B.length=1->
   zah f (P.length:Int) ((P.length+A.length:Nat):Int) ((P.length+A.length+B.length:Nat):Int) (P++(A++(B++S)))=some (P++(zf3 (A++B)++S)):=by
  intro f P A B S hA0 hB0 hA hB hl h;by_cases c:A.length=1
  ·obtain ⟨x,rfl⟩:=List.length_eq_one_iff.1 c;exact sym_one f P x B S hB hl
  ·have c2:B.length=1:=by omega
   obtain ⟨x,rfl⟩:=List.length_eq_one_iff.1 c2;exact sym_last f P A x S hA c hl
 have first:∀ (P A1 A2 B1 B2 S:Cs) (hA:Srt (A1++A2)) (hB:Srt (B1++B2)),¬ (0<A1.length/\0<B1.length)->zf3 (A1++B1)=A1++B1:=by
  intro P A1 A2 B1 B2 S hA hB h;have a:=(xbj.1 hA).1;have b:=(xbj.1 hB).1;by_cases c:A1.length=0
  ·rw [xai c]; exact zk8 b
  ·rw [xai (show B1.length=0 by omega),xbh]; exact zk8 a
 have last:∀ (P A1 A2 B1 B2 S:Cs) (hA:Srt (A1++A2)) (hB:Srt (B1++B2)),¬ (0<A2.length/\0<B2.length)->zf3 (A2++B2)=A2++B2:=by
  intro P A1 A2 B1 B2 S hA hB h;have a:=(xbj.1 hA).2.1;have b:=(xbj.1 hB).2.1;by_cases c:A2.length=0
  ·rw [xai c]; exact zk8 b
  ·rw [xai (show B2.length=0 by omega),xbh]; exact zk8 a
 have y1:∀ (P A1 A2 B1 B2 S:Cs),Srt (A1++A2)->Srt (B1++B2)->0<A1.length->0<B1.length->(P++((A1++A2)++((B1++B2)++S))).length<=1000000000000->iM ((P.length:Int),((P.length+A1.length:Nat):Int),((P.length+A1.length+B1.length:Nat):Int),P++(A1++(B1++(A2++(B2++S))))):=
  fun P A1 A2 B1 B2 S hA hB ha hb hl=>⟨P,A1,B1,A2++(B2++S),rfl,xa4.1 ha,xa4.1 hb,(xbj.1 hA).1,(xbj.1 hB).1,by simp only [xaa] at hl ⊢; omega⟩
 have y2:∀ (P A1 A2 B1 B2 S:Cs),Srt (A1++A2)->Srt (B1++B2)->0<A2.length->0<B2.length->(P++((A1++A2)++((B1++B2)++S))).length<=1000000000000->
   iM (((P.length+A1.length+B1.length:Nat):Int),((P.length+A1.length+B1.length+A2.length:Nat):Int),((P.length+A1.length+B1.length+A2.length+B2.length:Nat):Int),P++(zf3 (A1++B1)++(A2++(B2++S))))/\
   gM (((P.length+A1.length+B1.length:Nat):Int),((P.length+A1.length+B1.length+A2.length:Nat):Int),((P.length+A1.length+B1.length+A2.length+B2.length:Nat):Int),P++(zf3 (A1++B1)++(A2++(B2++S))))=P++(zf3 (A1++B1)++(zf3 (A2++B2)++S)):=by
  intro P A1 A2 B1 B2 S hA hB ha hb hl;have e:P.length+A1.length+B1.length=(P++zf3 (A1++B1)).length:=by rw [xaa,zea,xaa]; omega
  have e2:P++(zf3 (A1++B1)++(A2++(B2++S)))=(P++zf3 (A1++B1))++(A2++(B2++S)):=by simp only [xaj]
  rw [e,e2];refine ⟨⟨P++zf3 (A1++B1),A2,B2,S,rfl,xa4.1 ha,xa4.1 hb,(xbj.1 hA).2.1,(xbj.1 hB).2.1,?_⟩,?_⟩
  ·simp only [xaa,zea] at hl ⊢; omega
  ·rw [gM_eq]; simp only [xaj]
 have:=recO_spec (S:=fun rec (x:Int×Int×Int×Cs)=>zah rec x.1 x.2.1 x.2.2.1 x.2.2.2) iM (fun x=>(x.2.2.1 - x.1).toNat) gM
  (by
   rintro x f ⟨P,A,B,S,rfl,hA0,hB0,hA,hB,hl⟩ ih r e;dsimp only at ih e;rw [gM_eq];have hu:=xa4.2 hA0;have hv:=xa4.2 hB0;by_cases c:A.length=1\/B.length=1
   ·rw [one f P A B S hA0 hB0 hA hB hl c] at e; exact (zjl e).symm
   ·obtain ⟨A1,A2,B1,B2,rfl,rfl,hh,F1,F2,hS⟩:=sym_step f P A B S hA hB hA0 hB0 (by omega) (by omega) hl;rw [hS] at e;obtain ⟨r2,e1,e2⟩:=ob_elim e;rw [<- srtd_four hA hB F1 F2];simp only [xaa] at ih hh c hu hv;have hr2:r2=P++(zf3 (A1++B1)++(A2++(B2++S))):=by
     by_cases c1:0<A1.length/\0<B1.length
     ·rw [xad (an_t c1)] at e1;have:=ih _ r2 (y1 P A1 A2 B1 B2 S hA hB c1.1 c1.2 hl) (by dsimp only; omega) e1;rw [this,gM_eq]
     ·rw [xab (an_f c1)] at e1;rw [first P A1 A2 B1 B2 S hA hB c1,<- zjl e1]; simp only [xaj]
    rw [hr2] at e2;by_cases c2:0<A2.length/\0<B2.length
    ·rw [xad (an_t c2)] at e2;obtain ⟨k1,k2⟩:=y2 P A1 A2 B1 B2 S hA hB c2.1 c2.2 hl;have:=ih _ r k1 (by dsimp only; omega) e2;rw [this,k2]; simp only [xaj]
    ·rw [xab (an_f c2)] at e2;rw [last P A1 A2 B1 B2 S hA hB c2,<- zjl e2]; simp only [xaj])
  (by
   rintro x f ⟨P,A,B,S,rfl,hA0,hB0,hA,hB,hl⟩ ih;dsimp only at ih ⊢;rw [gM_eq];have hu:=xa4.2 hA0;have hv:=xa4.2 hB0;by_cases c:A.length=1\/B.length=1
   ·exact one f P A B S hA0 hB0 hA hB hl c
   ·obtain ⟨A1,A2,B1,B2,rfl,rfl,hh,F1,F2,hS⟩:=sym_step f P A B S hA hB hA0 hB0 (by omega) (by omega) hl;rw [hS,<- srtd_four hA hB F1 F2];simp only [xaa] at ih hh c hu hv;have hr2:(if (decide (0<A1.length)&&decide (0<B1.length))=true then f ((P.length:Int),((P.length+A1.length:Nat):Int),((P.length+A1.length+B1.length:Nat):Int),P++(A1++(B1++(A2++(B2++S))))) else some (P++(A1++(B1++(A2++(B2++S))))))=some (P++(zf3 (A1++B1)++(A2++(B2++S)))):=by
     by_cases c1:0<A1.length/\0<B1.length
     ·rw [xad (an_t c1),ih _ (y1 P A1 A2 B1 B2 S hA hB c1.1 c1.2 hl) (by dsimp only; omega),gM_eq]
     ·rw [xab (an_f c1),first P A1 A2 B1 B2 S hA hB c1]; simp only [xaj]
    rw [hr2,zac];by_cases c2:0<A2.length/\0<B2.length
    ·obtain ⟨k1,k2⟩:=y2 P A1 A2 B1 B2 S hA hB c2.1 c2.2 hl;rw [xad (an_t c2),ih _ k1 (by dsimp only; omega),k2]; simp only [xaj]
    ·rw [xab (an_f c2),last P A1 A2 B1 B2 S hA hB c2]; simp only [xaj])
  (x:=((P.length:Int),((P.length+A.length:Nat):Int),((P.length+A.length+B.length:Nat):Int),P++(A++(B++S)))) ⟨P,A,B,S,rfl,hA0,hB0,hA,hB,hl⟩
 unfold zby
 rw [this,gM_eq]
theorem srtd_nil:zf3 []=[]:=zk8 .nil
inductive Chs (bs:Nat):Cs->Cs->Prop
 | last (l:Cs) (h:l.length<=bs):Chs bs l (zf3 l)
 | more (A l r:Cs) (h:A.length=bs) (t:Chs bs l r):Chs bs (A++l) (zf3 A++r)
theorem Chs.len {bs:Nat}{l r:Cs}(h:Chs bs l r):r.length=l.length:=by
 induction h with
 | last l h=>exact zea l
 | more A l r h t ih=>rw [xaa,xaa,zea,ih]
theorem Chs.short {bs:Nat}{l r:Cs}(h:Chs bs l r)(h0:0<bs)(hl:l.length<=bs):r=zf3 l:=by
 cases h with
 | last _ h=>rfl
 | more A l r h t=>
  have:l=[]:=xai (by rw [xaa] at hl; omega);subst this;have:=t.len;have:r=[]:=xai (by simpa using this);rw [this,xbh,xbh]
theorem Chs.two {bs:Nat}{l r:Cs}(h:Chs bs l r)(h0:0<bs)(hl:bs<l.length):∃ A l' r',l=A++l'/\r=zf3 A++r'/\A.length=bs/\Chs bs l' r':=by
 cases h with
 | last _ h=>omega
 | more A l r h t=>exact ⟨A,l,r,rfl,rfl,h,t⟩
theorem stab2 (A B:Cs):zf3 (zf3 A++zf3 B)=zf3 (A++B):=srtd_congr (Stab.app (zgb A) (zgb B))
theorem first_pass (num:Int):∀ (n:Nat) (P l:Cs),l.length=n->num=((P.length+l.length:Nat):Int)->(P++l).length<=500000000000->
  ∃ r,Chs 20 l r/\zbt num (P++l,(P.length:Int),((P.length+20:Nat):Int))=zav num (P++r,20):=by
 intro n
 induction n using Nat.strongRecOn with
 | _ n ih=>
  intro P l e hn hl;have hl':=hl;rw [xaa] at hl';by_cases c:20<=l.length
  ·have hsp:l=l.take 20++l.drop 20:=(xbp ..).symm;have h1:(l.take 20).length=20:=by rw [xar]; omega
   have h2:(l.drop 20).length=l.length - 20:=xa8;generalize l.take 20=A at *
   generalize l.drop 20=l2 at *
   subst hsp;have hp:(P++zf3 A).length=P.length+20:=by rw [xaa,zea,h1]
   obtain ⟨r,r1,r2⟩:=ih l2.length (by rw [xaa] at e; omega) (P++zf3 A) l2 rfl (by rw [hn,hp,xaa]; omega) (by rw [xaa,hp]; rw [xaa] at hl'; omega);refine ⟨zf3 A++r,.more A l2 r h1 r1,?_⟩;have hi:=insertion_eq P A l2 (by simp only [xaa] at hl ⊢; omega);rw [h1] at hi;rw [hp] at r2;refine (zaj ?_).trans (r2.trans (by simp only [xaj]));unfold zbv;dsimp only;rw [ifT ..,hi,zac,zaf ..,xaj];rfl
  ·refine ⟨zf3 l,.last l (by omega),?_⟩;have hi:=insertion_eq P l [] (by simpa using (by omega:P.length+l.length<=1000000000000));simp only [xbh] at hi;have hB:zbv num (P++l,(P.length:Int),((P.length+20:Nat):Int))=zey (zav num (P++zf3 l,20)):=by
    unfold zbv;dsimp only;rw [ifF ..];unfold zcd;dsimp only;rw [hn,hi,zac]
   unfold zbt;rw [zn4,hB];cases zav num (P++zf3 l,20) <;> rfl
theorem second_pass (num:Int)(bs:Nat)(h0:0<bs)(h1:bs<=1000000000000)(z:Cs):∀ (n:Nat) (P l r:Cs),l.length=n->Chs bs l r->num=((P.length+l.length:Nat):Int)->(P++l).length<=500000000000->
  ∃ r',Chs (2*bs) l r'/\zdg num (z,(bs:Int)) (P++r,(P.length:Int),((P.length+2*bs:Nat):Int))=some (.inl (P++r',((2*bs:Nat):Int))):=by
 intro n;have hw2:w64 (2*(bs:Int))=((2*bs:Nat):Int):=by rw [zaf ..]; omega
 have hw3:w64 ((bs:Int)*2)=((2*bs:Nat):Int):=by rw [zaf ..]; omega
 induction n using Nat.strongRecOn with
 | _ n ih=>
  intro P l r e hc hn hl;have hl':=hl;rw [xaa] at hl';have hwa:w64 ((P.length:Int)+(bs:Int))=((P.length+bs:Nat):Int):=by rw [zaf ..]; omega
  by_cases c:2*bs<=l.length
  ·obtain ⟨A,l1,r1,rfl,rfl,hA,hc1⟩:=hc.two h0 (by omega);rw [xaa] at c e hl';obtain ⟨B,l2,r2,hl1,hr1,hB,hc2⟩:∃ B l2 r2,l1=B++l2/\r1=zf3 B++r2/\B.length=bs/\Chs bs l2 r2:=by
    by_cases q:bs<l1.length
    ·exact hc1.two h0 q
    ·refine ⟨l1,[],[],by simp,by rw [hc1.short h0 (by omega)]; simp,by omega,?_⟩;have:=Chs.last (bs:=bs) [] (by simp);rwa [srtd_nil] at this
   subst hl1 hr1;rw [xaa] at c e hl';have hr2:=hc2.len;have hs:=sym_eq (P:=P) (A:=zf3 A) (B:=zf3 B) (S:=r2) (xa4.1 (by rw [zea]; omega)) (xa4.1 (by rw [zea]; omega)) (zig A) (zig B) (by simp only [xaa,zea]; omega);rw [zea,zea,stab2,hA,hB] at hs;have e2:P.length+bs+bs=P.length+2*bs:=by omega
   rw [e2] at hs;have hp:(P++zf3 (A++B)).length=P.length+2*bs:=by rw [xaa,zea,xaa]; omega
   obtain ⟨r',k1,k2⟩:=ih l2.length (by omega) (P++zf3 (A++B)) l2 r2 rfl hc2 (by rw [hn,hp]; simp only [xaa]; omega) (by rw [xaa,hp]; omega);refine ⟨zf3 (A++B)++r',?_,?_⟩
   ·have:=Chs.more (bs:=2*bs) (A++B) l2 r' (by rw [xaa]; omega) k1;rwa [xaj] at this
   ·rw [hp] at k2;refine (zaj ?_).trans (k2.trans (by simp only [xaj]));unfold zcb;dsimp only;rw [xad (d_t (by rw [hn]; simp only [xaa]; omega)),hwa,hs,zac,hw2,zaf ..,xaj];have:((P.length+2*bs:Nat):Int)+((2*bs:Nat):Int)=((P.length+2*bs+2*bs:Nat):Int):=by omega
    rw [this]
  ·refine ⟨zf3 l,.last l (by omega),zae ?_⟩;unfold zcb;dsimp only;rw [ifF ..];unfold zca;dsimp only;rw [hwa,hw3];by_cases q:bs<l.length
   ·obtain ⟨A,l1,r1,rfl,rfl,hA,hc1⟩:=hc.two h0 q;rw [xaa] at c q hl';have hr1:=hc1.short h0 (by omega);subst hr1;have hs:=sym_eq (P:=P) (A:=zf3 A) (B:=zf3 l1) (S:=[]) (xa4.1 (by rw [zea]; omega)) (xa4.1 (by rw [zea]; omega)) (zig A) (zig l1) (by simp only [xaa,zea,xa3]; omega);rw [zea,zea,stab2,hA,xbh,xbh] at hs;have e3:num=((P.length+bs+l1.length:Nat):Int):=by rw [hn,xaa]; omega
    rw [xad (d_t (by rw [e3]; omega)),e3,hs]; rfl
   ·rw [ifF ..,hc.short h0 (by omega)]; rfl
theorem all_passes (l:Cs)(hl:l.length<=500000000000):∀ (n bs:Nat) (r:Cs),l.length - bs=n->0<bs->bs<=1000000000000->Chs bs l r->zav (l.length:Int) (r,(bs:Int))=some (zf3 l):=by
 intro n
 induction n using Nat.strongRecOn with
 | _ n ih=>
  intro bs r e h0 h1 hc;by_cases c:bs<l.length
  ·obtain ⟨r',k1,k2⟩:=second_pass (l.length:Int) bs h0 h1 r _ [] l r rfl hc (by simp) (by simpa using hl);refine (zaj ?_).trans (ih (l.length - 2*bs) (by omega) (2*bs) r' rfl (by omega) (by omega) k1);unfold zcc;dsimp only;have hw2:w64 (2*(bs:Int))=((2*bs:Nat):Int):=by rw [zaf ..]; omega
   rw [ifT ..,hw2];simpa using k2
  ·refine zae ?_;unfold zcc;dsimp only;rw [ifF ..,hc.short h0 (by omega)]; rfl
theorem stable_eq (l:Cs)(hl:l.length<=500000000000):za5 l=some (zf3 l):=by
 unfold za5 zcq;obtain ⟨r,k1,k2⟩:=first_pass (l.length:Int) _ [] l rfl (by simp) (by simpa using hl);have:=all_passes l hl _ 20 r rfl (by omega) (by omega) k1;have k2':zbt (l.length:Int) (l,0,20)=zav (l.length:Int) (r,20):=k2;rw [k2'];have h20:((20:Nat):Int)=20:=rfl;rw [h20] at this;rw [this]; rfl
theorem ord_zero (a b:Cell):ord a b=0↔key a b:=by
 unfold ord;constructor
 ·intro h;split at h
  ·cases h
  ·rename_i h1;split at h
   ·cases h
   ·rename_i h2
    rcases ah_tri a b with q | q | q
    ·exact absurd ((zax _ _).2 q) h1
    ·exact q
    ·exact absurd ((zax _ _).2 q) h2
 ·intro h;rw [xab (fun q=>zlq ((zax _ _).1 q) h),xab (fun q=>zlq ((zax _ _).1 q) (zep h))]
theorem same_eq (a b:Cell):zhx a b=some (decide (key a b)):=by
 unfold zhx;rw [zjc,zac];congr 1;rw [xb0,xek,xek,ord_zero]
noncomputable def ddpP:Cell->Cs->Cs
 | _,[]=>[]
 | y,x::l=>if key x y then ddpP x l else x::ddpP x l
noncomputable def ddp:Cs->Cs
 | []=>[]
 | x::l=>x::ddpP x l
theorem lclear_take {α:Type}(l:List α)(k n:Nat)(z:α)(h:k<=l.length):(lclear l k n z).take k=l.take k/\k<=(lclear l k n z).length:=by
 unfold lclear;have e:(l.take k).length=k:=by rw [xar]; omega
 constructor
 ·rw [xaj,List.take_append_of_le_length (by omega),List.take_of_length_le (by omega)]
 ·rw [xaa,xaa,e]; omega
theorem compact_in (row:Cs)(v1:Int)(k0:Nat)(hv:v1=(k0:Int))(hl:row.length<=500000000000):∀ (l D G:Cs) (y:Cell) (k2:Nat),1<=k2->D.length+G.length+1=k0+k2->(D++(G++y::l)).length=row.length->
  zbs row v1 (D++(G++y::l),(D.length:Int),(k2:Int))=some (.inr (D++ddpP y l))
 | [],D,G,y,k2,h1,h2,h3=>by
  have h3':=h3;simp only [xaa,xal,xa3] at h3';refine zae ?_;unfold za4;dsimp only;rw [hv,xbs,ifF ..];unfold zbq;dsimp only;rw [xbs,zaa (by rw [h3]; omega)];dsimp only [lt];obtain ⟨c1,c2⟩:=lclear_take (D++(G++[y])) D.length ((D++(G++[y])).length - D.length) (⟨([]:B8),([]:B8),0,false,([]:B8)⟩:Cell) (by rw [h3]; omega);rw [zaa ..,zaa c2,c1,xd4,ddpP,xbh]; rfl
 | z::l,D,G,y,k2,h1,h2,h3=>by
  have h3':=h3;simp only [xaa,xal] at h3';have e1:D++(G++y::z::l)=(D++G)++y::([]++z::l):=by simp
  have g1:zad (D++(G++y::z::l)) ((k0+k2:Nat):Int)=z:=by
   rw [e1]; exact sw_j (D++G) [] l y z (by simp only [xaa,xa3]; omega)
  have g2:zad (D++(G++y::z::l)) ((k0+(k2 - 1):Nat):Int)=y:=by
   rw [e1];have:=sw_i (D++G) [] l y z;rw [xaa] at this;exact Eq.trans (congrArg _ (by omega)) this
  have w1:w64 ((k2:Int) - 1)=((k2 - 1:Nat):Int):=by rw [zaf ..]; omega
  have w2:w64 ((k2:Int)+1)=((k2+1:Nat):Int):=by rw [zaf ..]; omega
  have hB:za4 row v1 (D++(G++y::z::l),(D.length:Int),(k2:Int))=some (.inl (if key z y then (D++(G++y::z::l),(D.length:Int),((k2+1:Nat):Int)) else (zmc (D++(G++y::z::l)) (D.length:Int) z,((D.length+1:Nat):Int),((k2+1:Nat):Int)))):=by
   unfold za4;dsimp only;rw [hv,xbs,xbs,w1,xbs,w2,ifT ..,zaa ..,zaa (by rw [h3]; omega),zaa ..,zaa (by rw [h3]; omega),g1,g2];simp only [zcr];rw [same_eq,zac];by_cases c:key z y
   ·rw [xab (n_f c),xad c]; rfl
   ·rw [xad (n_t c),xab c,zaa ..,zaa (by rw [h3]; omega),zaa (by rw [h3]; omega),zaa (by rw [h3]; omega)];dsimp only [lt];rw [zac,zaf ..]; rfl
  by_cases c:key z y
  ·rw [xad c] at hB;have ih:=compact_in row v1 k0 hv hl l D (G++[y]) z (k2+1) (by omega) (by simp only [xaa,xal,xa3]; omega) (by rw [<- h3]; simp);have e2:D++(G++[y]++z::l)=D++(G++y::z::l):=by simp
   rw [e2] at ih;rw [ddpP,xad c];exact (zaj hB).trans ih
  ·rw [xab c] at hB;obtain ⟨G',hG'⟩:∃ G',zmc (D++(G++y::z::l)) (D.length:Int) z=(D++[z])++(G'++z::l)/\G'.length=G.length:=by
    cases G with
    | nil=>exact ⟨[],by rw [xbt,znz]; simp,rfl⟩
    | cons g G=>exact ⟨G++[y],by rw [xbn,znz]; simp,by simp⟩
   have ih:=compact_in row v1 k0 hv hl l (D++[z]) G' z (k2+1) (by omega) (by simp only [xaa,xal,xa3]; omega) (by rw [<- hG'.1,zj8]; exact h3);rw [hG'.1] at hB;rw [ddpP,xab c];have e3:(((D++[z]).length:Nat):Int)=((D.length+1:Nat):Int):=by simp
   rw [e3] at ih;refine (zaj hB).trans (ih.trans ?_);simp
theorem compact_out (row:Cs)(hl:row.length<=500000000000):∀ (l D:Cs) (y:Cell),row=D++y::l->zci row ((D.length+1:Nat):Int)=some (D++y::ddpP y l)
 | [],D,y,h=>by
  refine zae ?_;unfold za2;rw [xab (d_f (by rw [h]; simp))];unfold zbr;rw [h,ddpP]; rfl
 | x::l,D,y,h=>by
  have hlen:row.length=D.length+2+l.length:=by rw [h]; simp; omega
  have e1:row=D++y::([]++x::l):=h;have g1:zad row ((D.length+1:Nat):Int)=x:=by rw [e1]; exact sw_j D [] l y x rfl
  have g2:zad row (D.length:Int)=y:=by rw [e1]; exact sw_i D [] l y x
  have w1:w64 (((D.length+1:Nat):Int) - 1)=(D.length:Int):=by rw [zaf ..]; omega
  have w2:w64 (((D.length+1:Nat):Int)+1)=(((D++[y]).length+1:Nat):Int):=by rw [zaf ..]; simp
  by_cases c:key x y
  ·rw [ddpP,xad c];refine zae ?_;unfold za2;rw [w1,ifT ..,zaa ..,zaa ..,zaa ..,zaa ..,g1,g2];simp only [zcr];rw [same_eq,zac,xad (d_t c),zaa ..];have:=compact_in row ((D.length+1:Nat):Int) (D.length+1) rfl hl l (D++[y]) [] x 1 (by omega) (by simp) (by rw [h]; simp);have e4:D++[y]++([]++x::l)=row:=by rw [h]; simp
   have e5:(((D++[y]).length:Nat):Int)=((D.length+1:Nat):Int):=by simp
   rw [e4,e5] at this;refine Eq.trans (b:=zbs row ((D.length+1:Nat):Int) (row,((D.length+1:Nat):Int),((1:Nat):Int))) rfl (this.trans ?_);simp
  ·rw [ddpP,xab c];have ih:=compact_out row hl l (D++[y]) x (by rw [h]; simp);refine (zaj ?_).trans (ih.trans (by simp));unfold za2;rw [w1,w2,ifT ..,zaa ..,zaa ..,zaa ..,zaa ..,g1,g2];simp only [zcr];rw [same_eq,zac,xab (d_f c)]
theorem compact_eq (l:Cs)(hl:l.length<=500000000000):zbb l=some (ddp l):=by
 unfold zbb
 match l with
 | []=>rw [xad (by simp)]; rfl
 | [x]=>rw [xad (by simp)]; rfl
 | x::y::l=>
  rw [xab (d_f (by simp only [xal]; omega))];exact compact_out (x::y::l) hl (y::l) [] x rfl
theorem ddp_firsts:∀ (l:Cs) (y:Cell),Srt (y::l)->Firsts (y::l) (y::ddpP y l)
 | [],y,h=>by
  refine ⟨xe0 _ _,fun c=>?_⟩;rw [ddpP,zjx,xba];by_cases q:key c y
  ·rw [xad q];simp only [xe8,Option.some.injEq];exact eq_comm
  ·rw [xab q];constructor
   ·rintro rfl; exact absurd (zkf c) q
   ·intro e; simp [fk] at e
 | x::l,y,h=>by
  obtain ⟨p1,p2⟩:=xbu.1 h;obtain ⟨i1,i2⟩:=ddp_firsts l x p2;obtain ⟨j1,j2⟩:=xbu.1 i1;have hyx:=p1 x (xbo ..);rw [ddpP];by_cases c:key x y
  ·rw [xad c];have hy:∀ z∈ddpP x l,ah y z:=fun z hz=>ah_left c (j1 z hz);refine ⟨xbu.2 ⟨hy,j2⟩,fun w=>?_⟩;rw [zjx];by_cases q:key w y
   ·rw [xad q];simp only [xe8,Option.some.injEq];constructor
    ·intro hw
     rcases xaq.1 hw with e | e
     ·exact e.symm
     ·exact absurd (zep q) (zlq (hy w e))
    ·rintro rfl; exact xbo ..
   ·rw [xab q,<- i2 w];constructor
    ·intro hw
     rcases xaq.1 hw with e | e
     ·rw [e] at q; exact absurd (zkf y) q
     ·exact xb3 _ e
    ·intro hw
     rcases xaq.1 hw with e | e
     ·rw [e] at q; exact absurd c q
     ·exact xb3 _ e
  ·rw [xab c];have hxy:ah y x:=by
    rcases le_or hyx with e | e
    ·exact e
    ·exact absurd (zep e) c
   have hy:∀ z∈x::ddpP x l,ah y z:=fun z hz=>by
    rcases xaq.1 hz with e | e
    ·rw [e]; exact hxy
    ·exact zko hxy (j1 z e)
   refine ⟨xbu.2 ⟨hy,i1⟩,fun w=>?_⟩;rw [zjx];by_cases q:key w y
   ·rw [xad q];simp only [xe8,Option.some.injEq];constructor
    ·intro hw
     rcases xaq.1 hw with e | e
     ·exact e.symm
     ·exact absurd (zep q) (zlq (hy w e))
    ·rintro rfl; exact xbo ..
   ·rw [xab q,<- i2 w];constructor
    ·intro hw
     rcases xaq.1 hw with e | e
     ·rw [e] at q; exact absurd (zkf y) q
     ·exact e
    ·intro hw; exact xb3 _ hw
theorem ddp_srtd (l:Cs):Firsts l (ddp (zf3 l)):=by
 have h:Firsts (zf3 l) (ddp (zf3 l)):=by
  cases hs:zf3 l with
  | nil=>exact ⟨.nil,fun c=>by simp [ddp,fk]⟩
  | cons y t=>
   have:=zig l;rw [hs] at this;exact ddp_firsts t y this
 exact h.stab (zgb l)
theorem grow_eqC (n:Nat)(hn:n<=500000000000):zb3 (n:Int)=some []:=by
 unfold zb3;have h0:w64 (0 - 0)=0:=by decide
 have hw:w64 ((n:Int) - 0)=(n:Int):=by rw [zaf ..]; omega
 rw [h0,hw,ifF ..,zac];by_cases c:0<n
 ·rw [ifT ..,zaa ..,zaa (by simp)];dsimp only [lt];rw [zaa (by simp),zac]; rfl
 ·rw [ifF ..,zac]
theorem cat_loop (L:List Cs)(hf:L.flatten.length<=500000000000)(hL:L.length<=500000000000):∀ (R D:List Cs),L=D++R->zcm L (D.flatten,(D.length:Int))=some L.flatten
 | [],D,h=>by
  refine zae ?_;unfold zcl;dsimp only;rw [xab (d_f (by rw [h]; simp))];unfold zcn;rw [h,xbh]; rfl
 | g::R,D,h=>by
  have ih:=cat_loop L hf hL R (D++[g]) (by rw [h]; simp);have hlen:L.length=D.length+1+R.length:=by rw [h]; simp; omega
  have hg:zad L (D.length:Int)=g:=by rw [h]; simp [zad]
  have hfl:(D.flatten++g).length<=500000000000:=by
   have:L.flatten.length=(D.flatten++g).length+R.flatten.length:=by rw [h]; simp; omega
   omega
  refine (zaj ?_).trans ih;unfold zcl;dsimp only;rw [ifT ..,zaa ..,hg,zaa ..,zaf ..];have e1:(D++[g]).flatten=D.flatten++g:=by simp
  have e2:(((D++[g]).length:Nat):Int)=(D.length:Int)+1:=by simp
  rw [e1,e2]
theorem cat_size (L:List Cs)(hf:L.flatten.length<=500000000000)(hL:L.length<=500000000000):∀ (R D:List Cs),L=D++R->zdl L ((D.flatten.length:Int),(D.length:Int))=some L.flatten
 | [],D,h=>by
  have hB:zbz L ((D.flatten.length:Int),(D.length:Int))=some (.inr L.flatten):=by
   unfold zbz;dsimp only;rw [xab (d_f (by rw [h]; simp))];unfold zck;have hD:D.flatten.length<=500000000000:=by
    have:L=D:=by rw [h]; simp
    rw [<- this]; exact hf
   rw [grow_eqC _ hD,zac];have:=cat_loop L hf hL L [] rfl;have this':zcm L ([],0)=some L.flatten:=this;rw [this']; rfl
  exact zae hB
 | g::R,D,h=>by
  have ih:=cat_size L hf hL R (D++[g]) (by rw [h]; simp);have hlen:L.length=D.length+1+R.length:=by rw [h]; simp; omega
  have hg:zad L (D.length:Int)=g:=by rw [h]; simp [zad]
  have hfl:D.flatten.length+g.length<=500000000000:=by
   have:L.flatten.length=D.flatten.length+g.length+R.flatten.length:=by rw [h]; simp; omega
   omega
  refine (zaj ?_).trans ih;unfold zbz;dsimp only;rw [ifT ..,zaa ..,hg];have w1:w64 ((D.flatten.length:Int)+(g.length:Int))=(((D++[g]).flatten.length:Nat):Int):=by
   have e1:(D++[g]).flatten.length=D.flatten.length+g.length:=by simp
   rw [e1,zaf ..]; omega
  have e2:(((D++[g]).length:Nat):Int)=(D.length:Int)+1:=by simp
  rw [w1,ifF ..,zac,zaf ..,e2]
theorem concat_eq (L:List Cs)(hf:L.flatten.length<=500000000000)(hL:L.length<=500000000000):zct L=some L.flatten:=cat_size L hf hL L [] rfl
noncomputable def firsts (l:Cs):Cs:=ddp (zf3 l)
theorem zgg (l:Cs):Firsts l (firsts l):=ddp_srtd l
theorem zm4 {l x:Cs}(h:Firsts l x):x=firsts l:=firsts_uniq h (zgg l)
theorem merge_eq (L:List Cs)(hf:L.flatten.length<=500000000000)(hL:L.length<=500000000000):zku L=some (firsts L.flatten):=by
 unfold zku;rw [concat_eq L hf hL,zac,stable_eq _ hf,zac,compact_eq _ (by rw [zea]; exact hf),zac]; rfl
theorem Firsts.put {m l x:Cs}{c:Cell}(h:Firsts m l)(hx:x.Pairwise ah)(hm:∀ w,w∈x↔w=c\/(w∈l/\¬ key w c)):Firsts (c::m) x:=by
 refine ⟨hx,fun w=>?_⟩;rw [hm,zjx];by_cases q:key w c
 ·rw [xad q];simp only [xe8,Option.some.injEq];constructor
  ·rintro (e | ⟨_,e⟩)
   ·exact e.symm
   ·exact absurd q e
  ·intro e; exact .inl e.symm
 ·rw [xab q,<- h.2 w];constructor
  ·rintro (e | ⟨e,_⟩)
   ·rw [e] at q; exact absurd (zkf c) q
   ·exact e
  ·intro e; exact .inr ⟨e,q⟩
theorem split_at (c:Cell):∀ l:Cs,l.Pairwise ah->∃ u v,l=u++v/\(∀ x∈u,ah x c)/\(∀ x∈v,¬ ah x c)
 | [],_=>⟨[],[],rfl,by simp,by simp⟩
 | a::l,h=>by
  obtain ⟨p1,p2⟩:=xbu.1 h;by_cases q:zbo a c=true
  ·obtain ⟨u,v,rfl,h1,h2⟩:=split_at c l p2;exact ⟨a::u,v,rfl,fun x hx=>by
    rcases xaq.1 hx with e | e
    ·rw [e]; exact (zax _ _).1 q
    ·exact h1 x e,h2⟩
  ·have q':¬ ah a c:=fun z=>q ((zax _ _).2 z);exact ⟨[],a::l,rfl,by simp,fun x hx=>by
    rcases xaq.1 hx with e | e
    ·rw [e]; exact q'
    ·exact fun z=>q' (zko (p1 x e) z)⟩
theorem put_loop (c:Cell)(u v:Cs)(hu:∀ x∈u,ah x c)(hv:∀ x∈v,¬ ah x c)(hl:(u++v).length<=1000000000000):∀ (m k:Nat),u.length - k=m->k<=u.length->
  zly (u++v) (c,(k:Int))=zfc (u++v) (c,(u.length:Int)):=by
 intro m
 induction m with
 | zero=>
  intro k e hk;have:k=u.length:=by omega
  subst this;have hB:zjp (u++v) (c,(u.length:Int))=zey (zfc (u++v) (c,(u.length:Int))):=by
   unfold zjp;dsimp only;rw [zaa (fun h=>by have:=xa7 h; omega)];simp only [zcr,lt];rw [xab];intro q;rw [xaw,xek] at q;have hin:u.length<(u++v).length:=by omega
   have hm:zad (u++v) (u.length:Int)∈v:=by
    rw [zdk _ _ hin,xdp (xaf _)];exact List.getElem_mem _
   exact hv _ hm ((zax _ _).1 q.2)
  unfold zly;rw [zn4,hB];cases zfc (u++v) (c,(u.length:Int)) <;> rfl
 | succ m ih=>
  intro k e hk;have hl':=hl;rw [xaa] at hl';refine (zaj ?_).trans (ih (k+1) (by omega) (by omega));unfold zjp;dsimp only;rw [zaa (fun h=>by have:=xa7 h; omega)];simp only [zcr,lt];have hm:zad (u++v) (k:Int)∈u:=by
   rw [zdk _ _ (by rw [xaa]; omega),xev (by omega)];exact List.getElem_mem _
  rw [(zax _ _).2 (hu _ hm),xad (by simp only [Bool.and_true]; exact d_t (by rw [xaa]; omega)),zaf ..];rfl
theorem rput_eq (l:Cs)(c:Cell)(hs:l.Pairwise ah)(hl:l.length<=1000000000):∃ x,R_PutCell l c=some x/\x.Pairwise ah/\(∀ w,w∈x↔w=c\/(w∈l/\¬ key w c))/\x.length<=l.length+1:=by
 obtain ⟨u,v,rfl,hu,hv⟩:=split_at c l hs;have hl':=hl;rw [xaa] at hl';obtain ⟨su,sv,suv⟩:=xbj.1 hs;have h0:=put_loop c u v hu hv (by omega) u.length 0 (by omega) (by omega);have h0':R_PutCell (u++v) c=zfc (u++v) (c,(u.length:Int)):=h0;have hdr:zdt (u++v) (u.length:Int)=v:=by rw [zb8,xen]
 have htk:zdq (u++v) (u.length:Int)=u:=by rw [zdu,xd4]
 rw [h0'];have ins:(∀ x∈v,ah c x)->(u++c::v).Pairwise ah/\(∀ w,w∈u++c::v↔w=c\/(w∈u++v/\¬ key w c)):=by
  intro hcv;refine ⟨xbj.2 ⟨su,xbu.2 ⟨hcv,sv⟩,fun x hx y hy=>?_⟩,fun w=>?_⟩
  ·rcases xaq.1 hy with e | e
   ·rw [e]; exact hu x hx
   ·exact suv x hx y e
  ·simp only [xax,xaq];constructor
   ·rintro (e | e | e)
    ·exact .inr ⟨.inl e,zlq (hu w e)⟩
    ·exact .inl e
    ·exact .inr ⟨.inr e,fun q=>zlq (hcv w e) (zep q)⟩
   ·rintro (e | ⟨e | e,_⟩)
    ·exact .inr (.inl e)
    ·exact .inl e
    ·exact .inr (.inr e)
 unfold zfc;dsimp only;rw [zaa (fun h=>by have:=xa7 h; omega)];simp only [zcr,lt];cases v with
 | nil=>
  rw [xab (by simp),hdr,htk,zaa (by simp),zaa ..,zaa (by simp; omega),zaa (by simp),zaa (by simp; omega)];obtain ⟨i1,i2⟩:=ins (by simp);exact ⟨u++[c]++[],rfl,by simpa using i1,by simpa using i2,by simp⟩
 | cons a v=>
  have hg:zad (u++a::v) (u.length:Int)=a:=lget_mid u a v;have hlt:((u.length:Int))<((u++a::v).length:Int):=by simp only [xaa,xal]; omega
  obtain ⟨sa,sv'⟩:=xbu.1 sv;rw [hg];by_cases q:zbo c a=true
  ·have q':=(zax _ _).1 q;rw [q,xab (by simp),hdr,htk,zaa ..,zaa ..,zaa (by simp; omega),zaa ..,zaa (by simp only [xaa,xal,xa3] at hl' ⊢; omega)];obtain ⟨i1,i2⟩:=ins (fun x hx=>by
    rcases xaq.1 hx with e | e
    ·rw [e]; exact q'
    ·exact zko q' (sa x e))
   refine ⟨u++[c]++a::v,rfl,by simpa using i1,fun w=>?_,by simp; omega⟩;rw [<- i2 w]; simp
  ·have q':¬ ah c a:=fun z=>q ((zax _ _).2 z);have hk:key c a:=by
    rcases ah_tri c a with e | e | e
    ·exact absurd e q'
    ·exact e
    ·exact absurd e (hv a (xbo ..))
   have qf:zbo c a=false:=by simpa using q
   rw [qf,xad (by rw [xeo,Bool.and_true]; exact d_t hlt),zaa ..,zaa ..,zaa ..,znz];refine ⟨u++c::v,rfl,?_,fun w=>?_,by simp⟩
   ·refine xbj.2 ⟨su,xbu.2 ⟨fun x hx=>ah_left (zep hk) (sa x hx),sv'⟩,fun x hx y hy=>?_⟩
    rcases xaq.1 hy with e | e
    ·rw [e]; exact hu x hx
    ·exact suv x hx y (xb3 _ e)
   ·simp only [xax,xaq];constructor
    ·rintro (e | e | e)
     ·exact .inr ⟨.inl e,zlq (hu w e)⟩
     ·exact .inl e
     ·exact .inr ⟨.inr (.inr e),fun z=>zlq (sa w e) (zep (key_trans z hk))⟩
    ·rintro (e | ⟨e | e | e,z⟩)
     ·exact .inr (.inl e)
     ·exact .inl e
     ·rw [e] at z; exact absurd (zep hk) z
     ·exact .inr (.inr e)
theorem rputs_loop (M:Cs):∀ (R D m l:Cs),M=D++R->Firsts m l->l.length+R.length<=1000000000->M.length<=1000000000->∃ x,zod M (l,(D.length:Int))=some x/\Firsts (R.reverse++m) x/\x.length<=l.length+R.length
 | [],D,m,l,h,hF,hl,hM=>by
  refine ⟨l,zae ?_,hF,by simp⟩;unfold zkk;dsimp only;rw [xab (d_f (by rw [h]; simp))]; rfl
 | c::R,D,m,l,h,hF,hl,hM=>by
  have hlen:M.length=D.length+1+R.length:=by rw [h]; simp; omega
  simp only [xal] at hl;have hg:zad M (D.length:Int)=c:=by rw [h]; exact lget_mid D c R
  obtain ⟨x,x1,x2,x3,x4⟩:=rput_eq l c hF.1 (by omega);obtain ⟨y,y1,y2,y3⟩:=rputs_loop M R (D++[c]) (c::m) x (by rw [h]; simp) (hF.put x2 x3) (by omega) hM;refine ⟨y,(zaj ?_).trans y1,by simpa using y2,by simp only [xal]; omega⟩;unfold zkk;dsimp only;rw [ifT ..,zaa ..,hg];simp only [zcr];rw [x1,zac,zaf ..];have e2:(((D++[c]).length:Nat):Int)=(D.length:Int)+1:=by simp
  rw [e2]
theorem rputs_eq (l M m:Cs)(hF:Firsts m l)(hl:l.length+M.length<=1000000000):zkw l M=some (firsts (M.reverse++m)):=by
 obtain ⟨x,x1,x2,_⟩:=rputs_loop M M [] m l rfl hF hl (by omega);have x1':zkw l M=some x:=x1;rw [x1',zm4 x2]
theorem firsts_len (l:Cs):(firsts l).length<=l.length:=by
 have h:∀ (l:Cs) (y:Cell),(ddpP y l).length<=l.length:=by
  intro l
  induction l with
  | nil=>intro y; exact xaf _
  | cons x l ih=>
   intro y;rw [ddpP];split
   ·have:=ih x; simp only [xal]; omega
   ·have:=ih x; simp only [xal]; omega
 unfold firsts;rw [<- zea l];cases zf3 l with
 | nil=>exact xaf _
 | cons x t=>rw [ddp]; have:=h t x; simp only [xal]; omega
theorem fk_mem {c:Cell}{l:Cs}(h:(fk c l).head?=some c):c∈l:=by
 have:=List.mem_of_mem_head? h;unfold fk at this;exact (xc2.1 this).1
theorem firsts_mem {l:Cs}{c:Cell}(h:c∈firsts l):c∈l:=fk_mem (((zgg l).2 c).1 h)
theorem fk_one {M:Cs}(h:M.Pairwise ah)(k:Cell):(fk k M).length<=1:=by
 have hs:(fk k M).Pairwise ah:=h.sublist List.filter_sublist;have hm:∀ x∈fk k M,key k x:=fun x hx=>xa7 (xc2.1 hx).2
 match hq:fk k M with
 | []=>simp
 | [x]=>simp
 | x::y::t=>
  rw [hq] at hs hm;have h1:=(xbu.1 hs).1 y (by simp);exact absurd (key_trans (zep (hm x (by simp))) (hm y (by simp))) (zlq h1)
theorem stab_rev {M:Cs}(h:M.Pairwise ah):Stab M M.reverse:=fun k=>by
 have h1:=fk_one h k;have e:fk k M.reverse=(fk k M).reverse:=by unfold fk; rw [List.filter_reverse]
 rw [e]
 match hq:fk k M with
 | []=>rfl
 | [x]=>rfl
 | x::y::t=>rw [hq] at h1; simp at h1
theorem firsts_congr {a b:Cs}(h:Stab a b):firsts a=firsts b:=zm4 ((zgg a).stab h.symm)
theorem firsts_self {l:Cs}(h:l.Pairwise ah):firsts l=l:=by
 refine (zm4 ⟨h,fun c=>⟨fun hc=>?_,fun hc=>fk_mem hc⟩⟩).symm;have hm:c∈fk c l:=xc2.2 ⟨hc,xb2 (zkf c)⟩;have h1:=fk_one h c
 match hq:fk c l with
 | []=>rw [hq] at hm; cases hm
 | [x]=>rw [hq] at hm; rw [xba.1 hm]; rfl
 | x::y::t=>rw [hq] at h1; simp at h1
def Hd (m m':Cs):Prop:=∀ c,(fk c m).head?=(fk c m').head?
theorem Hd.firsts {m m':Cs}(h:Hd m m'):firsts m=firsts m':=zm4 ⟨(zgg m).1,fun c=>by rw [(zgg m).2 c,h c]⟩
theorem Hd.app {a a' b b':Cs}(h:Hd a a')(g:Hd b b'):Hd (a++b) (a'++b'):=fun c=>by
 rw [fk_app,fk_app,List.head?_append,List.head?_append,h c,g c]
theorem Hd.refl (m:Cs):Hd m m:=fun _=>rfl
theorem Hd.symm {m m':Cs}(h:Hd m m'):Hd m' m:=fun c=>(h c).symm
theorem Hd.trans {a b c:Cs}(h:Hd a b)(g:Hd b c):Hd a c:=fun x=>(h x).trans (g x)
theorem xor_max {v:Nat}(h:v<2 ^ 32):4294967295 ^^^ v=4294967295 - v:=by
 have h1:=BitVec.toNat_not (x:=BitVec.ofNat 32 v);rw [BitVec.not_def,BitVec.toNat_xor,BitVec.toNat_allOnes,BitVec.toNat_ofNat,xb9 h] at h1;simpa using h1
theorem pow1_32:(2:Int) ^ (min (1:Int).toNat 32)=((2:Nat):Int):=by decide
theorem crc_step_eq (c:Nat)(h:c<2 ^ 32) :
  (if (decide ((zeh .and .u32 (c:Int) 1)=1))=true then lt (zeh .xor .u32 (Int.fdiv (c:Int) (2 ^ (min (1:Int).toNat 32))) 3988292384) fun (v6:Int)=>some v6 else some (Int.fdiv (c:Int) (2 ^ (min (1:Int).toNat 32))))=some ((crcS c:Nat):Int):=by
 have e1:zeh .and .u32 (c:Int) 1=((c % 2:Nat):Int):=by
  have:=bits_and32 (a:=c) (b:=1) h (by omega);rw [and_one] at this; exact this
 have e2:zeh .xor .u32 (((c / 2:Nat)):Int) 3988292384=(((c / 2) ^^^ crcP:Nat):Int):=bits_xor32 (a:=c / 2) (b:=crcP) (by omega) (by unfold crcP; omega);rw [pow1_32,fdiv_nat,e1,e2];unfold crcS;by_cases c2:c % 2=1
 ·rw [ifT ..,xad c2]; rfl
 ·rw [ifF ..,xab c2]
theorem crc_L2 (v:Int×Int):∀ (m k c:Nat),8 - k=m->k<=8->c<2 ^ 32->wire_Crc_L2 v ((c:Int),(k:Int))=some (.inl (((crcN (8 - k) c:Nat):Int),w64 (v.2+1)))
 | 0,k,c,e,hk,hc=>by
  have:k=8:=by omega
  subst this;refine zae ?_;simp only [znm];rw [ifF ..]; rfl
 | m+1,k,c,e,hk,hc=>by
  have hw:w64 ((k:Int)+1)=((k+1:Nat):Int):=by rw [zaf ..]; omega
  have ih:=crc_L2 v m (k+1) (crcS c) (by omega) (by omega) (crcS_lt hc);have e8:crcN (8 - k) c=crcN (8 - (k+1)) (crcS c):=by
   have:8 - k=(8 - (k+1))+1:=by omega
   rw [this,crcN]
  rw [e8];refine (zaj (y:=(((crcS c:Nat):Int),((k+1:Nat):Int))) ?_).trans ih;simp only [znm];rw [ifT ..,crc_step_eq c hc,zac,hw]
theorem crc_J1 (c:Nat)(hc:c<2 ^ 32):zk6 (c:Int)=some ((4294967295 - c:Nat):Int):=by
 have e1:(if IntKind.signed .u32=true then (-1:Int) else IntKind.max .u32)=((4294967295:Nat):Int):=by decide
 have e2:=bits_xor32 (a:=4294967295) (b:=c) (by omega) hc;rw [xor_max hc] at e2;unfold zk6;rw [e1,e2];dsimp only [lt]
theorem crc_L1 (b:B8)(hb:b.length<=140737488351232):∀ (m k c:Nat),b.length - k=m->k<=b.length->c<2 ^ 32->wire_Crc_L1 b ((c:Int),(k:Int))=some ((4294967295 - crcL c (b.drop k):Nat):Int)
 | 0,k,c,e,hk,hc=>by
  have:k=b.length:=by omega
  subst this;refine zae ?_;simp only [zos];rw [ifF ..,xck];rw [crc_J1 c hc];have e0:crcL c []=c:=rfl;rw [e0];dsimp only [zey]
 | m+1,k,c,e,hk,hc=>by
  have hlt:k<b.length:=by omega
  have hw:w64 ((k:Int)+1)=((k+1:Nat):Int):=by rw [zaf ..]; omega
  have hx:=u8_lt32 (zad b (k:Int));have h3:crcN 8 (c ^^^ (zad b (k:Int)).toNat)<2 ^ 32:=crcN_lt 8 (xdi hc hx);have ih:=crc_L1 b hb m (k+1) (crcN 8 (c ^^^ (zad b (k:Int)).toNat)) (by omega) (by omega) h3;rw [zdd b k hlt,crcL_cons];refine (zaj (y:=(((crcN 8 (c ^^^ (zad b (k:Int)).toNat):Nat):Int),((k+1:Nat):Int))) ?_).trans ih;simp only [zos];rw [ifT ..,zaa ..,u32_id (by omega) (by omega),bits_xor32 hc hx];have:=crc_L2 ((c:Int),(k:Int)) 8 0 (c ^^^ (zad b (k:Int)).toNat) (by omega) (by omega) (xdi hc hx);have h0:((0:Nat):Int)=0:=rfl;rw [h0] at this;rw [this,hw]
theorem crc_eq (b:B8)(hb:b.length<=140737488351232):wire_Crc b=some ((crc b:Nat):Int):=
 crc_L1 b hb b.length 0 4294967295 (by omega) (by omega) (by omega)
theorem rest_L2 (b:B8)(c0:Int)(i:Nat)(hi:i<b.length):∀ (m k c:Nat),8 - k=m->k<=8->c<2 ^ 32->
  R_Rest_L2 b (c0,(i:Int)) ((c:Int),(k:Int))=some (.inl (((crcR (8 - k) c ((zad b (i:Int)).toNat / 2 ^ k):Nat):Int),w64 ((i:Int)+1)))
 | 0,k,c,e,hk,hc=>by
  have:k=8:=by omega
  subst this;refine zae ?_;simp only [R_Rest_B2];rw [ifF ..]; rfl
 | m+1,k,c,e,hk,hc=>by
  have hw:w64 ((k:Int)+1)=((k+1:Nat):Int):=by rw [zaf ..]; omega
  generalize hx:zad b (i:Int)=x;have hxl:=x.toNat_lt;have hbit:x.toNat / 2 ^ k % 2<2:=by omega
  have hct:crcT c (x.toNat / 2 ^ k % 2)<2 ^ 32:=by
   unfold crcT;split
   ·exact xdi (by omega) (by unfold crcP; omega)
   ·omega
  have ih:=rest_L2 b c0 i hi m (k+1) (crcT c (x.toNat / 2 ^ k % 2)) (by omega) (by omega) hct;rw [hx] at ih;have e8:crcR (8 - k) c (x.toNat / 2 ^ k)=crcR (8 - (k+1)) (crcT c (x.toNat / 2 ^ k % 2)) (x.toNat / 2 ^ (k+1)):=by
   have:8 - k=(8 - (k+1))+1:=by omega
   rw [this,crcR,xdk,Nat.div_div_eq_div_mul]
  rw [e8];refine (zaj (y:=(((crcT c (x.toNat / 2 ^ k % 2):Nat):Int),((k+1:Nat):Int))) ?_).trans ih;have ep:(2:Int) ^ (min (k:Int).toNat 8)=((2 ^ k:Nat):Int):=by
   rw [xbs,show min k 8=k by omega]; simp
  have hd:x.toNat / 2 ^ k<256:=Nat.lt_of_le_of_lt (Nat.div_le_self _ _) hxl;have e1:Int.tmod (IntKind.u32.wrap ((zfq (Int.fdiv (x.toNat:Int) (2 ^ (min (k:Int).toNat 8)))).toNat:Int)) 2=((x.toNat / 2 ^ k % 2:Nat):Int):=by
   rw [ep,fdiv_nat,zez,u8_of hd];generalize x.toNat / 2 ^ k=q at hd ⊢;rw [u32_id (by omega) (by omega)];exact zkn _ 2
  have e2:Int.tmod (IntKind.u32.wrap ((c:Int)+((x.toNat / 2 ^ k % 2:Nat):Int))) 2=(((c+x.toNat / 2 ^ k % 2) % 2:Nat):Int):=by
   generalize x.toNat / 2 ^ k % 2=q at hbit ⊢;by_cases h:c+q<2 ^ 32
   ·rw [u32_id (by omega) (by omega),<- Int.natCast_add];exact zkn _ 2
   ·have h1:c+q=4294967296:=by omega
    have h2:(c:Int)+((q:Nat):Int)=4294967296:=by omega
    rw [h1,h2]; decide
  have e3:IntKind.u32.wrap (Int.tdiv (c:Int) 2)=((c / 2:Nat):Int):=by
   have:Int.tdiv (c:Int) 2=((c / 2:Nat):Int):=znx c 2;rw [this,u32_id (by omega) (by omega)]
  have e4:zeh .xor .u32 (((c / 2:Nat)):Int) 3988292384=(((c / 2) ^^^ crcP:Nat):Int):=bits_xor32 (a:=c / 2) (b:=crcP) (by omega) (by unfold crcP; omega);simp only [R_Rest_B2,hx,e1,lt,e2,e3,e4];rw [ifT ..,zaa ..,zaa ..];unfold crcT;by_cases c2:(c+x.toNat / 2 ^ k % 2) % 2=1
  ·rw [ifT ..,xad c2,zac,hw]
  ·rw [ifF ..,xab c2,zac,hw]
theorem rest_J1 (c:Nat)(hc:c<2 ^ 32):R_Rest_J1 (c:Int)=some ((4294967295 - c:Nat):Int):=by
 have:(4294967295:Int) - (c:Int)=((4294967295 - c:Nat):Int):=by omega
 unfold R_Rest_J1;rw [u32_id (by omega) (by omega),this]
theorem rest_L1 (b:B8)(hb:b.length<=140737488351232):∀ (m k c:Nat),b.length - k=m->k<=b.length->c<2 ^ 32->R_Rest_L1 b ((c:Int),(k:Int))=some ((4294967295 - crcL c (b.drop k):Nat):Int)
 | 0,k,c,e,hk,hc=>by
  have:k=b.length:=by omega
  subst this;refine zae ?_;simp only [R_Rest_B1];rw [ifF ..,xck];rw [rest_J1 c hc];have e0:crcL c []=c:=rfl;rw [e0];dsimp only [zey]
 | m+1,k,c,e,hk,hc=>by
  have hlt:k<b.length:=by omega
  have hw:w64 ((k:Int)+1)=((k+1:Nat):Int):=by rw [zaf ..]; omega
  have hx:=u8_lt32 (zad b (k:Int));have h3:crcN 8 (c ^^^ (zad b (k:Int)).toNat)<2 ^ 32:=crcN_lt 8 (xdi hc hx);have ih:=rest_L1 b hb m (k+1) (crcN 8 (c ^^^ (zad b (k:Int)).toNat)) (by omega) (by omega) h3;rw [zdd b k hlt,crcL_cons];refine (zaj (y:=(((crcN 8 (c ^^^ (zad b (k:Int)).toNat):Nat):Int),((k+1:Nat):Int))) ?_).trans ih;simp only [R_Rest_B1];rw [ifT ..];have:=rest_L2 b (c:Int) k hlt 8 0 c (by omega) (by omega) hc;have h0:((0:Nat):Int)=0:=rfl;rw [h0] at this;rw [this,crc_byte c _ (zad b (k:Int)).toNat_lt,hw];simp
theorem rest_eq (b:B8)(hb:b.length<=140737488351232):R_Rest b=some ((crc b:Nat):Int):=
 rest_L1 b hb b.length 0 4294967295 (by omega) (by omega) (by omega)
theorem crcB_w (n:Nat):[zfq (Int.fdiv (n:Int) (2 ^ (min (24:Int).toNat 32))),zfq (Int.fdiv (n:Int) (2 ^ (min (16:Int).toNat 32))),zfq (Int.fdiv (n:Int) (2 ^ (min (8:Int).toNat 32))),zfq (n:Int)]=crcB n:=by
 have e1:(2:Int) ^ (min (24:Int).toNat 32)=((16777216:Nat):Int):=by decide
 have e2:(2:Int) ^ (min (16:Int).toNat 32)=((65536:Nat):Int):=by decide
 have e3:(2:Int) ^ (min (8:Int).toNat 32)=((256:Nat):Int):=by decide
 unfold crcB;rw [e1,e2,e3,fdiv_nat,fdiv_nat,fdiv_nat,zez,zez,zez,zez,ofNat_mod,ofNat_mod,ofNat_mod]
def encF (l:B9):B8:=wrAll frame l
def flen (b:B8):Nat:=(zad b 0).toNat*256+(zad b 1).toNat
def rdF (b:B8):Option (B8×B8):=
 if 6<=b.length/\flen b+6<=b.length/\frame ((b.drop 2).take (flen b))=b.take (flen b+6) then some ((b.drop 2).take (flen b),b.drop (flen b+6)) else none
theorem flen_lt (b:B8):flen b<=65535:=by
 have h1:=(zad b 0).toNat_lt;have h2:=(zad b 1).toNat_lt;unfold flen; omega
theorem rdF_some {b x r:B8}(h:rdF b=some (x,r)):b=frame x++r/\x.length<=65535:=by
 unfold rdF at h;split at h
 ·rename_i c;simp only [Option.some.injEq,Prod.mk.injEq] at h;obtain ⟨rfl,rfl⟩:=h;have:=flen_lt b;exact ⟨by rw [c.2.2,xbp],by simp; omega⟩
 ·cases h
def opn:Nat->B8->B9->Nat->B9×Nat
 | 0,_,acc,g=>(acc,g)
 | k+1,b,acc,g=>match rdF b with
  | some (x,r)=>opn k r (acc++[x]) (g+(x.length+6))
  | none=>(acc,g)
theorem zki {b:B8}(h:rdF b=none)(k:Nat)(acc:B9)(g:Nat):opn k b acc g=(acc,g):=by
 cases k with
 | zero=>rfl
 | succ k=>rw [opn,h]
theorem opn_some {b x r:B8}(h:rdF b=some (x,r))(k:Nat)(acc:B9)(g:Nat):opn (k+1) b acc g=opn k r (acc++[x]) (g+(x.length+6)):=by
 rw [opn,h]
theorem frame_sum {b:B8}(h:flen b+6<=b.length):frame ((b.drop 2).take (flen b))=b.take (flen b+6)↔(b.drop (2+flen b)).take 4=crcB (crc (b.take (2+flen b))):=by
 have h1:=(zad b 0).toNat_lt;have h2:=(zad b 1).toNat_lt;have hl:((b.drop 2).take (flen b)).length=flen b:=by simp; omega
 have e2:b.take (2+flen b)=zad b 0::zad b 1::(b.drop 2).take (flen b):=by
  have a0:=zdd b 0 (by omega);have a1:=zdd b 1 (by omega);simp only [xce] at a0;have e0:((0:Nat):Int)=0:=rfl;have e1:((1:Nat):Int)=1:=rfl;rw [e0,xbr,a1,e1] at a0;rw [a0,Nat.add_comm 2];simp [zad]
 have e3:UInt8.ofNat (flen b / 256)=zad b 0:=by
  apply u8_eq; rw [u8_of (by unfold flen; omega)]; unfold flen; omega
 have e4:UInt8.ofNat (flen b % 256)=zad b 1:=by
  apply u8_eq; rw [u8_of (by omega)]; unfold flen; omega
 have e5:frame ((b.drop 2).take (flen b))=b.take (2+flen b)++crcB (crc (b.take (2+flen b))):=by
  unfold frame;rw [hl,e3,e4,<- e2]
 have e6:b.take (flen b+6)=b.take (2+flen b)++(b.drop (2+flen b)).take 4:=by
  rw [<- List.take_add]; congr 1; omega
 rw [e5,e6,List.append_cancel_left_eq];exact eq_comm
theorem equal_loop (a b:B8)(hl:a.length=b.length)(hb:a.length<=1000000):∀ (m k:Nat),a.length - k=m->k<=a.length->zev a b (k:Int)=some (decide (a.drop k=b.drop k))
 | 0,k,e,hk=>by
  have:k=a.length:=by omega
  refine zae ?_;simp only [zdc];rw [ifF ..];have e1:a.drop k=[]:=xcq (by omega);have e2:b.drop k=[]:=xcq (by omega);simp [zey,zdx,e1,e2]
 | m+1,k,e,hk=>by
  have hw:w64 ((k:Int)+1)=((k+1:Nat):Int):=by rw [zaf ..]; omega
  have ih:=equal_loop a b hl hb m (k+1) (by omega) (by omega);rw [zdd a k (by omega),zdd b k (by omega)];by_cases c:zad a (k:Int)=zad b (k:Int)
  ·refine (zaj (y:=((k+1:Nat):Int)) ?_).trans (ih.trans (by simp [c]));simp only [zdc];rw [ifT ..,zaa ..,zaa ..,xab (by simp [c]),hw]
  ·have c':¬ ((zad a (k:Int)).toNat:Int)=((zad b (k:Int)).toNat:Int):=fun h=>c (u8_eq (by omega));refine zae ?_;simp only [zdc];rw [ifT ..,zaa ..,zaa ..,xad (n_t c')];simp [c]
theorem equal_eq (a b:B8)(hb:a.length<=1000000):zco a b=some (decide (a=b)):=by
 unfold zco;by_cases c:a.length=b.length
 ·rw [xab (by simp [c])];have:=equal_loop a b c hb a.length 0 (by omega) (by omega);simpa using this
 ·rw [xad (by simp; omega)];have:a≠b:=fun h=>c (by rw [h]);simp [this]
theorem clone_eq (l:B8)(h:l.length<=1000000):zda l=some l:=by
 refine wp_is.1 ?_;simp only [zda,wp_ubO,wp_asrt,wp_some,xbt];refine ⟨fun hl=>?_,⟨by omega,trivial⟩⟩;have:l=[]:=List.length_eq_zero_iff.1 (xa7 hl);subst this;rw [zaa (by simp)]
theorem zm9 (b:B8)(g n:Nat):(b.take (g+n)).drop g=(b.drop g).take n:=by
 rw [List.drop_take]; congr 1; omega
theorem opened_loop (b:B8)(hb:b.length<=100000):∀ (k g:Nat) (acc:B9),b.length - g<=k->g<=b.length->acc.length<=g->
  zi4 b (acc,(g:Int))=some (((opn k (b.drop g) acc g).1),(((opn k (b.drop g) acc g).2:Nat):Int))
 | k,g,acc,hk,hg,ha=>by
  have hw0:w64 ((b.length:Int) - (g:Int))=((b.length - g:Nat):Int):=by rw [zaf ..]; omega
  have hw1:w64 ((g:Int)+1)=((g+1:Nat):Int):=by rw [zaf ..]; omega
  have hw2:w64 ((g:Int)+2)=((g+2:Nat):Int):=by rw [zaf ..]; omega
  by_cases c6:6<=b.length - g
  ·have hfl:=flen_lt (b.drop g);have h0:zad (b.drop g) 0=zad b (g:Int):=by
    have:=lget_ldrop b (g:Int) 0 (by omega);rwa [zb8,Int.add_zero] at this
   have h1:zad (b.drop g) 1=zad b ((g+1:Nat):Int):=by
    have:=lget_ldrop b (g:Int) 1 (by omega);rwa [zb8] at this
   have b0:=(zad b (g:Int)).toNat_lt;have b1:=(zad b ((g+1:Nat):Int)).toNat_lt;have en:zeh .or .i64 (w64 ((w64 ((zad b (g:Int)).toNat:Int))*2 ^ (min (8:Int).toNat 64))) (w64 ((zad b ((g+1:Nat):Int)).toNat:Int))=((flen (b.drop g):Nat):Int):=by
    have e8:(2:Int) ^ (min (8:Int).toNat 64)=((256:Nat):Int):=by decide
    rw [e8,zaf (x:=((zad b (g:Int)).toNat:Int)) (by omega) (by omega),<- xc3,zaf ..,zaf ..,bits_or64 (by omega) (by omega)];have:=or_add (a:=(zad b ((g+1:Nat):Int)).toNat) (b:=(zad b (g:Int)).toNat) (k:=8) (by omega);have e256:(2:Nat) ^ 8=256:=rfl;rw [e256] at this;rw [Nat.or_comm,this];unfold flen;rw [h0,h1]; omega
   generalize hn:flen (b.drop g)=n at *
   have hw3:w64 (((g+2:Nat):Int)+(n:Int))=((g+2+n:Nat):Int):=by rw [zaf ..]; omega
   have hw4:w64 (((g+2+n:Nat):Int)+4)=((g+2+n+4:Nat):Int):=by rw [zaf ..]; omega
   by_cases c2:b.length<g+2+n+4
   ·have hr:rdF (b.drop g)=none:=by
     unfold rdF;rw [xab];rw [hn,xa8];intro h; omega
    rw [zki hr];refine zae ?_;simp only [zec,hw0,hw1,hw2];rw [ifT ..,zaa ..,zaa ..,en];simp only [lt,hw3,hw4];rw [ifT ..]; rfl
   ·have t1:(b.take (g+2+n)).drop g=(b.drop g).take (2+n):=by rw [xcf,zm9]
    have t2:(b.take (g+2+n+4)).drop (g+2+n)=((b.drop g).drop (2+n)).take 4:=by
     rw [zm9,xcm,xcf]
    have t3:(b.take (g+2+n)).drop (g+2)=((b.drop g).drop 2).take n:=by rw [zm9,xcm]
    have hle:flen (b.drop g)+6<=(b.drop g).length:=by rw [hn,xa8]; omega
    have hfs:=frame_sum hle;rw [hn] at hfs;have hl3:(((b.drop g).drop 2).take n).length=n:=by simp; omega
    by_cases c3:((b.drop g).drop (2+n)).take 4=crcB (crc ((b.drop g).take (2+n)))
    ·have hr:rdF (b.drop g)=some (((b.drop g).drop 2).take n,b.drop (g+(n+6))):=by
      unfold rdF;have e9:(b.drop g).drop (n+6)=b.drop (g+(n+6)):=by rw [xcm]
      rw [hn,xad ⟨by simp; omega,by simp; omega,hfs.2 c3⟩,e9]
     match k,hk with
     | 0,hk=>omega
     | k+1,hk=>
     rw [opn_some hr,hl3];have ih:=opened_loop b hb k (g+(n+6)) (acc++[((b.drop g).drop 2).take n]) (by omega) (by omega) (by simp; omega);refine (zaj (y:=(acc++[((b.drop g).drop 2).take n],((g+(n+6):Nat):Int))) ?_).trans ih;simp only [zec,hw0,hw1,hw2];rw [ifT ..,zaa ..,zaa ..,en];simp only [lt,hw3,hw4];rw [ifF ..,zaa ..,zdu,zb8,t1,crc_eq _ (by simp; omega),zac,zaa ..,zdu,zb8,t2,crcB_w,c3,equal_eq _ _ (by simp [crcB]),zac];rw [xab (by simp),zaa ..,zb8,t3,clone_eq _ (by omega),zac,zaa (by simp; omega)];have:g+2+n+4=g+(n+6):=by omega
     rw [this]
    ·have hr:rdF (b.drop g)=none:=by
      unfold rdF;rw [hn,xab];intro h; exact c3 (hfs.1 h.2.2)
     rw [zki hr];refine zae ?_;simp only [zec,hw0,hw1,hw2];rw [ifT ..,zaa ..,zaa ..,en];simp only [lt,hw3,hw4];rw [ifF ..,zaa ..,zdu,zb8,t1,crc_eq _ (by simp; omega),zac,zaa ..,zdu,zb8,t2,crcB_w,equal_eq _ _ (by simp; omega),zac,xad (n_t c3)];rfl
  ·have hr:rdF (b.drop g)=none:=by
    unfold rdF;rw [xab];rw [xa8];intro h; omega
   rw [zki hr];refine zae ?_;simp only [zec,hw0];rw [ifF ..]; rfl
theorem opened_eq (b:B8)(hb:b.length<=100000):zha b=some ((opn b.length b [] 0).1,(((opn b.length b [] 0).2:Nat):Int)):=by
 have:=opened_loop b hb b.length 0 [] (by omega) (by omega) (by simp);unfold zha;simpa using this
theorem crcB_r (n:Nat)(hn:n<2 ^ 32):[zfq (IntKind.u32.wrap (Int.tdiv (n:Int) 16777216)),zfq (Int.tmod (IntKind.u32.wrap (Int.tdiv (n:Int) 65536)) 256),zfq (Int.tmod (IntKind.u32.wrap (Int.tdiv (n:Int) 256)) 256),zfq (Int.tmod (n:Int) 256)]=crcB n:=by
 have e1:Int.tdiv (n:Int) 16777216=((n / 16777216:Nat):Int):=znx n 16777216;have e2:Int.tdiv (n:Int) 65536=((n / 65536:Nat):Int):=znx n 65536;have e3:Int.tdiv (n:Int) 256=((n / 256:Nat):Int):=znx n 256;have e4:Int.tmod (n:Int) 256=((n % 256:Nat):Int):=zkn n 256;have e5:Int.tmod ((n / 65536:Nat):Int) 256=((n / 65536 % 256:Nat):Int):=zkn _ 256;have e6:Int.tmod ((n / 256:Nat):Int) 256=((n / 256 % 256:Nat):Int):=zkn _ 256;unfold crcB;rw [e1,e2,e3,e4,u32_id (by omega) (by omega),u32_id (by omega) (by omega),u32_id (by omega) (by omega),e5,e6,zez,zez,zez,zez]
theorem framed_eq (body:B8)(hb:body.length<=1000000000):R_Framed body=some (frame body):=by
 have eh:[zfq (w64 (Int.tdiv (body.length:Int) 256)),zfq (Int.tmod (body.length:Int) 256)]=[UInt8.ofNat (body.length / 256),UInt8.ofNat (body.length % 256)]:=by
  have e3:Int.tdiv (body.length:Int) 256=((body.length / 256:Nat):Int):=znx _ 256;have e4:Int.tmod (body.length:Int) 256=((body.length % 256:Nat):Int):=zkn _ 256;rw [e3,e4,zaf ..,zez,zez]
 unfold R_Framed;rw [eh,zaa (by simp; omega)];dsimp only [lt];rw [rest_eq _ (by simp; omega),zac,crcB_r _ (crc_lt _),zaa (by simp [crcB]; omega)];simp [frame]
theorem unframed_loop (b:B8)(hb:b.length<=100000):∀ (k g:Nat) (acc:B9),b.length - g<=k->g<=b.length->acc.length<=g->
  zoe b (acc,(g:Int))=some (((opn k (b.drop g) acc g).1),(((opn k (b.drop g) acc g).2:Nat):Int))
 | k,g,acc,hk,hg,ha=>by
  have hw1:w64 ((g:Int)+1)=((g+1:Nat):Int):=by rw [zaf ..]; omega
  have hw2:w64 ((g:Int)+2)=((g+2:Nat):Int):=by rw [zaf ..]; omega
  have hw6:w64 ((g:Int)+6)=((g+6:Nat):Int):=by rw [zaf ..]; omega
  by_cases c6:g+6<=b.length
  ·have hfl:=flen_lt (b.drop g);have h0:zad (b.drop g) 0=zad b (g:Int):=by
    have:=lget_ldrop b (g:Int) 0 (by omega);rwa [zb8,Int.add_zero] at this
   have h1:zad (b.drop g) 1=zad b ((g+1:Nat):Int):=by
    have:=lget_ldrop b (g:Int) 1 (by omega);rwa [zb8] at this
   have b0:=(zad b (g:Int)).toNat_lt;have b1:=(zad b ((g+1:Nat):Int)).toNat_lt;have en:w64 ((w64 ((w64 ((zad b (g:Int)).toNat:Int))*256))+(w64 ((zad b ((g+1:Nat):Int)).toNat:Int)))=((flen (b.drop g):Nat):Int):=by
    rw [zaf (x:=((zad b (g:Int)).toNat:Int)) (by omega) (by omega),zaf (x:=((zad b (g:Int)).toNat:Int)*256) (by omega) (by omega),zaf (x:=((zad b ((g+1:Nat):Int)).toNat:Int)) (by omega) (by omega),zaf ..];unfold flen;rw [h0,h1]; omega
   generalize hn:flen (b.drop g)=n at *
   have hw3:w64 (((g+2:Nat):Int)+(n:Int))=((g+2+n:Nat):Int):=by rw [zaf ..]; omega
   have hw4:w64 (((g+6:Nat):Int)+(n:Int))=((g+(n+6):Nat):Int):=by rw [zaf ..]; omega
   by_cases c2:b.length<g+(n+6)
   ·have hr:rdF (b.drop g)=none:=by
     unfold rdF;rw [xab];rw [hn,xa8];intro h; omega
    rw [zki hr];refine zae ?_;simp only [zgm,hw1,hw2,hw6];rw [ifT ..,zaa ..,zaa ..,en];simp only [lt,hw3,hw4];rw [ifT ..]; rfl
   ·have t2:(b.take (g+(n+6))).drop g=(b.drop g).take (n+6):=zm9 b g (n+6);have t3:(b.take (g+2+n)).drop (g+2)=((b.drop g).drop 2).take n:=by rw [zm9,xcm]
    have hl3:(((b.drop g).drop 2).take n).length=n:=by simp; omega
    have e9:(b.drop g).drop (n+6)=b.drop (g+(n+6)):=by rw [xcm]
    by_cases c3:frame (((b.drop g).drop 2).take n)=(b.drop g).take (n+6)
    ·have hr:rdF (b.drop g)=some (((b.drop g).drop 2).take n,b.drop (g+(n+6))):=by
      unfold rdF;rw [hn,xad ⟨by simp; omega,by simp; omega,c3⟩,e9]
     match k,hk with
     | 0,hk=>omega
     | k+1,hk=>
     rw [opn_some hr,hl3];have ih:=unframed_loop b hb k (g+(n+6)) (acc++[((b.drop g).drop 2).take n]) (by omega) (by omega) (by simp; omega);refine (zaj (y:=(acc++[((b.drop g).drop 2).take n],((g+(n+6):Nat):Int))) ?_).trans ih;simp only [zgm,hw1,hw2,hw6];rw [ifT ..,zaa ..,zaa ..,en];simp only [lt,hw3,hw4];rw [ifF ..,zaa ..,zdu,zb8,t3,framed_eq _ (by omega),zac,zaa ..,zdu,zb8,t2];have hsm:zju (frame (((b.drop g).drop 2).take n)) ((b.drop g).take (n+6))=true:=by unfold zju; exact xb2 c3
     rw [hsm,xab (by simp),zaa ..,zaa (by simp; omega)]
    ·have hr:rdF (b.drop g)=none:=by
      unfold rdF;rw [hn,xab];intro h; exact c3 h.2.2
     rw [zki hr];refine zae ?_;simp only [zgm,hw1,hw2,hw6];rw [ifT ..,zaa ..,zaa ..,en];simp only [lt,hw3,hw4];rw [ifF ..,zaa ..,zdu,zb8,t3,framed_eq _ (by omega),zac,zaa ..,zdu,zb8,t2];have hsm:zju (frame (((b.drop g).drop 2).take n)) ((b.drop g).take (n+6))=false:=by
      unfold zju; exact xbg c3
     rw [hsm,xad (by simp)];rfl
  ·have hr:rdF (b.drop g)=none:=by
    unfold rdF;rw [xab];rw [xa8];intro h; omega
   rw [zki hr];refine zae ?_;simp only [zgm,hw6];rw [ifF ..]; rfl
theorem unframed_eq (b:B8)(hb:b.length<=100000):zkz b=some ((opn b.length b [] 0).1,(((opn b.length b [] 0).2:Nat):Int)):=by
 have:=unframed_loop b hb b.length 0 [] (by omega) (by omega) (by simp);unfold zkz;simpa using this
theorem opened_eq0 (b:B8)(hb:b.length<=100000):znu b=some ((opn b.length b [] 0).1,(((opn b.length b [] 0).2:Nat):Int)):=opened_eq b hb
def dF (d:Disk):Fault:=if 60000<d.Bytes.length then ⟨8,0⟩ else if d.Kept<0\/(d.Bytes.length:Int)<d.Kept then ⟨3,0⟩ else ⟨0,0⟩
theorem dcheck_eq (d:Disk):zm6 d=dF d:=by
 unfold zm6 dF;by_cases c:60000<d.Bytes.length
 ·rw [ifT ..,xad c]; rfl
 ·rw [ifF ..,xab c];by_cases c2:d.Kept<0\/(d.Bytes.length:Int)<d.Kept
  ·rw [xad (or_t c2),xad c2]; rfl
  ·rw [xab (or_f c2),xab c2]
theorem rdisk_eq (d:Disk):zli d=dF d:=by
 unfold zli dF;by_cases c:60000<d.Bytes.length
 ·rw [ifT ..,xad c]; rfl
 ·rw [ifF ..,xab c];by_cases c2:d.Kept<0\/(d.Bytes.length:Int)<d.Kept
  ·rw [xad (or_t c2),xad c2]; rfl
  ·rw [xab (or_f c2),xab c2]
structure DGood (d:Disk):Prop where
 len:d.Bytes.length<=60000
 k0:0<=d.Kept
 k1:d.Kept<=(d.Bytes.length:Int)
theorem dF_good {d:Disk}:(dF d).Code=0↔DGood d:=by
 unfold dF;by_cases c:60000<d.Bytes.length
 ·rw [xad c]; exact ⟨fun h=>(by cases h),fun h=>by have:=h.len; omega⟩
 ·rw [xab c];by_cases c2:d.Kept<0\/(d.Bytes.length:Int)<d.Kept
  ·rw [xad c2]; exact ⟨fun h=>(by cases h),fun h=>by have:=h.k0; have:=h.k1; omega⟩
  ·rw [xab c2]; exact ⟨fun _=>⟨by omega,by omega,by omega⟩,fun _=>rfl⟩
theorem sameDisk_iff (a b:Disk):zmr a b=decide (a=b):=by
 unfold zmr zju lt;obtain ⟨x,k⟩:=a;obtain ⟨y,j⟩:=b;by_cases h1:x=y <;> by_cases h2:k=j <;> simp [h1,h2]
theorem num_ends (n:Nat):∃ (A:B8) (x:UInt8),num n=A++[x]/\(∀ y∈A,128<=y.toNat)/\x.toNat<128:=by
 induction n using Nat.strongRecOn with
 | _ n ih=>
  by_cases c:n<128
  ·refine ⟨[],UInt8.ofNat n,by rw [num_lt c]; rfl,by simp,?_⟩;rw [xbw]; omega
  ·obtain ⟨A,x,h1,h2,h3⟩:=ih (n / 128) (by omega);refine ⟨UInt8.ofNat (n % 128+128)::A,x,by rw [num_ge c,h1]; rfl,?_,h3⟩;intro y hy
   rcases xaq.1 hy with rfl | hy
   ·rw [xbw]; omega
   ·exact h2 y hy
theorem index_eq (b:B8)(hb:b.length<=60000):(∃ j:Nat,j<b.length/\(zad b (j:Int)).toNat<128/\(∀ i:Nat,i<j->¬ (zad b (i:Int)).toNat<128)/\zb9 b=some (j:Int))\/((∀ j:Nat,j<b.length->¬ (zad b (j:Int)).toNat<128)/\zb9 b=some (-1)):=by
 have e128:((128:UInt8).toNat:Int)=128:=by decide
 refine loop_first (step:=fun y=>zau b y) b.length (fun k=>(k:Int)) (fun k=>(zad b (k:Int)).toNat<128) (fun k=>(k:Int)) ?_ ?_ ?_
 ·intro k hk hn;have hw:w64 ((k:Int)+1)=((k+1:Nat):Int):=by rw [zaf ..]; omega
  show zau b (k:Int)=some (.inl ((k+1:Nat):Int));have hn':¬ (zad b (k:Int)).toNat<128:=hn;have hr:zi3 (zad b (k:Int))=false:=by unfold zi3; rw [e128]; exact xbg (by omega)
  simp only [zau,hr,lt];rw [ifT ..,zaa ..,xab (by simp),hw]
 ·intro k hk hn;show zau b (k:Int)=some (.inr (k:Int));have hn':(zad b (k:Int)).toNat<128:=hn;have hr:zi3 (zad b (k:Int))=true:=by unfold zi3; rw [e128]; exact xb2 (by omega)
  simp only [zau,hr,lt];rw [ifT ..,zaa ..,xad trivial]
 ·show zau b (b.length:Int)=some (.inr (-1));simp only [zau];rw [ifF ..]; rfl
theorem rdN_take {b:B8}(h:rdN b=none)(k:Nat):rdN (b.take k)=none:=by
 cases e:rdN (b.take k) with
 | none=>rfl
 | some p=>
  obtain ⟨n,r⟩:=p;obtain ⟨h1,h2⟩:=zeq e;have:b=num n++(r++b.drop k):=by rw [<- xaj,<- h1,xbp]
  rw [this,rdN_num h2] at h; cases h
theorem cut_eq (b:B8)(hb:b.length<=60000):∃ (i:Int) (k:Nat),zb9 b=some i/\w64 (1+i)=(k:Int)/\k<=b.length/\∀ n r,rdN b=some (n,r)->b.take k=num n/\b.drop k=r:=by
 have key:∀ n r,rdN b=some (n,r)->∃ A x,b=A++(x::r)/\num n=A++[x]/\(∀ y∈A,128<=y.toNat)/\x.toNat<128:=by
  intro n r h;obtain ⟨A,x,h1,h2,h3⟩:=num_ends n;have h4:=(zeq h).1;exact ⟨A,x,by rw [h4,h1]; simp,h1,h2,h3⟩
 rcases index_eq b hb with ⟨j,h1,h2,h3,h4⟩ | ⟨h1,h2⟩
 ·refine ⟨j,j+1,h4,?_,by omega,?_⟩
  ·rw [zaf ..]; omega
  ·intro n r h;obtain ⟨A,x,e1,e2,e3,e4⟩:=key n r h;have hj:j=A.length:=by
    rcases xd2 j A.length with g | g | g
    ·exfalso;rw [zdk b j h1] at h2;have:b[j]=A[j]:=by simp only [e1]; rw [xev g]
     rw [this] at h2;have:=e3 _ (List.getElem_mem g);omega
    ·exact g
    ·exfalso;have hA:A.length<b.length:=by rw [e1]; simp
     refine h3 A.length g ?_;rw [zdk b A.length hA];have:b[A.length]=x:=by simp only [e1]; rw [xdp (xaf _)]; simp
     rw [this]; exact e4
   subst hj;rw [e2,e1];have e5:A++x::r=(A++[x])++r:=by simp
   have e6:A.length+1=(A++[x]).length:=by simp
   rw [e5,e6];exact ⟨xd4,xen⟩
 ·refine ⟨-1,0,h2,by decide,by omega,?_⟩;intro n r h;exfalso;obtain ⟨A,x,e1,e2,e3,e4⟩:=key n r h;have hA:A.length<b.length:=by rw [e1]; simp
  refine h1 A.length hA ?_;rw [zdk b A.length hA];have:b[A.length]=x:=by simp only [e1]; rw [xdp (xaf _)]; simp
  rw [this]; exact e4
noncomputable def noteF (n:Note):Fault:=if n.Seq<1\/1000000000<n.Seq then ⟨3,-1⟩ else if n.Cells.length=0\/20<n.Cells.length then ⟨2,-1⟩ else zmb n.Cells
theorem wcheck_eq (n:Note):wal_Check n=some (noteF n):=by
 unfold wal_Check noteF;by_cases c:n.Seq<1\/1000000000<n.Seq
 ·rw [xad (or_t c),xad c]; rfl
 ·rw [xab (or_f c),xab c];by_cases c2:n.Cells.length=0\/20<n.Cells.length
  ·rw [xad (or_t (by omega)),xad c2]; rfl
  ·rw [xab (or_f (by omega)),xab c2,check_eq,zac]
theorem rnote_eq (n:Note):zlh n=some (noteF n):=by
 unfold zlh noteF;by_cases c:n.Seq<1\/1000000000<n.Seq
 ·rw [xad (or_t c),xad c]; rfl
 ·rw [xab (or_f c),xab c];by_cases c2:n.Cells.length=0\/20<n.Cells.length
  ·rw [xad (or_t (by omega)),xad c2]; rfl
  ·rw [xab (or_f (by omega)),xab c2,rcheck_eq,zac]
structure NGood (n:Note):Prop where
 f:noteF n=⟨0,0⟩
 lo:1<=n.Seq
 hi:n.Seq<=1000000000
 len:n.Cells.length<=20
 cells:Good n.Cells
theorem noteF_good {n:Note}(h:(noteF n).Code=0):NGood n:=by
 unfold noteF at h;by_cases c:n.Seq<1\/1000000000<n.Seq
 ·rw [xad c] at h; cases h
 ·rw [xab c] at h;by_cases c2:n.Cells.length=0\/20<n.Cells.length
  ·rw [xad c2] at h; cases h
  ·rw [xab c2] at h;have hg:=cellF_good h;exact ⟨by unfold noteF; rw [xab c,xab c2]; exact hg.f,by omega,by omega,by omega,hg⟩
noncomputable def noteR (n:Note):Note×Fault:=if (noteF n).Code=0 then (n,⟨0,0⟩) else (⟨0,[]⟩,noteF n)
noncomputable def zg9 (b:B8):Note×Fault:=if 60000<b.length then (⟨0,[]⟩,⟨8,0⟩) else
 match rdN b with
 | none=>(⟨0,[]⟩,⟨5,-1⟩)
 | some (n,r)=>if (zka r).2.Code=0 then noteR ⟨n,(zka r).1⟩ else (⟨0,[]⟩,(zka r).2)
theorem wread_eq (b:B8):wal_Read b=some ((zg9 b).1.Seq,(zg9 b).1.Cells,(zg9 b).2):=by
 unfold wal_Read zg9;by_cases c:60000<b.length
 ·rw [ifT ..,xad c]; rfl
 ·rw [ifF ..,xab c];obtain ⟨i,k,h1,h2,h3,h4⟩:=cut_eq b (by omega);rw [h1,zac,h2,zaa ..,zdu];have hl:(b.take k).length<=1000000000000:=by rw [xar]; omega
  have hn:=num_eq (b.take k) false hl;have hr:wire_Read (b.take k)=⟨b.take k,false⟩:=rfl;dsimp only [lt];rw [hr,hn,zac,zaa ..,zb8];cases hd:rdN b with
  | none=>
   rw [rdN_take hd]; rfl
  | some p=>
   obtain ⟨n,r⟩:=p;obtain ⟨g1,g2⟩:=h4 n r hd;have hnn:=(zeq hd).2;have e:rdN (num n)=some (n,[]):=by
    have:=rdN_num hnn [];rwa [xbh] at this
   rw [g1,g2,e,read_eq,zac];have ho:zfv (rfin false (some (n,([]:B8)))).2=true:=rfl;have hv:(rfin false (some (n,([]:B8)))).1=(n:Int):=rfl;rw [ho,hv,xab (by simp)];dsimp only;by_cases c2:(zka r).2.Code=0
   ·rw [xab (n_f c2),xad c2,wcheck_eq,zac];unfold noteR;by_cases c3:(noteF ⟨(n:Int),(zka r).1⟩).Code=0
    ·rw [xab (n_f c3),xad c3,(noteF_good c3).f]
    ·rw [xad (n_t c3),xab c3]
   ·rw [xad (n_t c2),xab c2]
theorem noteOf_eq (b:B8):R_NoteOf b=some ((zg9 b).1.Seq,(zg9 b).1.Cells,(zg9 b).2):=by
 unfold R_NoteOf zg9;by_cases c:60000<b.length
 ·rw [ifT ..,xad c]; rfl
 ·rw [ifF ..,xab c,zj7 b (by omega),zac];cases hd:rdN b with
  | none=>
   have e:rnat b=(0,0):=by simp [rnat,hd]
   rw [e,xad (by simp)]; rfl
  | some p=>
   obtain ⟨n,r⟩:=p;have e:rnat b=((n:Int),((num n).length:Int)):=by simp [rnat,hd]
   have h1:=(zeq hd).1;have h2:=num_pos n;have h3:b.length=(num n).length+r.length:=by rw [h1,xaa]
   have h4:b.drop (num n).length=r:=by rw [h1]; simp
   rw [e];dsimp only;rw [ifF ..,zaa ..,zb8,h4,zcw,zac];by_cases c2:(zka r).2.Code=0
   ·rw [xab (n_f c2),xad c2,rnote_eq,zac];unfold noteR;by_cases c3:(noteF ⟨(n:Int),(zka r).1⟩).Code=0
    ·rw [xab (n_f c3),xad c3]
    ·rw [xad (n_t c3),xab c3]
   ·rw [xad (n_t c2),xab c2]
def encN (n:Note):B8:=num n.Seq.toNat++encC n.Cells
def sizeF (l:B9):Nat:=(l.map (fun s=>s.length+6)).sum
theorem zm2 (s:B8)(l:B9):sizeF (s::l)=s.length+6+sizeF l:=by simp [sizeF]
theorem opn_size:∀ (k:Nat) (b:B8) (acc:B9) (g:Nat),∃ m,(opn k b acc g).1=acc++m/\sizeF m<=b.length
 | 0,b,acc,g=>⟨[],by simp [opn],by simp [sizeF]⟩
 | k+1,b,acc,g=>by
  cases e:rdF b with
  | none=>exact ⟨[],by rw [zki e]; simp,by simp [sizeF]⟩
  | some p=>
   obtain ⟨x,r⟩:=p;obtain ⟨m,h1,h2⟩:=opn_size k r (acc++[x]) (g+(x.length+6));have h3:=(rdF_some e).1;refine ⟨x::m,by rw [opn_some e,h1]; simp,?_⟩;rw [zm2,h3,xaa,frame_len]; omega
theorem sizeF_len (l:B9):6*l.length<=sizeF l:=by
 induction l with
 | nil=>simp [sizeF]
 | cons s l ih=>rw [zm2,xal]; omega
def bodies (b:B8):B9:=(opn b.length b [] 0).1
theorem bodies_size (b:B8):sizeF (bodies b)<=b.length:=by
 obtain ⟨m,h1,h2⟩:=opn_size b.length b [] 0;unfold bodies; rw [h1]; simpa using h2
theorem noteS_good {b:B8}(h:(zg9 b).2.Code=0):NGood (zg9 b).1/\(zg9 b).2=⟨0,0⟩:=by
 unfold zg9 at h ⊢;by_cases c:60000<b.length
 ·rw [xad c] at h; cases h
 ·rw [xab c] at h ⊢;cases hd:rdN b with
  | none=>rw [hd] at h; cases h
  | some p=>
   obtain ⟨n,r⟩:=p;rw [hd] at h;dsimp only at h ⊢;by_cases c2:(zka r).2.Code=0
   ·rw [xad c2] at h ⊢;unfold noteR at h ⊢;by_cases c3:(noteF ⟨(n:Int),(zka r).1⟩).Code=0
    ·rw [xad c3]; exact ⟨noteF_good c3,rfl⟩
    ·rw [xab c3] at h; exact absurd h c3
   ·rw [xab c2] at h; exact absurd h c2
def lastN (l:List Note):Note:=zad l ((l.length:Int) - 1)
def nxt (acc:List Note)(n:Note):Prop:=acc.length=0\/n.Seq=(lastN acc).Seq+1
instance (acc:List Note)(n:Note):Decidable (nxt acc n):=inferInstanceAs (Decidable (_\/_))
noncomputable def nts (acc:List Note)(g:Nat):B9->List Note×Nat
 | []=>(acc,g)
 | s::l=>if (zg9 s).2.Code=0/\nxt acc (zg9 s).1 then nts (acc++[(zg9 s).1]) (g+(s.length+6)) l else (acc,g)
theorem nts_le:∀ (l:B9) (acc:List Note) (g:Nat),(nts acc g l).2<=g+sizeF l/\(nts acc g l).1.length<=acc.length+l.length/\((∀ n∈acc,NGood n)->∀ n∈(nts acc g l).1,NGood n)
 | [],acc,g=>by rw [nts]; exact ⟨by omega,by simp,fun h=>h⟩
 | s::l,acc,g=>by
  rw [nts,zm2];split
  ·rename_i c;obtain ⟨h1,h2,h3⟩:=nts_le l (acc++[(zg9 s).1]) (g+(s.length+6));rw [xaa,xbc] at h2;refine ⟨by omega,by rw [xal]; omega,fun h=>h3 (fun n hn=>?_)⟩
   rcases xax.1 hn with q | q
   ·exact h n q
   ·rw [xba] at q; subst q; exact (noteS_good c.1).1
  ·exact ⟨by show g<=_; omega,by show acc.length<=_; omega,fun h=>h⟩
theorem last_in {acc:List Note}(h:acc.length≠0)(hg:∀ n∈acc,NGood n):NGood (lastN acc):=hg _ (zif acc _ (by omega))
theorem note_eta (n:Note):(⟨n.Seq,n.Cells⟩:Note)=n:=rfl
theorem wnotes_loop (L:B9)(z:Int)(hL:L.length<=100000):∀ (r i g:Nat) (acc:List Note),L.length - i=r->i<=L.length->acc.length<=i->g+sizeF (L.drop i)<=100000->(∀ n∈acc,NGood n)->
  wal_Notes_L1 (L,z) (acc,(g:Int),(i:Int))=some ((nts acc g (L.drop i)).1,(((nts acc g (L.drop i)).2:Nat):Int))
 | 0,i,g,acc,e,hi,ha,hg,hn=>by
  have:i=L.length:=by omega
  subst this;refine zae ?_;unfold zh1;dsimp only;rw [ifF ..,xck,nts]; rfl
 | r+1,i,g,acc,e,hi,ha,hg,hn=>by
  have hlt:i<L.length:=by omega
  have hw:w64 ((i:Int)+1)=((i+1:Nat):Int):=by rw [zaf ..]; omega
  rw [zdd L i hlt] at hg ⊢;rw [zm2] at hg;have hw2:w64 ((acc.length:Int) - 1)=(acc.length:Int) - 1:=zaf ..;have hsz:w64 ((g:Int)+w64 (6+((zad L (i:Int)).length:Int)))=((g+((zad L (i:Int)).length+6):Nat):Int):=by
   rw [zaf (x:=6+((zad L (i:Int)).length:Int)) (by omega) (by omega),zaf ..]; omega
  rw [nts];by_cases c1:(zg9 (zad L (i:Int))).2.Code=0
  ·have hbad:((!decide ((zg9 (zad L (i:Int))).2.Code=0))||((decide (0<(acc.length:Int)))&&(!decide ((zg9 (zad L (i:Int))).1.Seq=w64 ((zad acc ((acc.length:Int) - 1)).Seq+1))))) = !decide (nxt acc (zg9 (zad L (i:Int))).1):=by
    rw [xb2 c1,xez,xfg];by_cases c2:acc.length=0
    ·have h1:nxt acc (zg9 (zad L (i:Int))).1:=.inl c2;rw [xbg (show ¬ 0<(acc.length:Int) by omega),xb2 h1]; rfl
    ·have hl:=last_in c2 hn;have q1:=hl.lo;have q2:=hl.hi;have hw3:w64 ((zad acc ((acc.length:Int) - 1)).Seq+1)=(lastN acc).Seq+1:=zaf (by unfold lastN at q1; omega) (by unfold lastN at q2; omega);rw [hw3,xb2 (show 0<(acc.length:Int) by omega),xey];congr 1;exact xea.2 ⟨fun h=>.inr h,fun h=>h.resolve_left c2⟩
   by_cases c2:nxt acc (zg9 (zad L (i:Int))).1
   ·rw [xad ⟨c1,c2⟩];refine (zaj (y:=(acc++[(zg9 (zad L (i:Int))).1],((g+((zad L (i:Int)).length+6):Nat):Int),((i+1:Nat):Int))) ?_).trans (wnotes_loop L z hL r (i+1) (g+((zad L (i:Int)).length+6)) _ (by omega) (by omega) (by rw [xaa,xbc]; omega) (by omega) (fun n hh=>by
     rcases xax.1 hh with q | q
     ·exact hn n q
     ·rw [xba] at q; subst q; exact (noteS_good c1).1))
    unfold zh1;dsimp only;rw [ifT ..,zaa ..,zaa ..,wread_eq,zac,hw2,zaa (fun h _=>by have:=xa7 h; omega),zaa (fun h _=>by have:=xa7 h; omega),hbad,xab (n_f c2),note_eta,zaa (by rw [xaa,xbc]; omega),hw,hsz]
   ·rw [xab (fun h=>c2 h.2)];refine zae ?_;unfold zh1;dsimp only;rw [ifT ..,zaa ..,zaa ..,wread_eq,zac,hw2,zaa (fun h _=>by have:=xa7 h; omega),zaa (fun h _=>by have:=xa7 h; omega),hbad,xad (n_t c2)]; rfl
  ·rw [xab (fun h=>c1 h.1)];refine zae ?_;unfold zh1;dsimp only;rw [ifT ..,zaa ..,zaa ..,wread_eq,zac,hw2,zaa (fun h _=>by have:=xa7 h; omega),zaa (fun h _=>by have:=xa7 h; omega),xbg c1,xad (by rfl)]; rfl
noncomputable def logd (b:B8):List Note×Nat:=nts [] 0 (bodies b)
theorem wnotes_eq (d:Disk)(h:d.Bytes.length<=60000):wal_Notes d=some ((logd d.Bytes).1,(((logd d.Bytes).2:Nat):Int)):=by
 have hs:=bodies_size d.Bytes;have hl:=sizeF_len (bodies d.Bytes);unfold wal_Notes;rw [opened_eq0 _ (by omega),zac];exact wnotes_loop (bodies d.Bytes) _ (by omega) (bodies d.Bytes).length 0 0 [] (by omega) (by omega) (by simp) (by rw [xce]; omega) (by simp)
theorem rlogd_loop (L:B9)(z:Int)(hL:L.length<=100000):∀ (r i g:Nat) (acc:List Note),L.length - i=r->i<=L.length->acc.length=i->g+sizeF (L.drop i)<=100000->(∀ n∈acc,NGood n)->
  R_Logged_L1 (L,z) (acc,(g:Int),(i:Int))=some ((nts acc g (L.drop i)).1,(((nts acc g (L.drop i)).2:Nat):Int))
 | 0,i,g,acc,e,hi,ha,hg,hn=>by
  have:i=L.length:=by omega
  subst this;refine zae ?_;unfold zi8;dsimp only;rw [ifF ..,xck,nts]; rfl
 | r+1,i,g,acc,e,hi,ha,hg,hn=>by
  have hlt:i<L.length:=by omega
  have hw:w64 ((i:Int)+1)=((i+1:Nat):Int):=by rw [zaf ..]; omega
  rw [zdd L i hlt] at hg ⊢;rw [zm2] at hg;have hw2:w64 ((i:Int) - 1)=(acc.length:Int) - 1:=by rw [zaf ..]; omega
  have hsz:w64 (w64 ((g:Int)+6)+((zad L (i:Int)).length:Int))=((g+((zad L (i:Int)).length+6):Nat):Int):=by
   rw [zaf (x:=(g:Int)+6) (by omega) (by omega),zaf ..]; omega
  rw [nts];by_cases c1:(zg9 (zad L (i:Int))).2.Code=0
  ·have hgd:=(noteS_good c1).1;have hlo:=hgd.lo;have hhi:=hgd.hi;have hbad:((!decide ((zg9 (zad L (i:Int))).2.Code=0))||((decide (0<(i:Int)))&&(!decide (w64 ((zg9 (zad L (i:Int))).1.Seq - 1)=(zad acc ((acc.length:Int) - 1)).Seq)))) = !decide (nxt acc (zg9 (zad L (i:Int))).1):=by
    rw [xb2 c1,xez,xfg];by_cases c2:acc.length=0
    ·have h1:nxt acc (zg9 (zad L (i:Int))).1:=.inl c2;rw [xbg (show ¬ 0<(i:Int) by omega),xb2 h1]; rfl
    ·rw [zaf ..,xb2 (show 0<(i:Int) by omega),xey];congr 1;refine xea.2 ⟨fun h=>.inr ?_,fun h=>?_⟩
     ·show _=(zad acc ((acc.length:Int) - 1)).Seq+1; omega
     ·have h2:(zg9 (zad L (i:Int))).1.Seq=(zad acc ((acc.length:Int) - 1)).Seq+1:=h.resolve_left c2;omega
   by_cases c2:nxt acc (zg9 (zad L (i:Int))).1
   ·rw [xad ⟨c1,c2⟩];refine (zaj (y:=(acc++[(zg9 (zad L (i:Int))).1],((g+((zad L (i:Int)).length+6):Nat):Int),((i+1:Nat):Int))) ?_).trans (rlogd_loop L z hL r (i+1) (g+((zad L (i:Int)).length+6)) _ (by omega) (by omega) (by rw [xaa,xbc]; omega) (by omega) (fun n hh=>by
     rcases xax.1 hh with q | q
     ·exact hn n q
     ·rw [xba] at q; subst q; exact hgd))
    unfold zi8;dsimp only;rw [ifT ..,zaa ..,zaa ..,noteOf_eq,zac,hw2,zaa (fun h _=>by have:=xa7 h; omega),zaa (fun h _=>by have:=xa7 h; omega),hbad,xab (n_f c2),note_eta,zaa (by rw [xaa,xbc]; omega),zaa ..,zaa ..,hw,hsz]
   ·rw [xab (fun h=>c2 h.2)];refine zae ?_;unfold zi8;dsimp only;rw [ifT ..,zaa ..,zaa ..,noteOf_eq,zac,hw2,zaa (fun h _=>by have:=xa7 h; omega),zaa (fun h _=>by have:=xa7 h; omega),hbad,xad (n_t c2)]; rfl
  ·rw [xab (fun h=>c1 h.1)];refine zae ?_;unfold zi8;dsimp only;rw [ifT ..,zaa ..,zaa ..,noteOf_eq,zac,hw2,zaa (fun h _=>by have:=xa7 h; omega),zaa (fun h _=>by have:=xa7 h; omega),xbg c1,xad (by rfl)]; rfl
theorem rlogd_eq (b:B8)(h:b.length<=60000):R_Logged b=some ((logd b).1,(((logd b).2:Nat):Int)):=by
 have hs:=bodies_size b;have hl:=sizeF_len (bodies b);unfold R_Logged;rw [unframed_eq _ (by omega),zac];exact rlogd_loop (bodies b) _ (by omega) (bodies b).length 0 0 [] (by omega) (by omega) rfl (by rw [xce]; omega) (by simp)
theorem logd_le (b:B8):(logd b).2<=b.length/\(logd b).1.length<=b.length/\∀ n∈(logd b).1,NGood n:=by
 have hs:=bodies_size b;have hl:=sizeF_len (bodies b);obtain ⟨h1,h2,h3⟩:=nts_le (bodies b) [] 0;rw [xa3] at h2;exact ⟨by unfold logd; omega,by unfold logd; omega,h3 (by simp)⟩
def b2n (b:Bool):Nat:=match b with
 | true=>1
 | false=>0
def w8 (a0 a1 a2 a3 a4 a5 a6 a7:Bool):UInt8:=UInt8.ofNat (b2n a0+2*b2n a1+4*b2n a2+8*b2n a3+16*b2n a4+32*b2n a5+64*b2n a6+128*b2n a7)
theorem or8:∀ (k:Fin 8) (a0 a1 a2 a3 a4 a5 a6 a7:Bool),zfq (((BitVec.ofInt 8 ((w8 a0 a1 a2 a3 a4 a5 a6 a7).toNat:Int) ||| BitVec.ofInt 8 ((zfq (((1:UInt8).toNat:Int)*2 ^ (min ((k.val:Nat):Int).toNat 8))).toNat:Int)).toNat:Int)) =
  w8 (a0||k.val == 0) (a1||k.val == 1) (a2||k.val == 2) (a3||k.val == 3) (a4||k.val == 4) (a5||k.val == 5) (a6||k.val == 6) (a7||k.val == 7):=by decide +kernel
def sel8 (k:Nat)(a0 a1 a2 a3 a4 a5 a6 a7:Bool):Bool:=match k with
 | 0=>a0 | 1=>a1 | 2=>a2 | 3=>a3 | 4=>a4 | 5=>a5 | 6=>a6 | _=>a7
theorem add8:∀ (k:Fin 8) (a0 a1 a2 a3 a4 a5 a6 a7:Bool),sel8 k.val a0 a1 a2 a3 a4 a5 a6 a7=false->zfq (((w8 a0 a1 a2 a3 a4 a5 a6 a7).toNat:Int)+((zfq (((1:UInt8).toNat:Int)*2 ^ (min ((k.val:Nat):Int).toNat 8))).toNat:Int)) =
  w8 (a0||k.val == 0) (a1||k.val == 1) (a2||k.val == 2) (a3||k.val == 3) (a4||k.val == 4) (a5||k.val == 5) (a6||k.val == 6) (a7||k.val == 7):=by decide +kernel
def zgy (p:Nat->Bool)(j:Nat):UInt8:=w8 (p (8*j)) (p (8*j+1)) (p (8*j+2)) (p (8*j+3)) (p (8*j+4)) (p (8*j+5)) (p (8*j+6)) (p (8*j+7))
def bytesOf (p:Nat->Bool)(n:Nat):B8:=(List.range n).map (zgy p)
theorem zhq (p:Nat->Bool)(n:Nat):(bytesOf p n).length=n:=by simp [bytesOf]
theorem bytesOf_get (p:Nat->Bool)(n j:Nat)(h:j<n):zad (bytesOf p n) (j:Int)=zgy p j:=by
 rw [zdk _ j (by rw [zhq]; exact h)];simp [bytesOf]
theorem zij {p q:Nat->Bool}(n:Nat)(h:∀ i,i<8*n->p i=q i):bytesOf p n=bytesOf q n:=by
 unfold bytesOf;apply xff;intro j hj;have hj:j<n:=by simpa using hj
 unfold zgy;rw [h (8*j) (by omega),h (8*j+1) (by omega),h (8*j+2) (by omega),h (8*j+3) (by omega),h (8*j+4) (by omega),h (8*j+5) (by omega),h (8*j+6) (by omega),h (8*j+7) (by omega)]
def setP (p:Nat->Bool)(s:Nat):Nat->Bool:=fun i=>p i||i == s
theorem beq_off (j k i:Nat)(hk:k<8)(hi:i<8):(8*j+i == 8*j+k)=(k == i):=by
 rw [xb0]; simp; omega
theorem byteOf_set (p:Nat->Bool)(j k:Nat)(hk:k<8):zgy (setP p (8*j+k)) j =
  w8 (p (8*j)||k == 0) (p (8*j+1)||k == 1) (p (8*j+2)||k == 2) (p (8*j+3)||k == 3) (p (8*j+4)||k == 4) (p (8*j+5)||k == 5) (p (8*j+6)||k == 6) (p (8*j+7)||k == 7):=by
 have e0:(8*j == 8*j+k)=(k == 0):=by have:=beq_off j k 0 hk (by omega); simpa using this
 unfold zgy setP;rw [e0,beq_off j k 1 hk (by omega),beq_off j k 2 hk (by omega),beq_off j k 3 hk (by omega),beq_off j k 4 hk (by omega),beq_off j k 5 hk (by omega),beq_off j k 6 hk (by omega),beq_off j k 7 hk (by omega)]
theorem byteOf_other (p:Nat->Bool)(j s:Nat)(h:s / 8≠j):zgy (setP p s) j=zgy p j:=by
 have key:∀ i,i<8->(setP p s (8*j+i))=p (8*j+i):=by
  intro i hi;have:(8*j+i == s)=false:=by rw [xfe]; omega
  unfold setP; rw [this,xdn]
 have k0:=key 0 (by omega);unfold zgy;rw [key 1 (by omega),key 2 (by omega),key 3 (by omega),key 4 (by omega),key 5 (by omega),key 6 (by omega),key 7 (by omega)];rw [xcu] at k0;rw [k0]
theorem zoj (p:Nat->Bool)(n s:Nat)(hs:s<8*n):zmc (bytesOf p n) ((s / 8:Nat):Int) (zgy (setP p s) (s / 8))=bytesOf (setP p s) n:=by
 have hl:s / 8<n:=by omega
 apply xbz;intro j;have e:zmc (bytesOf p n) ((s / 8:Nat):Int) (zgy (setP p s) (s / 8))=(bytesOf p n).set (s / 8) (zgy (setP p s) (s / 8)):=rfl;rw [e,xcr,zhq];by_cases hj:s / 8=j
 ·subst hj;rw [xad rfl,xad hl];simp [bytesOf,hl]
 ·rw [xab hj];by_cases h2:j<n
  ·simp [bytesOf,h2,byteOf_other p j s hj]
  ·simp [bytesOf,h2]
theorem div_w (s:Nat)(h:s<=1000000):w64 (Int.tdiv (s:Int) 8)=((s / 8:Nat):Int):=by
 have:Int.tdiv (s:Int) 8=((s / 8:Nat):Int):=rfl;rw [this,zaf ..]
theorem or_set (p:Nat->Bool)(n s:Nat)(hs:s<8*n) :
  zfq (((BitVec.ofInt 8 ((zad (bytesOf p n) ((s / 8:Nat):Int)).toNat:Int) ||| BitVec.ofInt 8 ((zfq (((1:UInt8).toNat:Int)*2 ^ (min (Int.tmod (s:Int) 8).toNat 8))).toNat:Int)).toNat:Int))=zgy (setP p s) (s / 8):=by
 have hk:s % 8<8:=xdh _ (by decide);have e:Int.tmod (s:Int) 8=((s % 8:Nat):Int):=rfl;have h:=or8 ⟨s % 8,hk⟩ (p (8*(s / 8))) (p (8*(s / 8)+1)) (p (8*(s / 8)+2)) (p (8*(s / 8)+3)) (p (8*(s / 8)+4)) (p (8*(s / 8)+5)) (p (8*(s / 8)+6)) (p (8*(s / 8)+7));have e2:zgy (setP p s) (s / 8)=zgy (setP p (8*(s / 8)+s % 8)) (s / 8):=by rw [xe7]
 rw [bytesOf_get _ _ _ (by omega),e,e2,byteOf_set p _ _ hk];exact h
theorem add_set (p:Nat->Bool)(n s:Nat)(hs:s<8*n)(hp:p s=false) :
  zfq (((zad (bytesOf p n) ((s / 8:Nat):Int)).toNat:Int)+((zfq (((1:UInt8).toNat:Int)*2 ^ (min (Int.tmod (s:Int) 8).toNat 8))).toNat:Int))=zgy (setP p s) (s / 8):=by
 have hk:s % 8<8:=xdh _ (by decide);have e:Int.tmod (s:Int) 8=((s % 8:Nat):Int):=rfl;have hps:p (8*(s / 8)+s % 8)=false:=by rw [xe7]; exact hp
 have hsel:sel8 (s % 8) (p (8*(s / 8))) (p (8*(s / 8)+1)) (p (8*(s / 8)+2)) (p (8*(s / 8)+3)) (p (8*(s / 8)+4)) (p (8*(s / 8)+5)) (p (8*(s / 8)+6)) (p (8*(s / 8)+7))=false:=by
  generalize s % 8=k at *
  generalize s / 8=j at *
  match k,hk,hps with
  | 0,_,h=>exact h
  | 1,_,h=>exact h
  | 2,_,h=>exact h
  | 3,_,h=>exact h
  | 4,_,h=>exact h
  | 5,_,h=>exact h
  | 6,_,h=>exact h
  | 7,_,h=>exact h
 have h:=add8 ⟨s % 8,hk⟩ _ _ _ _ _ _ _ _ hsel;have e2:zgy (setP p s) (s / 8)=zgy (setP p (8*(s / 8)+s % 8)) (s / 8):=by rw [xe7]
 rw [bytesOf_get _ _ _ (by omega),e,e2,byteOf_set p _ _ hk];exact h
theorem bytesOf_zero (n:Nat):List.replicate n (0:UInt8)=bytesOf (fun _=>false) n:=by
 apply xbz;intro j;by_cases h:j<n
 ·simp [bytesOf,zgy,h,w8,b2n]
 ·simp [bytesOf,h]
def sp (row:B8)(m i:Nat):Nat:=(crc row % 65536+i*(crc row / 65536)) % m
theorem sp_lt (row:B8)(m i:Nat)(h:0<m):sp row m i<m:=xdh _ h
theorem spots_eq (row:B8)(m:Nat)(hr:row.length<=140737488351232)(h0:0<m)(h1:m<=1000000):zmz row (m:Int)=some ⟨(sp row m 0:Nat),(sp row m 1:Nat),(sp row m 2:Nat)⟩:=by
 have hc:=crc_lt row;have e1:w64 ((crc row:Nat):Int)=((crc row:Nat):Int):=zaf ..;have e2:Int.tmod ((crc row:Nat):Int) 65536=((crc row % 65536:Nat):Int):=rfl;have e3:Int.tdiv ((crc row:Nat):Int) 65536=((crc row / 65536:Nat):Int):=rfl;have q1:crc row % 65536<65536:=xdh _ (by decide);have q2:crc row / 65536<65536:=by omega
 have e4:w64 ((crc row / 65536:Nat):Int)=((crc row / 65536:Nat):Int):=zaf ..;unfold zmz zj9 sp;rw [zaa ..,crc_eq row (by omega),zac];dsimp only [lt];rw [zaa ..,zaa ..,zaa ..,e1,e2,e3,e4];generalize crc row % 65536=a at *
 generalize crc row / 65536=b at *
 have f0:w64 ((a:Int)+w64 (0*(b:Int)))=((a+0*b:Nat):Int):=by
  have:w64 (0*(b:Int))=0:=by rw [Int.zero_mul]; rfl
  rw [this,zaf ..]; omega
 have f1:w64 ((a:Int)+w64 (1*(b:Int)))=((a+1*b:Nat):Int):=by
  have:w64 (1*(b:Int))=b:=by rw [Int.one_mul,zaf ..]
  rw [this,zaf ..]; omega
 have f2:w64 ((a:Int)+w64 (2*(b:Int)))=((a+2*b:Nat):Int):=by
  have:w64 (2*(b:Int))=2*b:=zaf ..;rw [this,zaf ..]; omega
 rw [f0,f1,f2];rfl
theorem bits_eq (row:B8)(m:Nat)(hr:row.length<=140737488351232)(h0:0<m)(h1:m<=1000000):R_Bits row (m:Int)=some [((sp row m 0:Nat):Int),((sp row m 1:Nat):Int),((sp row m 2:Nat):Int)]:=by
 have hc:=crc_lt row;have u:∀ x:Nat,x<=10000000000->IntKind.u64.wrap (x:Int)=(x:Int):=fun x hx=>by rw [IntKind.wrap_u64]; omega
 have e2:Int.tmod ((crc row:Nat):Int) 65536=((crc row % 65536:Nat):Int):=rfl;have e3:Int.tdiv ((crc row:Nat):Int) 65536=((crc row / 65536:Nat):Int):=rfl;have q1:crc row % 65536<65536:=xdh _ (by decide);have q2:crc row / 65536<65536:=by omega
 unfold R_Bits sp;rw [zaa ..,rest_eq row (by omega),zac,u m (by omega),zaa ..,zaa ..,zaa ..,u (crc row) (by omega)];dsimp only [lt];rw [e2,e3,u _ (by omega)];generalize crc row % 65536=a at *
 generalize crc row / 65536=b at *
 have g2:(2*(b:Int))=((2*b:Nat):Int):=by omega
 rw [g2,u _ (by omega),show (a:Int)+(b:Int)=((a+b:Nat):Int) by omega,show (a:Int)+((2*b:Nat):Int)=((a+2*b:Nat):Int) by omega,u _ (by omega),u _ (by omega)];have t:∀ x:Nat,w64 (Int.tmod (x:Int) (m:Int))=((x % m:Nat):Int):=fun x=>by
  have e:Int.tmod (x:Int) (m:Int)=((x % m:Nat):Int):=rfl;have:=xdh x h0;rw [e,zaf ..]
 rw [t,t,t,xei,Nat.one_mul,xcu]
def zc9 (l:Cs):Nat->B9
 | 0=>[]
 | k+1=>if (zc9 l k).length=0\/zad (zc9 l k) ((zc9 l k).length - 1)≠(zad l (k:Int)).Row then zc9 l k++[(zad l (k:Int)).Row] else zc9 l k
theorem rowsK_last (l:Cs):∀ k:Nat,(zc9 l (k+1)).length≠0/\zad (zc9 l (k+1)) ((zc9 l (k+1)).length - 1)=(zad l (k:Int)).Row/\(zc9 l (k+1)).length<=k+1
 | 0=>by
  rw [zc9,xad (.inl rfl)];exact ⟨by simp [zc9],by simp [zc9,zad],by simp [zc9]⟩
 | k+1=>by
  obtain ⟨h1,h2,h3⟩:=rowsK_last l k;rw [zc9];by_cases c:(zc9 l (k+1)).length=0\/zad (zc9 l (k+1)) ((zc9 l (k+1)).length - 1)≠(zad l ((k+1:Nat):Int)).Row
  ·rw [xad c];refine ⟨by simp,?_,by rw [xaa,xbc]; omega⟩;rw [xaa,xbc,lget_app_r _ _ _ (by omega)];have:(((zc9 l (k+1)).length+1:Nat):Int) - 1 - ((zc9 l (k+1)).length:Int)=0:=by omega
   rw [this]; rfl
  ·rw [xab c];exact ⟨h1,xdo.1 (fun q=>c (.inr q)),by omega⟩
theorem rowsK_len (l:Cs)(k:Nat):(zc9 l k).length<=k:=by
 cases k with
 | zero=>simp [zc9]
 | succ k=>exact (rowsK_last l k).2.2
theorem rowsK_mem (l:Cs)(x:B8):∀ k:Nat,x∈zc9 l k↔∃ j,j<k/\x=(zad l (j:Int)).Row
 | 0=>by simp [zc9]
 | k+1=>by
  have ih:=rowsK_mem l x k;rw [zc9];have hs:(∃ j,j<k+1/\x=(zad l (j:Int)).Row)↔(x∈zc9 l k\/x=(zad l (k:Int)).Row):=by
   rw [ih];constructor
   ·rintro ⟨j,hj,e⟩;by_cases c:j=k
    ·subst c; exact .inr e
    ·exact .inl ⟨j,by omega,e⟩
   ·rintro (⟨j,hj,e⟩ | e)
    ·exact ⟨j,by omega,e⟩
    ·exact ⟨k,by omega,e⟩
  rw [hs];split
  ·rw [xax,xba]
  ·rename_i c;constructor
   ·exact .inl
   ·rintro (h | h)
    ·exact h
    ·cases k with
     | zero=>exact absurd (Or.inl rfl) c
     | succ k=>
      have:=xdo.1 (fun q=>c (.inr q));rw [h,<- this];exact zif _ _ (by have:=(rowsK_last l k).1; omega)
def spP (p:Nat->Bool)(row:B8)(m:Nat):Nat->Bool:=setP (setP (setP p (sp row m 0)) (sp row m 1)) (sp row m 2)
def hit (row:B8)(m i:Nat):Prop:=i=sp row m 0\/i=sp row m 1\/i=sp row m 2
theorem spP_iff (p:Nat->Bool)(row:B8)(m i:Nat):spP p row m i=true↔(p i=true\/hit row m i):=by
 unfold spP setP hit;simp only [xa0,xeq];constructor
 ·rintro (((h | h) | h) | h)
  ·exact .inl h
  ·exact .inr (.inl h)
  ·exact .inr (.inr (.inl h))
  ·exact .inr (.inr (.inr h))
 ·rintro (h | h | h | h)
  ·exact .inl (.inl (.inl h))
  ·exact .inl (.inl (.inr h))
  ·exact .inl (.inr h)
  ·exact .inr h
def rowP (r:B9)(m:Nat):Nat->Nat->Bool
 | 0=>fun _=>false
 | k+1=>spP (rowP r m k) (zad r (k:Int)) m
theorem rowP_iff (r:B9)(m i:Nat):∀ k:Nat,rowP r m k i=true↔∃ j,j<k/\hit (zad r (j:Int)) m i
 | 0=>by simp [rowP]
 | k+1=>by
  rw [rowP,spP_iff,rowP_iff r m i k];constructor
  ·rintro (⟨j,hj,h⟩ | h)
   ·exact ⟨j,by omega,h⟩
   ·exact ⟨k,by omega,h⟩
  ·rintro ⟨j,hj,h⟩;by_cases c:j=k
   ·subst c; exact .inr h
   ·exact .inl ⟨j,by omega,h⟩
def celR (l:Cs):B9:=l.map (fun c=>c.Row)
theorem celR_get (l:Cs)(k:Nat)(h:k<l.length):zad (celR l) (k:Int)=(zad l (k:Int)).Row:=by
 rw [zdk _ k (by simp [celR]; exact h),zdk _ k h]; simp [celR]
def filN (l:Cs):Nat:=max 1 (zc9 l l.length).length
def filF (l:Cs):B8:=bytesOf (rowP (celR l) (8*filN l) l.length) (filN l)
theorem filF_rows (l:Cs):filF l=bytesOf (rowP (zc9 l l.length) (8*filN l) (zc9 l l.length).length) (filN l):=by
 unfold filF;refine zij _ fun i _=>?_;rw [xb0,rowP_iff,rowP_iff];constructor
 ·rintro ⟨j,hj,h⟩;rw [celR_get l j hj] at h;obtain ⟨q,hq,e⟩:=mem_lget.1 ((rowsK_mem l (zad l (j:Int)).Row l.length).2 ⟨j,hj,rfl⟩);exact ⟨q,hq,by rw [e]; exact h⟩
 ·rintro ⟨q,hq,h⟩;obtain ⟨j,hj,e⟩:=(rowsK_mem l _ l.length).1 (zif (zc9 l l.length) (q:Int) (by omega));exact ⟨j,hj,by rw [celR_get l j hj,<- e]; exact h⟩
theorem filN_bd (l:Cs):1<=filN l/\filN l<=l.length+1:=by
 have:=rowsK_len l l.length;unfold filN; omega
theorem filter_B1 (l:Cs)(hl:l.length<=100000)(hr:∀ c∈l,c.Row.length<=140737488351232)(n:Nat)(hn0:1<=n)(hn:n<=100001)(p:Nat->Bool)(k:Nat)(hk:k<l.length) :
  zeb l (bytesOf p n,(k:Int))=some (.inl (bytesOf (spP p (zad l (k:Int)).Row (8*n)) n,((k+1:Nat):Int))):=by
 have hw:w64 ((k:Int)+1)=((k+1:Nat):Int):=by rw [zaf ..]; omega
 have h8:w64 (8*(n:Int))=((8*n:Nat):Int):=by rw [zaf ..]; omega
 have hrow:=hr _ (zif l (k:Int) (by omega));have m0:0<8*n:=by omega
 unfold zeb;dsimp only;rw [zhq,ifT ..,zaa ..,h8,spots_eq _ _ hrow m0 (by omega),zac];dsimp only [lt];generalize (zad l (k:Int)).Row=row at *
 have s0:=sp_lt row (8*n) 0 m0;have s1:=sp_lt row (8*n) 1 m0;have s2:=sp_lt row (8*n) 2 m0;unfold spP;generalize sp row (8*n) 0=a at *
 generalize sp row (8*n) 1=b at *
 generalize sp row (8*n) 2=c at *
 have tm:∀ x:Nat,0<=Int.tmod (x:Int) 8:=fun x=>by have:Int.tmod (x:Int) 8=((x % 8:Nat):Int):=rfl; omega
 rw [div_w a (by omega),div_w b (by omega),div_w c (by omega),zaa ..,zaa ..,zaa (tm a),zaa ..,zaa ..,or_set p n a s0,zoj p n a s0,zhq,
  zaa ..,zaa ..,zaa (tm b),zaa ..,zaa ..,or_set _ n b s1,zoj _ n b s1,zhq,
  zaa ..,zaa ..,zaa (tm c),zaa ..,zaa ..,or_set _ n c s2,zoj _ n c s2]
 unfold zja;dsimp only;rw [hw]
theorem filter_eq (l:Cs)(hl:l.length<=100000)(hr:∀ c∈l,c.Row.length<=140737488351232):zi2 l=some (filF l):=by
 have hN:=filN_bd l;unfold zi2 zmm;refine loop_run (step:=fun y=>zer l y) l.length (fun k=>(((zc9 l k).length:Int),(k:Int))) (fun k hk=>?_) ?_
 ·have hw:w64 ((k:Int)+1)=((k+1:Nat):Int):=by rw [zaf ..]; omega
  have hrl:=rowsK_len l k;have hw2:w64 (((zc9 l k).length:Int)+1)=(((zc9 l k).length+1:Nat):Int):=by rw [zaf ..]; omega
  have hw3:w64 ((k:Int) - 1)=(k:Int) - 1:=zaf ..;show zer l (_,(k:Int))=_;unfold zer;dsimp only;rw [ifT ..,zaa ..,hw3,hw,zaa (fun q=>by have h3:¬ ((k:Int)=0):=(by simpa using q); omega)];have hc:((decide ((k:Int)=0))||(!decide ((zad l (k:Int)).Row=(zad l ((k:Int) - 1)).Row)))=decide ((zc9 l k).length=0\/zad (zc9 l k) ((zc9 l k).length - 1)≠(zad l (k:Int)).Row):=by
   rw [xb0];simp only [xa0,xav,xbq,xbd];cases k with
   | zero=>simp [zc9]
   | succ k=>
    obtain ⟨h1,h2,_⟩:=rowsK_last l k;have e:((k+1:Nat):Int) - 1=(k:Int):=by omega
    rw [e,h2];constructor
    ·rintro (q | q)
     ·omega
     ·exact .inr fun x=>q x.symm
    ·rintro (q | q)
     ·exact absurd q h1
     ·exact .inr fun x=>q x.symm
  rw [hc,zc9];by_cases c:(zc9 l k).length=0\/zad (zc9 l k) ((zc9 l k).length - 1)≠(zad l (k:Int)).Row
  ·rw [xad (d_t c),xad c,hw2,zac,xaa,xbc]
  ·rw [xab (d_f c),xab c,zac]
 ·show zer l (_,(l.length:Int))=_;unfold zer;dsimp only;rw [ifF ..];have hmx:(max 1 ((zc9 l l.length).length:Int))=((filN l:Nat):Int):=by unfold filN; omega
  have:zg4 l ((zc9 l l.length).length:Int)=some (filF l):=by
   unfold zg4;rw [hmx,zaa ..,xbs,bytesOf_zero];unfold zml filF;refine loop_run (step:=fun y=>zeb l y) l.length (fun k=>(bytesOf (rowP (celR l) (8*filN l) k) (filN l),(k:Int))) (fun k hk=>?_) ?_
   ·show zeb l (bytesOf _ _,(k:Int))=_;rw [filter_B1 l hl hr _ hN.1 (by omega) _ k hk,rowP,celR_get l k hk]
   ·show zeb l (bytesOf _ _,(l.length:Int))=_;unfold zeb;dsimp only;rw [ifF ..]; rfl
  rw [this]; rfl
theorem rrows_eq (l:Cs)(hl:l.length<=100000):R_RowsOf l=some (zc9 l l.length):=by
 unfold R_RowsOf R_RowsOf_L1;refine loop_run (step:=fun y=>zhk l y) l.length (fun k=>(zc9 l k,(k:Int))) (fun k hk=>?_) ?_
 ·have hw:w64 ((k:Int)+1)=((k+1:Nat):Int):=by rw [zaf ..]; omega
  have hrl:=rowsK_len l k;have hw3:w64 (((zc9 l k).length:Int) - 1)=((zc9 l k).length:Int) - 1:=zaf ..;show zhk l (zc9 l k,(k:Int))=_;unfold zhk;dsimp only;have hz:(!(decide (((zc9 l k).length:Int)=0)))=true->0<(zc9 l k).length:=fun q=>by
   have:¬ (((zc9 l k).length:Int)=0):=by simpa using q
   omega
  rw [ifT ..,hw3,hw,zaa (fun q=>by have:=hz q; omega),zaa (fun q=>by have:=hz q; omega),zaa (fun q=>by omega)];have hc:((decide (((zc9 l k).length:Int)=0))||(!decide ((zad (zc9 l k) (((zc9 l k).length:Int) - 1))=((zad l (k:Int)).Row))))=decide ((zc9 l k).length=0\/zad (zc9 l k) ((zc9 l k).length - 1)≠(zad l (k:Int)).Row):=by
   rw [xb0];simp only [xa0,xav,xbq,xbd];constructor
   ·rintro (q | q)
    ·exact .inl (by omega)
    ·exact .inr q
   ·rintro (q | q)
    ·exact .inl (by omega)
    ·exact .inr q
  rw [hc,zc9];by_cases c:(zc9 l k).length=0\/zad (zc9 l k) ((zc9 l k).length - 1)≠(zad l (k:Int)).Row
  ·rw [xad (d_t c),xad c,zaa ..,zaa (by rw [xaa,xbc]; omega),zac]
  ·rw [xab (d_f c),xab c,zac]
 ·show zhk l (zc9 l l.length,(l.length:Int))=_;unfold zhk;dsimp only;rw [ifF ..]; rfl
def zi1 (p:Nat->Bool)(m:Nat):List Bool:=(List.range m).map p
theorem bools_len (p:Nat->Bool)(m:Nat):(zi1 p m).length=m:=by simp [zi1]
theorem bools_get (p:Nat->Bool)(m i:Nat)(h:i<m):zad (zi1 p m) (i:Int)=p i:=by
 rw [zdk _ i (by rw [bools_len]; exact h)]; simp [zi1]
theorem bools_set (p:Nat->Bool)(m s:Nat):zmc (zi1 p m) (s:Int) true=zi1 (setP p s) m:=by
 apply xbz;intro j;have e:zmc (zi1 p m) (s:Int) true=(zi1 p m).set s true:=rfl;rw [e,xcr,bools_len];by_cases hj:s=j
 ·subst hj;rw [xad rfl];by_cases h:s<m
  ·rw [xad h]; simp [zi1,h,setP]
  ·rw [xab h]; simp [zi1,h]
 ·rw [xab hj];by_cases h:j<m
  ·have:(j == s)=false:=by rw [xfe]; omega
   simp [zi1,h,setP,this]
  ·simp [zi1,h]
theorem bools_zero (m:Nat):List.replicate m false=zi1 (fun _=>false) m:=by
 apply xbz;intro j;by_cases h:j<m <;> simp [zi1,h]
theorem rfil_L3 (v6:List Bool×Int)(p:Nat->Bool)(m a b c:Nat)(ha:a<m)(hb:b<m)(hc:c<m):zoy v6 [(a:Int),(b:Int),(c:Int)] (zi1 p m,0)=some (.inl (zi1 (setP (setP (setP p a) b) c) m,w64 (v6.2+1))):=by
 have st:∀ (q:Nat->Bool) (k:Nat) (x:Nat),k<3->zad [(a:Int),(b:Int),(c:Int)] (k:Int)=(x:Int)->x<m->zd8 v6 [(a:Int),(b:Int),(c:Int)] (zi1 q m,(k:Int))=some (.inl (zi1 (setP q x) m,((k+1:Nat):Int))):=by
  intro q k x hk hx hxm;have hw:w64 ((k:Int)+1)=((k+1:Nat):Int):=by rw [zaf ..]; omega
  have hlen:(([(a:Int),(b:Int),(c:Int)]:List Int).length:Int)=3:=rfl;unfold zd8;dsimp only;rw [hlen,ifT ..,zaa ..,hx,bools_len,zaa ..,zaa ..,bools_set,hw]
 have e1:=zaj (step:=fun y=>zd8 v6 [(a:Int),(b:Int),(c:Int)] y) (st p 0 a (by omega) rfl ha);have e2:=zaj (step:=fun y=>zd8 v6 [(a:Int),(b:Int),(c:Int)] y) (st (setP p a) 1 b (by omega) rfl hb);have e3:=zaj (step:=fun y=>zd8 v6 [(a:Int),(b:Int),(c:Int)] y) (st (setP (setP p a) b) 2 c (by omega) rfl hc);have e4:zb7 (fun y=>zd8 v6 [(a:Int),(b:Int),(c:Int)] y) (zi1 (setP (setP (setP p a) b) c) m,((2+1:Nat):Int))=some (.inl (zi1 (setP (setP (setP p a) b) c) m,w64 (v6.2+1))):=by
  refine zae ?_;have hlen:(([(a:Int),(b:Int),(c:Int)]:List Int).length:Int)=3:=rfl;unfold zd8 zkl;dsimp only;rw [hlen,xab (d_f (by decide))]; rfl
 exact e1.trans (e2.trans (e3.trans e4))
def pre (p:Nat->Bool)(k:Nat):Nat->Bool:=fun i=>p i&&decide (i<k)
theorem pre_succ (p:Nat->Bool)(k:Nat):(p k=true->∀ i,pre p (k+1) i=setP (pre p k) k i)/\(p k=false->∀ i,pre p (k+1) i=pre p k i):=by
 constructor
 ·intro h i;unfold pre setP;by_cases c:i=k
  ·subst c; simp [h]
  ·have e1:(i == k)=false:=by rw [xfe]; exact c
   have e2:decide (i<k+1)=decide (i<k):=by rw [xea]; omega
   rw [e1,e2,xdn]
 ·intro h i;unfold pre;by_cases c:i=k
  ·subst c; simp [h]
  ·have e2:decide (i<k+1)=decide (i<k):=by rw [xea]; omega
   rw [e2]
theorem rfil_J1 (p:Nat->Bool)(n:Nat)(h0:1<=n)(h1:n<=100001):ziq (n:Int) (zi1 p (8*n))=some (bytesOf p n):=by
 unfold ziq;rw [zaa ..,xbs,bytesOf_zero];have e0:bytesOf (fun _=>false) n=bytesOf (pre p 0) n:=zij n fun i _=>by simp [pre]
 have e1:bytesOf p n=bytesOf (pre p (8*n)) n:=zij n fun i hi=>by simp [pre,hi]
 rw [e0,e1];unfold zoo;refine loop_run (step:=fun y=>zfp (zi1 p (8*n)) y) (8*n) (fun k=>(bytesOf (pre p k) n,(k:Int))) (fun k hk=>?_) ?_
 ·have hw:w64 ((k:Int)+1)=((k+1:Nat):Int):=by rw [zaf ..]; omega
  have tm:0<=Int.tmod (k:Int) 8:=by have:Int.tmod (k:Int) 8=((k % 8:Nat):Int):=rfl; omega
  show zfp (zi1 p (8*n)) (bytesOf (pre p k) n,(k:Int))=_;unfold zfp;dsimp only;rw [bools_len,zhq,ifT ..,zaa ..,zaa ..,bools_get p _ k hk,hw];cases hp:p k with
  | true=>
   rw [xad rfl,div_w k (by omega),zaa ..,zaa ..,zaa tm,zaa ..,zaa ..,add_set _ n k hk (by simp [pre]),zoj _ n k hk];dsimp only [lt];rw [zac,zij n fun i _=>(pre_succ p k).1 hp i]
  | false=>
   rw [xab (by decide),zac,zij n fun i _=>(pre_succ p k).2 hp i]
 ·show zfp (zi1 p (8*n)) (bytesOf (pre p (8*n)) n,((8*n:Nat):Int))=_;unfold zfp;dsimp only;rw [bools_len,ifF ..]; rfl
theorem rfilter_eq (l:Cs)(hl:l.length<=100000)(hr:∀ c∈l,c.Row.length<=140737488351232):zkv l=some (filF l):=by
 have hN:=filN_bd l;have hrl:=rowsK_len l l.length;unfold zkv;rw [rrows_eq l hl,zac];have hv:(if (decide (((zc9 l l.length).length:Int)=0))=true then (some 1:Option Int) else some ((zc9 l l.length).length:Int))=some ((filN l:Nat):Int):=by
  by_cases c:((zc9 l l.length).length:Int)=0
  ·rw [xad (d_t c)]; unfold filN; congr 1; omega
  ·rw [xab (d_f c)]; unfold filN; congr 1; omega
 have h8:w64 (8*((filN l:Nat):Int))=((8*filN l:Nat):Int):=by rw [zaf ..]; omega
 rw [hv,zac,h8,zaa ..,xbs,bools_zero,filF_rows];have hrow:∀ x∈zc9 l l.length,x.length<=140737488351232:=by
  intro x hx;obtain ⟨j,hj,e⟩:=(rowsK_mem l x l.length).1 hx;rw [e]; exact hr _ (zif l (j:Int) (by omega))
 have m0:0<8*filN l:=by omega
 unfold znv;generalize zc9 l l.length=r at *
 refine loop_run (step:=fun y=>zfg r ((filN l:Nat):Int) y) r.length (fun k=>(zi1 (rowP r (8*filN l) k) (8*filN l),(k:Int))) (fun k hk=>?_) ?_
 ·have hw:w64 ((k:Int)+1)=((k+1:Nat):Int):=by rw [zaf ..]; omega
  show zfg r ((filN l:Nat):Int) (zi1 _ _,(k:Int))=_;unfold zfg;dsimp only;rw [ifT ..,zaa ..,zaa ..,h8,bits_eq _ _ (hrow _ (zif r (k:Int) (by omega))) m0 (by omega),zac,rfil_L3 _ _ _ _ _ _ (sp_lt _ _ _ m0) (sp_lt _ _ _ m0) (sp_lt _ _ _ m0)];dsimp only;rw [hw,rowP]; rfl
 ·show zfg r ((filN l:Nat):Int) (zi1 _ _,(r.length:Int))=_;unfold zfg;dsimp only;rw [ifF ..,rfil_J1 _ _ hN.1 (by omega)]; rfl
section
def hdR (g:Cs):B8:=(zad g 0).Row
def blkK (l:Cs)(size:Int):Nat->List Cs×Cs
 | 0=>([],[])
 | k+1=>if size<=((encC ((blkK l size k).2++[zad l (k:Int)])).length:Int)\/k+1=l.length then ((blkK l size k).1++[(blkK l size k).2++[zad l (k:Int)]],[]) else ((blkK l size k).1,(blkK l size k).2++[zad l (k:Int)])
def idxL (gs:List Cs):B8:=gs.flatMap fun g=>wrT (hdR g)++num (encC g).length
section
variable {l:Cs}(hg:∀ c∈l,zbx c=0)(hl:l.length<=1000)(size:Int)
include hg hl
def partsL (l:Cs)(size:Int):B9:=(blkK l size l.length).1.map encC++[idxL (blkK l size l.length).1,filF l]
def fileB (l:Cs)(size:Int):B8:=encF (partsL l size)
end
end
section
section
variable {l:Cs}(hg:∀ c∈l,zbx c=0)(hl:l.length<=1000)(size:Int)
include hg hl
end
end
section
section
variable {l:Cs}(hG:Good l)(size:Int)(hB:(fileB l size).length<=60000)
include hG hB
end
end
section
theorem opn_len:∀ (k:Nat) (b:B8) (acc:B9) (g:Nat),(opn k b acc g).1.length<=acc.length+k/\(opn k b acc g).2<=g+b.length
 | 0,b,acc,g=>by simp [opn]
 | k+1,b,acc,g=>by
  cases h:rdF b with
  | none=>rw [zki h]; simp
  | some q=>
   obtain ⟨x,r⟩:=q;obtain ⟨e,_⟩:=rdF_some h;have:=opn_len k r (acc++[x]) (g+(x.length+6));rw [opn_some h];rw [xaa,xbc] at this;have hl:b.length=x.length+6+r.length:=by rw [e,xaa,frame_len]
   omega
theorem opn_mem:∀ (k:Nat) (b:B8) (acc:B9) (g:Nat) (s:B8),s∈(opn k b acc g).1->s∈acc\/s.length<=b.length
 | 0,b,acc,g,s,h=>by simp [opn] at h; exact .inl h
 | k+1,b,acc,g,s,h=>by
  cases hr:rdF b with
  | none=>rw [zki hr] at h; exact .inl h
  | some q=>
   obtain ⟨x,r⟩:=q;obtain ⟨e,_⟩:=rdF_some hr;have hl:b.length=x.length+6+r.length:=by rw [e,xaa,frame_len]
   rw [opn_some hr] at h
   rcases opn_mem k r _ _ s h with q | q
   ·rcases xax.1 q with q | q
    ·exact .inl q
    ·rw [xba] at q; rw [q]; right; omega
   ·right; omega
def idxP (L:B9):Nat->Nat->B8->B9->Option B9
 | 0,_,x,rows=>if x=[] then some rows else none
 | m+1,k,x,rows=>match rdT x with
  | none=>none
  | some (s,r)=>match rdN r with
   | none=>none
   | some (v,r')=>if v=(zad L (k:Int)).length then idxP L m (k+1) r' (rows++[s]) else none
def opI (L:B9):Option B9->Bool×opened×Fault
 | some rows=>(true,⟨L.take (L.length - 2),rows,zad L ((L.length:Int) - 1)⟩,⟨0,0⟩)
 | none=>(false,default,⟨5,1⟩)
section
variable {L:B9}(h2:2<=L.length)(hL:L.length<=100000)(hs:∀ s∈L,s.length<=100000)(z:Int)
include h2 hL hs
theorem open_bad:∀ (m k:Nat) (rows:B9),L.length - 2 - k=m->k<=L.length - 2->rows.length<=k->zls (L,z) (rows,⟨[],true⟩,(k:Int))=some (false,default,⟨5,1⟩)
 | 0,k,rows,e,hk,hr=>by
  have hw1:w64 ((L.length:Int) - 2)=(L.length:Int) - 2:=zaf ..;refine zae ?_;unfold zds;dsimp only;rw [hw1,ifF ..];rfl
 | m+1,k,rows,e,hk,hr=>by
  have hw1:w64 ((L.length:Int) - 2)=(L.length:Int) - 2:=zaf ..;have hw:w64 ((k:Int)+1)=((k+1:Nat):Int):=by rw [zaf ..]; omega
  by_cases c:(0:Int)=((zad L (k:Int)).length:Int)
  ·refine (zaj ?_).trans (open_bad m (k+1) (rows++[[]]) (by omega) (by omega) (by rw [xaa,xbc]; omega));unfold zds;dsimp only;rw [hw1,ifT ..,text_bad,zac];dsimp only;rw [zaa (by rw [xaa,xbc]; omega),num_bad,zac];dsimp only;rw [zaa ..,xab (n_f c),hw]
  ·refine zae ?_;unfold zds;dsimp only;rw [hw1,ifT ..,text_bad,zac];dsimp only;rw [zaa (by rw [xaa,xbc]; omega),num_bad,zac];dsimp only;rw [zaa ..,xad (n_t c)];rfl
theorem open_idx:∀ (m k:Nat) (x:B8) (rows:B9),L.length - 2 - k=m->k<=L.length - 2->rows.length<=k->x.length<=100000->zls (L,z) (rows,⟨x,false⟩,(k:Int))=some (opI L (idxP L m k x rows))
 | 0,k,x,rows,e,hk,hr,hx=>by
  have hw1:w64 ((L.length:Int) - 2)=(L.length:Int) - 2:=zaf ..;have hw2:w64 ((L.length:Int) - 2+1)=(L.length:Int) - 1:=by rw [zaf ..]; omega
  have ht:zdq L ((L.length:Int) - 2)=L.take (L.length - 2):=by
   have:(L.length:Int) - 2=((L.length - 2:Nat):Int):=by omega
   rw [this,zdu]
  refine zae ?_;unfold zds;dsimp only;rw [hw1,ifF ..];unfold zlu zfv;dsimp only [lt];rw [hw1,hw2,ht,idxP];by_cases c:x=[]
  ·subst c;rw [xad rfl,xab (by simp)]; rfl
  ·have:¬ ((x.length:Int)=0):=fun q=>c (xai (by omega));rw [xab c,xad (by simp; exact c)]; rfl
 | m+1,k,x,rows,e,hk,hr,hx=>by
  have hw1:w64 ((L.length:Int) - 2)=(L.length:Int) - 2:=zaf ..;have hw:w64 ((k:Int)+1)=((k+1:Nat):Int):=by rw [zaf ..]; omega
  have hrl:∀ s:B8,(rows++[s]).length<=k+1:=fun s=>by rw [xaa,xbc]; omega
  rw [idxP];cases ht:rdT x with
  | none=>
   have h1:=text_none (by omega) ht;by_cases c:(0:Int)=((zad L (k:Int)).length:Int)
   ·refine (zaj ?_).trans (open_bad h2 hL hs z m (k+1) (rows++[[]]) (by omega) (by omega) (hrl _));unfold zds;dsimp only;rw [hw1,ifT ..,h1,zac];dsimp only;rw [zaa (by have:=hrl []; omega),num_bad,zac];dsimp only;rw [zaa ..,xab (n_f c),hw]
   ·refine zae ?_;unfold zds;dsimp only;rw [hw1,ifT ..,h1,zac];dsimp only;rw [zaa (by have:=hrl []; omega),num_bad,zac];dsimp only;rw [zaa ..,xad (n_t c)];rfl
  | some q=>
   obtain ⟨s,r⟩:=q;have h1:=text_some (by omega) ht;have hrx:=rdT_len ht;dsimp only;cases hn:rdN r with
   | none=>
    have h3:=num_none (by omega) hn;by_cases c:(0:Int)=((zad L (k:Int)).length:Int)
    ·refine (zaj ?_).trans (open_bad h2 hL hs z m (k+1) (rows++[s]) (by omega) (by omega) (hrl _));unfold zds;dsimp only;rw [hw1,ifT ..,h1.1,zac];dsimp only;rw [zaa (by have:=hrl s; omega),h3,zac];dsimp only;rw [zaa ..,xab (n_f c),hw]
    ·refine zae ?_;unfold zds;dsimp only;rw [hw1,ifT ..,h1.1,zac];dsimp only;rw [zaa (by have:=hrl s; omega),h3,zac];dsimp only;rw [zaa ..,xad (n_t c)];rfl
   | some q=>
    obtain ⟨v,r'⟩:=q;have h3:=num_some (by omega) hn;have hrr:r'.length<=r.length:=by
     obtain ⟨e',_⟩:=zeq hn;rw [e',xaa]; omega
    dsimp only;by_cases c:v=(zad L (k:Int)).length
    ·rw [xad c];refine (zaj ?_).trans (open_idx m (k+1) r' (rows++[s]) (by omega) (by omega) (hrl _) (by omega));unfold zds;dsimp only;rw [hw1,ifT ..,h1.1,zac];dsimp only;rw [zaa (by have:=hrl s; omega),h3.1,zac];dsimp only;rw [zaa ..,xab (n_f (by omega)),hw]
    ·rw [xab c];refine zae ?_;unfold zds;dsimp only;rw [hw1,ifT ..,h1.1,zac];dsimp only;rw [zaa (by have:=hrl s; omega),h3.1,zac];dsimp only;rw [zaa ..,xad (n_t (by omega))];rfl
end
end
section
def badO (b:B8):Prop:=(opn b.length b [] 0).2≠b.length\/(opn b.length b [] 0).1.length<2\/(zad (opn b.length b [] 0).1 (((opn b.length b [] 0).1.length:Int) - 1)).length=0
instance (b:B8):Decidable (badO b):=inferInstanceAs (Decidable (_\/_))
def idxO (L:B9):Option B9:=idxP L (L.length - 2) 0 (zad L ((L.length:Int) - 2)) []
def openS (b:B8):Bool×opened×Fault:=
 if 60000<b.length then (false,default,⟨8,0⟩)
 else if badO b then (false,default,⟨5,0⟩)
 else opI (opn b.length b [] 0).1 (idxO (opn b.length b [] 0).1)
theorem open_all (b:B8):file_open b=some (openS b):=by
 unfold file_open openS;by_cases c:60000<b.length
 ·rw [ifT ..,xad c]; rfl
 ·have hlen:=opn_len b.length b [] 0;have hmem:=fun s h=>opn_mem b.length b [] 0 s h;obtain ⟨L,n,hop⟩:∃ L n,opn b.length b [] 0=(L,n):=⟨_,_,rfl⟩;have hb:badO b↔(n≠b.length\/L.length<2\/(zad L ((L.length:Int) - 1)).length=0):=by unfold badO; rw [hop]
  rw [ifF ..,xab c,opened_eq _ (by omega),zac,hop];rw [hop] at hlen hmem;dsimp only at hlen hmem ⊢;unfold idxO;have hL:L.length<=60000:=by have:=hlen.1; simp at this; omega
  have hw1:w64 ((L.length:Int) - 2)=(L.length:Int) - 2:=zaf ..;have hw2:w64 ((L.length:Int) - 2+1)=(L.length:Int) - 1:=by rw [zaf ..]; omega
  rw [hw1,hw2];have hcond:(((!decide ((n:Int)=(b.length:Int)))||(decide ((L.length:Int) - 2<0)))||(decide (((zad L ((L.length:Int) - 1)).length:Int)=0)))=decide (n≠b.length\/L.length<2\/(zad L ((L.length:Int) - 1)).length=0):=by
   rw [xb0];simp only [xa0,xav,xbq,xbd];omega
  rw [hcond,zaa (fun q=>by
   simp only [xbq,xcd,xbd,xfi] at q;omega)]
  by_cases cb:n≠b.length\/L.length<2\/(zad L ((L.length:Int) - 1)).length=0
  ·rw [xad (d_t cb),xad (hb.2 cb)]; rfl
  ·rw [xab (d_f cb),xab (fun q=>cb (hb.1 q)),zaa ..,zaa ..,zaa ..];dsimp only [lt,zlx];have hs:∀ s∈L,s.length<=100000:=fun s h=>by
    rcases hmem s h with q | q
    ·cases q
    ·omega
   exact open_idx (by omega) (by omega) hs (n:Int) (L.length - 2) 0 _ [] (by omega) (by omega) (by simp) (hs _ (zif L _ (by omega)))
section
variable {L:B9}(h2:2<=L.length)(hL:L.length<=100000)(hs:∀ s∈L,s.length<=100000)(z:Int)(f:Fault)
include h2 hL hs
theorem ridx:∀ (m k:Nat) (x:B8) (rows:B9),L.length - 2 - k=m->k<=L.length - 2->rows.length<=k->x.length<=100000->zh4 (L,z) (f,x,rows,(k:Int))=match idxP L m k x rows with
  | some rs=>ze9 (L,z) (f,[],rs) (f,[],[],0)
  | none=>some ([],[],⟨5,1⟩)
 | 0,k,x,rows,e,hk,hr,hx=>by
  have hw1:w64 ((L.length:Int) - 2)=(L.length:Int) - 2:=zaf ..;have hB:zdz (L,z) (f,x,rows,(k:Int))=zey (zf6 (L,z) (f,x,rows)):=by
   unfold zdz;dsimp only;rw [hw1,ifF ..]
  unfold zh4;rw [zn4,hB,idxP];unfold zf6;dsimp only;by_cases c:x=[]
  ·subst c;rw [xad rfl,xab (by simp)];dsimp only;cases ze9 (L,z) (f,[],rows) (f,[],[],0) <;> rfl
  ·have:0<(x.length:Int):=by have:=xa4.2 c; omega
   rw [xab c,xad (d_t this)]; rfl
 | m+1,k,x,rows,e,hk,hr,hx=>by
  have hw1:w64 ((L.length:Int) - 2)=(L.length:Int) - 2:=zaf ..;have hw:w64 ((k:Int)+1)=((k+1:Nat):Int):=by rw [zaf ..]; omega
  rw [idxP];cases hn:rdN x with
  | none=>
   have ht:rdT x=none:=by unfold rdT; rw [hn]
   have ha:rnat x=(0,0):=by unfold rnat; rw [hn]
   rw [ht];refine zae ?_;unfold zdz;dsimp only;rw [hw1,ifT ..,zj7 x (by omega),zac,ha,xad (by simp)]; rfl
  | some q=>
   obtain ⟨n,r⟩:=q;obtain ⟨ex,hn9⟩:=zeq hn;have hlx:x.length=(num n).length+r.length:=by rw [ex,xaa]
   have hnp:0<(num n).length:=num_pos n;have ha:rnat x=((n:Int),((num n).length:Int)):=by unfold rnat; rw [hn]
   have hwr:w64 ((x.length:Int) - ((num n).length:Int))=(r.length:Int):=by rw [zaf ..]; omega
   by_cases cn:n<=r.length
   ·have ht:rdT x=some (r.take n,r.drop n):=by unfold rdT; rw [hn]; dsimp only; rw [xad cn]
    have hwc:w64 (((num n).length:Int)+(n:Int))=(((num n).length+n:Nat):Int):=by rw [zaf ..]; omega
    have hd1:zdt (zdq x (((num n).length+n:Nat):Int)) ((num n).length:Int)=r.take n:=by
     rw [zdu,zb8,ex,List.take_append,List.drop_append];simp
    have hd2:zdt x (((num n).length+n:Nat):Int)=r.drop n:=by rw [zb8,ex,List.drop_append]; simp
    rw [ht];dsimp only;have hrd:(r.drop n).length<=100000:=by rw [xa8]; omega
    have hrl:(rows++[r.take n]).length<=k+1:=by rw [xaa,xbc]; omega
    have pre:∀ y,(ob (zhz (r.drop n)) fun x13=>
       zao ((!(decide (x13.2=0)))=true->0<=(k:Int)/\(k:Int)<(L.length:Int)) <|
       zao ((!(decide (x13.2=0)))=true->0<=(k:Int)/\(k:Int)<(L.length:Int)) <|
       if ((decide (x13.2=0))||(!decide (x13.1=((zad L (k:Int)).length:Int))))=true then
        lt (R_F 5 1) fun x14=>
        some (Sum.inr (([]:Cs),([]:List Int),x14))
       else
        zao (0<=x13.2/\x13.2<=((r.drop n).length:Int)) <|
        some (Sum.inl (f,(zdt (r.drop n) x13.2),rows++[r.take n],w64 ((k:Int)+1))))=y->zdz (L,z) (f,x,rows,(k:Int))=y:=by
     intro y hy;unfold zdz;dsimp only;have hcond:((decide (((num n).length:Int)=0))||(decide ((r.length:Int)<(n:Int))))=false:=by
      rw [xcd]; exact ⟨xbg (by omega),xbg (by omega)⟩
     rw [hw1,ifT ..,zj7 x (by omega),zac,ha];dsimp only;rw [hwr,hcond,xab (by decide),hwc,zaa ..,hd1,zaa ..];dsimp only [lt];rw [zaa ..,hd2];exact hy
    cases hm:rdN (r.drop n) with
    | none=>
     have ha2:rnat (r.drop n)=(0,0):=by unfold rnat; rw [hm]
     refine zae (pre _ ?_);rw [zj7 _ (by omega),zac,ha2,zaa (fun q=>by simp at q),zaa (fun q=>by simp at q),xad (by simp)]; rfl
    | some q=>
     obtain ⟨v,r'⟩:=q;obtain ⟨er,_⟩:=zeq hm;have hlr:(r.drop n).length=(num v).length+r'.length:=by rw [er,xaa]
     have hvp:0<(num v).length:=num_pos v;have ha2:rnat (r.drop n)=((v:Int),((num v).length:Int)):=by unfold rnat; rw [hm]
     have hd3:zdt (r.drop n) ((num v).length:Int)=r':=by rw [zb8,er,xen]
     dsimp only;by_cases c:v=(zad L (k:Int)).length
     ·rw [xad c];refine (zaj (pre _ ?_)).trans (ridx m (k+1) r' (rows++[r.take n]) (by omega) (by omega) hrl (by omega));have hc2:((decide (((num v).length:Int)=0))||(!decide ((v:Int)=((zad L (k:Int)).length:Int))))=false:=by
       rw [xcd]; exact ⟨xbg (by omega),by rw [d_t ..]; rfl⟩
      rw [zj7 _ (by omega),zac,ha2,zaa (fun _=>by omega),zaa (fun _=>by omega)];dsimp only;rw [hc2,xab (by decide),zaa ..,hd3,hw]
     ·rw [xab c];refine zae (pre _ ?_);have hc2:((decide (((num v).length:Int)=0))||(!decide ((v:Int)=((zad L (k:Int)).length:Int))))=true:=by
       have:decide ((v:Int)=((zad L (k:Int)).length:Int))=false:=xbg (by omega);rw [this]; simp
      rw [zj7 _ (by omega),zac,ha2,zaa (fun _=>by omega),zaa (fun _=>by omega)];dsimp only;rw [hc2,xad rfl]; rfl
   ·have ht:rdT x=none:=by unfold rdT; rw [hn]; dsimp only; rw [xab cn]
    rw [ht];refine zae ?_;unfold zdz;dsimp only;rw [hw1,ifT ..,zj7 x (by omega),zac,ha];dsimp only;rw [hwr,xad (by simp only [xa0,xav]; right; omega)]; rfl
end
end
def badC (x:Cs×Fault)(row:B8):Prop:=¬ x.2.Code=0\/x.1.length=0\/¬ (zad x.1 0).Row=row
instance (x:Cs×Fault)(row:B8):Decidable (badC x row):=inferInstanceAs (Decidable (_\/_))
noncomputable def celP (L rows:B9):Nat->Nat->Cs->List Int->Option (Cs×List Int)
 | 0,_,acc,es=>some (acc,es)
 | m+1,k,acc,es=>if badC (zka (zad L (k:Int))) (zad rows (k:Int)) then none else celP L rows m (k+1) (acc++(zka (zad L (k:Int))).1) (es++[((zka (zad L (k:Int))).1.length:Int)])
theorem badC_iff (x:Cs×Fault)(row:B8):(((!decide (x.2.Code=0))||(decide ((x.1.length:Int)=0)))||(!decide (((zad x.1 0).Row)=row)))=decide (badC x row):=by
 rw [xb0,xek];unfold badC;simp only [xa0,xav,xbq,xbd];constructor
 ·rintro ((q | q) | q)
  ·exact .inl q
  ·exact .inr (.inl (by omega))
  ·exact .inr (.inr q)
 ·rintro (q | q | q)
  ·exact .inl (.inl q)
  ·exact .inl (.inr (by omega))
  ·exact .inr q
theorem goodC {x:Cs×Fault}(q:(!((!decide (x.2.Code=0))||(decide ((x.1.length:Int)=0))))=true):0<x.1.length:=by
 simp only [xbq,xcd,xbd,xfi] at q;omega
noncomputable def cellsO:Option (Cs×List Int)->Cs×Bool
 | some q=>(q.1,decide ((zmb q.1).Code=0))
 | none=>([],false)
theorem cells_loop (L rows:B9)(o2:B8)(to:Nat)(ht:to<=L.length)(hr:to<=rows.length)(hL:to<=100000):∀ (m k:Nat) (acc:Cs) (es:List Int),to - k=m->k<=to->acc.length<=60000*k->
  zg0 (to:Int) (⟨L,rows,o2⟩,acc,(k:Int))=some (cellsO (celP L rows m k acc es))
 | 0,k,acc,es,e,hk,ha=>by
  refine zae ?_;unfold zd6;dsimp only;rw [ifF ..];unfold zew;rw [check_eq,zac,celP]; rfl
 | m+1,k,acc,es,e,hk,ha=>by
  have hw:w64 ((k:Int)+1)=((k+1:Nat):Int):=by rw [zaf ..]; omega
  have hl:=readS_len (zad L (k:Int));rw [celP];by_cases c:badC (zka (zad L (k:Int))) (zad rows (k:Int))
  ·rw [xad c];refine zae ?_;unfold zd6;dsimp only;rw [ifT ..,zaa ..,read_eq,zac,zaa (fun q=>by have:=goodC q; omega),zaa (fun q=>by have:=goodC q; omega),zaa (fun q=>by omega),badC_iff,xad (d_t c)];rfl
  ·rw [xab c];refine (zaj ?_).trans (cells_loop L rows o2 to ht hr hL m (k+1) (acc++(zka (zad L (k:Int))).1) (es++[((zka (zad L (k:Int))).1.length:Int)]) (by omega) (by omega) (by rw [xaa]; omega));unfold zd6;dsimp only;rw [ifT ..,zaa ..,read_eq,zac,zaa (fun q=>by have:=goodC q; omega),zaa (fun q=>by have:=goodC q; omega),zaa (fun q=>by omega),badC_iff,xab (d_f c),zaa (by rw [xaa]; omega),hw]
theorem rcells_loop (L rows:B9)(z:Int)(f:Fault)(x:B8)(h2:2<=L.length)(hr:L.length - 2<=rows.length)(hL:L.length<=100000):∀ (m k:Nat) (acc:Cs) (es:List Int),L.length - 2 - k=m->k<=L.length - 2->acc.length<=60000*k->es.length<=k->
  ze9 (L,z) (f,x,rows) (f,acc,es,(k:Int))=match celP L rows m k acc es with
   | some q=>zef (L,z) (f,q.1,q.2)
   | none=>some ([],[],⟨5,2⟩)
 | 0,k,acc,es,e,hk,ha,he=>by
  have hw1:w64 ((L.length:Int) - 2)=(L.length:Int) - 2:=zaf ..;have hB:ze1 (L,z) (f,x,rows) (f,acc,es,(k:Int))=zey (zef (L,z) (f,acc,es)):=by
   unfold ze1;dsimp only;rw [hw1,ifF ..]
  unfold ze9;rw [zn4,hB,celP];dsimp only;cases zef (L,z) (f,acc,es) <;> rfl
 | m+1,k,acc,es,e,hk,ha,he=>by
  have hw1:w64 ((L.length:Int) - 2)=(L.length:Int) - 2:=zaf ..;have hw:w64 ((k:Int)+1)=((k+1:Nat):Int):=by rw [zaf ..]; omega
  have hl:=readS_len (zad L (k:Int));rw [celP];by_cases c:badC (zka (zad L (k:Int))) (zad rows (k:Int))
  ·rw [xad c];refine zae ?_;unfold ze1;dsimp only;rw [hw1,ifT ..,zaa ..,zaa ..,zcw,zac,zaa (fun q=>by have:=goodC q; omega),zaa (fun q=>by have:=goodC q; omega),zaa (fun q=>by omega),zaa (fun q=>by omega),badC_iff,xad (d_t c)];rfl
  ·rw [xab c];refine (zaj ?_).trans (rcells_loop L rows z f x h2 hr hL m (k+1) (acc++(zka (zad L (k:Int))).1) (es++[((zka (zad L (k:Int))).1.length:Int)]) (by omega) (by omega) (by rw [xaa]; omega) (by rw [xaa,xbc]; omega));unfold ze1;dsimp only;rw [hw1,ifT ..,zaa ..,zaa ..,zcw,zac,zaa (fun q=>by have:=goodC q; omega),zaa (fun q=>by have:=goodC q; omega),zaa (fun q=>by omega),zaa (fun q=>by omega),badC_iff,xab (d_f c),zaa (by rw [xaa]; omega),zaa (by rw [xaa,xbc]; omega),hw]
noncomputable def endO (flt:B8):Option (Cs×List Int)->Cs×List Int×Fault
 | none=>([],[],⟨5,2⟩)
 | some q=>if ¬ (zmb q.1).Code=0\/500<q.1.length then ([],[],⟨5,2⟩) else if filF q.1=flt then (q.1,q.2,⟨0,0⟩) else ([],[],⟨5,3⟩)
noncomputable def zil (b:B8):Cs×List Int×Fault:=
 if 60000<b.length then ([],[],⟨8,0⟩)
 else if badO b then ([],[],⟨5,0⟩)
 else match idxO (opn b.length b [] 0).1 with
  | none=>([],[],⟨5,1⟩)
  | some rows=>endO (zad (opn b.length b [] 0).1 (((opn b.length b [] 0).1.length:Int) - 1)) (celP (opn b.length b [] 0).1 rows ((opn b.length b [] 0).1.length - 2) 0 [] [])
theorem idxP_len (L:B9):∀ (m k:Nat) (x:B8) (rows rs:B9),idxP L m k x rows=some rs->rs.length=rows.length+m
 | 0,k,x,rows,rs,h=>by
  rw [idxP] at h;split at h
  ·cases h; rfl
  ·cases h
 | m+1,k,x,rows,rs,h=>by
  rw [idxP] at h;split at h
  ·cases h
  ·split at h
   ·cases h
   ·split at h
    ·have:=idxP_len L m _ _ _ _ h;rw [xaa,xbc] at this; omega
    ·cases h
theorem celP_take (L rows:B9)(n:Nat)(hn:n<=L.length):∀ (m k:Nat) (acc:Cs) (es:List Int),k+m=n->celP (L.take n) rows m k acc es=celP L rows m k acc es
 | 0,k,acc,es,_=>rfl
 | m+1,k,acc,es,e=>by
  have hg:zad (L.take n) (k:Int)=zad L (k:Int):=by
   have:=lget_ltake L (n:Int) (k:Int) (by omega);rwa [zdu] at this
  rw [celP,celP,hg];split
  ·rfl
  ·exact celP_take L rows n hn m (k+1) _ _ (by omega)
theorem rfil_small {l:Cs}(h:(zmb l).Code=0):zkv l=some (filF l)/\zi2 l=some (filF l):=by
 have hG:=cellF_good h;have hl:=hG.len;have hr:∀ c∈l,c.Row.length<=140737488351232:=fun c hc=>by have:=(code_len (hG.code c hc)).1; omega
 exact ⟨rfilter_eq l (by omega) hr,filter_eq l (by omega) hr⟩
theorem ropen_eq (b:B8):zjo b=some (zil b):=by
 unfold zjo zil;by_cases c:60000<b.length
 ·rw [ifT ..,xad c]; rfl
 ·have hlen:=opn_len b.length b [] 0;have hmem:=fun s h=>opn_mem b.length b [] 0 s h;obtain ⟨L,n,hop⟩:∃ L n,opn b.length b [] 0=(L,n):=⟨_,_,rfl⟩;have hb:badO b↔(n≠b.length\/L.length<2\/(zad L ((L.length:Int) - 1)).length=0):=by unfold badO; rw [hop]
  rw [ifF ..,xab c,unframed_eq _ (by omega),zac,hop];rw [hop] at hlen hmem;dsimp only at hlen hmem ⊢;have hL:L.length<=60000:=by have:=hlen.1; simp at this; omega
  have hw1:w64 ((L.length:Int) - 2)=(L.length:Int) - 2:=zaf ..;have hw2:w64 ((L.length:Int) - 2+1)=(L.length:Int) - 1:=by rw [zaf ..]; omega
  rw [hw1,hw2];have hcond:(((!decide ((n:Int)=(b.length:Int)))||(decide ((L.length:Int) - 2<0)))||(decide (((zad L ((L.length:Int) - 1)).length:Int)=0)))=decide (n≠b.length\/L.length<2\/(zad L ((L.length:Int) - 1)).length=0):=by
   rw [xb0];simp only [xa0,xav,xbq,xbd];omega
  have ha:(!((!decide ((n:Int)=(b.length:Int)))||(decide ((L.length:Int) - 2<0))))=true->0<=(L.length:Int) - 1/\(L.length:Int) - 1<(L.length:Int):=fun q=>by
   simp only [xbq,xcd,xbd,xfi] at q;omega
  rw [hcond,zaa ha,zaa ha];by_cases cb:n≠b.length\/L.length<2\/(zad L ((L.length:Int) - 1)).length=0
  ·rw [xad (d_t cb),xad (hb.2 cb)]; rfl
  ·rw [xab (d_f cb),xab (fun q=>cb (hb.1 q)),zaa ..,zaa ..];have hs:∀ s∈L,s.length<=100000:=fun s h=>by
    rcases hmem s h with q | q
    ·cases q
    ·omega
   have h0:=ridx (L:=L) (by omega) (by omega) hs (n:Int) ⟨0,0⟩ (L.length - 2) 0 (zad L ((L.length:Int) - 2)) [] (by omega) (by omega) (by simp) (hs _ (zif L _ (by omega)));refine h0.trans ?_;unfold idxO;cases hi:idxP L (L.length - 2) 0 (zad L ((L.length:Int) - 2)) [] with
   | none=>rfl
   | some rows=>
    have hrl:=idxP_len L _ _ _ _ _ hi;dsimp only;refine (rcells_loop L rows (n:Int) ⟨0,0⟩ [] (by omega) (by simp at hrl; omega) (by omega) (L.length - 2) 0 [] [] (by omega) (by omega) (by simp) (by simp)).trans ?_;cases celP L rows (L.length - 2) 0 [] [] with
    | none=>rfl
    | some q=>
     dsimp only;unfold zef endO;dsimp only;rw [rcheck_eq,zac,hw1,hw2];by_cases cc:¬ (zmb q.1).Code=0\/500<q.1.length
     ·rw [xad (by simp only [xa0,xav,xbq,xbd]; omega),xad cc]; rfl
     ·have hz:(zmb q.1).Code=0:=xdo.1 (fun x=>cc (.inl x));rw [xab (by simp only [xa0,xav,xbq,xbd]; omega),xab cc,(rfil_small hz).1,zac,zaa ..,zaa ..];dsimp only [lt,zju];by_cases cf:filF q.1=zad L ((L.length:Int) - 1)
      ·rw [xab (by simp [cf]),xad cf]
      ·rw [xad (by simp [cf]),xab cf]; rfl
theorem badO_f {b:B8}(h:¬ badO b):2<=(opn b.length b [] 0).1.length:=by
 apply Decidable.byContradiction;intro q;exact h (.inr (.inl (by omega)))
theorem open_any (b:B8):file_Open b=some ((zil b).1,(zil b).2.2):=by
 unfold file_Open;rw [open_all,zac];unfold openS zil;by_cases c:60000<b.length
 ·rw [xad c,xad c];dsimp only;rw [xad (by simp)]
 ·rw [xab c,xab c];by_cases cb:badO b
  ·rw [xad cb,xad cb];dsimp only;rw [xad (by simp)]
  ·have h2:=badO_f cb;have hlen:=opn_len b.length b [] 0;rw [xab cb,xab cb];unfold idxO;generalize (opn b.length b [] 0).1=L at *
   have hL:L.length<=60000:=by have:=hlen.1; simp at this; omega
   cases hi:idxP L (L.length - 2) 0 (zad L ((L.length:Int) - 2)) [] with
   | none=>
    unfold opI;dsimp only;rw [xad (by simp)]
   | some rows=>
    have hrl:=idxP_len L _ _ _ _ _ hi;have hrl:rows.length=L.length - 2:=by simpa using hrl
    have htl:(L.take (L.length - 2)).length=L.length - 2:=by rw [xar]; omega
    unfold opI;dsimp only;rw [xab (by simp),zaa rfl];have hcl:zgs (L.take (L.length - 2)) rows (zad L ((L.length:Int) - 1)) 0 ((L.take (L.length - 2)).length:Int)=some (cellsO (celP L rows (L.length - 2) 0 [] [])):=by
     rw [htl];have:=cells_loop (L.take (L.length - 2)) rows (zad L ((L.length:Int) - 1)) (L.length - 2) (by omega) (by omega) (by omega) (L.length - 2) 0 [] [] (by omega) (by omega) (by simp);rw [celP_take L rows (L.length - 2) (by omega) _ _ _ _ (by omega)] at this;exact this
    rw [hcl,zac];cases hq:celP L rows (L.length - 2) 0 [] [] with
    | none=>
     unfold cellsO endO;dsimp only;rw [xad (by simp)]; rfl
    | some q=>
     unfold cellsO endO;dsimp only;by_cases cc:¬ (zmb q.1).Code=0\/500<q.1.length
     ·rw [xad (by simp only [xa0,xav,xbq,xbd]; omega),xad cc]; rfl
     ·have hz:(zmb q.1).Code=0:=xdo.1 (fun x=>cc (.inl x));have hl:=(cellF_good hz).len;have hN:=filN_bd q.1;rw [xab (by simp only [xa0,xav,xbq,xbd]; omega),xab cc,(rfil_small hz).2,zac,equal_eq _ _ (by unfold filF; rw [zhq]; omega),zac];by_cases cf:filF q.1=zad L ((L.length:Int) - 1)
      ·rw [xab (by simp [cf]),xad cf]
      ·rw [xad (by simp [cf]),xab cf]; rfl
def allC (l:List Note):Cs:=(l.reverse.map (fun x=>x.Cells)).flatten
theorem allC_cons (n:Note)(l:List Note):allC (n::l)=allC l++n.Cells:=by simp [allC]
theorem allC_mem {l:List Note}{c:Cell}:c∈allC l↔∃ n∈l,c∈n.Cells:=by
 simp only [allC,List.mem_flatten,xb1,List.mem_reverse];exact ⟨fun ⟨x,⟨n,h1,h2⟩,h3⟩=>⟨n,h1,by rw [h2]; exact h3⟩,fun ⟨n,h1,h2⟩=>⟨n.Cells,⟨n,h1,rfl⟩,h2⟩⟩
theorem allC_len:∀ (l:List Note),(∀ n∈l,n.Cells.length<=20)->(allC l).length<=20*l.length
 | [],_=>by simp [allC]
 | n::l,h=>by
  have h1:=allC_len l fun m hm=>h m (xb3 _ hm);have h2:=h n (xbo ..);rw [allC_cons,xaa,xal];omega
theorem put_eq (l:Cs)(ns:List Note)(hl:l.length<=1000000)(hn:ns.length<=1000000)(hc:(allC ns).length<=100000000):wal_Put l ns=some (firsts (allC ns++l)):=by
 have hf:(ns.reverse.map (fun x=>x.Cells)++[l]).flatten=allC ns++l:=by simp [allC]
 unfold wal_Put;rw [zaa ..,merge_eq _ (by rw [hf,xaa]; omega) (by simp; omega),hf]
theorem stab_all:∀ (l:List Note),(∀ n∈l,n.Cells.Pairwise ah)->Stab (l.map (fun x=>x.Cells)).flatten.reverse (allC l)
 | [],_=>fun _=>rfl
 | n::l,h=>by
  have h1:=stab_all l fun m hm=>h m (xb3 _ hm);rw [xa9,xet,List.reverse_append,allC_cons];exact h1.app (stab_rev (h n (xbo ..))).symm
theorem puts_eq (l:Cs)(ns:List Note)(hs:l.Pairwise ah)(hl:l.length<=1000000)(hn:ns.length<=1000000)(hg:∀ n∈ns,NGood n):R_PutNotes l ns=some (firsts (allC ns++l)):=by
 have hcl:∀ n∈ns,n.Cells.length<=20:=fun n h=>(hg n h).len;have hal:=allC_len ns hcl;have e:firsts (allC ns++l)=firsts ((ns.map (fun x=>x.Cells)).flatten.reverse++l):=firsts_congr (Stab.app (stab_all ns fun n h=>(hg n h).cells.srt).symm (Stab.refl l));rw [e];have key:∀ (R D:List Note) (m x:Cs),ns=D++R->Firsts m x->x.length<=1000000+20*D.length->zoc ns (x,(D.length:Int))=some (firsts ((R.map (fun x=>x.Cells)).flatten.reverse++m)):=by
  intro R
  induction R with
  | nil=>
   intro D m x h hF hx;refine zae ?_;unfold zke;dsimp only;rw [xab (d_f (by rw [h]; simp))];show some (Sum.inr x)=some (Sum.inr (firsts m));rw [zm4 hF]
  | cons n R ih=>
   intro D m x h hF hx;have hnl:n.Cells.length<=20:=hcl n (by rw [h]; simp);have hDl:D.length+(R.length+1)=ns.length:=by rw [h]; simp
   have hp:=rputs_eq x n.Cells m hF (by omega);have hget:zad ns (D.length:Int)=n:=by rw [h,zdk _ D.length (by simp)]; simp
   have h2:ns=(D++[n])++R:=by rw [h]; simp
   have hfl:(firsts (n.Cells.reverse++m)).length<=1000000+20*(D++[n]).length:=by
    obtain ⟨y,hy,hF2,hyl⟩:=rputs_loop n.Cells n.Cells [] m x rfl hF (by omega) (by omega);rw [<- zm4 hF2,xaa];simp only [xal,xa3];omega
   have:=ih (D++[n]) (n.Cells.reverse++m) _ h2 (zgg _) hfl;refine (zaj ?_).trans (this.trans (by simp));unfold zke;dsimp only;rw [ifT ..,zaa ..,hget,hp,zac];have:w64 ((D.length:Int)+1)=(((D++[n]).length:Nat):Int):=by rw [zaf ..]; simp
   rw [this]
 exact key ns [] l l rfl (by have:=zgg l; rw [firsts_self hs] at this; exact this) (by simp; omega)
def ixN (done:Int):List Note->Int->Int
 | [],_=>-1
 | n::l,i=>if done<n.Seq then i else ixN done l (i+1)
def abv (done:Int):List Note->List Note
 | []=>[]
 | n::l=>if done<n.Seq then n::l else abv done l
theorem ixN_abv (done:Int):∀ (l:List Note) (i:Int),(ixN done l i = -1/\abv done l=[])\/∃ j:Nat,j<l.length/\ixN done l i=i+j/\abv done l=l.drop j
 | [],_=>.inl ⟨rfl,rfl⟩
 | n::l,i=>by
  rw [ixN,abv];by_cases c:done<n.Seq
  ·rw [xad c,xad c]; exact .inr ⟨0,by simp,by simp,rfl⟩
  ·rw [xab c,xab c]
   rcases ixN_abv done l (i+1) with h | ⟨j,h1,h2,h3⟩
   ·exact .inl h
   ·exact .inr ⟨j+1,by simp; omega,by rw [h2]; omega,by rw [h3]; rfl⟩
theorem abv_sub (done:Int):∀ l:List Note,∀ n∈abv done l,n∈l
 | [],n,h=>h
 | m::l,n,h=>by
  rw [abv] at h;split at h
  ·exact h
  ·exact xb3 _ (abv_sub done l n h)
theorem abv_len (done:Int):∀ l:List Note,(abv done l).length<=l.length
 | []=>xaf _
 | m::l=>by
  rw [abv];split
  ·exact xaf _
  ·have:=abv_len done l; simp; omega
theorem indexN_eq (a:B8)(b:Int)(c:B9)(done d e:Int)(l:List Note)(f:List Cs)(hl:l.length<=1000000):zcj a b c done d e l f=some (ixN done l 0):=by
 have key:∀ (m k:Nat),l.length - k=m->k<=l.length->zc5 a b c done d e l f (k:Int)=some (ixN done (l.drop k) k):=by
  intro m
  induction m with
  | zero=>
   intro k hm hk;have:k=l.length:=by omega
   subst this;refine zae ?_;unfold zbe;rw [ifF ..,xck]; rfl
  | succ m ih=>
   intro k hm hk;rw [zdd l k (by omega),ixN];have hB:zbe a b c done d e l f (k:Int)=if done<(zad l (k:Int)).Seq then some (.inr (k:Int)) else some (.inl ((k+1:Nat):Int)):=by
    unfold zbe zgq;rw [ifT ..,zaa ..,zaa ..];dsimp only [lt];by_cases q:done<(zad l (k:Int)).Seq
    ·rw [xad (d_t q),xad q]
    ·rw [xab (d_f q),xab q];have:w64 ((k:Int)+1)=((k+1:Nat):Int):=by rw [zaf ..]; omega
     rw [this]
   by_cases q:done<(zad l (k:Int)).Seq
   ·rw [xad q];exact zae (by rw [hB,xad q])
   ·rw [xab q];exact (zaj (by rw [hB,xab q])).trans (ih (k+1) (by omega) (by omega))
 exact key l.length 0 (by omega) (by omega)
noncomputable def memS (done:Int)(l:List Note):Cs:=firsts (allC (abv done l))
noncomputable def allS (mem:Cs)(files:List Cs):Cs:=firsts (mem++files.flatten)
noncomputable def zm7 (mem:Cs)(files:List Cs):Fault:=if 500<mem.length then ⟨9,-2⟩ else if 1000<(allS mem files).length then ⟨9,-1⟩ else ⟨0,0⟩
theorem all_eq (a:B8)(b:Int)(c:B9)(done d e:Int)(l:List Note)(mem:Cs)(files:List Cs)(hm:mem.length<=1000000000)(hf:files.length<=1000)(hfl:files.flatten.length<=1000000000) :
  zf0 a b c done d e l mem files=some (allS mem files,mem):=by
 unfold zf0 zhc;rw [zaa (by simp; omega),zac];dsimp only;rw [merge_eq _ (by simp only [List.flatten_append,xet,List.flatten_nil,xbh,xaa]; omega) (by simp; omega),zac];simp [allS]
theorem fill_eq (a:B8)(b:Int)(c:B9)(done d e:Int)(l:List Note)(files:List Cs)(hl:l.length<=1000000)(hg:∀ n∈l,NGood n)(hf:files.length<=1000)(hfl:files.flatten.length<=1000000000) :
  zgj a b c done d e l files=some (zm7 (memS done l) files,a,b,c,done,d,l,e,memS done l):=by
 have hal:=allC_len (abv done l) fun n h=>(hg n (abv_sub done l n h)).len;have hbl:=abv_len done l;have hml:(memS done l).length<=1000000000:=by
  have:=firsts_len (allC (abv done l));unfold memS; omega
 unfold zgj;rw [indexN_eq a b c done d e l files hl,zac];have hmem:(ob (if (decide (0<=ixN done l 0))=true then
   zao (0<=ixN done l 0/\ixN done l 0<=(l.length:Int)) <|
   ob (wal_Put ([]:Cs) (zdt l (ixN done l 0))) fun x1=>
   some (x1,(⟨0,0⟩:Fault))
  else
   some (([]:Cs),(⟨0,0⟩:Fault))) fun (v:Cs×Fault)=>some v)=some (memS done l,⟨0,0⟩):=by
  rcases ixN_abv done l 0 with ⟨h1,h2⟩ | ⟨j,h1,h2,h3⟩
  ·rw [h1,xab (by decide)];unfold memS;rw [h2,zac];have:firsts (allC [])=[]:=firsts_self (l:=[]) .nil;rw [this]
  ·rw [h2,ifT ..,zaa ..];have e1:zdt l (0+(j:Int))=l.drop j:=by rw [Int.zero_add,zb8]
   rw [e1,put_eq [] _ (by simp) (by simp; omega) (by rw [<- h3]; omega),zac,zac,xbh];unfold memS;rw [h3]
 have hmem':(if (decide (0<=ixN done l 0))=true then
   zao (0<=ixN done l 0/\ixN done l 0<=(l.length:Int)) <|
   ob (wal_Put ([]:Cs) (zdt l (ixN done l 0))) fun x1=>
   some (x1,(⟨0,0⟩:Fault))
  else
   some (([]:Cs),(⟨0,0⟩:Fault)))=some (memS done l,⟨0,0⟩):=by
  rw [<- hmem];generalize (if (decide (0<=ixN done l 0))=true then _ else _:Option (Cs×Fault))=z;cases z <;> rfl
 rw [hmem',zac];dsimp only;unfold zm7;by_cases c1:500<(memS done l).length
 ·rw [ifT ..,xad c1]; rfl
 ·rw [ifF ..,xab c1,all_eq a b c done d e l _ files hml hf hfl,zac];dsimp only;by_cases c2:1000<(allS (memS done l) files).length
  ·rw [ifT ..,xad c2]; rfl
  ·rw [ifF ..,xab c2]
noncomputable def zh3 (t:Tablet):List Note:=(logd t.Log.Bytes).1
noncomputable def lastT (t:Tablet):Int:=if 0<(zh3 t).length then (zad (zh3 t) (((zh3 t).length:Int) - 1)).Seq else t.Done
noncomputable def filT (t:Tablet):List Cs:=t.Files.map fun b=>(zil b).1
noncomputable def memT (t:Tablet):Cs:=memS t.Done (zh3 t)
noncomputable def allT (t:Tablet):Cs:=allS (memT t) (filT t)
def badT (t:Tablet):Prop:=(logd t.Log.Bytes).2≠t.Log.Bytes.length\/(0<(zh3 t).length/\(t.Done+1<(zad (zh3 t) 0).Seq\/(zad (zh3 t) (((zh3 t).length:Int) - 1)).Seq<t.Done))
noncomputable def ldF:B9->Int->Fault
 | [],_=>⟨0,0⟩
 | b::l,i=>if (zil b).2.2.Code=0 then ldF l (i+1) else ⟨(zil b).2.2.Code,i⟩
open Classical in
noncomputable def znl (t:Tablet):Fault:=
 if t.Done<0\/1000000000<t.Done\/t.Since<0\/1000000000<t.Since then ⟨3,0⟩
 else if 10<t.Files.length then ⟨2,-1⟩
 else if ¬ (dF t.Log).Code=0 then ⟨(dF t.Log).Code,-2⟩
 else if badT t then ⟨11,-2⟩
 else ldF t.Files 0
noncomputable def loadS (t:Tablet):Fault⊕(B8×Int×B9×Int×Int×List Note×Int×Cs×List Cs×Fault):=
 if ¬ (znl t).Code=0 then .inl (znl t) else .inr (t.Log.Bytes,t.Log.Kept,t.Files,t.Done,t.Since,zh3 t,lastT t,memT t,filT t,zm7 (memT t) (filT t))
theorem fileO_good {b:B8}(h:(zil b).2.2.Code=0):Good (zil b).1/\(zil b).1.length<=500:=by
 unfold zil at h ⊢;split at h
 ·cases h
 ·split at h
  ·cases h
  ·rename_i c1 c2;rw [xab c1,xab c2];split at h
   ·cases h
   ·rename_i rows e;generalize celP _ _ _ _ _ _=z at h ⊢;cases z with
    | none=>cases h
    | some q=>
     simp only [endO] at h ⊢;split at h
     ·cases h
     ·rename_i c3;rw [xab c3];split at h
      ·rename_i c4;rw [xad c4];have c5:(zmb q.1).Code=0/\¬ 500<q.1.length:=⟨Classical.byContradiction fun w=>c3 (.inl w),fun w=>c3 (.inr w)⟩;exact ⟨cellF_good c5.1,Nat.le_of_not_lt c5.2⟩
      ·cases h
theorem fileO_len (b:B8):(zil b).1.length<=500:=by
 by_cases h:(zil b).2.2.Code=0
 ·exact (fileO_good h).2
 ·unfold zil at h ⊢;split
  ·simp
  ·split
   ·simp
   ·split
    ·simp
    ·rename_i c1 c2 _ rows e;rw [xab c1,xab c2,e] at h;dsimp only at h;generalize celP _ _ _ _ _ _=z at h ⊢;cases z with
     | none=>simp [endO]
     | some q=>
      simp only [endO] at h ⊢;split
      ·simp
      ·rename_i c3;rw [xab c3] at h;split
       ·rename_i c4;rw [xad c4] at h;exact absurd rfl h
       ·simp
theorem fil_flat:∀ (l:B9),(l.map fun b=>(zil b).1).flatten.length<=500*l.length
 | []=>by simp
 | b::l=>by
  have h1:=fil_flat l;have h2:=fileO_len b;rw [xa9,xet,xaa,xal];omega
theorem load_loop (x4:List Note×Int)(v:Tablet×Fault×B8×Int×B9×Int×Int×Int)(L:B9)(z:Fault)(hL:L.length<=10)(hn:x4.1.length<=1000000)(hg:∀ n∈x4.1,NGood n):∀ (m k:Nat),L.length - k=m->k<=L.length->ldF L 0=ldF (L.drop k) k->
  zjb x4 v (z,(L.take k).map (fun b=>(zil b).1),L,(L.length:Int),(k:Int)) =
   some (if ¬ (ldF L 0).Code=0 then .inl (ldF L 0) else .inr (v.2.2.1,v.2.2.2.1,v.2.2.2.2.1,v.2.2.2.2.2.1,v.2.2.2.2.2.2.1,x4.1,v.2.2.2.2.2.2.2,memS v.2.2.2.2.2.1 x4.1,L.map (fun b=>(zil b).1),zm7 (memS v.2.2.2.2.2.1 x4.1) (L.map fun b=>(zil b).1))):=by
 intro m
 induction m with
 | zero=>
  intro k e hk h0;have hkl:k=L.length:=by omega
  subst hkl;rw [xck] at h0;have hz:ldF L 0=⟨0,0⟩:=h0;have hfl:=fil_flat L;refine zae ?_;unfold zfz zfy;dsimp only;rw [ifF ..,xco,fill_eq _ _ _ _ _ _ _ _ hn hg (by simp; omega) (by omega),zac,hz,xab (by simp)]; rfl
 | succ m ih=>
  intro k e hk h0;have hkl:k<L.length:=by omega
  have hw:w64 ((k:Int)+1)=((k+1:Nat):Int):=by rw [zaf ..]; omega
  rw [zdd L k hkl,ldF] at h0;have hop:=open_any (zad L (k:Int));by_cases c:(zil (zad L (k:Int))).2.2.Code=0
  ·rw [xad c] at h0;refine (zaj ?_).trans (ih (k+1) (by omega) (by omega) h0);unfold zfz;dsimp only;rw [ifT ..,zaa ..,hop,zac];dsimp only;rw [xab (n_f c),zaa (by simp; omega),hw,lget_take L k hkl,xbx]; rfl
  ·rw [xab c] at h0;refine zae ?_;unfold zfz;dsimp only;rw [ifT ..,zaa ..,hop,zac];dsimp only;rw [xad (n_t c),h0,xad c]; rfl
theorem ldF_good:∀ (l:B9) (i:Int),(ldF l i).Code=0->ldF l i=⟨0,0⟩/\∀ b∈l,Good (zil b).1
 | [],_,_=>⟨rfl,fun b h=>by cases h⟩
 | b::l,i,h=>by
  rw [ldF] at h ⊢;by_cases c:(zil b).2.2.Code=0
  ·rw [xad c] at h ⊢;obtain ⟨h1,h2⟩:=ldF_good l (i+1) h;exact ⟨h1,fun x hx=>(xaq.1 hx).elim (fun e=>by rw [e]; exact (fileO_good c).1) (h2 x)⟩
  ·rw [xab c] at h; exact absurd h c
theorem load_eq (t:Tablet):zhn t=some (loadS t):=by
 unfold zhn loadS znl;by_cases c1:t.Done<0\/1000000000<t.Done\/t.Since<0\/1000000000<t.Since
 ·rw [xad (by simp; omega),xad c1,xad (by simp)]; rfl
 ·rw [xab (by simp; omega),xab c1];by_cases c2:10<t.Files.length
  ·rw [ifT ..,xad c2,xad (by simp)]; rfl
  ·rw [ifF ..,xab c2,dcheck_eq];dsimp only [lt];by_cases c3:(dF t.Log).Code=0
   ·have hd:=dF_good.1 c3;have hlen:=hd.len;obtain ⟨l1,l2,l3⟩:=logd_le t.Log.Bytes;have hwn:w64 (((zh3 t).length:Int) - 1)=((zh3 t).length:Int) - 1:=zaf (by omega) (by unfold zh3; omega);have hwd:w64 (t.Done+1)=t.Done+1:=zaf ..;rw [xab (n_f c3),xab (xc8 c3),wnotes_eq t.Log hlen,zac];dsimp only;show zao _ _=_;have e1:(logd t.Log.Bytes).1=zh3 t:=rfl;rw [e1] at l2 l3 ⊢;rw [hwn,hwd];rw [zaa (fun h _=>⟨by omega,xa7 h⟩),zaa (fun h _=>⟨by omega,xa7 h⟩),zaa (fun _ h _=>by have:=xa7 h; omega),zaa (fun _ h _=>by have:=xa7 h; omega)];by_cases c4:badT t
    ·have hc:((!decide ((((logd t.Log.Bytes).2:Nat):Int)=(t.Log.Bytes.length:Int)))||((decide (0<((zh3 t).length:Int)))&&((decide (t.Done+1<(zad (zh3 t) 0).Seq))||(decide ((zad (zh3 t) (((zh3 t).length:Int) - 1)).Seq<t.Done)))))=true:=by
      unfold badT at c4;simp only [xa0,xaw,xav,xbq,xbd]
      rcases c4 with h | ⟨h1,h2⟩
      ·exact .inl (by omega)
      ·exact .inr ⟨by omega,h2⟩
     rw [xad hc,xad c4,xad (by simp)]; rfl
    ·have hc:¬ ((!decide ((((logd t.Log.Bytes).2:Nat):Int)=(t.Log.Bytes.length:Int)))||((decide (0<((zh3 t).length:Int)))&&((decide (t.Done+1<(zad (zh3 t) 0).Seq))||(decide ((zad (zh3 t) (((zh3 t).length:Int) - 1)).Seq<t.Done)))))=true:=by
      intro h;simp only [xa0,xaw,xav,xbq,xbd] at h;refine c4 ?_;unfold badT
      rcases h with h | ⟨h1,h2⟩
      ·exact .inl (by omega)
      ·exact .inr ⟨by omega,h2⟩
     rw [xab hc,xab c4];have hv:(if (decide (0<((zh3 t).length:Int)))=true then
       zao (0<=((zh3 t).length:Int) - 1/\((zh3 t).length:Int) - 1<((zh3 t).length:Int)) <|
       zao (0<=((zh3 t).length:Int) - 1/\((zh3 t).length:Int) - 1<((zh3 t).length:Int)) <|
       some (t,(⟨0,0⟩:Fault),t.Log.Bytes,t.Log.Kept,t.Files,t.Done,t.Since,(zad (zh3 t) (((zh3 t).length:Int) - 1)).Seq)
      else
       some (t,(⟨0,0⟩:Fault),t.Log.Bytes,t.Log.Kept,t.Files,t.Done,t.Since,t.Done))=some (t,(⟨0,0⟩:Fault),t.Log.Bytes,t.Log.Kept,t.Files,t.Done,t.Since,lastT t):=by
      unfold lastT;by_cases q:0<(zh3 t).length
      ·rw [ifT ..,zaa ..,zaa ..,xad q]
      ·rw [ifF ..,xab q]
     rw [hv,zac];dsimp only;exact load_loop (zh3 t,(((logd t.Log.Bytes).2:Nat):Int)) (t,⟨0,0⟩,t.Log.Bytes,t.Log.Kept,t.Files,t.Done,t.Since,lastT t) t.Files ⟨0,0⟩ (by omega) (by show (zh3 t).length<=1000000; omega) l3 t.Files.length 0 (by omega) (by omega) rfl
   ·rw [xad (n_t c3),xad c3,xad c3]; rfl
noncomputable def tabF (t:Tablet):Fault:=if ¬ (znl t).Code=0 then znl t else zm7 (memT t) (filT t)
structure TG (t:Tablet):Prop where
 f:tabF t=⟨0,0⟩
 head:znl t=⟨0,0⟩
 d0:0<=t.Done
 d1:t.Done<=1000000000
 s0:0<=t.Since
 s1:t.Since<=1000000000
 few:t.Files.length<=10
 log:DGood t.Log
 fit:¬ badT t
 fil:∀ b∈t.Files,Good (zil b).1/\b.length<=60000
 mem:(memT t).length<=500
 all:(allT t).length<=1000
theorem ldF_small:∀ (l:B9) (i:Int),(ldF l i).Code=0->∀ b∈l,b.length<=60000
 | [],_,_,b,h=>by cases h
 | b::l,i,h,x,hx=>by
  rw [ldF] at h;by_cases c:(zil b).2.2.Code=0
  ·rw [xad c] at h
   rcases xaq.1 hx with e | e
   ·rw [e];apply Nat.le_of_not_lt;intro q;unfold zil at c;rw [xad q] at c; cases c
   ·exact ldF_small l (i+1) h x e
  ·rw [xab c] at h; exact absurd h c
theorem tabF_good {t:Tablet}(h:(tabF t).Code=0):TG t:=by
 have hh:(znl t).Code=0:=by
  unfold tabF at h;by_cases c:(znl t).Code=0
  ·exact c
  ·rw [xad c] at h; exact absurd h c
 have hf:(zm7 (memT t) (filT t)).Code=0:=by
  unfold tabF at h;rw [xab (xc8 hh)] at h; exact h
 have hm:¬ 500<(memT t).length:=by
  intro q;unfold zm7 at hf;rw [xad q] at hf; cases hf
 have ha:¬ 1000<(allS (memT t) (filT t)).length:=by
  intro q;unfold zm7 at hf;rw [xab hm,xad q] at hf; cases hf
 have hfz:zm7 (memT t) (filT t)=⟨0,0⟩:=by unfold zm7; rw [xab hm,xab ha]
 unfold znl at hh;by_cases c1:t.Done<0\/1000000000<t.Done\/t.Since<0\/1000000000<t.Since
 ·rw [xad c1] at hh; cases hh
 ·rw [xab c1] at hh;by_cases c2:10<t.Files.length
  ·rw [xad c2] at hh; cases hh
  ·rw [xab c2] at hh;by_cases c3:(dF t.Log).Code=0
   ·rw [xab (xc8 c3)] at hh;by_cases c4:badT t
    ·rw [xad c4] at hh; cases hh
    ·rw [xab c4] at hh;obtain ⟨hz,hg⟩:=ldF_good t.Files 0 hh;have hs:=ldF_small t.Files 0 hh;have hd:znl t=⟨0,0⟩:=by unfold znl; rw [xab c1,xab c2,xab (xc8 c3),xab c4,hz]
     exact ⟨by unfold tabF; rw [hd,xab (by simp),hfz],hd,by omega,by omega,by omega,by omega,by omega,dF_good.1 c3,c4,fun b hb=>⟨hg b hb,hs b hb⟩,by omega,Nat.le_of_not_lt ha⟩
   ·rw [xad c3] at hh; exact absurd hh c3
noncomputable def putN (t:Tablet)(l:Cs):Note:=⟨lastT t+1,l⟩
def erl (since:Int):Cs->Int->Fault
 | [],_=>⟨0,0⟩
 | c::l,i=>if c.Time<since then ⟨12,i⟩ else erl since l (i+1)
noncomputable def putF (t:Tablet)(l:Cs):Fault:=
 if ¬ (noteF (putN t l)).Code=0 then noteF (putN t l)
 else if ¬ (erl t.Since l 0).Code=0 then erl t.Since l 0
 else if 60000<t.Log.Bytes.length+(frame (encN (putN t l))).length then ⟨9,0⟩
 else zm7 (memS t.Done (zh3 t++[putN t l])) (filT t)
def T0:Tablet:=⟨⟨[],0⟩,[],0,0⟩
noncomputable def putS (t:Tablet)(l:Cs):Tablet×Int×Fault:=
 if ¬ (tabF t).Code=0 then (T0,0,tabF t)
 else if ¬ (putF t l).Code=0 then (T0,0,putF t l)
 else (⟨⟨t.Log.Bytes++frame (encN (putN t l)),t.Log.Kept⟩,t.Files,t.Done,t.Since⟩,lastT t+1,⟨0,0⟩)
theorem loadS_bad {t:Tablet}(h:¬ (znl t).Code=0):loadS t = .inl (znl t):=by unfold loadS; rw [xad h]
theorem loadS_ok {t:Tablet}(h:(znl t).Code=0):loadS t = .inr (t.Log.Bytes,t.Log.Kept,t.Files,t.Done,t.Since,zh3 t,lastT t,memT t,filT t,zm7 (memT t) (filT t)):=by unfold loadS; rw [xab (xc8 h)]
structure Gw (l:Cs):Prop where
 len:l.length<=100000
 srt:l.Pairwise ah
theorem Gw.at {l:Cs}(h:Gw l){i j:Nat}(hij:i<j)(hj:j<l.length):ah (zad l (i:Int)) (zad l (j:Int)):=by
 rw [zdk l i (by omega),zdk l j hj];exact (List.pairwise_iff_getElem.1 h.srt) i j (by omega) hj hij
def at' (row col:B8)(t:Int)(c:Cell):Bool:=decide (c.Row=row)&&decide (c.Col=col)&&decide (c.Time<=t)
theorem at_iff {row col:B8}{t:Int}{c:Cell}:at' row col t c=true↔c.Row=row/\c.Col=col/\c.Time<=t:=by
 unfold at'; simp [and_assoc]
def fnd (l:Cs)(row col:B8)(t:Int):Option Cell:=l.find? (at' row col t)
theorem fnd_some {l:Cs}{row col:B8}{t:Int}{i:Nat}(hi:i<l.length)(h:at' row col t (zad l (i:Int))=true)(hn:∀ j<i,at' row col t (zad l (j:Int))=false):fnd l row col t=some (zad l (i:Int)):=by
 unfold fnd;rw [List.find?_eq_some_iff_getElem];refine ⟨h,i,hi,(zdk l i hi).symm,fun j hj=>?_⟩;have:=hn j hj;rw [zdk l j (by omega)] at this;simp [this]
theorem fnd_none {l:Cs}{row col:B8}{t:Int}(hn:∀ j<l.length,at' row col t (zad l (j:Int))=false):fnd l row col t=none:=by
 unfold fnd;rw [List.find?_eq_none];intro x hx;obtain ⟨i,hi,rfl⟩:=xdc.1 hx;have:=hn i hi;rw [zdk l i hi] at this;simp [this]
def seenS (l:Cs)(row col:B8)(t:Int):Cell×Bool:=match fnd l row col t with
 | some c=>if c.Gone=true then (cell0,false) else (c,true)
 | none=>(cell0,false)
theorem seen_J1 (l:Cs)(z:Cell)(n:Nat)(hn:n<l.length)(hl:l.length<=1000000):zfd l (z,(n:Int))=some (if (zad l (n:Int)).Gone=true then (cell0,false) else (zad l (n:Int),true)):=by
 unfold zfd;have h0:decide ((n:Int)<0)=false:=xbg (by omega);dsimp only;rw [zaa (fun _=>by omega),h0];by_cases c:(zad l (n:Int)).Gone=true
 ·rw [xad (by rw [c]; rfl),xad c]; rfl
 ·rw [xab (by simpa using c),xab c,zaa ..]
theorem seen_loop (l:Cs)(hg:Gw l)(row col:B8)(t:Int)(z:Cell):∀ (m k:Nat) (best:Int),l.length - k=m->k<=l.length->
  ((best = -1/\∀ j<k,at' row col t (zad l (j:Int))=false)\/(∃ n:Nat,best=(n:Int)/\n<k/\at' row col t (zad l (n:Int))=true/\∀ j<n,at' row col t (zad l (j:Int))=false))->
  zow l row col t (z,best,(k:Int))=some (seenS l row col t)
 | 0,k,best,e,hk,hb=>by
  have hlen:=hg.len;have:k=l.length:=by omega
  subst this;refine zae ?_;simp only [zh7];rw [ifF ..]
  rcases hb with ⟨rfl,h⟩ | ⟨n,rfl,h1,h2,h3⟩
  ·have:zfd l (z,-1)=some (cell0,false):=by
    unfold zfd;dsimp only;rw [zaa (fun h=>by simp at h),xad (by simp)]; rfl
   rw [this];unfold seenS;rw [fnd_none h]; rfl
  ·rw [seen_J1 l z n h1 (by omega)];unfold seenS;rw [fnd_some h1 h2 h3]; rfl
 | m+1,k,best,e,hk,hb=>by
  have hlen:=hg.len;have hlt:k<l.length:=by omega
  have hw:w64 ((k:Int)+1)=((k+1:Nat):Int):=by rw [zaf ..]; omega
  have hbr:best<0\/(0<=best/\best<(l.length:Int)):=by
   rcases hb with ⟨rfl,_⟩ | ⟨n,rfl,h1,_⟩
   ·left; omega
   ·right; omega
  have em1:l.length - (k+1)=m:=by clear hb hbr; omega
  have em2:k+1<=l.length:=hlt;have step:∀ b',(if ((((decide ((zad l (k:Int)).Row=row))&&(decide ((zad l (k:Int)).Col=col)))&&(decide ((zad l (k:Int)).Time<=t)))&&((decide (best<0))||(decide ((zad l best).Time<(zad l (k:Int)).Time))))=true then some (z,(k:Int)) else some (z,best))=some (z,b')->
    zh7 l row col t (z,best,(k:Int))=some (.inl (z,b',((k+1:Nat):Int))):=by
   intro b' h;clear hb;simp only [zh7];rw [ifT ..,zaa ..,zaa (fun _=>by omega),zaa (fun _=>by omega),zaa (fun _ _=>by omega),zaa (fun h _=>by simp at h; omega),h,zac,hw]
  have hat:(((decide ((zad l (k:Int)).Row=row))&&(decide ((zad l (k:Int)).Col=col)))&&(decide ((zad l (k:Int)).Time<=t)))=at' row col t (zad l (k:Int)):=rfl;rw [hat] at step;cases ha:at' row col t (zad l (k:Int)) with
  | false=>
   have ih:=seen_loop l hg row col t z m (k+1) best em1 em2 (by
    rcases hb with ⟨rfl,h⟩ | ⟨n,rfl,h1,h2,h3⟩
    ·refine .inl ⟨rfl,fun j hj=>?_⟩;by_cases hjk:j=k
     ·subst hjk; exact ha
     ·exact h j (by omega)
    ·exact .inr ⟨n,rfl,by omega,h2,h3⟩)
   exact (zaj (step best (by rw [ha]; simp))).trans ih
  | true=>
   rcases hb with ⟨rfl,h⟩ | ⟨n,rfl,h1,h2,h3⟩
   ·have ih:=seen_loop l hg row col t z m (k+1) (k:Int) em1 em2 (.inr ⟨k,rfl,by omega,ha,h⟩);exact (zaj (step (k:Int) (by rw [ha]; simp))).trans ih
   ·have ih:=seen_loop l hg row col t z m (k+1) (n:Int) em1 em2 (.inr ⟨n,rfl,by omega,h2,h3⟩);refine (zaj (step (n:Int) ?_)).trans ih;have h4:=hg.at h1 hlt;obtain ⟨a1,a2,a3⟩:=at_iff.1 ha;obtain ⟨b1,b2,b3⟩:=at_iff.1 h2;unfold ah at h4;simp only [a1,a2,b1,b2,zj5] at h4;have h5:¬ (zad l (n:Int)).Time<(zad l (k:Int)).Time:=by simp at h4; omega
    rw [ha,xab];have h0:decide ((n:Int)<0)=false:=xbg (by omega);rw [h0,xbg h5]; simp
theorem seen_eq (l:Cs)(hg:Gw l)(row col:B8)(t:Int):R_SeenCell l row col t=some (seenS l row col t):=
 seen_loop l hg row col t _ l.length 0 (-1) (by omega) (by omega) (.inl ⟨rfl,fun j hj=>by omega⟩)
def pl (a b:Cell):Prop:=a.Row=b.Row/\a.Col=b.Col
theorem Gw.inj {l:Cs}(hg:Gw l){i j:Nat}(hi:i<l.length)(hj:j<l.length)(h:zad l (i:Int)=zad l (j:Int)):i=j:=by
 by_cases h1:i<j
 ·have:=hg.at h1 hj; rw [h] at this; exact absurd this (ah_irr _)
 ·by_cases h2:j<i
  ·have:=hg.at h2 hi; rw [h] at this; exact absurd this (ah_irr _)
  ·omega
theorem filter_succ {α:Type}[Inhabited α](p:α->Bool)(l:List α)(k:Nat)(hk:k<l.length):(l.take (k+1)).filter p=(l.take k).filter p++(if p (zad l (k:Int))=true then [zad l (k:Int)] else []):=by
 rw [lget_take l k hk,List.filter_append];congr 1;by_cases h:p (zad l (k:Int))=true <;> simp [h]
theorem all_gw {t:Tablet}(h:TG t):Gw (allT t):=⟨by have:=h.all; omega,(zgg _).1⟩
theorem filT_len {t:Tablet}(h:TG t):(filT t).length<=1000/\(filT t).flatten.length<=1000000000:=by
 have h1:=fil_flat t.Files;have h2:=h.few;unfold filT;exact ⟨by simp; omega,by omega⟩
theorem vastT_run (t:Tablet)(hl:t.Files.length<=140737488351232):∃ b,zfw t=some b/\(b=false->t.Files.length<=100):=by
 have key:∀ (m k:Nat) (v:Int),t.Files.length - k=m->k<=t.Files.length->∃ b,ze2 (t,v,(k:Int))=some b/\(b=false->t.Files.length<=100):=by
  intro m
  induction m with
  | zero=>
   intro k v e hk;refine ⟨(decide (20000<v))||(decide (100<(t.Files.length:Int))),zae ?_,fun h=>?_⟩
   ·unfold zed ze0;dsimp only;rw [ifF ..]; rfl
   ·simp only [xcd,xbd] at h;omega
  | succ m ih=>
   intro k v e hk;obtain ⟨b,h1,h2⟩:=ih (k+1) (w64 (v+((zad t.Files (k:Int)).length:Int))) (by omega) (by omega);refine ⟨b,(zaj ?_).trans h1,h2⟩;unfold zed;dsimp only;have:w64 ((k:Int)+1)=((k+1:Nat):Int):=by rw [zaf ..]; omega
   rw [ifT ..,zaa ..,this]
 exact key t.Files.length 0 _ (by omega) (by omega)
def c1:Cell:=⟨[114],[99],7,false,[97]⟩
end G
end Go.Proofs.YtgcndnddgajekaaGreatDoor
