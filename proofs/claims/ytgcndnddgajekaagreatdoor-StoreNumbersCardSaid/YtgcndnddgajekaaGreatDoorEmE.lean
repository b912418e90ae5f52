/- The machine over the model's code, part EmE. -/
import Derived.Test.YtgcndnddgajekaaGreatDoorEmD
set_option linter.unusedVariables false
set_option linter.unusedSimpArgs false
set_option linter.unusedSectionVars false
namespace Go.Dm
open Go
def num (n:Nat):List UInt8:=if n<128 then [UInt8.ofNat n] else UInt8.ofNat (n % 128+128)::num (n / 128)
termination_by n
decreasing_by omega
theorem num_lt {n:Nat}(h:n<128):num n=[UInt8.ofNat n]:=by rw [num,xad h]
theorem num_ge {n:Nat}(h:¬ n<128):num n=UInt8.ofNat (n % 128+128)::num (n / 128):=by rw [num,xab h]
def decd:List UInt8->Option (Nat×List UInt8)
 | []=>none
 | x::l=>if x.toNat<128 then some (x.toNat,l) else match decd l with
  | some (m,r)=>if m=0 then none else some (x.toNat % 128+128*m,r)
  | none=>none
theorem u8_of {n:Nat}(h:n<256):(UInt8.ofNat n).toNat=n:=by rw [xbw]; omega
theorem u8_eq {a b:UInt8}(h:a.toNat=b.toNat):a=b:=UInt8.toNat_inj.1 h
theorem u8_of_to (x:UInt8):UInt8.ofNat x.toNat=x:=UInt8.ofNat_toNat
theorem decd_num (n:Nat)(r:List UInt8):decd (num n++r)=some (n,r):=by
 induction n using Nat.strongRecOn with
 | _ n ih=>
  by_cases h:n<128
  ·rw [num_lt h];simp only [xbn,xbt,decd,u8_of (show n<256 by omega)];rw [xad h]
  ·rw [num_ge h];simp only [xbn,decd,u8_of (show n % 128+128<256 by omega),ih (n / 128) (by omega)];rw [xab (by omega),xab (by omega)];congr 2; omega
theorem num_decd:∀ (b:List UInt8) {n:Nat} {r:List UInt8},decd b=some (n,r)->b=num n++r
 | [],n,r,h=>by simp [decd] at h
 | x::l,n,r,h=>by
  simp only [decd] at h;split at h
  ·rename_i hx;simp only [Option.some.injEq,Prod.mk.injEq] at h;obtain ⟨rfl,rfl⟩:=h;rw [num_lt hx,u8_of_to]; rfl
  ·rename_i hx;split at h
   ·rename_i m r' e;split at h
    ·cases h
    ·rename_i hm;simp only [Option.some.injEq,Prod.mk.injEq] at h;obtain ⟨rfl,rfl⟩:=h;have ih:=num_decd l e;have hlt:=x.toNat_lt;rw [num_ge (by omega),ih];have e1:(x.toNat % 128+128*m) / 128=m:=by omega
     have e2:(x.toNat % 128+128*m) % 128+128=x.toNat:=by omega
     rw [e1,e2,u8_of_to]; rfl
   ·cases h
theorem num_pos (n:Nat):0<(num n).length:=by
 by_cases h:n<128
 ·rw [num_lt h]; simp
 ·rw [num_ge h]; simp
theorem num_len:∀ (k n:Nat),n<128 ^ (k+1)->(num n).length<=k+1
 | 0,n,h=>by rw [num_lt (by omega)]; simp
 | k+1,n,h=>by
  by_cases hn:n<128
  ·rw [num_lt hn]; simp
  ·rw [num_ge hn];have:n / 128<128 ^ (k+1):=by
    rw [Nat.div_lt_iff_lt_mul (by omega)]; rw [xdk] at h; exact h
   have:=num_len k (n / 128) this;simp; omega
theorem num_len5 {n:Nat}(h:n<=1000000000):(num n).length<=5:=num_len 4 n (by omega)
def rdN (b:List UInt8):Option (Nat×List UInt8):=match decd b with
 | some (n,r)=>if n<=1000000000 then some (n,r) else none
 | none=>none
theorem rdN_num {n:Nat}(h:n<=1000000000)(r:List UInt8):rdN (num n++r)=some (n,r):=by
 unfold rdN; rw [decd_num]; simp [h]
theorem zeq {b:List UInt8}{n:Nat}{r:List UInt8}(h:rdN b=some (n,r)):b=num n++r/\n<=1000000000:=by
 unfold rdN at h;split at h
 ·rename_i e;split at h
  ·rename_i hn;simp only [Option.some.injEq,Prod.mk.injEq] at h;obtain ⟨rfl,rfl⟩:=h;exact ⟨num_decd b e,hn⟩
  ·cases h
 ·cases h
def go:Nat->Nat->List UInt8->Option (Nat×List UInt8)
 | _,_,[]=>none
 | i,n,x::l=>if 4<i\/1000000000<n+x.toNat % 128*128 ^ i then none
  else if x.toNat<128 then (if 0<i/\x.toNat=0 then none else some (n+x.toNat % 128*128 ^ i,l)) else go (i+1) (n+x.toNat % 128*128 ^ i) l
theorem decd_lt {x:UInt8}{l:List UInt8}(h:x.toNat<128):decd (x::l)=some (x.toNat,l):=by rw [decd,xad h]
theorem decd_none {x:UInt8}{l:List UInt8}(h:¬ x.toNat<128)(e:decd l=none):decd (x::l)=none:=by rw [decd,xab h,e]
theorem decd_zero {x:UInt8}{l r:List UInt8}(h:¬ x.toNat<128)(e:decd l=some (0,r)):decd (x::l)=none:=by rw [decd,xab h,e]; rfl
theorem decd_some {x:UInt8}{l r:List UInt8}{m:Nat}(h:¬ x.toNat<128)(e:decd l=some (m,r))(hm:m≠0):decd (x::l)=some (x.toNat % 128+128*m,r):=by
 rw [decd,xab h,e];show (if m=0 then none else some (x.toNat % 128+128*m,r))=_;rw [xab hm]
def aft (i n:Nat):Option (Nat×List UInt8)->Option (Nat×List UInt8)
 | some (m,r)=>if (0<i->m≠0)/\n+m*128 ^ i<=1000000000 then some (n+m*128 ^ i,r) else none
 | none=>none
theorem zn0 (i n m:Nat)(r:List UInt8):aft i n (some (m,r))=if (0<i->m≠0)/\n+m*128 ^ i<=1000000000 then some (n+m*128 ^ i,r) else none:=rfl
theorem go_eq:∀ (l:List UInt8) (i n:Nat),i<=5->go i n l=aft i n (decd l)
 | [],i,n,hi=>rfl
 | x::l,i,n,hi=>by
  have hP:0<128 ^ i:=Nat.pow_pos (by omega);rw [go];by_cases h5:4<i
  ·have:i=5:=by omega
   subst this;rw [xad (.inl h5)];cases hd:decd (x::l) with
   | none=>rfl
   | some p=>
    obtain ⟨m,r⟩:=p;rw [zn0,xab];intro ⟨h1,h2⟩;have:=h1 (by omega);have:m*1<=m*128 ^ 5:=Nat.mul_le_mul_left m (by decide);have h6:1<=m:=by omega
    have h7:1*128 ^ 5<=m*128 ^ 5:=xa6 _ h6;have h8:(128:Nat) ^ 5=34359738368:=by decide
    omega
  ·by_cases hx:x.toNat<128
   ·have e1:x.toNat % 128=x.toNat:=by omega
    rw [e1,decd_lt hx,zn0];by_cases hb:1000000000<n+x.toNat*128 ^ i
    ·rw [xad (.inr hb),xab (by omega)]
    ·rw [xab (by omega),xad hx];by_cases h0:0<i/\x.toNat=0
     ·rw [xad h0,xab (by intro h; exact h.1 h0.1 h0.2)]
     ·rw [xab h0,xad ⟨fun h=>fun h'=>h0 ⟨h,h'⟩,by omega⟩]
   ·have ih:=go_eq l (i+1) (n+x.toNat % 128*128 ^ i) (by omega);by_cases hb:1000000000<n+x.toNat % 128*128 ^ i
    ·rw [xad (.inr hb)];cases hd:decd l with
     | none=>rw [decd_none hx hd]; rfl
     | some p=>
      obtain ⟨m,r⟩:=p;by_cases hm:m=0
      ·subst hm; rw [decd_zero hx hd]; rfl
      ·rw [decd_some hx hd hm,zn0,xab];intro ⟨_,h2⟩;rw [xcj] at h2;omega
    ·rw [xab (by omega),xab hx,ih];cases hd:decd l with
     | none=>rw [decd_none hx hd]; rfl
     | some p=>
      obtain ⟨m,r⟩:=p;by_cases hm:m=0
      ·subst hm;rw [decd_zero hx hd,zn0,xab (by intro h; exact h.1 (by omega) rfl)]; rfl
      ·rw [decd_some hx hd hm,zn0,zn0];have e2:n+x.toNat % 128*128 ^ i+m*128 ^ (i+1)=n+(x.toNat % 128+128*m)*128 ^ i:=by
        rw [xdk,xcj];have:m*(128 ^ i*128)=128*m*128 ^ i:=by rw [xe6 (128 ^ i) 128,<- Nat.mul_assoc,xe6 m 128]
        omega
       rw [e2];by_cases hc:n+(x.toNat % 128+128*m)*128 ^ i<=1000000000
       ·rw [xad ⟨fun _=>hm,hc⟩,xad ⟨fun _=>by omega,hc⟩]
       ·rw [xab (by intro h; exact hc h.2),xab (by intro h; exact hc h.2)]
theorem go_rdN (b:List UInt8):go 0 0 b=rdN b:=by
 rw [go_eq b 0 0 (by omega)];unfold rdN;cases decd b with
 | none=>rfl
 | some p=>obtain ⟨m,r⟩:=p; simp [zn0]
def wrT (s:List UInt8):List UInt8:=num s.length++s
def rdT (b:List UInt8):Option (List UInt8×List UInt8):=match rdN b with
 | some (n,r)=>if n<=r.length then some (r.take n,r.drop n) else none
 | none=>none
theorem rdT_some {b s r:List UInt8}(h:rdT b=some (s,r)):b=wrT s++r/\s.length<=1000000000:=by
 unfold rdT at h;split at h
 ·rename_i n r' e;obtain ⟨h1,h2⟩:=zeq e;split at h
  ·rename_i hn;simp only [Option.some.injEq,Prod.mk.injEq] at h;obtain ⟨rfl,rfl⟩:=h;have hl:(r'.take n).length=n:=by simp; omega
   refine ⟨?_,by omega⟩;unfold wrT;rw [hl,xaj,xbp]; exact h1
  ·cases h
 ·cases h
def rdAll {α:Type}(f:List UInt8->Option (α×List UInt8)):Nat->List UInt8->List α->List α⊕Nat
 | 0,_,acc=>.inl acc
 | k+1,b,acc=>if b=[] then .inl acc else match f b with
  | some (x,r)=>rdAll f k r (acc++[x])
  | none=>.inr acc.length
theorem rdAll_nil {α:Type}(f:List UInt8->Option (α×List UInt8))(k:Nat)(acc:List α):rdAll f k [] acc = .inl acc:=by
 cases k <;> simp [rdAll]
def wrAll {α:Type}(w:α->List UInt8)(l:List α):List UInt8:=l.flatMap w
end Go.Dm
namespace Go.Dm
open Go
def crcP:Nat:=3988292384
def crcS (c:Nat):Nat:=if c % 2=1 then (c / 2) ^^^ crcP else c / 2
def crcT (c b:Nat):Nat:=if (c+b) % 2=1 then (c / 2) ^^^ crcP else c / 2
def crcN:Nat->Nat->Nat
 | 0,c=>c
 | k+1,c=>crcN k (crcS c)
def crcR:Nat->Nat->Nat->Nat
 | 0,c,x=>c
 | k+1,c,x=>crcR k (crcT c (x % 2)) (x / 2)
theorem xor_m2 (a b:Nat):(a ^^^ b) % 2=(a+b) % 2:=by
 have h:(a ^^^ b) % 2=(a % 2) ^^^ (b % 2):=by
  have:=Nat.xor_mod_two_pow (a:=a) (b:=b) (n:=1);simpa using this
 rw [h]
 rcases Nat.mod_two_eq_zero_or_one a with ha | ha <;> rcases Nat.mod_two_eq_zero_or_one b with hb | hb <;> rw [ha,hb] <;> simp <;> omega
theorem xor_d2 (a b:Nat):(a ^^^ b) / 2=(a / 2) ^^^ (b / 2):=by
 have:=Nat.xor_div_two_pow (a:=a) (b:=b) (n:=1);simpa using this
theorem crcS_xor (c y:Nat):crcS (c ^^^ y)=crcT c (y % 2) ^^^ (y / 2):=by
 unfold crcS crcT;rw [xor_m2,xor_d2];have:(c+y) % 2=(c+y % 2) % 2:=by omega
 rw [this];split
 ·rw [Nat.xor_assoc,Nat.xor_comm (y / 2),<- Nat.xor_assoc]
 ·rfl
theorem crcN_xor:∀ (k c y:Nat),crcN k (c ^^^ y)=crcR k c y ^^^ (y / 2 ^ k)
 | 0,c,y=>by simp [crcN,crcR]
 | k+1,c,y=>by
  rw [crcN,crcS_xor,crcN_xor k,crcR,Nat.div_div_eq_div_mul,xdk,xe6 2]
theorem crc_byte (c x:Nat)(hx:x<256):crcN 8 (c ^^^ x)=crcR 8 c x:=by
 rw [crcN_xor];have:x / 2 ^ 8=0:=by omega
 rw [this,Nat.xor_zero]
theorem crcS_lt {c:Nat}(h:c<2 ^ 32):crcS c<2 ^ 32:=by
 unfold crcS;split
 ·exact xdi (by omega) (by unfold crcP; omega)
 ·omega
theorem crcN_lt:∀ (k:Nat) {c:Nat},c<2 ^ 32->crcN k c<2 ^ 32
 | 0,c,h=>h
 | k+1,c,h=>crcN_lt k (crcS_lt h)
def crcL (c:Nat):List UInt8->Nat
 | []=>c
 | x::l=>crcL (crcN 8 (c ^^^ x.toNat)) l
theorem u8_lt32 (x:UInt8):x.toNat<2 ^ 32:=by have:=x.toNat_lt; omega
theorem crcL_cons (x:UInt8)(l:List UInt8)(c:Nat):crcL c (x::l)=crcL (crcN 8 (c ^^^ x.toNat)) l:=rfl
def crc (l:List UInt8):Nat:=4294967295 - crcL 4294967295 l
theorem crc_lt (l:List UInt8):crc l<2 ^ 32:=by unfold crc; omega
def crcB (n:Nat):List UInt8:=[UInt8.ofNat (n / 16777216),UInt8.ofNat (n / 65536 % 256),UInt8.ofNat (n / 256 % 256),UInt8.ofNat (n % 256)]
def frame (b:List UInt8):List UInt8:=(UInt8.ofNat (b.length / 256)::UInt8.ofNat (b.length % 256)::b)++crcB (crc (UInt8.ofNat (b.length / 256)::UInt8.ofNat (b.length % 256)::b))
theorem frame_len (b:List UInt8):(frame b).length=b.length+6:=by simp [frame,crcB]
end Go.Dm
namespace Go.Dm
open Go
theorem u32_id {x:Int}(h1:0<=x)(h2:x<4294967296):IntKind.u32.wrap x=x:=by
 unfold IntKind.wrap;simp only [IntKind.signed,IntKind.bits];simp;omega
theorem fdiv_nat (n k:Nat):Int.fdiv (n:Int) (k:Int)=((n / k:Nat):Int):=by
 rw [xeh _ (by omega)]; rfl
theorem znx (n k:Nat):Int.tdiv (n:Int) (k:Int)=((n / k:Nat):Int):=rfl
theorem zkn (n k:Nat):Int.tmod (n:Int) (k:Int)=((n % k:Nat):Int):=rfl
theorem zez (n:Nat):zfq (n:Int)=UInt8.ofNat n:=by
 unfold zfq;apply u8_eq;have:((n:Int) % 256).toNat=n % 256:=by omega
 rw [this,xbw,xbw]; omega
theorem ofNat_mod (n:Nat):UInt8.ofNat (n % 256)=UInt8.ofNat n:=by
 apply u8_eq; rw [xbw,xbw]; omega
theorem bv_toNat (k n:Nat):(BitVec.ofInt k (n:Int)).toNat=n % 2 ^ k:=by
 rw [BitVec.toNat_ofInt]; omega
theorem and127 (x:UInt8):((zfq (((BitVec.ofInt 8 (x.toNat:Int) &&& BitVec.ofInt 8 ((127:UInt8).toNat:Int)).toNat:Int))).toNat:Int)=((x.toNat % 128:Nat):Int):=by
 have key:∀ n:_root_.Fin 256,((zfq (((BitVec.ofInt 8 (n.val:Int) &&& BitVec.ofInt 8 ((127:UInt8).toNat:Int)).toNat:Int))).toNat:Int)=((n.val % 128:Nat):Int):=by decide +kernel
 exact key ⟨x.toNat,x.toNat_lt⟩
theorem bits_xor32 {a b:Nat}(ha:a<2 ^ 32)(hb:b<2 ^ 32):zeh .xor .u32 (a:Int) (b:Int)=((a ^^^ b:Nat):Int):=by
 have h:=xdi ha hb;show IntKind.u32.wrap ((BitVec.ofInt 32 (a:Int) ^^^ BitVec.ofInt 32 (b:Int)).toNat:Int)=_;rw [BitVec.toNat_xor,bv_toNat,bv_toNat];rw [xb9 ha,xb9 hb,u32_id (by omega) (by omega)]
theorem bits_and32 {a b:Nat}(ha:a<2 ^ 32)(hb:b<2 ^ 32):zeh .and .u32 (a:Int) (b:Int)=((a &&& b:Nat):Int):=by
 have h:a &&& b<2 ^ 32:=Nat.and_lt_two_pow _ hb;show IntKind.u32.wrap ((BitVec.ofInt 32 (a:Int) &&& BitVec.ofInt 32 (b:Int)).toNat:Int)=_;rw [BitVec.toNat_and,bv_toNat,bv_toNat];rw [xb9 ha,xb9 hb,u32_id (by omega) (by omega)]
theorem bits_or64 {a b:Nat}(ha:a<2 ^ 63)(hb:b<2 ^ 63):zeh .or .i64 (a:Int) (b:Int)=((a ||| b:Nat):Int):=by
 have h:a ||| b<2 ^ 63:=Nat.or_lt_two_pow ha hb
 show w64 ((BitVec.ofInt 64 (a:Int) ||| BitVec.ofInt 64 (b:Int)).toNat:Int)=_;rw [BitVec.toNat_or,bv_toNat,bv_toNat];rw [xb9 (by omega),xb9 (by omega),zaf ..]
theorem or_add {a b k:Nat}(ha:a<2 ^ k):a ||| b*2 ^ k=a+b*2 ^ k:=by
 have:=Nat.two_pow_add_eq_or_of_lt ha b;rw [xe6 b,Nat.or_comm,<- this,Nat.add_comm]
theorem and_one (n:Nat):n &&& 1=n % 2:=Nat.and_one_is_mod n
end Go.Dm
