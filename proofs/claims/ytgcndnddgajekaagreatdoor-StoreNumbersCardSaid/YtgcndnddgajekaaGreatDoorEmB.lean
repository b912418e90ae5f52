/- The machine over the model's code, part EmB. -/
import Derived.Test.YtgcndnddgajekaaGreatDoorEmA
import Derived.Laws.IdiomStrings
import Derived.MapKept
import Derived.Laws.Pointers
import Derived.Laws.Cover3
import Derived.Laws.MakeOwn
set_option linter.unnecessarySimpa false
set_option linter.constructorNameAsVariable false
set_option linter.unusedSectionVars false
set_option linter.unusedSimpArgs false
set_option linter.unusedVariables false
namespace Go.Dm
open Go Go.RowKit
variable {C:Cx}{k:List It}{s:S}{τ:zbn}
def Does (C:Cx)(o:Oper)(s s':S):Prop:=
 ∀ a w,H C.g C.N s a w->∃ v w',((execOp a.eval o).run C.P w = .ok (.value v) w'\/((execOp a.eval o).run C.P w = .ok .skip w'/\v=undef))/\H C.g C.N s' (a.put o.dst v) w'
def AllP:List Prop->Prop
 | []=>True
 | p::l=>p/\AllP l
theorem zn1:∀ {a b:List Prop},AllP (a++b)↔AllP a/\AllP b
 | [],b=>by simp [AllP]
 | p::a,b=>by simp [AllP,zn1 (a:=a),and_assoc]
theorem zf9 {α:Type}(l:List α)(n:Nat):nth l n=l[n]?:=by
 induction l generalizing n with
 | nil=>rfl
 | cons x l ih=>cases n with
  | zero=>rfl
  | succ n=>simp only [nth,xbe]; exact ih n
theorem ofConst_rel {M:Mem}{E:Env}{v:Value}{x:AV}(h:ofConst v=some x):Rel M E v x:=by
 unfold ofConst at h;split at h <;> cases h
 ·exact .cell (.pure (.int _ _))
 ·exact .cell (.pure (.bool _))
 ·rename_i b;have:(Value.string b) = .string ⟨b.data.toList.toArray⟩:=by simp
  rw [this]; exact .cell (.pure (.str _))
 ·exact .cell (.pure .nils)
 ·exact .cell (.pure .nilp)
 ·exact .cell (.pure .nilfn)
 ·exact .cell (.pure .nilmp)
 ·exact .cell (.pure .ifcN)
theorem zba {M:Mem}{E:Env}{a:Act}{w:World}(hs:St C.g C.N M E s a.tmps w){x:Operand}{v:AV}(h:val s x=some v):Rel M E (a.eval x) v:=by
 cases x with
 | tmp i=>exact (hs.fr i v h).2
 | const c=>exact ofConst_rel h
 | func f=>
  simp only [val,Option.some.injEq] at h;subst h;exact .cell (.fn f [] [] rfl (by simp))
 | global g=>simp [val] at h
def AllE:List (Bool×Bool)->Prop
 | []=>True
 | (a,b)::l=>a=b/\AllE l
theorem zhs:∀ {a b:List (Bool×Bool)},AllE (a++b)↔AllE a/\AllE b
 | [],b=>by simp [AllE]
 | (x,y)::a,b=>by simp [AllE,zhs (a:=a),and_assoc]
theorem findA_true {d:Nat}{c:Bool}:∀ {A:List (Nat×Bool)},findA d A=some c->allB A=true->c=true
 | (e,c')::A,h,hA=>by
  simp only [allB,xaw] at hA;simp only [findA] at h;split at h
  ·cases h; exact hA.1
  ·exact findA_true h hA.2
theorem matchA_true {A:List (Nat×Bool)}(hA:allB A=true):∀ {cs:List (Nat×Bool)} {e:List (Bool×Bool)},matchA A cs=some e->AllE e->allB cs=true
 | [],e,_,_=>rfl
 | (d,c)::cs,e,h,he=>by
  simp only [matchA] at h;split at h
  ·rename_i c' hc;split at h
   ·rename_i r hr;cases h;simp only [allB,xaw];exact ⟨by rw [<- he.1]; exact findA_true hc hA,matchA_true hA hr he.2⟩
   ·cases h
  ·cases h
def Done (s:S)(x:Operand):Prop:=∀ cs u,val s x=some (.when cs u)->allB cs=true
theorem whenOf_done {A:List (Nat×Bool)}(hA:allB A=true){x:Operand}{e:List (Bool×Bool)}(h:whenOf A s x=some e)(he:AllE e):Done s x:=by
 intro cs u hv;unfold whenOf at h;rw [hv] at h;exact matchA_true hA h he
theorem obs_done {A:List (Nat×Bool)}(hA:allB A=true):∀ {l:List Operand} {e:List (Bool×Bool)},obs A s l=some e->AllE e->∀ x∈l,Done s x
 | [],_,_,_,x,hx=>by cases hx
 | y::l,e,h,he,x,hx=>by
  simp only [obs] at h;split at h
  ·rename_i e1 h1;split at h
   ·rename_i e2 h2;cases h;obtain ⟨g1,g2⟩:=zhs.1 he
    rcases xaq.1 hx with rfl | hx
    ·exact whenOf_done hA h1 g1
    ·exact obs_done hA h2 g2 x hx
   ·cases h
  ·cases h
theorem valW_rel {M:Mem}{E:Env}{a:Act}{w:World}(hs:St C.g C.N M E s a.tmps w){x:Operand}{v:AV}(h:zhy s x=some v)(hw:Done s x):Rel M E (a.eval x) v:=by
 unfold zhy at h;cases hv:val s x with
 | none=>rw [hv] at h; cases h
 | some u=>
  rw [hv] at h;have hr:=zba hs hv;cases u <;> first | (cases h; exact hr) | skip
  rename_i c y;cases h;exact hr.when_inv (hw _ _ hv)
theorem zic {o:Oper}{x:AV}(hd:∀ d,o.dst=some d->d<C.N)
  (h:∀ (a:Act) (w:World) (M:Mem) (E:Env),St C.g C.N M E s a.tmps w->∃ v,(execOp a.eval o).run C.P w = .ok (.value v) w/\Rel M E v x):Does C o s ((⟨some x,[],[],[],[]⟩:Eff).app o.dst s):=by
 intro a w ⟨hdf,M,E,hs,hp0⟩;obtain ⟨v,hrun,hr⟩:=h a w M E hs;refine ⟨v,w,.inl hrun,by rw [zfx]; exact hdf,M,E,?_,hp0⟩;cases hdd:o.dst with
 | none=>exact hs
 | some d=>exact hs.putS (hd d hdd) hr
def Sound (C:Cx)(o:Oper)(s:S)(r:Option Res):Prop:=∀ res,r=some res->AllP res.gs->AllE res.eq->Does C o s (res.e.app o.dst s)
theorem Sound.nil {o:Oper}:Sound C o s none:=fun _ h _ _=>by cases h
theorem Sound.retV {o:Oper}{an:List An}{x:AV}(hd:∀ d,o.dst=some d->d<C.N)
  (h:∀ (a:Act) (w:World) (M:Mem) (E:Env),St C.g C.N M E s a.tmps w->∃ u,(execOp a.eval o).run C.P w = .ok (.value u) w/\Rel M E u x):Sound C o s (Dm.retV an x):=by
 intro res hr _ _;cases hr;exact zic hd h
theorem Sound.retG {o:Oper}{an:List An}{gs:List Prop}{x:AV}(hd:∀ d,o.dst=some d->d<C.N)
  (h:AllP gs->∀ (a:Act) (w:World) (M:Mem) (E:Env),St C.g C.N M E s a.tmps w->∃ u,(execOp a.eval o).run C.P w = .ok (.value u) w/\Rel M E u x):Sound C o s (Dm.retG an gs x):=by
 intro res hr hg _;cases hr;exact zic hd (h hg)
theorem Sound.retO {o:Oper}{an:List An}{x:Option AV}(hd:∀ d,o.dst=some d->d<C.N)
  (h:∀ v,x=some v->∀ (a:Act) (w:World) (M:Mem) (E:Env),St C.g C.N M E s a.tmps w->∃ u,(execOp a.eval o).run C.P w = .ok (.value u) w/\Rel M E u v):Sound C o s (Dm.retO an x):=by
 cases x with
 | none=>exact .nil
 | some v=>exact .retV hd (h v rfl)
theorem run_move {P:Program}{o:Oper}{x:Operand}(ho:o.op = .move x\/o.op = .assign x)(ρ:Operand->Value)(w:World):(execOp ρ o).run P w = .ok (.value (ρ x)) w:=by
 rcases ho with ho | ho <;> simp [execOp,ho]
theorem zi9 {P:Program}{o:Oper}{op:BinOp}{t t':TypeId}{x y:Operand}(ho:o.op = .binOp op t x y t')(ρ:Operand->Value)(w:World)
  {u:Value}(hg:∀ v v',ρ x=v->ρ y=v'->(eqGuard op t x y v v').run P w = .ok () w)(h:(binOp op t (ρ x) (ρ y)).run P w = .ok u w):(execOp ρ o).run P w = .ok (.value u) w:=by
 unfold execOp;simp only [ho,xao,hg _ _ rfl rfl,xae,h,xat]
theorem eqGuard_int {P:Program}{op:BinOp}{t:TypeId}{x y:Operand}{k k':IntKind}{a b:Int}(w:World):(eqGuard op t x y (.int k a) (.int k' b)).run P w = .ok () w:=by
 cases op <;> simp [eqGuard]
theorem eqGuard_str {P:Program}{op:BinOp}{t:TypeId}{x y:Operand}{a b:ByteArray}(w:World):(eqGuard op t x y (.string a) (.string b)).run P w = .ok () w:=by
 cases op <;> simp [eqGuard]
theorem eqGuard_bool {P:Program}{op:BinOp}{t:TypeId}{x y:Operand}{a b:Bool}(w:World):(eqGuard op t x y (.bool a) (.bool b)).run P w = .ok () w:=by
 cases op <;> simp [eqGuard]
theorem zk2:∀ x y:List UInt8,(Op.bytesLess x y||x == y) = !Op.bytesLess y x
 | [],[]=>by simp [Op.bytesLess]
 | [],_::_=>by simp [Op.bytesLess]
 | _::_,[]=>by simp [Op.bytesLess]
 | a::x,b::y=>by
  have ih:=zk2 x y;simp only [Op.bytesLess,List.cons_beq_cons]
  rcases xd2 a.toNat b.toNat with h | h | h
  ·have h1:a<b:=xdl.2 h;have h2:¬ b<a:=fun e=>by have:=xdl.1 e; omega
   have h3:a≠b:=fun e=>by subst e; omega
   simp [h1,h2,h3,Ne.symm h3]
  ·have h3:a=b:=UInt8.toNat.inj h;subst h3;have h2:¬ a<a:=fun e=>by have:=xdl.1 e; omega
   simp [h2,ih]
  ·have h1:b<a:=xdl.2 h;have h2:¬ a<b:=fun e=>by have:=xdl.1 e; omega
   have h3:a≠b:=fun e=>by subst e; omega
   simp [h1,h2,h3,Ne.symm h3]
theorem nrm_eq (k:IntKind)(n:Int):nrm k n=k.wrap n:=by
 cases k <;> try rfl
 show ((zfq n).toNat:Int)=IntKind.u8.wrap n;unfold zfq;rw [xbw];have h1:IntKind.u8.wrap n=n % 256:=by simp [IntKind.wrap,IntKind.signed,IntKind.bits]
 rw [h1];have:=Int.emod_nonneg n (b:=256) (by omega);have:=Int.emod_lt_of_pos n (b:=256) (by omega);omega
theorem zns {k k':IntKind}(h:sameKind k k'=true):k=k':=by
 cases k <;> cases k' <;> first | rfl | (cases h)
theorem Sound.bin (hτ:zgl C.P τ){o:Oper}{an:List An}{op:BinOp}{t t':TypeId}{x y:Operand}(ho:o.op = .binOp op t x y t')(hd:∀ d,o.dst=some d->d<C.N)
  {u v:AV}(hx:∀ (a:Act) w M E,St C.g C.N M E s a.tmps w->Rel M E (a.eval x) u)(hy:∀ (a:Act) w M E,St C.g C.N M E s a.tmps w->Rel M E (a.eval y) v)
  (hagg:∀ cs ds,u = .agg cs->v = .agg ds->Sound C o s (evalAgg τ an t cs ds op)):Sound C o s (evalBin τ an t op u v):=by
 unfold evalBin;split
 ·rename_i k a k' b;have hax:∀ (a':Act) w M E,St C.g C.N M E s a'.tmps w->a'.eval x = .int k a:=fun a' w M E hs=>(hx a' w M E hs).int_inv;have hay:∀ (a':Act) w M E,St C.g C.N M E s a'.tmps w->a'.eval y = .int k' b:=fun a' w M E hs=>(hy a' w M E hs).int_inv;have run:∀ (u:Value),(∀ w,(binOp op t (.int k a) (.int k' b)).run C.P w = .ok u w)->∀ (a':Act) w M E,St C.g C.N M E s a'.tmps w->(execOp a'.eval o).run C.P w = .ok (.value u) w:=by
   intro u h a' w M E hs;refine zi9 ho a'.eval w (fun v v' e e'=>?_) ?_
   ·rw [<- e,<- e',hax a' w M E hs,hay a' w M E hs]; exact eqGuard_int w
   ·rw [hax a' w M E hs,hay a' w M E hs]; exact h w
  split
  ·rename_i hsh;cases op <;> simp [isShift] at hsh
   ·simp only [evalShift];refine .retG hd fun hg a' w M E hs=>?_;have hb:=hg.1;exact ⟨_,run _ (fun w=>by rw [nrm_eq]; simp [binOp,Op.shift,show ¬ b<0 by omega]) a' w M E hs,.cell (.pure (.int _ _))⟩
   ·simp only [evalShift];split
    ·refine .retG hd fun hg a' w M E hs=>?_;have hb:=hg.1;have he:=hg.2.1;exact ⟨_,run _ (fun w=>by rw [he]; simp [binOp,Op.shift,show ¬ b<0 by omega]; rfl) a' w M E hs,.cell (.pure (.int _ _))⟩
    ·refine .retG hd fun hg a' w M E hs=>?_;have hb:=hg.1;exact ⟨_,run _ (fun w=>by simp [binOp,Op.shift,show ¬ b<0 by omega]) a' w M E hs,.cell (.pure (.int _ _))⟩
  ·rename_i hsh;split
   ·rename_i hk;have hk:=zns hk;subst hk;cases op <;> first | exact .nil | (simp [isShift] at hsh; done) | skip
    all_goals simp only [evalInt]
    all_goals first
     | (refine .retV hd fun a' w M E hs=>?_
        refine ⟨_,run _ (fun w=>?_) a' w M E hs,.cell (.pure (.int _ _))⟩;simp [binOp,Op.intArith,Op.intBits,zeh,nrm_eq]; done)
     | (refine .retG hd fun hg a' w M E hs=>?_
        have hb:=hg.1;refine ⟨_,run _ (fun w=>?_) a' w M E hs,.cell (.pure (.int _ _))⟩;simp [binOp,Op.intDiv,hb,nrm_eq]; done)
     | (split
        ·refine .retG hd fun hg a' w M E hs=>?_;have hb:=hg.1;have he:=hg.2.1;refine ⟨_,run _ (fun w=>?_) a' w M E hs,.cell (.pure (.int _ _))⟩;rw [he]; simp [binOp,Op.intDiv,hb]; done
        ·refine .retG hd fun hg a' w M E hs=>?_;have hb:=hg.1;refine ⟨_,run _ (fun w=>?_) a' w M E hs,.cell (.pure (.int _ _))⟩;simp [binOp,Op.intDiv,hb]; done)
     | (refine .retV hd fun a' w M E hs=>⟨_,run _ (fun w=>?_) a' w M E hs,.cell (.pure (.bool _))⟩
        simp [binOp,Op.intCmp]
        done)
     | (refine .retV hd fun a' w M E hs=>⟨_,run _ (fun w=>?_) a' w M E hs,.cell (.pure (.bool _))⟩
        simp [binOp,Op.intCmp];rw [xb0]; simp; done)
   ·exact .nil
 ·rename_i x' y';have hax:∀ (a':Act) w M E,St C.g C.N M E s a'.tmps w->a'.eval x = .string ⟨x'.toArray⟩:=fun a' w M E hs=>(hx a' w M E hs).str_inv;have hay:∀ (a':Act) w M E,St C.g C.N M E s a'.tmps w->a'.eval y = .string ⟨y'.toArray⟩:=fun a' w M E hs=>(hy a' w M E hs).str_inv;have run:∀ (u:Value),(∀ w,(Op.stringOp op ⟨x'.toArray⟩ ⟨y'.toArray⟩).run C.P w = .ok u w)->∀ (a':Act) w M E,St C.g C.N M E s a'.tmps w->(execOp a'.eval o).run C.P w = .ok (.value u) w:=by
   intro u h a' w M E hs;refine zi9 ho a'.eval w (fun v v' e e'=>?_) ?_
   ·rw [<- e,<- e',hax a' w M E hs,hay a' w M E hs]; exact eqGuard_str w
   ·rw [hax a' w M E hs,hay a' w M E hs];have:=h w;cases op <;> exact this
  have tl:∀ l:List UInt8,(ByteArray.mk l.toArray).toList=l:=fun l=>by rw [ByteArray.toList_eq]
  cases op <;> simp only [evalStr]
  all_goals first | exact .nil | skip
  ·refine .retG hd fun hg a' w M E hs=>?_;have hl:=hg.1;refine ⟨.string ⟨(x'++y').toArray⟩,run _ (fun w=>?_) a' w M E hs,.cell (.pure (.str _))⟩;have hn:¬ (((ByteArray.mk x'.toArray).size+(ByteArray.mk y'.toArray).size:Nat):Int) > IntKind.i64.max:=by
    have:IntKind.i64.max=9223372036854775807:=rfl;rw [this];simp only [ByteArray.size,xaz];omega
   have happ:(ByteArray.mk x'.toArray)++(ByteArray.mk y'.toArray)=ByteArray.mk (x'++y').toArray:=by
    apply ByteArray.ext;simp
   unfold Op.stringOp;simp only [xab hn,xat,happ]
  all_goals
   refine .retV hd fun a' w M E hs=>⟨_,run _ (fun w=>?_) a' w M E hs,.cell (.pure (.bool _))⟩;simp only [Op.stringOp,tl,xat,zk2]
   try first | rfl | (congr 2; rw [xb0]; simp; done)
 ·rename_i x' y';have hax:∀ (a':Act) w M E,St C.g C.N M E s a'.tmps w->a'.eval x = .bool x':=fun a' w M E hs=>(hx a' w M E hs).bool_inv;have hay:∀ (a':Act) w M E,St C.g C.N M E s a'.tmps w->a'.eval y = .bool y':=fun a' w M E hs=>(hy a' w M E hs).bool_inv;have ht:isBoolT τ t=true->C.P.underlying t=some .bool:=by
   intro h;unfold isBoolT at h;split at h
   ·rename_i h'; exact (hτ t _ h').kind
   ·cases h
  cases op <;> simp only [evalBool]
  all_goals first | exact .nil | skip
  all_goals
   split
   ·rename_i hb;refine .retV hd fun a' w M E hs=>?_;refine ⟨_,zi9 ho a'.eval w (fun v v' e e'=>?_) ?_,.cell (.pure (.bool _))⟩
    ·rw [<- e,<- e',hax a' w M E hs,hay a' w M E hs]; exact eqGuard_bool w
    ·rw [hax a' w M E hs,hay a' w M E hs];simp [binOp,Op.equal,Op.maxDepth,run_equalIn_bool _ _ _ _ _ (ht hb)]
     try (cases x' <;> cases y' <;> rfl)
   ·exact .nil
 ·exact hagg _ _ rfl rfl
 ·exact .nil
end Go.Dm
namespace Go.Dm
open Go Go.RowKit
variable {C:Cx}{k:List It}{s:S}{τ:zbn}
def zff:List AV->List AV->Prop
 | [],[]=>True
 | .int _ a::l,.int _ b::r=>a=b/\zff l r
 | .str a::l,.str b::r=>a=b/\zff l r
 | .bool a::l,.bool b::r=>a=b/\zff l r
 | _,_=>False
theorem eqB_iff:∀ {l r:List AV} {e:Bool},eqB l r=some e->(e=true↔zff l r)
 | [],[],e,h=>by simp only [eqB] at h; cases h; simp [zff]
 | [],_::_,e,h=>by simp [eqB] at h
 | x::l,[],e,h=>by cases x <;> simp [eqB] at h
 | x::l,y::r,e,h=>by
  cases x <;> cases y <;> simp only [eqB] at h <;> first | (cases h; done) | skip
  all_goals
   split at h
   ·rename_i e' he;cases h;simp [zff,eqB_iff he]
   ·cases h
theorem shapes_cons {f:TypeId->Option (List Sh)}{o:Nat}{t:TypeId}{off:Nat}{l:List (TypeId×Nat)}{sh:List Sh}(h:shapes f o ((t,off)::l)=some sh) :
  off=o/\∃ a b,f t=some a/\shapes f (o+a.length) l=some b/\sh=a++b:=by
 simp only [shapes] at h;split at h
 ·rename_i ho;split at h
  ·rename_i a ha;split at h
   ·rename_i b hb;cases h;exact ⟨zbc ho,a,b,ha,hb,rfl⟩
   ·cases h
  ·cases h
 ·cases h
theorem AllR.drop {R:Value->AV->Prop}{vs:List Value}{cs:List AV}(h:AllR R vs cs)(o:Nat):AllR R (vs.drop o) (cs.drop o):=
 ⟨by simp [h.1],fun j v c hv hc=>h.2 (o+j) v c (by simpa using hv) (by simpa using hc)⟩
theorem AllR.take {R:Value->AV->Prop}{vs:List Value}{cs:List AV}(h:AllR R vs cs)(n:Nat):AllR R (vs.take n) (cs.take n):=by
 refine ⟨by simp [h.1],fun j v c hv hc=>?_⟩;rw [xau] at hv hc;split at hv
 ·rename_i hj; rw [xad hj] at hc; exact h.2 j v c hv hc
 ·cases hv
theorem zg5:∀ {sh:List Sh} {cs:List AV},zgf sh cs=true->sh.length=cs.length
 | [],[],_=>rfl
 | [],_::_,h=>by simp [zgf] at h
 | x::sh,[],h=>by cases x <;> simp [zgf] at h
 | x::sh,y::cs,h=>by
  cases x <;> cases y <;> simp [zgf] at h
  all_goals first
   | (simp [zg5 h.2]; done)
   | (simp [zg5 h]; done)
theorem hasSh_app:∀ {a b:List Sh} {cs:List AV},zgf (a++b) cs=true->zgf a (cs.take a.length)=true/\zgf b (cs.drop a.length)=true
 | [],b,cs,h=>by simpa [zgf] using h
 | x::a,b,[],h=>by cases x <;> simp [zgf] at h
 | x::a,b,y::cs,h=>by
  cases x <;> cases y <;> simp only [xbn,zgf,xaw] at h <;> first | (cases h; done) | skip
  all_goals first
   | (obtain ⟨h1,h2⟩:=h
      simp only [xal,xdt,xdv,zgf,xaw];exact ⟨⟨h1,(hasSh_app h2).1⟩,(hasSh_app h2).2⟩)
   | (simp only [xal,xdt,xdv,zgf]
      exact hasSh_app h)
theorem zoh:∀ (n:Nat) {sh:List Sh} {cs ds:List AV},zgf sh cs=true->zgf sh ds=true->(zff cs ds↔zff (cs.take n) (ds.take n)/\zff (cs.drop n) (ds.drop n))
 | 0,sh,cs,ds,_,_=>by simp [zff]
 | n+1,[],[],[],_,_=>by simp [zff]
 | n+1,[],[],_::_,_,h=>by simp [zgf] at h
 | n+1,[],_::_,_,h,_=>by simp [zgf] at h
 | n+1,z::sh,[],_,h,_=>by cases z <;> simp [zgf] at h
 | n+1,z::sh,x::cs,[],_,h=>by cases z <;> simp [zgf] at h
 | n+1,z::sh,x::cs,y::ds,h,h'=>by
  cases z <;> cases x <;> simp only [zgf,xaw] at h <;> first | (cases h; done) | skip
  all_goals
   cases y <;> simp only [zgf,xaw] at h' <;> first | (cases h'; done) | skip
  all_goals first
   | (simp only [xdt,xdv,zff,zoh n h.2 h'.2,and_assoc]; done)
   | (simp only [xdt,xdv,zff,zoh n h h',and_assoc]; done)
theorem RelS.int_inv {M:Mem}{E:Env}{v:Value}{k:IntKind}{n:Int}(h:RelS M E v (.int k n)):v = .int k n:=(Rel.cell h).int_inv
theorem RelS.str_inv {M:Mem}{E:Env}{v:Value}{x:List UInt8}(h:RelS M E v (.str x)):v = .string ⟨x.toArray⟩:=(Rel.cell h).str_inv
theorem RelS.bool_inv {M:Mem}{E:Env}{v:Value}{x:Bool}(h:RelS M E v (.bool x)):v = .bool x:=(Rel.cell h).bool_inv
def ofCells (i:TI)(vs:List Value):Value:=if i.k.agg then .agg vs.toArray else vs.getD 0 undef
theorem one_of_len {α:Type}{l:List α}(h:l.length=1):∃ x,l=[x]:=by
 match l,h with
 | [x],_=>exact ⟨x,rfl⟩
section
variable {P:Program}{t:TypeId}{i:TI}
theorem TyOk1.sizeOf (h:TyOk1 P t i)(w:World):(sizeOf t).run P w = .ok i.sz w:=by
 obtain ⟨inf,z,hi,hs,_⟩:=h.info;simp [Go.sizeOf,typeInfo,hi,hs]
theorem TyOk1.isAgg (h:TyOk1 P t i)(w:World):(isAgg t).run P w = .ok i.k.agg w:=by
 have hk:=h.kind;unfold Go.isAgg;cases hkk:i.k with
 | struct fl eq=>rw [hkk] at hk; obtain ⟨fs,hu,_⟩:=hk; simp [xah hu,TK.agg]
 | arr e n=>rw [hkk] at hk; simp only [TKOk] at hk; simp [xah hk,TK.agg]
 | other=>
  rw [hkk] at hk;obtain ⟨d,hu,hd⟩:=hk;cases d <;> simp at hd <;> simp [xah hu,TK.agg]
 | func=>rw [hkk] at hk; obtain ⟨ps,rs,v,hu⟩:=hk; simp [xah hu,TK.agg]
 | iface=>rw [hkk] at hk; obtain ⟨ms,hu⟩:=hk; simp [xah hu,TK.agg]
 | _=>rw [hkk] at hk; simp only [TKOk] at hk; simp [xah hk,TK.agg]
theorem TyOk1.part (h:TyOk1 P t i)(w:World)(vs:List Value)(off:Nat)(hl:off+i.sz<=vs.length) :
  (Go.part t vs.toArray off).run P w = .ok (ofCells i ((vs.drop off).take i.sz)) w:=by
 unfold Go.part ofCells;simp only [xao,h.isAgg,xae];cases hk:i.k.agg with
 | true=>
  simp only [xc1,xao,h.sizeOf,xae,xat];congr 2;simp [xep,xd1]
 | false=>
  have h1:=h.one hk;have hlt:off<vs.length:=by omega
  simp [hlt,List.getD,h1]
end
theorem shape_sz {P:Program}{n:Nat}{t:TypeId}{sh:List Sh}(hτ:zgl P τ)(h:zme τ n t=some sh):∃ i,τ t=some i/\i.sz=sh.length:=by
 cases n with
 | zero=>simp [zme] at h
 | succ n=>
  simp only [zme] at h;split at h
  ·rename_i k sz b z cz hi; cases h; exact ⟨_,hi,(hτ _ _ hi).one rfl⟩
  ·rename_i sz b z cz hi; cases h; exact ⟨_,hi,(hτ _ _ hi).one rfl⟩
  ·rename_i sz b z cz hi; cases h; exact ⟨_,hi,(hτ _ _ hi).one rfl⟩
  ·rename_i fl sz b z cz hi;split at h
   ·split at h
    ·rename_i hl; cases h; exact ⟨_,hi,(zbc hl).symm⟩
    ·cases h
   ·cases h
  ·cases h
theorem equal_run {P:Program}(hτ:zgl P τ){M:Mem}{E:Env}(w:World):∀ (n:Nat) (t:TypeId) (sh:List Sh) (i:TI),zme τ n t=some sh->τ t=some i->∀ (d:Nat),n<=d->
  ∀ (vs us:List Value) (cs ds:List AV),AllR (RelS M E) vs cs->AllR (RelS M E) us ds->zgf sh cs=true->zgf sh ds=true->
   ∃ b,(Op.equalIn d t (ofCells i vs) (ofCells i us)).run P w = .ok b w/\(b=true↔zff cs ds)
 | 0,t,sh,i,h,_,_,_,_,_,_,_,_,_,_,_=>by simp [zme] at h
 | n+1,t,sh,i,h,hi,d,hd,vs,us,cs,ds,hv,hu,hc,hc'=>by
  obtain ⟨d,rfl⟩:∃ d',d=d'+1:=⟨d - 1,by omega⟩;have hkind:=(hτ _ _ hi).kind;have scalar:∀ {z:Sh},sh=[z]->∃ v u c e,vs=[v]/\us=[u]/\cs=[c]/\ds=[e]:=by
   rintro z rfl;obtain ⟨c,rfl⟩:=one_of_len (zg5 hc).symm;obtain ⟨e,rfl⟩:=one_of_len (zg5 hc').symm;obtain ⟨v,rfl⟩:=one_of_len (by rw [hv.1]; rfl:vs.length=1);obtain ⟨u,rfl⟩:=one_of_len (by rw [hu.1]; rfl:us.length=1);exact ⟨v,u,c,e,rfl,rfl,rfl,rfl⟩
  simp only [zme] at h;rw [hi] at h;split at h
  ·rename_i k sz b z cz hi';cases hi';cases h;obtain ⟨v,u,c,e,rfl,rfl,rfl,rfl⟩:=scalar rfl;cases c <;> simp [zgf] at hc;cases e <;> simp [zgf] at hc';have hc:=zns hc;have hc':=zns hc';subst hc; subst hc';have h1:=(hv.2 0 v _ rfl rfl).int_inv;have h2:=(hu.2 0 u _ rfl rfl).int_inv;subst h1; subst h2;refine ⟨_,run_equalIn_int w d t _ _ _ _ hkind,?_⟩;simp [zff]
  ·rename_i sz b z cz hi';cases hi';cases h;obtain ⟨v,u,c,e,rfl,rfl,rfl,rfl⟩:=scalar rfl;cases c <;> simp [zgf] at hc;cases e <;> simp [zgf] at hc';have h1:=(hv.2 0 v _ rfl rfl).bool_inv;have h2:=(hu.2 0 u _ rfl rfl).bool_inv;subst h1; subst h2;refine ⟨_,run_equalIn_bool w d t _ _ hkind,?_⟩;simp [zff]
  ·rename_i sz b z cz hi';cases hi';cases h;obtain ⟨v,u,c,e,rfl,rfl,rfl,rfl⟩:=scalar rfl;cases c <;> simp [zgf] at hc;cases e <;> simp [zgf] at hc';have h1:=(hv.2 0 v _ rfl rfl).str_inv;have h2:=(hu.2 0 u _ rfl rfl).str_inv;subst h1; subst h2;refine ⟨_,run_equalIn_string w d t _ _ hkind,?_⟩;simp [zff]
  ·rename_i fl sz b z cz hi';cases hi';split at h
   ·rename_i sh' hsh;split at h
    ·rename_i hlen;cases h;obtain ⟨fs,hun,hfl,heq⟩:=hkind;obtain ⟨he1,he2,he3⟩:=heq rfl;have hF:P.fieldsOf t=fs:=by simp [Program.fieldsOf,hun]
     have hrun:=run_equalIn_struct (P:=P) w d t vs.toArray us.toArray (by rw [hF]; exact hun) he1;rw [hF] at hrun;show ∃ b,(Op.equalIn (d+1) t (.agg vs.toArray) (.agg us.toArray)).run P w = .ok b w/\_;rw [hrun];have key:∀ (l:List Field) (o:Nat) (sh2:List Sh),shapes (zme τ n) o (l.map fun f=>(f.type,f.offset))=some sh2->l.all (fun f=>decide (f.name≠"_"))=true->
       o<=cs.length->zgf sh2 (cs.drop o)=true->zgf sh2 (ds.drop o)=true->
       ∃ b,(Op.eqFields d vs.toArray us.toArray l).run P w = .ok b w/\(b=true↔zff (cs.drop o) (ds.drop o)):=by
      intro l
      induction l with
      | nil=>
       intro o sh2 h2 _ hol h3 h4;simp only [xd6,shapes] at h2;cases h2;have e1:cs.drop o=[]:=xai (zg5 h3).symm;have e2:ds.drop o=[]:=xai (zg5 h4).symm;refine ⟨true,rfl,?_⟩;rw [e1,e2]; simp [zff]
      | cons f l ih=>
       intro o sh2 h2 hn hol h3 h4;simp only [xa9] at h2;obtain ⟨ho,a,sh3,ha,h5,rfl⟩:=shapes_cons h2;simp only [List.all_cons,xaw,xav] at hn;obtain ⟨fi,hfi,hfsz⟩:=shape_sz hτ ha;obtain ⟨g1,g2⟩:=hasSh_app h3;obtain ⟨g3,g4⟩:=hasSh_app h4;have hlcd:cs.length=ds.length:=by rw [<- zg5 hc,<- zg5 hc']
       have hlen1:o+a.length<=cs.length:=by have:=zg5 h3; simp at this; omega
       have hlen2:o+a.length<=ds.length:=by have:=zg5 h4; simp at this; omega
       have p1:=(hτ _ _ hfi).part w vs f.offset (by rw [hfsz,hv.1,ho]; exact hlen1);have p2:=(hτ _ _ hfi).part w us f.offset (by rw [hfsz,hu.1,ho]; exact hlen2);rw [hfsz,ho] at p1 p2;obtain ⟨b1,r1,e1⟩:=equal_run hτ w n f.type a fi ha hfi d (by omega) _ _ _ _ ((hv.drop o).take a.length) ((hu.drop o).take a.length) g1 g3;rw [xcm] at g2 g4;obtain ⟨b2,r2,e2⟩:=ih (o+a.length) sh3 h5 hn.2 hlen1 g2 g4;have hsp:=zoh a.length h3 h4;rw [xcm,xcm] at hsp;simp only [Op.eqFields,xad hn.1,xao,ho,p1,p2,r1,xae];cases b1 with
       | false=>
        refine ⟨false,rfl,?_⟩;rw [hsp,<- e1]; simp
       | true=>
        refine ⟨b2,?_,?_⟩
        ·simpa using r2
        ·rw [hsp,<- e1,<- e2]; simp
     obtain ⟨b,hb1,hb2⟩:=key fs.toList 0 sh (by rw [hfl]; exact hsh) he3 (xbm _) (by simpa using hc) (by simpa using hc');exact ⟨b,hb1,by simpa using hb2⟩
    ·cases h
   ·cases h
  ·cases h
theorem Sound.agg (hτ:zgl C.P τ){o:Oper}{an:List An}{op:BinOp}{t t':TypeId}{x y:Operand}(ho:o.op = .binOp op t x y t')(hd:∀ d,o.dst=some d->d<C.N)
  {cs ds:List AV}(hx:∀ (a:Act) w M E,St C.g C.N M E s a.tmps w->Rel M E (a.eval x) (.agg cs))(hy:∀ (a:Act) w M E,St C.g C.N M E s a.tmps w->Rel M E (a.eval y) (.agg ds)):Sound C o s (evalAgg τ an t cs ds op):=by
 unfold evalAgg;split
 ·rename_i fl eq sz b z cz hi;split
  ·rename_i sh hsh;split
   ·rename_i hh1;split
    ·rename_i hh2;split
     ·rename_i e he;have hk:(⟨.struct fl eq,sz,b,z,cz⟩:TI).k.agg=true:=rfl;have hsd:C.P.eqGuardType C.P.depth t=false:=by
       simp only [zme] at hsh;rw [hi] at hsh;split at hsh <;> first | (cases hsh; done) | skip
       ·rename_i hi'; cases hi'
       ·rename_i hi'; cases hi'
       ·rename_i hi'; cases hi'
       ·rename_i fl sz b z cz hi';cases hi';obtain ⟨fs,hun,hfl,heq⟩:=(hτ _ _ hi).kind;exact (heq rfl).2.1
      have main:∀ (a:Act) (w:World) (M:Mem) (E:Env),St C.g C.N M E s a.tmps w->∀ (neg:Bool),op=(if neg then .neq else .eql)->
        (execOp a.eval o).run C.P w = .ok (.value (.bool (if neg then !e else e))) w:=by
       intro a w M E hs neg hop;obtain ⟨vs,hev,hv⟩:=(hx a w M E hs).agg_inv;obtain ⟨us,hev',hu⟩:=(hy a w M E hs).agg_inv;obtain ⟨b',hb,hbe⟩:=equal_run hτ (M:=M) (E:=E) w 5 t sh _ hsh hi 10000 (by omega) vs us cs ds hv hu hh1 hh2;have hbe':b'=e:=by rw [xb0,hbe,eqB_iff he]
       subst hbe';simp only [ofCells,hk,xc1] at hb;have hg:∀ op',(eqGuard op' t x y (.agg vs.toArray) (.agg us.toArray)).run C.P w = .ok () w:=by
        intro op';unfold eqGuard;cases op' <;> simp [hsd]
       cases neg with
       | false=>
        subst hop;refine zi9 ho a.eval w (fun v v' e e'=>?_) ?_
        ·rw [<- e,<- e',hev,hev']; exact hg _
        ·rw [hev,hev'];simp only [binOp,xao,Op.equal,Op.maxDepth,hb,xae,xat,xby,xcw]
       | true=>
        subst hop;refine zi9 ho a.eval w (fun v v' e e'=>?_) ?_
        ·rw [<- e,<- e',hev,hev']; exact hg _
        ·rw [hev,hev'];simp only [binOp,xao,Op.equal,Op.maxDepth,hb,xae,xat,xc1]
      split
      ·exact .retV hd fun a w M E hs=>⟨_,main a w M E hs false rfl,.cell (.pure (.bool _))⟩
      ·exact .retV hd fun a w M E hs=>⟨_,main a w M E hs true rfl,.cell (.pure (.bool _))⟩
      ·exact .nil
     ·exact .nil
    ·exact .nil
   ·exact .nil
  ·exact .nil
 ·exact .nil
end Go.Dm
namespace Go.Dm
open Go Go.RowKit
variable {C:Cx}{k:List It}{s:S}{τ:zbn}
def Has (C:Cx)(s:S)(x:Operand)(u:AV):Prop:=∀ (a:Act) (w:World) (M:Mem) (E:Env),St C.g C.N M E s a.tmps w->Rel M E (a.eval x) u
theorem zge:∀ (l:List AV) (o n:Nat) (r:List AV),zgi l o n=some r->r=(l.drop o).take n/\(0<n->o+n<=l.length)
 | l,o,0,r,h=>by simp only [zgi] at h; cases h; simp
 | [],_,n+1,r,h=>by simp [zgi] at h
 | x::l,0,n+1,r,h=>by
  simp only [zgi] at h;split at h
  ·rename_i r' h';cases h;obtain ⟨e,hl⟩:=zge l 0 n r' h';refine ⟨by simp [e],fun _=>?_⟩
   rcases xel n with hn | hn
   ·subst hn; simp
   ·have:=hl hn; simp; omega
  ·cases h
 | x::l,o+1,n+1,r,h=>by
  simp only [zgi] at h;obtain ⟨e,hl⟩:=zge l o (n+1) r h;refine ⟨by simp [e],fun hn=>?_⟩;have:=hl hn;simp; omega
theorem zfh:∀ (l:List AV) (o:Nat) (vs r:List AV),zjv l o vs=some r->r=l.take o++vs++l.drop (o+vs.length)/\(vs≠[]->o+vs.length<=l.length)
 | l,o,[],r,h=>by cases l <;> cases o <;> (simp only [zjv] at h; cases h; simp)
 | [],_,v::vs,r,h=>by simp [zjv] at h
 | x::l,0,v::vs,r,h=>by
  simp only [zjv] at h;split at h
  ·rename_i r' h';cases h;obtain ⟨e,hl⟩:=zfh l 0 vs r' h';refine ⟨by simp [e],fun _=>?_⟩;cases vs with
   | nil=>simp
   | cons u us=>have:=hl (by simp); simp at this ⊢; omega
  ·cases h
 | x::l,o+1,v::vs,r,h=>by
  simp only [zjv] at h;split at h
  ·rename_i r' h';cases h;obtain ⟨e,hl⟩:=zfh l o (v::vs) r' h';refine ⟨?_,fun hn=>?_⟩
   ·rw [e];have:o+1+(v::vs).length=(o+(v::vs).length)+1:=by omega
    rw [this];simp
   ·have:=hl hn;simp at this ⊢; omega
  ·cases h
theorem zd4:∀ {l:List AV},zat l=true->l.all AV.isCell=true
 | [],_=>rfl
 | x::l,h=>by
  simp only [zat] at h;split at h
  ·rename_i hx; simp only [List.all_cons,hx,zd4 h,Bool.and_self]
  ·cases h
section ty
variable {P:Program}{t:TypeId}{i:TI}
theorem TyOk1.loadVar (h:TyOk1 P t i)(w:World)(b o:Nat)(f:Nat->Value)(hc:∀ j,j<i.sz->w.cell? ⟨b,o+j,none⟩=some (f j)) :
  (Go.loadVar t ⟨b,o,none⟩).run P w = .ok (if i.k.agg then .agg ((List.range i.sz).map f).toArray else f 0) w:=by
 unfold Go.loadVar;simp only [xao,h.isAgg,xae];cases hk:i.k.agg with
 | true=>
  simp only [xc1,xao,h.sizeOf,xae,xat];rw [run_loadCells w ⟨b,o,none⟩ i.sz f (fun j hj=>by rw [zf4]; exact hc j hj)];rfl
 | false=>
  have h1:=h.one hk;have:=hc 0 (by omega);simp at this;simp [this]
theorem TyOk1.part' (h:TyOk1 P t i)(w:World)(vs:List Value)(off:Nat)(hl:off+i.sz<=vs.length) :
  (Go.part t vs.toArray off).run P w = .ok (if i.k.agg then .agg ((vs.drop off).take i.sz).toArray else vs.getD off undef) w:=by
 unfold Go.part;simp only [xao,h.isAgg,xae];cases hk:i.k.agg with
 | true=>
  simp only [xc1,xao,h.sizeOf,xae,xat];congr 2;simp [xep,xd1]
 | false=>
  have h1:=h.one hk;have hlt:off<vs.length:=by omega
  simp [hlt,List.getD]
end ty
theorem fld_sound (hτ:zgl C.P τ){st:TypeId}{f:Nat}{i:TI}{off:Nat}(h:fldOf τ st f=some (i,off)) :
  ∃ (fs:Array Field) (fd:Field),C.P.underlying st=some (.struct fs)/\fs[f]?=some fd/\fd.offset=off/\τ fd.type=some i/\i.sz≠0:=by
 unfold fldOf at h;split at h
 ·rename_i fl eq sz by' z cz hst
  obtain ⟨fs,hu,hfl,_⟩:=(hτ st _ hst).kind;split at h
  ·rename_i t o hn;split at h
   ·rename_i i' hi;split at h
    ·cases h
    ·rename_i n hz;cases h;rw [zf9,<- hfl,xbf,xay] at hn;obtain ⟨fd,hfd,e⟩:=hn;simp only [Prod.mk.injEq] at e;obtain ⟨rfl,rfl⟩:=e;exact ⟨fs,fd,hu,by simpa using hfd,rfl,hi,by omega⟩
   ·cases h
  ·cases h
 ·cases h
theorem zn6 (hτ:zgl C.P τ){st:TypeId}{f:Nat}{i:TI}{off:Nat}(h:fldOf τ st f=some (i,off))(a:Addr)(w:World) :
  (Instr.fieldAt st (.pointer (some a)) f).run C.P w = .ok (.pointer (some (a.add off))) w:=by
 obtain ⟨fs,fd,hu,hf,ho,ht,hz⟩:=fld_sound hτ h;subst ho;unfold Instr.fieldAt;simp [xah hu,hf,Instr.sureAddr,fieldPlace,(hτ _ _ ht).sizeOf,hz]
theorem AllR.get {R:Value->AV->Prop}{vs:List Value}{cs:List AV}(h:AllR R vs cs){j:Nat}{c:AV}(hc:cs[j]?=some c):∃ v,vs[j]?=some v/\R v c:=by
 have hl:=(xac.1 hc).1;have hl':j<vs.length:=by rw [h.1]; exact hl
 exact ⟨vs[j],xag hl',h.2 j _ _ (xag hl') hc⟩
theorem AllR.sub {R:Value->AV->Prop}{vs:List Value}{cs:List AV}(h:AllR R vs cs)(o n:Nat):AllR R ((vs.drop o).take n) ((cs.drop o).take n):=by
 refine ⟨by simp [h.1],fun j v c hv hc=>?_⟩;rw [xau] at hv hc;split at hv
 ·rename_i hj;rw [xad hj] at hc;rw [xbb] at hv hc;exact h.2 _ _ _ hv hc
 ·cases hv
theorem AllR.set {R:Value->AV->Prop}{vs us:List Value}{cs ds:List AV}(h:AllR R vs cs)(h':AllR R us ds)(o:Nat)(ho:us≠[]->o+us.length<=vs.length) :
  AllR R (vs.take o++us++vs.drop (o+us.length)) (cs.take o++ds++cs.drop (o+ds.length)):=by
 have hl:=h.1;have hl':=h'.1;refine ⟨by simp [hl,hl'],fun j v c hv hc=>?_⟩
 rcases xel us.length with h0 | h0
 ·have e1:us=[]:=xai h0;have e2:ds=[]:=xai (by omega);subst e1; subst e2;simp at hv hc;exact h.2 j v c hv hc
 ·have hb:=ho (by intro e; subst e; simp at h0);have et:(vs.take o).length=o:=by simp; omega
  have et':(cs.take o).length=o:=by simp; omega
  rw [xaj,xb7] at hv hc;rw [et] at hv;rw [et'] at hc;split at hv
  ·rename_i hj;rw [xad hj] at hc;rw [xau,xad hj] at hv hc;exact h.2 j v c hv hc
  ·rename_i hj;rw [xab hj] at hc;rw [xb7] at hv hc;split at hv
   ·rename_i hj2;rw [xad (by omega)] at hc;exact h'.2 _ v c hv hc
   ·rename_i hj2;rw [xab (by omega)] at hc;rw [xbb] at hv hc;have e:o+us.length+(j - o - us.length)=j:=by omega
    have e':o+ds.length+(j - o - ds.length)=j:=by omega
    rw [e] at hv;rw [e'] at hc;exact h.2 _ v c hv hc
theorem Rel.allR {M:Mem}{E:Env}{v:Value}{x:AV}(h:Rel M E v x)(hx:x.cells.all AV.isCell=true):AllR (RelS M E) v.cells.toList x.cells:=by
 obtain ⟨h1,h2⟩:=h.cells hx;exact ⟨by simpa using h1,fun j v c hv hc=>h2 j v c (by simpa using hv) hc⟩
theorem AllR.one {M:Mem}{E:Env}{vs:List Value}{cs:List AV}(h:AllR (RelS M E) vs cs):∀ v∈vs,v.oneCell'=true:=by
 intro v hv;obtain ⟨j,hj,rfl⟩:=xdc.1 hv;have hj':j<cs.length:=by rw [<- h.1]; exact hj
 exact (h.2 j _ _ (xag hj) (xag hj')).one.1
theorem part_rel {M:Mem}{E:Env}{i:TI}{P:Program}{t:TypeId}(hi:TyOk1 P t i){vs:List Value}{cs:List AV}(h:AllR (RelS M E) vs cs){off:Nat}{x:AV}(hp:ziu i cs off=some x)(hz:i.sz≠0\/i.k.agg=true) :
  (off+i.sz<=vs.length\/i.sz=0)/\Rel M E (if i.k.agg then .agg ((vs.drop off).take i.sz).toArray else vs.getD off undef) x/\
   (∀ R,AllR R vs cs->AllR R ((vs.drop off).take i.sz) x.cells):=by
 unfold ziu at hp;cases hk:i.k.agg with
 | true=>
  simp only [hk] at hp;obtain ⟨ds,hd,rfl⟩:∃ ds,zgi cs off i.sz=some ds/\x = .agg ds:=by
   split at hp
   ·rename_i r hr; cases hp; exact ⟨r,hr,rfl⟩
   ·cases hp
  obtain ⟨e,hl⟩:=zge _ _ _ _ hd;rw [xad rfl];refine ⟨?_,?_,fun R hR=>?_⟩
  ·rcases xel i.sz with h0 | h0
   ·exact .inr h0
   ·left; rw [h.1]; exact hl h0
  ·have:=h.sub off i.sz;rw [e];exact .agg _ _ this.1 this.2
  ·rw [e]; exact hR.sub off i.sz
 | false=>
  simp only [hk] at hp;rw [zf9] at hp;have h1:=hi.one hk;have hlt:off<cs.length:=(xac.1 hp).1;have hlt':off<vs.length:=by rw [h.1]; exact hlt
  obtain ⟨v,hv,hr⟩:=h.get hp;rw [xab (by simp)];have e1:(vs.drop off).take 1=[v]:=by
   have hv':=(xac.1 hv).2;rw [xcs hlt',hv'];rfl
  refine ⟨.inl (by omega),?_,fun R hR=>?_⟩
  ·have:vs.getD off undef=v:=by simp [List.getD,hv]
   rw [this]; exact .cell hr
  ·rw [h1,e1,hr.one.2];obtain ⟨v',hv',hr'⟩:=hR.get hp;rw [hv] at hv'; cases hv';refine ⟨rfl,fun j u c hu hc=>?_⟩;cases j with
   | zero=>simp at hu hc; subst hu; subst hc; exact hr'
   | succ j=>simp at hu
theorem BxOk.allR {M:Mem}{E:Env}{w:World}{b:Nat}{cs:List AV}(h:BxOk M E w b cs) :
  ∃ (t:TypeId) (vs:List Value),w.heap[b]?=some (.cells vs.toArray t (0,0))/\AllR (RelS M E) vs cs:=by
 obtain ⟨t,⟨vs⟩,h1,h2,h3⟩:=h;exact ⟨t,vs,h1,by simpa using h2,fun j v c hv hc=>h3 j v c (by simpa using hv) hc⟩
theorem cell_of_heap {w:World}{b o:Nat}{vs:List Value}{t:TypeId}{fr:Nat×Nat}(h:w.heap[b]?=some (.cells vs.toArray t fr)):w.cell? ⟨b,o,none⟩=vs[o]?:=by
 simp [World.cell?,h]
theorem Sound.load (hτ:zgl C.P τ){o:Oper}{t:TypeId}{x:Operand}(ho:o.op = .load t x)(hd:∀ d,o.dst=some d->d<C.N){an:List An}{u:AV}(hx:Has C s x u) :
  Sound C o s (evalLoad τ s an t u):=by
 have run:∀ (a:Act) (w:World) (b off:Nat) (v:Value),a.eval x = .pointer (some ⟨b,off,none⟩)->(loadVar t ⟨b,off,none⟩).run C.P w = .ok v w->(execOp a.eval o).run C.P w = .ok (.value v) w:=by
  intro a w b off v he hr;simp [execOp,ho,he,Instr.loadAt,Instr.sureAddr,hr]
 unfold evalLoad;split
 ·rename_i i off;split
  ·rename_i ti hti;split
   ·rename_i cs hcs;split
    ·rename_i v hv;intro res hres _ _;cases hres;refine zic hd fun a w M E hs=>?_;obtain ⟨b,hb,he⟩:=(hx a w M E hs).ptr_inv;obtain ⟨b',hb',hown,hbx⟩:=hs.bx i cs hcs;rw [hb] at hb'; cases hb';obtain ⟨ty,vs,hh,hall⟩:=hbx.allR;have hz:ti.sz≠0\/ti.k.agg=true:=by
      cases hk:ti.k.agg with
      | true=>exact .inr rfl
      | false=>exact .inl (by have:=(hτ _ _ hti).one hk; omega)
     obtain ⟨hlen,hrel,_⟩:=part_rel (hτ _ _ hti) hall hv hz;have hl:=(hτ _ _ hti).loadVar w b off (fun j=>vs.getD (off+j) undef) (fun j hj=>by
      rw [cell_of_heap hh];have:off+j<vs.length:=by omega
      simp [List.getD,this])
     refine ⟨_,run a w b off _ he hl,?_⟩;have e1:(List.range ti.sz).map (fun j=>vs.getD (off+j) undef)=(vs.drop off).take ti.sz:=by
      apply xbz;intro j;rw [xau];by_cases hj:j<ti.sz
      ·have:off+j<vs.length:=by omega
       simp [hj,List.getD,this]
      ·simp [hj]
     rw [e1];simpa using hrel
    ·exact .nil
   ·exact .nil
  ·exact .nil
 ·rename_i y;split
  ·rename_i ti hti;split
   ·rename_i hf;refine .retV hd fun a w M E hs=>?_;obtain ⟨blk,off,he,f,hM,hP⟩:=(hx a w M E hs).rp_inv;have hcl:y.cells.length=ti.sz/\((ti.k.agg=true/\∃ cs,y = .agg cs)\/(ti.k.agg=false/\y.cells=[y])):=by
     cases y <;> simp only [fits] at hf
     all_goals first
      | (cases hf; done)
      | (have hf':ti.k.agg=false:=by simpa using hf
         refine ⟨by rw [(hτ _ _ hti).one hf']; rfl,.inr ⟨hf',rfl⟩⟩; done)
      | (rename_i cs
         split at hf
         ·rename_i hk; exact ⟨zbc hf,.inl ⟨hk,cs,rfl⟩⟩
         ·cases hf)
    have hl:=(hτ _ _ hti).loadVar w blk off f (fun j hj=>(hs.mem _ _ _ (hM j (by omega))).1);refine ⟨_,run a w blk off _ he hl,?_⟩
    rcases hcl.2 with ⟨hk,cs,rfl⟩ | ⟨hk,hc⟩
    ·rw [xad hk];refine .agg _ _ (by simp [AV.cells] at hcl ⊢; omega) (fun j v c hv hc=>?_);have hj:j<ti.sz:=by have:=(xac.1 hv).1; simpa using this
     simp [hj] at hv;subst hv;exact .pure (hP j c hc)
    ·rw [xab (by simp [hk])];have:=hP 0 y (by rw [hc]; rfl);exact .cell (.pure this)
   ·exact .nil
  ·exact .nil
 ·exact .nil
theorem Sound.store (hτ:zgl C.P τ){o:Oper}{an:List An}{t:TypeId}{x y:Operand}(ho:o.op = .store t x y)(hd:o.dst=none){u v:AV}(hy:Has C s y v)(hx:Has C s x u) :
  Sound C o s (zm0 τ s an t v u):=by
 unfold zm0;split
 ·rename_i i off;split
  ·rename_i ti hti;split
   ·rename_i cs hcs;split
    ·rename_i hc1;split
     ·rename_i hc2;split
      ·rename_i cs' hset;intro res hres _ _;cases hres;intro a w ⟨hdf,M,E,hs,hp0⟩;have hc1:=zbc hc1;have hc2:=zd4 hc2;obtain ⟨b,hb,he⟩:=(hx a w M E hs).ptr_inv;obtain ⟨b',hb',hown,hbx⟩:=hs.bx i cs hcs;rw [hb] at hb'; cases hb';obtain ⟨ty,vs,hh,hall⟩:=hbx.allR;obtain ⟨e,hl⟩:=zfh _ _ _ _ hset;have hv:=(hy a w M E hs).allR hc2;have hlen:(a.eval y).cells.toList.length=v.cells.length:=hv.1;have hsz:off+0+(a.eval y).cells.toList.length<=vs.toArray.size\/v.cells=[]:=by
        by_cases h0:v.cells=[]
        ·exact .inr h0
        ·left; have:=hl h0; rw [hlen]; simp [hall.1]; omega
       refine ⟨undef,w.setRow b ((vs.take off++(a.eval y).cells.toList++vs.drop (off+(a.eval y).cells.toList.length)).toArray),.inr ⟨?_,rfl⟩,?_⟩
       ·have hst:(storeVar t ⟨b,off,none⟩ (a.eval y)).run C.P w = .ok () (w.setRow b ((vs.take off++(a.eval y).cells.toList++vs.drop (off+(a.eval y).cells.toList.length)).toArray)):=by
         unfold storeVar;have hne:¬ (a.eval y).cells.size≠ti.sz:=by rw [<- hc1,<- hlen]; simp
         simp only [xao,(hτ _ _ hti).sizeOf,xae,xab hne,xat]
         rcases hsz with hsz | hsz
         ·have:=xer (P:=C.P) b off ty (a.eval y).cells.toList 0 vs.toArray w hh hsz (fun u hu=>hv.one u hu);simpa using this
         ·have e0:(a.eval y).cells.toList=[]:=xai (by rw [hlen,hsz]; rfl);rw [e0];simp only [storeCells,xbh,xa3,xcu,xbp];rw [setRow_self w b _ ty _ hh];rfl
        simp [execOp,ho,he,Instr.storeAt,Instr.sureAddr,hst]
       ·rw [hd];refine ⟨hdf,M,E,?_,hp0⟩;refine hs.store hcs hb ?_;rw [e];have:=hall.set hv off (fun hne=>by
         have h0:v.cells≠[]:=by intro h0; apply hne; exact xai (by rw [hlen,h0]; rfl)
         have:=hl h0;rw [hlen,hall.1]; omega)
        rw [hlen] at this ⊢;exact this
      ·exact .nil
     ·exact .nil
    ·exact .nil
   ·exact .nil
  ·exact .nil
 ·exact .nil
theorem Sound.boxed {o:Oper}{an:List An}{cs:List AV}(hd:∀ d,o.dst=some d->d<C.N)
  (h:zat cs=true->∀ (a:Act) (w:World) (M:Mem) (E:Env),St C.g C.N M E s a.tmps w->∃ (t:TypeId) (vs:List Value),AllR (RelS M E) vs cs/\
   (execOp a.eval o).run C.P w = .ok (.value (.pointer (some ⟨w.heap.size,0,none⟩))) (w.alloc (.cells vs.toArray t))):Sound C o s (zno o.dst s an cs):=by
 unfold zno;split
 ·rename_i i hi;split
  ·rename_i hn;split
   ·rename_i hcc;intro res hres _ _;cases hres;intro a w ⟨hdf,M,E,hs,hp0⟩;obtain ⟨hcc,hB⟩:=xa2.1 hcc;have hB:i<nB:=by simpa [xcx] using hB
    obtain ⟨t,vs,hall,hrun⟩:=h hcc a w M E hs;obtain ⟨E',hE,hb,hs'⟩:=hs.box hn hB (t:=t) hall;refine ⟨_,_,.inl hrun,by rw [zfx]; exact hdf,M,E',?_,hE.p _ hp0⟩;have:=hs'.putS (hd i hi) (v:=.pointer (some ⟨w.heap.size,0,none⟩)) (x:=.ptr i 0) (.cell (.ptr i 0 _ hb));rw [hi];exact this
   ·exact .nil
  ·exact .nil
 ·exact .nil
theorem zv_rel {M:Mem}{x:AV}(h:x.isZ=true):RelP M x.zv x:=by
 cases x with
 | ifc b=>cases b with
  | true=>exact .ifcN
  | false=>cases h
 | _=>first | (cases h; done) | constructor
theorem zero_rel {M:Mem}{E:Env}{l:List AV}(h:l.all AV.isZ=true):AllR (RelS M E) (l.map AV.zv) l:=by
 refine ⟨by simp,fun j v c hv hc=>?_⟩;rw [xbf,hc] at hv;cases hv;refine .pure (zv_rel ?_);exact (xcl.1 h) c (xbk hc)
theorem Sound.alloc (hτ:zgl C.P τ){o:Oper}{an:List An}{t:TypeId}{ti:TI}(ho:o.op = .alloc t)(hd:∀ d,o.dst=some d->d<C.N)(hti:τ t=some ti):Sound C o s (zno o.dst s an ti.zero):=by
 refine .boxed hd fun _ a w M E hs=>?_;obtain ⟨inf,z,hi,_,_,hz,hzz⟩:=(hτ _ _ hti).info;refine ⟨t,ti.zero.map AV.zv,zero_rel (hτ _ _ hti).lit,?_⟩;rw [<- hzz];simp [execOp,ho,Instr.alloc,zeroValue,typeInfo,hi,hz,newVar,newRow]
theorem Sound.box {o:Oper}{an:List An}{t:TypeId}{x:Operand}(ho:o.op = .box t x)(hd:∀ d,o.dst=some d->d<C.N){v:AV}(hx:Has C s x v):Sound C o s (zno o.dst s an v.cells):=by
 refine .boxed hd fun hc a w M E hs=>?_;refine ⟨t,(a.eval x).cells.toList,(hx a w M E hs).allR (zd4 hc),?_⟩;simp [execOp,ho,Instr.box,newVar,newRow]
end Go.Dm
namespace Go.Dm
open Go Go.RowKit
variable {C:Cx}{k:List It}{s:S}{τ:zbn}
theorem Sound.fieldAddr (hτ:zgl C.P τ){o:Oper}{t:TypeId}{x:Operand}{f:Nat}(ho:o.op = .fieldAddr t x f)(hd:∀ d,o.dst=some d->d<C.N){an:List An}{u:AV}(hx:Has C s x u) :
  Sound C o s (znr τ an t f u):=by
 have run:∀ (a:Act) (w:World) (v:Value),(Instr.fieldAt t (a.eval x) f).run C.P w = .ok v w->(execOp a.eval o).run C.P w = .ok (.value v) w:=by
  intro a w v hr;simp [execOp,ho,hr]
 unfold znr;split
 ·split
  ·rename_i i off hf;refine .retV hd fun a w M E hs=>?_;obtain ⟨b,hb,he⟩:=(hx a w M E hs).ptr_inv;refine ⟨_,run a w _ (by rw [he]; exact zn6 hτ hf _ w),?_⟩;rw [zf4];exact .cell (.ptr _ _ _ hb)
  ·exact .nil
 ·split
  ·rename_i i off hf;refine .retV hd fun a w M E hs=>?_;obtain ⟨ad,q,he,hq,hle,hv⟩:=(hx a w M E hs).ep_inv;refine ⟨_,run a w _ (by rw [he]; exact zn6 hτ hf _ w),.cell (.ep _ _ _ _ _ q hq hle fun e=>?_)⟩;obtain ⟨blk,h1,h2⟩:=hv e;refine ⟨blk,h1,?_⟩;rw [h2,zf4,xcf]
  ·exact .nil
 ·split
  ·rename_i i off hf;refine .retV hd fun a w M E hs=>?_;obtain ⟨bs,b,hb,hk,he⟩:=(hx a w M E hs).aptr_inv;refine ⟨_,run a w _ (by rw [he]; exact zn6 hτ hf _ w),?_⟩;rw [zf4];exact .cell (.aptr _ _ _ bs b hb hk)
  ·exact .nil
 ·rename_i cs;split
  ·rename_i i off hf;split
   ·rename_i y hp;refine .retV hd fun a w M E hs=>?_;obtain ⟨blk,bo,he,g,hM,hP⟩:=(hx a w M E hs).rp_inv;refine ⟨_,run a w _ (by rw [he]; exact zn6 hτ hf _ w),?_⟩;obtain ⟨fs,fd,hu,hfd,hoff,hti,hz⟩:=fld_sound hτ hf;have hall:AllR (RelP M) ((List.range cs.length).map g) cs:=by
     refine ⟨by simp,fun j v c hv hc=>?_⟩;have hj:=(xac.1 hc).1;simp [hj] at hv;subst hv;exact hP j c (by simpa [AV.cells] using hc)
    have hallS:AllR (RelS M E) ((List.range cs.length).map g) cs:=⟨hall.1,fun j v c hv hc=>.pure (hall.2 j v c hv hc)⟩;obtain ⟨h1,h2,h3⟩:=part_rel (hτ _ _ hti) hallS hp (.inl hz);have h4:=h3 _ hall;rw [zf4];have hlen:y.cells.length=i.sz:=by
     have:=h4.1;simp at this h1;omega
    refine .cell (.pure (.rp blk (bo+off) y (fun j=>g (off+j)) (fun j hj=>?_) (fun j u hu=>?_)))
    ·have:=hM (off+j) (by simp [AV.cells] at h1 ⊢; omega);rw [<- this];congr 1;omega
    ·have hj:=(xac.1 hu).1;refine h4.2 j _ u ?_ hu;simp at h1;rw [xau,xad (by omega),xbb,xbf,xdu (by omega)];rfl
   ·exact .nil
  ·exact .nil
 ·exact .nil
theorem Sound.field (hτ:zgl C.P τ){o:Oper}{t:TypeId}{x:Operand}{f:Nat}(ho:o.op = .field t x f)(hd:∀ d,o.dst=some d->d<C.N){an:List An}{u:AV}(hx:Has C s x u) :
  Sound C o s (evalField τ an t f u):=by
 unfold evalField;split
 ·rename_i cs;split
  ·rename_i i off hf;refine .retO hd fun v hv a w M E hs=>?_;obtain ⟨vs,he,hall⟩:=(hx a w M E hs).agg_inv;obtain ⟨fs,fd,hu,hfd,hoff,hti,hz⟩:=fld_sound hτ hf;obtain ⟨h1,h2,_⟩:=part_rel (hτ _ _ hti) (⟨hall.1,hall.2⟩:AllR (RelS M E) vs cs) hv (.inl hz);refine ⟨_,?_,h2⟩;have hp:=(hτ _ _ hti).part' w vs off (by omega);simp [execOp,ho,he,Instr.field,xah hu,hfd,asAgg,hoff,hp]
  ·exact .nil
 ·exact .nil
theorem Sound.extract {o:Oper}{x:Operand}{i:Nat}(ho:o.op = .extract x i)(hd:∀ d,o.dst=some d->d<C.N){an:List An}{u:AV}(hx:Has C s x u) :
  Sound C o s (evalExtract an i u):=by
 unfold evalExtract;split
 ·refine .retO hd fun v hv a w M E hs=>?_;rw [zf9] at hv;obtain ⟨vs,he,hl,hall⟩:=(hx a w M E hs).tup_inv;have hj:=(xac.1 hv).1;have hj':i<vs.length:=by omega
  refine ⟨vs[i],?_,hall i _ _ (xag hj') hv⟩;simp [execOp,ho,he,Instr.extract,hj']
 ·exact .nil
theorem zn8 {M:Mem}{E:Env}{A:List (Nat×Bool)}(hA:allB A=true){d:Nat}{p u:Bool}{x:AV}{v:Value}{g:List (Bool×Bool)}(h:pickB A d p x=some (g,u))(hg:AllE g)(hp:p=true)(hr:Rel M E v x):v = .bool u:=by
 unfold pickB at h;split at h
 ·cases h; exact hr.bool_inv
 ·rename_i cs x;split at h
  ·rename_i e he;cases h;exact (hr.when_inv (matchA_true (by simp only [allB,hp,hA,Bool.and_self]) he hg)).bool_inv
  ·cases h
 ·cases h
theorem isT_eval {a:Operand}(h:isT a=true)(act:Act):act.eval a = .bool true:=by
 unfold isT at h;split at h
 ·rfl
 ·cases h
theorem isF_eval {a:Operand}(h:isF a=true)(act:Act):act.eval a = .bool false:=by
 unfold isF at h;split at h
 ·rfl
 ·cases h
theorem Sound.pick {o:Oper}{A:List (Nat×Bool)}(hA:allB A=true){an:List An}{d:Nat}{x y:Operand}(ho:o.op = .pick (.tmp d) x y)(hd:∀ d,o.dst=some d->d<C.N){p:Bool}{u v:AV}(hc:Has C s (.tmp d) (.bool p))(hx:val s x=some u)(hy:val s y=some v) :
  Sound C o s (evalPick A an x y d p u v):=by
 unfold evalPick;split
 ·rename_i g a hg;split
  ·rename_i h b hh;intro res hres _ hes;cases hres;obtain ⟨hgs1,hgs2⟩:=zhs.1 hes;refine zic hd fun act w M E hs=>?_;have h0:=(hc act w M E hs).bool_inv;refine ⟨act.eval (if p then x else y),?_,?_⟩
   ·cases p <;> simp [execOp,ho,h0,asBool]
   ·have key:act.eval (if p then x else y) = .bool (if p then a else b):=by
     cases p with
     | true=>simpa using zn8 hA hg hgs1 rfl (zba hs hx)
     | false=>simpa using zn8 hA hh hgs2 rfl (zba hs hy)
    rw [key];have:(if p then a else b)=pickV x y p a b:=by
     unfold pickV;cases p with
     | true=>
      cases ht:isT x with
      | true=>have:=zn8 hA hg hgs1 rfl (zba hs hx); rw [isT_eval ht] at this; cases this; rfl
      | false=>cases isF y <;> simp
     | false=>
      cases ht:isT x with
      | true=>simp
      | false=>cases hf:isF y with
       | true=>have:=zn8 hA hh hgs2 rfl (zba hs hy); rw [isF_eval hf] at this; cases this; rfl
       | false=>rfl
    rw [this];exact .cell (.pure (.bool _))
  ·exact .nil
 ·exact .nil
theorem Sound.nilCheck {o:Oper}{x:Operand}(ho:o.op = .nilCheck x)(hd:∀ d,o.dst=some d->d<C.N){an:List An}{u:AV}(hx:Has C s x u) :
  Sound C o s (evalNilCheck an u):=by
 have run:∀ (a:Act) (w:World) (ad:Addr),a.eval x = .pointer (some ad)->(execOp a.eval o).run C.P w = .ok (.value (a.eval x)) w:=by
  intro a w ad he;simp [execOp,ho,he]
 unfold evalNilCheck;split
 ·refine .retV hd fun a w M E hs=>?_;obtain ⟨b,hb,he⟩:=(hx a w M E hs).ptr_inv;exact ⟨_,run a w _ he,hx a w M E hs⟩
 ·refine .retV hd fun a w M E hs=>?_;obtain ⟨blk,off,he,_⟩:=(hx a w M E hs).rp_inv;exact ⟨_,run a w _ he,hx a w M E hs⟩
 ·refine .retV hd fun a w M E hs=>?_;obtain ⟨ad,q,he,_⟩:=(hx a w M E hs).ep_inv;exact ⟨_,run a w _ he,hx a w M E hs⟩
 ·refine .retV hd fun a w M E hs=>?_;obtain ⟨bs,b,_,_,he⟩:=(hx a w M E hs).aptr_inv;exact ⟨_,run a w _ he,hx a w M E hs⟩
 ·exact .nil
theorem Sound.un {o:Oper}{an:List An}{op:UnOp}{t:TypeId}{x:Operand}(ho:o.op = .unOp op t x)(hd:∀ d,o.dst=some d->d<C.N){u:AV}(hx:Has C s x u) :
  Sound C o s (evalUn an u op):=by
 have run:∀ (a:Act) (w:World) (v:Value),(Op.unary op (a.eval x)).run C.P w = .ok v w->(execOp a.eval o).run C.P w = .ok (.value v) w:=by
  intro a w v hr;simp [execOp,ho,hr]
 cases op <;> simp only [evalUn]
 all_goals first | exact .nil | skip
 all_goals split
 all_goals first | exact .nil | skip
 ·rename_i k n;refine .retV hd fun a w M E hs=>?_;have:=(hx a w M E hs).int_inv;exact ⟨_,run a w _ (by rw [this]; simp [Op.unary,Op.intArith,nrm_eq]),.cell (.pure (.int _ _))⟩
 ·rename_i k n;refine .retV hd fun a w M E hs=>?_;have:=(hx a w M E hs).int_inv;exact ⟨_,run a w _ (by rw [this]; simp [Op.unary,Op.intBits,zeh,nrm_eq]),.cell (.pure (.int _ _))⟩
 ·refine .retV hd fun a w M E hs=>?_;have:=(hx a w M E hs).bool_inv;exact ⟨_,run a w _ (by rw [this]; simp [Op.unary]),.cell (.pure (.bool _))⟩
theorem flat_at {sz:Nat}{xs:List AV}{m j:Nat}{u c:AV}(h:∀ x∈xs,x.cells.length=sz)(hu:xs[m]?=some u)(hc:u.cells[j]?=some c):(zc0 xs)[m*sz+j]?=some c:=by
 have hlt:=(xac.1 hu).1;have hd:=flat_drop m h;rw [xcs hlt,(xac.1 hu).2,ze6] at hd;have hj:=(xac.1 hc).1;rw [<- xbb,<- hd,xak hj];exact hc
theorem RelP.sl_at {M:Mem}{v:Value}{sz:Nat}{xs:List AV}(h:RelP M v (.sl sz xs)){m:Nat}{u:AV}(hu:xs[m]?=some u) :
  ∃ blk off c,v = .slice (some ⟨blk,off,none⟩) xs.length c/\m<xs.length/\(u.cells.length=sz)/\RelP M (.pointer (some ⟨blk,off+m*sz,none⟩)) (.rp u):=by
 cases h with
 | sl a n c sz xs f hn hc hb hz ha hf=>
  have hlt:=(xac.1 hu).1;have hne:xs≠[]:=by rintro rfl; simp at hlt
  have huz:=hz u (xbk hu);obtain ⟨blk,off,rfl,hM⟩:=ha hne;refine ⟨blk,off,c,by rw [hn],hlt,huz,.rp blk (off+m*sz) u (fun j=>f (m*sz+j)) (fun j hj=>?_) (fun j c' hc'=>?_)⟩
  ·have hcj:u.cells[j]?=some u.cells[j]:=xag hj;have hfl:=flat_at hz hu hcj;have:=hM (m*sz+j) (xac.1 hfl).1;rw [<- this];congr 1;omega
  ·exact hf (m*sz+j) c' (flat_at hz hu hc')
theorem ih_flat:∀ l:List UInt8,List.flatMap AV.cells (l.map fun b=>AV.int .u8 (b.toNat:Int))=l.map fun b=>AV.int .u8 (b.toNat:Int)
 | []=>rfl
 | b::l=>by simp only [xa9,List.flatMap_cons,AV.cells,xbn,xbt]; rw [ih_flat l]
theorem Sound.conv (hτ:zgl C.P τ){o:Oper}{an:List An}{src dst:TypeId}{x:Operand}(ho:o.op = .convert src dst x)(hd:∀ d,o.dst=some d->d<C.N)(hsrc:∃ i,τ src=some i){u:AV}(hx:Has C s x u) :
  Sound C o s (evalConv τ an src dst u):=by
 obtain ⟨i0,h0⟩:=hsrc;have hu0:∀ w,∃ d,(underlying src).run C.P w = .ok d w:=by
  intro w;have hk:=(hτ _ _ h0).kind;cases hkk:i0.k <;> rw [hkk] at hk <;> simp only [TKOk] at hk
  case struct fl eq=>obtain ⟨fs,hu,_⟩:=hk; exact ⟨_,xah hu w⟩
  case func=>obtain ⟨_,_,_,hu⟩:=hk; exact ⟨_,xah hu w⟩
  case other=>obtain ⟨_,hu,_⟩:=hk; exact ⟨_,xah hu w⟩
  case iface=>obtain ⟨_,hu⟩:=hk; exact ⟨_,xah hu w⟩
  all_goals exact ⟨_,xah hk w⟩
 have run:∀ (a:Act) (w:World) (v:Value),(convert src dst (a.eval x)).run C.P w = .ok v w->(execOp a.eval o).run C.P w = .ok (.value v) w:=by
  intro a w v hr;simp [execOp,ho,hr]
 have hb:isBytes τ src=true->∃ e,C.P.underlying src=some (.slice e)/\C.P.underlying e=some (.int .u8):=by
  intro h;unfold isBytes at h;split at h
  ·rename_i e _ _ _ _ hs1;split at h
   ·rename_i hs2;exact ⟨e,(hτ _ _ hs1).kind,(hτ _ _ hs2).kind⟩
   ·cases h
  ·cases h
 unfold evalConv;split
 ·split
  ·rename_i kk n ti k sz by' z cz hti
   refine .retV hd fun a w M E hs=>?_;have he:=(hx a w M E hs).int_inv;obtain ⟨d0,hd0⟩:=hu0 w;have hk:C.P.underlying dst=some (.int k):=(hτ _ _ hti).kind;refine ⟨_,?_,.cell (.pure (.int _ _))⟩;simp only [execOp,ho,he,convert,xao,hd0,xae,xah hk,nrm_eq];simp [Conv.intToInt]
  ·exact .nil
 ·split
  ·rename_i x' ti sz by' z cz hti
   refine .retV hd fun a w M E hs=>?_;have he:=(hx a w M E hs).str_inv;obtain ⟨d0,hd0⟩:=hu0 w;have hk:C.P.underlying dst=some .string:=(hτ _ _ hti).kind;refine ⟨_,?_,hx a w M E hs⟩;simp only [execOp,ho,he,convert,xao,hd0,xae,xah hk];simp
  ·exact .nil
 ·rename_i sz xs;split
  ·rename_i ti sz' by' z cz hti
   split
   ·rename_i hby
    obtain ⟨e,he1,he2⟩:=hb hby
    split
    ·rename_i hz;have hz:=zbc hz;split
     ·rename_i l an';refine .retG hd fun hg a w M E hs=>?_;have hxs:=hg.1;have hk:C.P.underlying dst=some .string:=(hτ _ _ hti).kind;obtain ⟨hP,_⟩:=(hx a w M E hs).sl_inv;subst hxs;refine ⟨.string ⟨l.toArray⟩,run a w _ ?_,.cell (.pure (.str _))⟩;generalize a.eval x=v at hP;cases hP with
      | sl ad n c sz xs f hn hc hbb hzz ha hf=>
       have hn':n=l.length:=by rw [<- hn]; simp [u8s]
       subst hn';by_cases hl:l=[]
       ·subst hl;rw [run_convert_bytes_string w src dst e ad _ c he1 he2 hk];cases ad with
        | none=>rfl
        | some ad=>
         have h0:(loadCells ad 0).run C.P w = .ok (([]:List Int).map (Value.int .u8)).toArray w:=by
          have:=run_loadCells (P:=C.P) w ad 0 (fun _=>undef) (fun j hj=>absurd hj (Nat.not_lt_zero j));simpa using this
         have:=run_bytesToString (P:=C.P) w ad 0 c [] h0;exact this.trans rfl
       ·obtain ⟨blk,off,rfl,hM⟩:=ha (by simpa [u8s] using hl);refine run_convert_bytes_back w src dst e ⟨blk,off,none⟩ c l he1 he2 hk (fun j hj=>?_);have hfl:(zc0 (u8s l))[j]?=some (.int .u8 (l[j].toNat:Int)):=by
         have:zc0 (u8s l)=u8s l:=ih_flat l;rw [this];simp [u8s,hj]
        have h1:=(xac.1 hfl).1;have h2:=hM j h1;have h3:=hf j _ hfl;rw [zf4,(hs.mem _ _ _ h2).1];generalize f j=v at h3;cases h3;rfl
     ·exact .nil
    ·exact .nil
   ·exact .nil
  ·exact .nil
 ·split
  ·rename_i ti sz' by' z cz hti
   split
   ·rename_i hby
    obtain ⟨e,he1,he2⟩:=hb hby
    refine .retV hd fun a w M E hs=>?_;have he:=(hx a w M E hs).nils_inv;have hk:C.P.underlying dst=some .string:=(hτ _ _ hti).kind;refine ⟨_,run a w (.string ⟨#[]⟩) ?_,.cell (.pure (.str []))⟩;rw [he,run_convert_bytes_string w src dst e none 0 0 he1 he2 hk];rfl
   ·exact .nil
  ·exact .nil
 ·exact .nil
theorem zl7 {xs:List Operand}:∀ {vs:List AV},vals s xs=some vs->(∀ x∈xs,Done s x)->∀ {M:Mem} {E:Env} {a:Act} {w:World},St C.g C.N M E s a.tmps w->
  (xs.map a.eval).length=vs.length/\∀ (j:Nat) (v:Value) (c:AV),(xs.map a.eval)[j]?=some v->vs[j]?=some c->Rel M E v c:=by
 induction xs with
 | nil=>intro vs h _ M E a w hs; simp only [vals] at h; cases h; simp
 | cons x l ih=>
  intro vs h hw M E a w hs;simp only [vals] at h;split at h
  ·rename_i v us hv hus;cases h;obtain ⟨h1,h2⟩:=ih hus (fun y hy=>hw y (by simp [hy])) hs;refine ⟨by simpa using h1,fun j v' c hv' hc=>?_⟩;cases j with
   | zero=>simp at hv' hc; subst hv'; subst hc; exact valW_rel hs hv (hw x (by simp))
   | succ j=>simp only [xa9,xbe] at hv' hc; exact h2 j v' c hv' hc
  ·cases h
theorem Sound.mkfn {o:Oper}{an:List An}{f:FuncId}{first caps:Array Operand}(ho:o.op = .makeFunc (.func f) first caps)(hf:first.toList=[])(hd:∀ d,o.dst=some d->d<C.N)(hw:∀ x∈caps.toList,Done s x) :
  Sound C o s (evalFn an f (vals s caps.toList)):=by
 unfold evalFn;split
 ·rename_i vs hvs;split
  ·rename_i hc;refine .retV hd fun a w M E hs=>?_;obtain ⟨h1,h2⟩:=zl7 hvs hw hs;refine ⟨.func (.func f) #[] (caps.toList.map a.eval).toArray,?_,.cell (.fn _ _ _ h1 fun j v c hv hc'=>(h2 j v c hv hc').of_cell ?_)⟩
   ·have hf':first=#[]:=by
     cases first with
     | mk l=>cases l with
      | nil=>rfl
      | cons x l=>simp at hf
    subst hf';have:Array.map a.eval caps=(caps.toList.map a.eval).toArray:=by rw [<- xc0]
    simp [execOp,ho,Instr.makeFunc];exact this
   ·exact (xcl.1 (zd4 hc)) c (xbk hc')
  ·exact .nil
 ·exact .nil
theorem fill_sound (hτ:zgl C.P τ){st:TypeId}{fs:Array Field}(hst:C.P.underlying st=some (.struct fs)){M:Mem}{E:Env}{a:Act}{w:World}(hs:St C.g C.N M E s a.tmps w) :
  ∀ (parts:List (Nat×Operand)) (cs out:List AV) (vs:List Value),fill τ s st cs parts=some out->(∀ p∈parts,Done s p.2)->AllR (RelS M E) vs cs->∀ (places:Array (Nat×Nat)),
   (∀ (f:Nat) (fd:Field) (i:TI),fs[f]?=some fd->τ fd.type=some i->places[f]?=some (fd.offset,i.sz))->
   ∃ us:List Value,Instr.fill (places[·]?) vs.toArray (parts.map fun p=>(p.1,a.eval p.2))=some us.toArray/\AllR (RelS M E) us out
 | [],cs,out,vs,h,_,hall,places,hp=>by
  simp only [fill] at h; cases h;exact ⟨vs,rfl,hall⟩
 | (f,x)::r,cs,out,vs,h,hwn,hall,places,hp=>by
  simp only [fill] at h;split at h
  ·rename_i i off hf;split at h
   ·rename_i v hv;split at h
    ·rename_i hc1;split at h
     ·rename_i hc2;split at h
      ·rename_i cs' hset;have hc:v.cells.length=i.sz/\v.cells.all AV.isCell=true:=⟨zbc hc1,zd4 hc2⟩;obtain ⟨fs',fd,hu,hfd,hoff,hti,hz⟩:=fld_sound hτ hf;rw [hst] at hu;cases hu;have hpl:=hp f fd i hfd hti;have hrel:=(valW_rel hs hv (hwn (f,x) (by simp))).allR hc.2;have hlen:(a.eval x).cells.toList.length=v.cells.length:=hrel.1;obtain ⟨e,hl⟩:=zfh _ _ _ _ hset;have hne:v.cells≠[]:=by intro h0; rw [h0] at hc; simp at hc; exact hz hc.symm
       have hb:=hl hne;have hall':=hall.set hrel off (fun _=>by rw [hlen,hall.1]; exact hb);rw [hlen,<- e] at hall';obtain ⟨us,h1,h2⟩:=fill_sound hτ hst hs r cs' out _ h (fun p hp=>hwn p (by simp [hp])) hall' places hp;refine ⟨us,?_,h2⟩;rw [<- h1];simp only [xa9,Instr.fill,hpl];have hcnd:¬ ((decide ((a.eval x).cells.size≠i.sz)||decide (fd.offset+(a.eval x).cells.size > vs.toArray.size))=true):=by
        have e1:(a.eval x).cells.size=v.cells.length:=by rw [<- hlen]; simp
        have e2:=hall.1;simp only [xa0,xav,xaz];omega
       have key:∀ (l:List Value) (c:List Value) (o k:Nat),o+k+l.length<=c.length->
         ((l.zipIdx k).foldl (fun (cs:Array Value) (p:Value×Nat)=>cs.setIfInBounds (o+p.2) p.1) c.toArray)=(c.take (o+k)++l++c.drop (o+k+l.length)).toArray:=by
        intro l
        induction l with
        | nil=>intro c o k _; simp
        | cons y l ih=>
         intro c o k hb;simp only [xdr,xef];have:(c.toArray.setIfInBounds (o+k) y)=(c.set (o+k) y).toArray:=by simp
         rw [this,ih (c.set (o+k) y) o (k+1) (by simp at hb ⊢; omega)];congr 1;simp only [xal] at hb ⊢;apply xbz;intro j;simp only [xaj,xb7,xau,xbb,xcr,xar,xcn,xd0]
         grind
       have hfold:(Array.foldl (fun cs (x:Value×Nat)=>cs.setIfInBounds (fd.offset+x.2) x.1) vs.toArray (a.eval x).cells.zipIdx)=(vs.take off++(a.eval x).cells.toList++vs.drop (off+v.cells.length)).toArray:=by
        rw [<- xem];have:=key (a.eval x).cells.toList vs off 0 (by rw [hlen,hall.1]; simpa using hb);rw [hlen] at this;subst hoff;simpa using this
       rw [xab hcnd];rw [<- hfold]
      ·cases h
     ·cases h
    ·cases h
   ·cases h
  ·cases h
theorem fillA_sound {M:Mem}{E:Env}{a:Act}{w:World}(hs:St C.g C.N M E s a.tmps w){sz:Nat}(hz:sz≠0) :
  ∀ (parts:List (Nat×Operand)) (cs out:List AV) (vs:List Value),fillA s sz cs parts=some out->(∀ p∈parts,Done s p.2)->AllR (RelS M E) vs cs->
   ∃ us:List Value,Instr.fill (fun i=>some (i*sz,sz)) vs.toArray (parts.map fun p=>(p.1,a.eval p.2))=some us.toArray/\AllR (RelS M E) us out
 | [],cs,out,vs,h,_,hall=>by
  simp only [fillA] at h; cases h;exact ⟨vs,rfl,hall⟩
 | (f,x)::r,cs,out,vs,h,hwn,hall=>by
  simp only [fillA] at h;split at h
  ·rename_i v hv;split at h
   ·rename_i hc1;split at h
    ·rename_i hc2;split at h
     ·rename_i cs' hset;have hc:v.cells.length=sz/\v.cells.all AV.isCell=true:=⟨zbc hc1,zd4 hc2⟩;have hrel:=(valW_rel hs hv (hwn (f,x) (by simp))).allR hc.2;have hlen:(a.eval x).cells.toList.length=v.cells.length:=hrel.1;obtain ⟨e,hl⟩:=zfh _ _ _ _ hset;have hne:v.cells≠[]:=by intro h0; rw [h0] at hc; simp at hc; exact hz hc.symm
      have hb:=hl hne;have hall':=hall.set hrel (f*sz) (fun _=>by rw [hlen,hall.1]; exact hb);rw [hlen,<- e] at hall';obtain ⟨us,h1,h2⟩:=fillA_sound hs hz r cs' out _ h (fun p hp=>hwn p (by simp [hp])) hall';refine ⟨us,?_,h2⟩;rw [<- h1];simp only [xa9,Instr.fill];have hcnd:¬ ((decide ((a.eval x).cells.size≠sz)||decide (f*sz+(a.eval x).cells.size > vs.toArray.size))=true):=by
       have e1:(a.eval x).cells.size=v.cells.length:=by rw [<- hlen]; simp
       have e2:=hall.1;simp only [xa0,xav,xaz];omega
      have key:∀ (l:List Value) (c:List Value) (o k:Nat),o+k+l.length<=c.length->
        ((l.zipIdx k).foldl (fun (cs:Array Value) (p:Value×Nat)=>cs.setIfInBounds (o+p.2) p.1) c.toArray)=(c.take (o+k)++l++c.drop (o+k+l.length)).toArray:=by
       intro l
       induction l with
       | nil=>intro c o k _; simp
       | cons y l ih=>
        intro c o k hb;simp only [xdr,xef];have:(c.toArray.setIfInBounds (o+k) y)=(c.set (o+k) y).toArray:=by simp
        rw [this,ih (c.set (o+k) y) o (k+1) (by simp at hb ⊢; omega)];congr 1;simp only [xal] at hb ⊢;apply xbz;intro j;simp only [xaj,xb7,xau,xbb,xcr,xar,xcn,xd0]
        grind
      have hfold:(Array.foldl (fun cs (x:Value×Nat)=>cs.setIfInBounds (f*sz+x.2) x.1) vs.toArray (a.eval x).cells.zipIdx)=(vs.take (f*sz)++(a.eval x).cells.toList++vs.drop (f*sz+v.cells.length)).toArray:=by
       rw [<- xem];have:=key (a.eval x).cells.toList vs (f*sz) 0 (by rw [hlen,hall.1]; simpa using hb);rw [hlen] at this;simpa using this
      rw [xab hcnd];rw [<- hfold]
     ·cases h
    ·cases h
   ·cases h
  ·cases h
theorem run_mapM_list {P:Program}{α β:Type}(f:α->Sem β)(g:α->β)(w:World):∀ (l:List α),(∀ x∈l,(f x).run P w = .ok (g x) w)->(l.mapM f).run P w = .ok (l.map g) w
 | [],_=>by simp
 | x::l,h=>by
  rw [xfb];simp only [xao,h x (by simp),xae,run_mapM_list f g w l (fun y hy=>h y (by simp [hy])),xat,xa9]
theorem run_mapM {P:Program}{α β:Type}(f:α->Sem β)(g:α->β)(w:World)(l:Array α)(h:∀ x∈l.toList,(f x).run P w = .ok (g x) w):(l.mapM f).run P w = .ok (l.map g) w:=by
 rw [xdq];simp only [Sem.run_map,run_mapM_list f g w l.toList h,xae];congr 1;rw [<- xc0]
end Go.Dm
namespace Go.Dm
open Go Go.RowKit
variable {C:Cx}{k:List It}{s:S}{τ:zbn}
theorem zd0 {s:S}{i v:Nat}{r:Rw}(h:ze8 s i v=some r):zan s.rw i=some r/\v=r.ver:=by
 unfold ze8 at h;split at h
 ·rename_i r' hr;split at h
  ·rename_i hv; cases h; exact ⟨hr,zbc hv⟩
  ·cases h
 ·cases h
section
variable {g:Gh}{N:Nat}{M:Mem}{E:Env}{tmps:Array Value}{w:World}{v:Value}
theorem zn7 (hs:St g N M E s tmps w){i vr:Nat}{r:Rw}(hx:Rel M E v (.row i vr))(hr:ze8 s i vr=some r):∃ q,v = .slice q.a q.n q.c/\E.rw i=some q/\RwOk M E w i q r:=by
 obtain ⟨h1,h2⟩:=zd0 hr;obtain ⟨n,c,a,q,rfl,hq,hle,h⟩:=hx.row_inv;obtain ⟨q',hq',hok⟩:=hs.rw i r h1;rw [hq] at hq'; cases hq';obtain ⟨rfl,rfl,rfl⟩:=h (by rw [hok.ver]; exact h2);exact ⟨q,rfl,hq,hok⟩
theorem rowv_cur (hs:St g N M E s tmps w){i vr off m:Nat}{r:Rw}(hx:Rel M E v (.rowv i vr off m))(hr:ze8 s i vr=some r) :
  ∃ q c a,v = .slice a m c/\E.rw i=some q/\RwOk M E w i q r/\off+c=q.c/\m<=c/\(off=0->a=q.a)/\(c≠0->a=viewA q off):=by
 obtain ⟨h1,h2⟩:=zd0 hr;obtain ⟨n,c,a,q,rfl,hq,hle,h⟩:=hx.rowv_inv;obtain ⟨q',hq',hok⟩:=hs.rw i r h1;rw [hq] at hq'; cases hq';obtain ⟨rfl,hz,ha,h3,h4⟩:=h (by rw [hok.ver]; exact h2);exact ⟨q,c,a,rfl,hq,hok,h3,h4,hz,ha⟩
theorem ep_cur (hs:St g N M E s tmps w){i vr k o:Nat}{r:Rw}(hx:Rel M E v (.ep i vr k o))(hr:ze8 s i vr=some r) :
  ∃ q blk,v = .pointer (some ⟨blk,k*r.sz+o,none⟩)/\q.a=some ⟨blk,0,none⟩/\E.rw i=some q/\RwOk M E w i q r:=by
 obtain ⟨h1,h2⟩:=zd0 hr;obtain ⟨ad,q,rfl,hq,hle,h⟩:=hx.ep_inv;obtain ⟨q',hq',hok⟩:=hs.rw i r h1;rw [hq] at hq'; cases hq';obtain ⟨blk,h3,h4⟩:=h (by rw [hok.ver]; exact h2);exact ⟨q,blk,by rw [h4,hok.sz],h3,hq,hok⟩
theorem viewA_at {q:RwE}{blk off c:Nat}(ha:q.a=some ⟨blk,0,none⟩)(h:off+c=q.c)(hc:c≠0):viewA q off=some ⟨blk,off*q.sz,none⟩:=by
 unfold viewA;split
 ·rename_i e; rw [ha,e,xei]
 ·rw [ha];simp [zf4]
end
theorem allTy_get:∀ {l:List (TypeId×Nat)} {p:TypeId×Nat},allTy τ l=true->p∈l->∃ i,τ p.1=some i
 | q::l,p,h,hp=>by
  simp only [allTy] at h;split at h
  ·rename_i i hi
   rcases xaq.1 hp with rfl | hp
   ·exact ⟨i,hi⟩
   ·exact allTy_get h hp
  ·cases h
theorem arrOf_sound {P:Program}(hτ:zgl P τ){t:TypeId}{ie:TI}{n:Nat}(h:arrOf τ t=some (ie,n)):∃ e,P.underlying t=some (.array n e)/\τ e=some ie/\0<ie.sz:=by
 unfold arrOf at h;split at h
 ·rename_i e n' _ _ _ _ ht;split at h
  ·rename_i i hi;split at h
   ·cases h
   ·rename_i hz;cases h;exact ⟨e,(hτ _ _ ht).kind,hi,by omega⟩
  ·cases h
 ·cases h
theorem Sound.build (hτ:zgl C.P τ){o:Oper}{t:TypeId}{an:List An}{parts:Array (Nat×Operand)}(ho:o.op = .build t parts)(hd:∀ d,o.dst=some d->d<C.N)(hw:∀ p∈parts.toList,Done s p.2) :
  Sound C o s (evalBuild τ s an t parts.toList):=by
 unfold evalBuild;split
 ·rename_i fl eq sz by' z cz hti
  split
  ·rename_i hall;split
   ·rename_i cs hcs;refine .retV hd fun a w M E hs=>?_;obtain ⟨inf,zv,hi,_,_,hz,hzz⟩:=(hτ _ _ hti).info;obtain ⟨fs,hu,hfl,_⟩:=(hτ _ _ hti).kind
    let g:Field->Nat×Nat:=fun f=>(f.offset,((τ f.type).map (·.sz)).getD 0)
    have hm:(fs.mapM fun f=>(do pure (f.offset,<- sizeOf f.type):Sem (Nat×Nat))).run C.P w = .ok (fs.map g) w:=by
     refine run_mapM _ g w fs fun f hf=>?_;obtain ⟨i,hi⟩:=allTy_get hall (p:=(f.type,f.offset)) (by rw [<- hfl]; exact xb1.2 ⟨f,hf,rfl⟩);simp [(hτ _ _ hi).sizeOf,g,hi]
    obtain ⟨us,h1,h2⟩:=fill_sound hτ hu hs parts.toList z cs (z.map AV.zv) hcs hw (zero_rel (hτ _ _ hti).lit) (fs.map g) (fun f fd i hf hti'=>by
     simp [hf,g,hti'])
    refine ⟨.agg us.toArray,?_,.agg us cs h2.1 h2.2⟩;have hzv:zv.cells=(z.map AV.zv).toArray:=by rw [<- hzz]
    have hp:(parts.map fun (i,x)=>(i,a.eval x)).toList=parts.toList.map fun p=>(p.1,a.eval p.2):=by simp
    simp only [execOp,ho,Instr.build,xao,zeroValue,typeInfo,xew,hi,hz,xat,xae,xah hu,hm,hzv,hp,h1]
   ·exact .nil
  ·exact .nil
 ·rename_i e0 n0 sz by' z cz hti
  split
  ·rename_i ie n1 harr;split
   ·rename_i cs hcs;obtain ⟨e,hu,hte,hpos⟩:=arrOf_sound hτ harr;refine .retV hd fun a w M E hs=>?_;obtain ⟨inf,zv,hi,_,_,hz,hzz⟩:=(hτ _ _ hti).info;obtain ⟨us,h1,h2⟩:=fillA_sound hs (by omega) parts.toList z cs (z.map AV.zv) hcs hw (zero_rel (hτ _ _ hti).lit);refine ⟨.agg us.toArray,?_,.agg us cs h2.1 h2.2⟩;have hzv:zv.cells=(z.map AV.zv).toArray:=by rw [<- hzz]
    have hp:(parts.map fun (i,x)=>(i,a.eval x)).toList=parts.toList.map fun p=>(p.1,a.eval p.2):=by simp
    simp only [execOp,ho,Instr.build,xao,zeroValue,typeInfo,xew,hi,hz,xat,xae,xah hu,(hτ _ _ hte).sizeOf,hzv,hp,h1]
   ·exact .nil
  ·exact .nil
 ·exact .nil
theorem zdp {P:Program}{o:Oper}{c:Call}{b:Builtin}(ho:o.op = .call c)(hc:c.callee = .builtin b)(ρ:Operand->Value)(w w':World){n:Next}
  (h:(builtin b c.argTypes o.type (c.args.map fun | .const _=>true | _=>false) (c.args.map ρ)).run P w = .ok n w'):(execOp ρ o).run P w = .ok n w':=by
 simp only [execOp,ho,resolve,hc,invoke,xao,xat,xae];exact h
theorem zee {α:Type}{a:Array α}{x:α}(h:a.toList=[x]):a=#[x]:=by
 cases a; simp at h; simp [h]
theorem Sound.len (hτ:zgl C.P τ){o:Oper}{an:List An}{x:Operand}{t:TypeId}{c:Call}(ho:o.op = .call c)(hc:c.callee = .builtin .len)(hx:c.args.toList=[x])(hty:c.argTypes.toList=[t]){i:TI}(hti:τ t=some i)
  (hd:∀ d,o.dst=some d->d<C.N){u:AV}(hv:Has C s x u):Sound C o s (evalLen s an i.k u):=by
 have ha:=zee hx;have hb:=zee hty;have hk:=(hτ _ _ hti).kind;have run:∀ (a:Act) (w:World) (n:Nat),(Builtin.len_ #[t] o.type #[a.eval x]).run C.P w = .ok (goInt n) w->(execOp a.eval o).run C.P w = .ok (.value (.int .i64 n)) w:=by
  intro a w n hr;refine zdp ho hc a.eval w w ?_;rw [ha,hb];simp only [builtin,xds,xa9,xd6,xao,hr,xae,xat];rfl
 unfold evalLen;split
 ·rename_i e sz xs he;split
  ·rename_i n an';refine .retG hd fun hg a w M E hs=>?_;obtain ⟨_,ad,cp,hval,_⟩:=(hv a w M E hs).sl_inv;rw [he] at hk;rw [hg.1];exact ⟨_,run a w _ (by rw [hval]; simp [Builtin.len_,xah hk]),.cell (.pure (.int _ _))⟩
  ·exact .nil
 ·rename_i e he;refine .retV hd fun a w M E hs=>?_;have hval:=(hv a w M E hs).nils_inv;rw [he] at hk;exact ⟨_,run a w 0 (by rw [hval]; simp [Builtin.len_,xah hk]),.cell (.pure (.int _ _))⟩
 ·rename_i y he;refine .retV hd fun a w M E hs=>?_;have hval:=(hv a w M E hs).str_inv;rw [he] at hk;exact ⟨_,run a w _ (by rw [hval]; simp [Builtin.len_,xah hk]; rfl),.cell (.pure (.int _ _))⟩
 ·rename_i e j vr he;split
  ·rename_i r hr;split
   ·rename_i n an';intro res hres hg _;cases hres;refine zic hd fun a w M E hs=>?_;obtain ⟨q,hval,hq,hok⟩:=zn7 hs (hv a w M E hs) hr;rw [he] at hk;refine ⟨_,run a w _ (by rw [hval]; simp [Builtin.len_,xah hk]; rfl),?_⟩;have h3:n=(r.xs.length:Int):=hg.1;rw [hok.n,h3];exact .cell (.pure (.int _ _))
   ·exact .nil
  ·exact .nil
 ·rename_i e j vr off n he;split
  ·rename_i r hr;intro res hres hg _;cases hres;refine zic hd fun a w M E hs=>?_;obtain ⟨q,c,ad,hval,hq,hok,_,_⟩:=rowv_cur hs (hv a w M E hs) hr;rw [he] at hk;exact ⟨_,run a w _ (by rw [hval]; simp [Builtin.len_,xah hk]),.cell (.pure (.int _ _))⟩
  ·exact .nil
 ·rename_i kt et j he;split
  ·rename_i es hes;split
   ·rename_i n an';intro res hres hg _;cases hres;refine zic hd fun a w M E hs=>?_;obtain ⟨r,hr,hval⟩:=(hv a w M E hs).mp_inv;obtain ⟨r',hr',_,ents,clk,hh,⟨hsz,_⟩,_⟩:=hs.mp j es hes;rw [hr] at hr'; cases hr';rw [he] at hk;refine ⟨_,run a w _ (by rw [hval]; simp [Builtin.len_,xah hk,Go.MapKept.run_getObj_map hh]; rfl),?_⟩;have h3:n=(es.length:Int):=hg.1;rw [hsz,h3];exact .cell (.pure (.int _ _))
   ·exact .nil
  ·exact .nil
 ·exact .nil
theorem Sound.cap (hτ:zgl C.P τ){o:Oper}{an:List An}{x:Operand}{t:TypeId}{c:Call}(ho:o.op = .call c)(hc:c.callee = .builtin .cap)(hx:c.args.toList=[x])(hty:c.argTypes.toList=[t]){i:TI}(hti:τ t=some i)
  (hd:∀ d,o.dst=some d->d<C.N){u:AV}(hv:Has C s x u):Sound C o s (evalCap an i.k u):=by
 have ha:=zee hx;have hb:=zee hty;have hk:=(hτ _ _ hti).kind;have run:∀ (a:Act) (w:World) (n:Nat),(Builtin.cap_ #[t] o.type #[a.eval x]).run C.P w = .ok (goInt n) w->(execOp a.eval o).run C.P w = .ok (.value (.int .i64 n)) w:=by
  intro a w n hr;refine zdp ho hc a.eval w w ?_;rw [ha,hb];simp only [builtin,xds,xa9,xd6,xao,hr,xae,xat];rfl
 unfold evalCap;split
 ·rename_i e he;refine .retV hd fun a w M E hs=>?_;have hval:=(hv a w M E hs).nils_inv;rw [he] at hk;exact ⟨_,run a w 0 (by rw [hval]; simp [Builtin.cap_,xah hk]),.cell (.pure (.int _ _))⟩
 ·exact .nil
theorem Sound.minmax {o:Oper}{an:List An}{c:Call}(ho:o.op = .call c)(mx:Bool)(hc:c.callee = .builtin (if mx then .max else .min))(hd:∀ d,o.dst=some d->d<C.N)
  {vs:List AV}(hv:vals s c.args.toList=some vs)(hw:∀ x∈c.args.toList,Done s x):Sound C o s (evalMinMax mx an vs):=by
 unfold evalMinMax;split
 ·rename_i k a k' b;split
  ·rename_i hk;have hk:=zns hk;subst hk;split
   ·exact .nil
   ·refine .retV hd fun x w M E hs=>?_;obtain ⟨h1,h2⟩:=zl7 hv hw hs;simp only [xa5,xal,xa3] at h1;have hl:c.args.toList.length=2:=h1
    match hcl:c.args.toList,hl with
    | [p,q],_=>
     rw [hcl] at h2;have e1:=(h2 0 _ _ rfl rfl).int_inv;have e2:=(h2 1 _ _ rfl rfl).int_inv;have ea:c.args=#[p,q]:=by
      cases hca:c.args; rw [hca] at hcl; simp at hcl; simp [hcl]
     cases mx with
     | true=>
      refine ⟨_,zdp (b:=.max) ho (by simpa using hc) x.eval w w (n:=.value (.int k (max a b))) ?_,.cell (.pure (.int _ _))⟩;rw [ea];simp only [builtin,xds,xa9,xd6,e1,e2,Builtin.max_];simp [Builtin.max2];omega
     | false=>
      refine ⟨_,zdp (b:=.min) ho (by simpa using hc) x.eval w w (n:=.value (.int k (min a b))) ?_,.cell (.pure (.int _ _))⟩;rw [ea];simp only [builtin,xds,xa9,xd6,e1,e2,Builtin.min_];simp [Builtin.min2];omega
  ·exact .nil
 ·exact .nil
theorem zgd {P:Program}(hτ:zgl P τ){t:TypeId}{sz:Nat}(h:elemSz τ t=some sz):∃ e,P.underlying t=some (.slice e)/\∀ w,(sizeOf e).run P w = .ok sz w:=by
 unfold elemSz at h;split at h
 ·rename_i e sz' b z cz ht;split at h
  ·rename_i i hi;cases h;exact ⟨e,(hτ _ _ ht).kind,fun w=>(hτ _ _ hi).sizeOf w⟩
  ·cases h
 ·cases h
theorem Sound.indexAddr (hτ:zgl C.P τ){o:Oper}{an:List An}{t:TypeId}{x ix:Operand}(ho:o.op = .indexAddr t x ix)(hd:∀ d,o.dst=some d->d<C.N){u v:AV}(hx:Has C s x u)(hi:Has C s ix v) :
  Sound C o s (zgp τ s an t u v):=by
 unfold zgp;split
 ·rename_i sz xs kk n;split
  ·rename_i z hz;split
   ·rename_i hsz;have hsz:=zbc hsz;subst hsz;split
    ·rename_i y an';refine .retG hd fun hg a w M E hs=>?_;obtain ⟨h0,hu⟩:=hg.1;obtain ⟨hP,_⟩:=(hx a w M E hs).sl_inv;obtain ⟨blk,off,c,he,hlt,huz,hr⟩:=hP.sl_at hu;have hi':=(hi a w M E hs).int_inv;obtain ⟨e,hun,hse⟩:=zgd hτ hz;refine ⟨_,?_,.cell (.pure hr)⟩;have h1:n<(xs.length:Int):=by omega
     simp only [execOp,ho,Instr.indexAt,he,hi',asIntOf,xao,xat,xae,xah hun];simp [h1,h0,hse,zf4]
    ·exact .nil
   ·exact .nil
  ·exact .nil
 ·rename_i i vr kk n;split
  ·rename_i z hz;split
   ·rename_i r hr;split
    ·rename_i hsz;have hsz:=zbc hsz;intro res hres hg _;cases hres;refine zic hd fun a w M E hs=>?_;have hg':0<=n/\n.toNat<r.xs.length:=hg.1;obtain ⟨q,hval,hq,hok⟩:=zn7 hs (hx a w M E hs) hr;have hi':=(hi a w M E hs).int_inv;obtain ⟨e,hun,hse⟩:=zgd hτ hz;have h1:=hok.n;have h2:=hok.nc
     rcases hok.blk with h6 | ⟨blk,vs,g1,g2,g3,g4,g5⟩
     ·omega
     ·refine ⟨.pointer (some ⟨blk,n.toNat*z,none⟩),?_,.cell (.ep _ _ _ _ _ q hq ?_ fun _=>⟨blk,g1,by rw [hok.sz,hsz]; simp⟩)⟩
      ·have h7:n<(q.n:Int):=by omega
       rw [g1] at hval;simp only [execOp,ho,Instr.indexAt,hval,hi',asIntOf,xao,xat,xae,xah hun];simp [h7,hg'.1,hse,zf4]
      ·rw [hok.ver,(zd0 hr).2]; exact xaf _
    ·exact .nil
   ·exact .nil
  ·exact .nil
 ·rename_i i vr off m kk n;split
  ·rename_i z hz;split
   ·rename_i r hr;split
    ·rename_i hsz;have hsz:=zbc hsz;intro res hres hg _;cases hres;refine zic hd fun a w M E hs=>?_;have hg':0<=n/\n.toNat<m:=hg.1;obtain ⟨q,c,ad,hval,hq,hok,hc1,hc2,_,hav⟩:=rowv_cur hs (hx a w M E hs) hr;have hi':=(hi a w M E hs).int_inv;obtain ⟨e,hun,hse⟩:=zgd hτ hz
     rcases hok.blk with h6 | ⟨blk,vs,g1,g2,g3,g4,g5⟩
     ·omega
     ·refine ⟨.pointer (some ⟨blk,(off+n.toNat)*z,none⟩),?_,.cell (.ep _ _ _ _ _ q hq ?_ fun _=>⟨blk,g1,by rw [hok.sz,hsz]; simp⟩)⟩
      ·have h7:n<(m:Int):=by omega
       rw [hav (by omega),viewA_at g1 hc1 (by omega)] at hval;simp only [execOp,ho,Instr.indexAt,hval,hi',asIntOf,xao,xat,xae,xah hun];simp [h7,hg'.1,hse,zf4,hok.sz,hsz,xcj]
      ·rw [hok.ver,(zd0 hr).2]; exact xaf _
    ·exact .nil
   ·exact .nil
  ·exact .nil
 ·rename_i i of kk n;split
  ·rename_i ie m harr;refine .retG hd fun hg a w M E hs=>?_;obtain ⟨h0,hm⟩:=hg.1;obtain ⟨b,hv,hb⟩:=(hx a w M E hs).ptr_inv;have hi':=(hi a w M E hs).int_inv;obtain ⟨e,hun,hte,_⟩:=arrOf_sound hτ harr;have hse:=(hτ _ _ hte).sizeOf;refine ⟨_,?_,.cell (.ptr _ _ b hv)⟩;simp only [execOp,ho,Instr.indexAt,hb,hi',asIntOf,xao,xat,xae,xah hun];simp [h0,hm,hse,zf4,Instr.sureAddr]
  ·exact .nil
 ·exact .nil
theorem Sound.index (hτ:zgl C.P τ){o:Oper}{an:List An}{t:TypeId}{x ix:Operand}(ho:o.op = .index t x ix)(hd:∀ d,o.dst=some d->d<C.N){u v:AV}(hx:Has C s x u)(hi:Has C s ix v) :
  Sound C o s (evalIndex τ an t u v):=by
 unfold evalIndex;split
 ·rename_i bs kk n;split
  ·rename_i ti sz by' z cz hti
   split
   ·rename_i b an';refine .retG hd fun hg a w M E hs=>?_;obtain ⟨h0,hu⟩:=hg.1;have he:=(hx a w M E hs).str_inv;have hi':=(hi a w M E hs).int_inv;have ht:C.P.underlying t=some .string:=(hτ _ _ hti).kind;refine ⟨_,?_,.cell (.pure (.int _ _))⟩;have hlt:=(xac.1 hu).1;have hg:(ByteArray.mk bs.toArray)[n.toNat]?=some b:=by
     have h1:n.toNat<(ByteArray.mk bs.toArray).size:=by simpa [ByteArray.size] using hlt
     rw [ByteArray.getElem?_lt' _ _ h1];congr 1;have:=(xac.1 hu).2;show bs.toArray[n.toNat]=b;simpa using this
    simp only [execOp,ho,Instr.index,he,hi',asIntOf,xao,xat,xae,xah ht];simp [h0,hg]
   ·exact .nil
  ·exact .nil
 ·rename_i cs kk n;split
  ·rename_i ie m harr;split
   ·rename_i y hy;refine .retG hd fun hg a w M E hs=>?_;obtain ⟨h0,hm⟩:=hg.1;obtain ⟨vs,he,hall⟩:=(hx a w M E hs).agg_inv;have hi':=(hi a w M E hs).int_inv;obtain ⟨e,hun,hte,hz⟩:=arrOf_sound hτ harr;have hse:=(hτ _ _ hte).sizeOf;obtain ⟨h1,h2,_⟩:=part_rel (hτ _ _ hte) (⟨hall.1,hall.2⟩:AllR (RelS M E) vs cs) hy (.inl (by omega));refine ⟨_,?_,h2⟩;have hp:=(hτ _ _ hte).part' w vs (n.toNat*ie.sz) (by omega);simp only [execOp,ho,Instr.index,he,hi',asIntOf,xao,xat,xae,xah hun];simp [h0,hm,hse,hp]
   ·exact .nil
  ·exact .nil
 ·exact .nil
end Go.Dm
namespace Go.Dm
open Go Go.RowKit
variable {C:Cx}{k:List It}{s:S}{τ:zbn}
theorem RelP.sl_sub {M:Mem}{a:Option Addr}{n c sz l h:Nat}{xs:List AV}(hr:RelP M (.slice a n c) (.sl sz xs))(hl:l<=h)(hh:h<=xs.length) :
  RelP M (.slice (if c=l then a else a.map (·.add (l*sz))) (h - l) (c - l)) (.sl sz ((xs.take h).drop l)):=by
 cases hr with
 | sl a n c sz xs f hn hc hb hz ha hf=>
  have hz':∀ x∈(xs.take h).drop l,x.cells.length=sz:=fun x hx=>hz x (xb6 (xdb hx));have hfl:zc0 ((xs.take h).drop l)=((zc0 xs).take (h*sz)).drop (l*sz):=by
   rw [flat_drop l (fun x hx=>hz x (xb6 hx)),zjj h hz]
  refine .sl _ _ _ sz _ (fun j=>f (l*sz+j)) (by simp; omega) (by omega) (by omega) hz' (fun hne=>?_) (fun j u hu=>?_)
  ·have hlt:l<h:=by
    rcases Nat.lt_or_ge l h with h1 | h1
    ·exact h1
    ·exfalso; apply hne; apply xai; simp; omega
   have hxs:xs≠[]:=by rintro rfl; simp at hh; omega
   obtain ⟨blk,off,rfl,hM⟩:=ha hxs;rw [xab (by omega)];refine ⟨blk,off+l*sz,by simp [zf4],fun j hj=>?_⟩;have h2:l*sz+j<(zc0 xs).length:=by
    rw [hfl] at hj; simp only [xa8,xar] at hj; omega
   have:=hM (l*sz+j) h2;rw [<- this]; congr 1; omega
  ·rw [hfl,xbb,xau] at hu;split at hu
   ·exact hf _ u hu
   ·cases hu
theorem bound_rel {lo:Option Operand}{r:Option Int}(h:zg6 s lo=some r)(hw:∀ x,lo=some x->Done s x){M:Mem}{E:Env}{a:Act}{w:World}(hs:St C.g C.N M E s a.tmps w) :
  lo.map a.eval=r.map fun n=>Value.int .i64 n:=by
 cases lo with
 | none=>simp only [zg6] at h; cases h; rfl
 | some x=>
  simp only [zg6] at h;split at h
  ·rename_i n hn;cases h;have:=(valW_rel hs hn (hw x rfl)).int_inv;simp [this]
  ·cases h
theorem zie {P:Program}(w:World)(isS:Bool)(len cap:Nat)(lo hi:Option Int)(l h:Nat)(hl:lo.map Int.toNat=some l\/(lo=none/\l=0))(hh:hi.map Int.toNat=some h\/(hi=none/\h=len))
  (h0:∀ n,lo=some n->0<=n)(h1:∀ n,hi=some n->0<=n)(hlh:l<=h)(hhc:hi≠none->h<=cap) :
  (Instr.sliceBounds isS len cap (lo.map fun n=>Value.int .i64 n) (hi.map fun n=>Value.int .i64 n) none).run P w = .ok (l,h,cap) w:=by
 cases lo with
 | none=>
  obtain ⟨_,rfl⟩:(none:Option Int)=none/\l=0:=by
   rcases hl with hl | hl
   ·cases hl
   ·exact hl
  cases hi with
  | none=>
   obtain ⟨_,rfl⟩:(none:Option Int)=none/\h=len:=by
    rcases hh with hh | hh
    ·cases hh
    ·exact hh
   simp [Instr.sliceBounds]
  | some b=>
   have hb:b.toNat=h:=by
    rcases hh with hh | ⟨hh,_⟩
    ·simpa using hh
    ·cases hh
   have hb0:=h1 b rfl;have hbc:=hhc (by simp);simp [Instr.sliceBounds,Instr.sliceBound,asIntOf,hb0,show b<=(cap:Int) by omega,hb]
 | some a=>
  have ha:a.toNat=l:=by
   rcases hl with hl | ⟨hl,_⟩
   ·simpa using hl
   ·cases hl
  have ha0:=h0 a rfl;cases hi with
  | none=>
   obtain ⟨_,rfl⟩:(none:Option Int)=none/\h=len:=by
    rcases hh with hh | hh
    ·cases hh
    ·exact hh
   simp [Instr.sliceBounds,Instr.sliceBound,asIntOf,ha0,show a<=(h:Int) by omega,ha]
  | some b=>
   have hb:b.toNat=h:=by
    rcases hh with hh | ⟨hh,_⟩
    ·simpa using hh
    ·cases hh
   have hb0:=h1 b rfl;have hbc:=hhc (by simp);simp [Instr.sliceBounds,Instr.sliceBound,asIntOf,hb0,show b<=(cap:Int) by omega,hb,ha0,show a<=(h:Int) by omega,ha]
theorem Sound.slice (hτ:zgl C.P τ){o:Oper}{an:List An}{t:TypeId}{x:Operand}{lo hi:Option Operand}(ho:o.op = .slice t x lo hi none)(hd:∀ d,o.dst=some d->d<C.N){u:AV}{l h:Option Int}
  (hx:Has C s x u)(hlo:zg6 s lo=some l)(hhi:zg6 s hi=some h)(hwl:∀ x,lo=some x->Done s x)(hwh:∀ x,hi=some x->Done s x) :
  Sound C o s (evalSlice τ an t l h u):=by
 have run:∀ (a:Act) (w:World) (v:Value) (M:Mem) (E:Env),St C.g C.N M E s a.tmps w->(∃ e,C.P.underlying t=some (.slice e))\/C.P.underlying t=some .string->
   (Instr.slice t (a.eval x) (l.map fun n=>Value.int .i64 n) (h.map fun n=>Value.int .i64 n) none).run C.P w = .ok v w->(execOp a.eval o).run C.P w = .ok (.value v) w:=by
  intro a w v M E hs ht hr;have e1:=bound_rel hlo hwl hs;have e2:=bound_rel hhi hwh hs;have e1':(Option.map a.eval lo)=(l.map fun n=>Value.int .i64 n):=e1;have e2':(Option.map a.eval hi)=(h.map fun n=>Value.int .i64 n):=e2
  rcases ht with ⟨e,ht⟩ | ht
  ·simp only [execOp,ho,Instr.sliceAt,xao,xah ht,xae,e1',e2',xdy];simp only [hr,xae,xat]
  ·simp only [execOp,ho,Instr.sliceAt,xao,xah ht,xae,e1',e2',xdy];simp only [hr,xae,xat]
 unfold evalSlice;split
 ·rename_i sz xs;split
  ·rename_i z hz;split
   ·rename_i hsz;have hsz:=zbc hsz;subst hsz;split
    ·rename_i ys an';obtain ⟨e,hun,hse⟩:=zgd hτ hz;have main:∀ (i j:Nat),(l.map Int.toNat=some i\/(l=none/\i=0))->(h.map Int.toNat=some j\/(h=none/\j=xs.length))->(∀ n,l=some n->0<=n)->(∀ n,h=some n->0<=n)->i<=j->j<=xs.length->
       ys=(xs.take j).drop i->∀ (a:Act) (w:World) (M:Mem) (E:Env),St C.g C.N M E s a.tmps w->∃ u,(execOp a.eval o).run C.P w = .ok (.value u) w/\Rel M E u (.sl sz ys):=by
      intro i j hi1 hj1 h0 h1 hij hjl hys a w M E hs;obtain ⟨hP,ad,cp,hval,hle,_⟩:=(hx a w M E hs).sl_inv;rw [hval] at hP;have hsub:=hP.sl_sub hij hjl;rw [<- hys] at hsub;refine ⟨_,run a w _ M E hs (.inl ⟨e,hun⟩) ?_,.cell (.pure hsub)⟩;have hb:=zie (P:=C.P) w true xs.length cp l h i j hi1 hj1 h0 h1 hij (fun _=>by omega);simp only [Instr.slice,xao,xah hun,xae,hval,hb,hse,xat]
     split
     ·refine .retG hd fun hg=>main 0 xs.length (.inr ⟨rfl,rfl⟩) (.inr ⟨rfl,rfl⟩) (fun n h=>by cases h) (fun n h=>by cases h) (xbm _) (xaf _) ?_;have:=hg.1; simpa using this
     ·rename_i av;refine .retG hd fun hg=>?_;obtain ⟨g1,g2,g3⟩:=hg.1;exact main av.toNat xs.length (.inl rfl) (.inr ⟨rfl,rfl⟩) (fun n h=>by cases h; exact g1) (fun n h=>by cases h) g2 (xaf _) (by simpa using g3)
     ·rename_i bv;refine .retG hd fun hg=>?_;obtain ⟨g1,g2,g3⟩:=hg.1;exact main 0 bv.toNat (.inr ⟨rfl,rfl⟩) (.inl rfl) (fun n h=>by cases h) (fun n h=>by cases h; exact g1) (xbm _) g2 (by simpa using g3)
     ·rename_i av bv;refine .retG hd fun hg=>?_;obtain ⟨g1,g2,g3,g4⟩:=hg.1;exact main av.toNat bv.toNat (.inl rfl) (.inl rfl) (fun n h=>by cases h; exact g1) (fun n h=>by cases h; omega) (by omega) g3 g4
    ·exact .nil
   ·exact .nil
  ·exact .nil
 ·rename_i bs;split
  ·rename_i ti sz by' z cz hti
   have ht:C.P.underlying t=some .string:=(hτ _ _ hti).kind;have main:∀ (i j:Nat),(l.map Int.toNat=some i\/(l=none/\i=0))->(h.map Int.toNat=some j\/(h=none/\j=bs.length))->(∀ n,l=some n->0<=n)->(∀ n,h=some n->0<=n)->i<=j->j<=bs.length->
     ∀ (a:Act) (w:World) (M:Mem) (E:Env),St C.g C.N M E s a.tmps w->∃ u,(execOp a.eval o).run C.P w = .ok (.value u) w/\Rel M E u (.str ((bs.take j).drop i)):=by
    intro i j hi1 hj1 h0 h1 hij hjl a w M E hs;have hval:=(hx a w M E hs).str_inv;refine ⟨.string ⟨((bs.take j).drop i).toArray⟩,run a w _ M E hs (.inr ht) ?_,.cell (.pure (.str _))⟩;have hsz:(ByteArray.mk bs.toArray).size=bs.length:=by simp [ByteArray.size]
    have hb:=zie (P:=C.P) w false bs.length bs.length l h i j hi1 hj1 h0 h1 hij (fun _=>by omega);simp only [Instr.slice,xao,xah ht,xae,hval,hsz,hb,xat,Option.isSome_none,xby,xcw];congr 2;apply ByteArray.ext;simp [List.drop_take]
   split
   ·refine .retV hd fun a w M E hs=>?_;have:=main 0 bs.length (.inr ⟨rfl,rfl⟩) (.inr ⟨rfl,rfl⟩) (fun n h=>by cases h) (fun n h=>by cases h) (xbm _) (xaf _) a w M E hs;simpa using this
   ·rename_i av;refine .retG hd fun hg a w M E hs=>?_;obtain ⟨g1,g2⟩:=hg.1;have:=main av.toNat bs.length (.inl rfl) (.inr ⟨rfl,rfl⟩) (fun n h=>by cases h; exact g1) (fun n h=>by cases h) g2 (xaf _) a w M E hs;simpa using this
   ·rename_i bv;refine .retG hd fun hg a w M E hs=>?_;obtain ⟨g1,g2⟩:=hg.1;have:=main 0 bv.toNat (.inr ⟨rfl,rfl⟩) (.inl rfl) (fun n h=>by cases h) (fun n h=>by cases h; exact g1) (xbm _) g2 a w M E hs;simpa using this
   ·rename_i av bv;refine .retG hd fun hg a w M E hs=>?_;obtain ⟨g1,g2,g3⟩:=hg.1;exact main av.toNat bv.toNat (.inl rfl) (.inl rfl) (fun n h=>by cases h; exact g1) (fun n h=>by cases h; omega) (by omega) g3 a w M E hs
  ·exact .nil
 ·split
  ·rename_i z hz;obtain ⟨e,hun,hse⟩:=zgd hτ hz;have main:(l.map Int.toNat=some 0\/(l=none/\(0:Nat)=0))->(h.map Int.toNat=some 0\/(h=none/\(0:Nat)=0))->(∀ n,l=some n->0<=n)->(∀ n,h=some n->0<=n)->
     ∀ (a:Act) (w:World) (M:Mem) (E:Env),St C.g C.N M E s a.tmps w->∃ u,(execOp a.eval o).run C.P w = .ok (.value u) w/\Rel M E u .nils:=by
    intro hi1 hj1 h0 h1 a w M E hs;have hval:=(hx a w M E hs).nils_inv;refine ⟨.slice none 0 0,run a w _ M E hs (.inl ⟨e,hun⟩) ?_,.cell (.pure .nils)⟩;have hb:=zie (P:=C.P) w true 0 0 l h 0 0 hi1 hj1 h0 h1 (xaf _) (fun _=>xaf _);simp only [Instr.slice,xao,xah hun,xae,hval,hb,hse,xat];simp
   split
   ·exact .retV hd (main (.inr ⟨rfl,rfl⟩) (.inr ⟨rfl,rfl⟩) (fun n h=>by cases h) (fun n h=>by cases h))
   ·rename_i av;refine .retG hd fun hg=>?_;have g:=hg.1;subst g;exact main (.inl rfl) (.inr ⟨rfl,rfl⟩) (fun n h=>by cases h; exact xfd _) (fun n h=>by cases h)
   ·rename_i bv;refine .retG hd fun hg=>?_;have g:=hg.1;subst g;exact main (.inr ⟨rfl,rfl⟩) (.inl rfl) (fun n h=>by cases h) (fun n h=>by cases h; exact xfd _)
   ·rename_i av bv;refine .retG hd fun hg=>?_;obtain ⟨g1,g2⟩:=hg.1;subst g1;subst g2;exact main (.inl rfl) (.inl rfl) (fun n h=>by cases h; exact xfd _) (fun n h=>by cases h; exact xfd _)
  ·exact .nil
 ·exact .nil
end Go.Dm
namespace Go.Dm
open Go Go.RowKit
variable {C:Cx}{k:List It}{s:S}{τ:zbn}
theorem nil_sl {M:Mem}{v:Value}{n:Nat}(h:RelP M v .nils):RelP M v (.sl n []):=by
 cases h;exact .sl none 0 0 n [] (fun _=>undef) rfl (xaf _) (by decide) (by simp) (fun h=>absurd rfl h) (fun j u hu=>by simp [zc0] at hu)
theorem nilS {M:Mem}{E:Env}{v:Value}{n:Nat}(h:RelS M E v .nils):RelS M E v (.sl n []):=by
 cases h with
 | pure h=>exact .pure (nil_sl h)
theorem nrmC_rel {M:Mem}{E:Env}:∀ {l:List Nat} {cs:List AV} {vs:List Value},AllR (RelS M E) vs cs->AllR (RelS M E) vs (nrmC l cs)
 | [],cs,vs,h=>by simp only [nrmC]; exact h
 | n::l,[],vs,h=>by cases n <;> exact h
 | n::l,x::cs,vs,h=>by
  obtain ⟨h1,h2⟩:=h
  match vs,h1 with
  | v::vs,h1=>
   have ih:AllR (RelS M E) vs (nrmC l cs):=nrmC_rel ⟨by simpa using h1,fun j u c hu hc=>h2 (j+1) u c (by simpa using hu) (by simpa using hc)⟩;have h0:=h2 0 v x rfl rfl;have key:∀ y,RelS M E v y->AllR (RelS M E) (v::vs) (y::nrmC l cs):=fun y hy=>⟨by simp [ih.1],fun j u c hu hc=>by
    cases j with
    | zero=>simp at hu hc; subst hu; subst hc; exact hy
    | succ j=>simp only [xbe] at hu hc; exact ih.2 j u c hu hc⟩
   cases n with
   | zero=>simp only [nrmC]; exact key x h0
   | succ n=>cases x <;> simp only [nrmC] <;> first | exact key _ h0 | exact key _ (nilS h0)
theorem norm_rel {M:Mem}{E:Env}{v:Value}{x:AV}{t:TypeId}(h:Rel M E v x):Rel M E v (norm τ t x):=by
 unfold norm;split
 ·split
  ·obtain ⟨vs,rfl,h1,h2⟩:=h.agg_inv;have:=nrmC_rel (l:=‹TI›.cz) (⟨h1,h2⟩:AllR (RelS M E) vs _);exact .agg _ _ this.1 this.2
  ·split
   ·cases h with
    | cell h=>exact .cell (nilS h)
   ·exact h
  ·exact h
 ·exact h
theorem normL_rel {M:Mem}{E:Env}:∀ {ts:List TypeId} {xs:List AV} {vs:List Value},RelL M E vs xs->RelL M E vs (normL τ ts xs)
 | [],xs,vs,h=>by simp only [normL]; exact h
 | t::ts,[],vs,h=>by simp only [normL]; exact h
 | t::ts,x::xs,vs,h=>by
  obtain ⟨h1,h2⟩:=h
  match vs,h1 with
  | v::vs,h1=>
   have ih:RelL M E vs (normL τ ts xs):=normL_rel ⟨by simpa using h1,fun j u c hu hc=>h2 (j+1) u c (by simpa using hu) (by simpa using hc)⟩;simp only [normL];refine ⟨by simp [ih.1],fun j u c hu hc=>?_⟩;cases j with
   | zero=>simp at hu hc; subst hu; subst hc; exact norm_rel (h2 0 v x rfl rfl)
   | succ j=>simp only [xbe] at hu hc; exact ih.2 j u c hu hc
theorem znw {o:Oper}{e:Eff}{x:AV}(hx:e.x=some x)(hd:∀ d,o.dst=some d->d<C.N)
  (h:∀ (a:Act) (w:World) (M:Mem) (E:Env),St C.g C.N M E s a.tmps w->∃ v w' M' E',(execOp a.eval o).run C.P w = .ok (.value v) w'/\St C.g C.N M' E' (e.app none s) a.tmps w'/\Rel M' E' v x/\E.up E'):Does C o s (e.app o.dst s):=by
 intro a w ⟨hdf,M,E,hs,hp0⟩;obtain ⟨v,w',M',E',hrun,hs',hr,hup⟩:=h a w M E hs;refine ⟨v,w',.inl hrun,by rw [zfx]; exact hdf,M',E',?_,hup.p _ hp0⟩;cases hdd:o.dst with
 | none=>exact hs'
 | some d=>
  have:=hs'.putS (hd d hdd) hr;simpa only [Eff.app,hx] using this
section
variable {g:Gh}{N:Nat}{M:Mem}{E:Env}{tmps:Array Value}{w:World}{v:Value}
theorem cR.cell {pu:Nat}{ns:List Nat}{kd i p:Nat}{u:AV}(h:cR M E w pu ns kd i p v u)(hc:u.isCell=true):RelS M E v u:=by
 match pu,h with
 | 0,h=>exact .pure h
 | 1,h=>exact RelS.monoE (Env.arO_sub E ns) h
 | n+2,h=>
  have h:RelC M (E.arP ns (n+2)) w kd i p v u:=h;cases h with
  | rel h=>exact h.monoE (Env.arP_sub E ns _)
  | own=>cases hc
theorem isP_rel {u:AV}(hp:u.isP=true)(h:RelS M E v u):RelP M v u:=by
 cases h with
 | pure h=>exact h
 | _=>cases hp
theorem zm3 {pu:Nat}{ns:List Nat}{u:AV}(hp:elemOk pu ns u=true)(h:RelS M E v u):eR M E pu ns v u:=by
 by_cases hq:u.isP=true
 ·have:=isP_rel hq h
  match pu with
  | 0=>exact this
  | 1=>exact RelS.pure this
  | n+2=>exact RelS.pure this
 ·cases u with
  | aptr i k off=>
   match pu,hp with
   | 0,hp=>cases hp
   | n+1,hp=>
    have hm:memN i ns=true:=hp;cases h with
    | pure h=>cases h
    | aptr i k off bs b h hk=>
     have h0:(E.arO ns).ar i=some bs:=by simp only [Env.arO,xad hm]; exact h
     match n with
     | 0=>exact RelS.aptr i k off bs b h0 hk
     | 1=>exact RelS.aptr i k off bs b h0 hk
     | n+2=>exact RelS.aptr i k off bs b h hk
  | row j vr=>
   match pu,hp with
   | 0,hp | 1,hp | 2,hp=>cases hp
   | n+3,hp=>exact h
  | _=>first | exact absurd hp hq | (exact absurd (by simpa only [elemOk] using hp) hq)
theorem zhr {pu:Nat}{ns:List Nat}:∀ {l:List AV} {j:Nat} {u:AV},zfj pu ns l=true->l[j]?=some u->elemOk pu ns u=true
 | x::l,0,u,h,hu=>by
  simp at hu; subst hu;simp only [zfj] at h;split at h
  ·assumption
  ·cases h
 | x::l,j+1,u,h,hu=>by
  simp only [zfj] at h;split at h
  ·exact zhr h (by simpa using hu)
  ·cases h
theorem zg2 {pu:Nat}{ns:List Nat}{l:List AV}(h:zfj pu ns l=true):zat l=true:=by
 induction l with
 | nil=>rfl
 | cons x l ih=>
  have h0:=zhr (j:=0) h rfl;have hx:x.isCell=true:=by
   cases x <;> first | rfl | (simp [elemOk,AV.isP] at h0)
  simp only [zfj] at h;split at h
  ·simp only [zat,hx,ih h]
  ·cases h
theorem partOf_at {P:Program}{t:TypeId}{ti:TI}(hi:TyOk1 P t ti){cs:List AV}{o:Nat}{x:AV}(h:ziu ti cs o=some x) :
  (ti.k.agg=true/\x = .agg ((cs.drop o).take ti.sz)/\(0<ti.sz->o+ti.sz<=cs.length))\/(ti.k.agg=false/\ti.sz=1/\cs[o]?=some x):=by
 unfold ziu at h;split at h
 ·rename_i hk;split at h
  ·rename_i r hr;cases h;obtain ⟨e,hl⟩:=zge _ _ _ _ hr;exact .inl ⟨hk,by rw [e],hl⟩
  ·cases h
 ·rename_i hk;rw [zf9] at h;exact .inr ⟨hk,hi.one hk,h⟩
theorem RwOk.elem {i:Nat}{q:RwE}{r:Rw}(hok:RwOk M E w i q r){vs:Array Value}(hcs:CsOk M E w r.pu r.ns 5 i 0 vs (zc0 r.xs)){k:Nat}{u:AV}(hu:r.xs[k]?=some u){j:Nat}{c:AV}(hc:u.cells[j]?=some c) :
  ∃ v,vs[k*r.sz+j]?=some v/\cR M E w r.pu r.ns 5 i (k*r.sz+j) v c:=by
 obtain ⟨v,hv,hr⟩:=hcs _ c (flat_at hok.es hu hc);exact ⟨v,hv,by simpa using hr⟩
theorem sealed_row (hs:St g N M E s tmps w){i vr:Nat}{r:Rw}(hr:ze8 s i vr=some r)(hp:r.pu=0) :
  ∃ M',(∀ b j v,M b j=some v->M' b j=some v)/\St g N M' E { s with rw:=(i,{ r with k:=r.xs.length })::s.rw } tmps w/\∀ v,RelS M E v (.row i vr)->RelS M' E v (.sl r.sz r.xs):=by
 obtain ⟨h1,h2⟩:=zd0 hr;subst h2;obtain ⟨M',hM,hs',hrel⟩:=hs.sealRow h1 hp;exact ⟨M',hM,hs',fun v hv=>.pure (hrel v hv)⟩
def likeRows (s s1:S):Prop:=s1.fr=s.fr/\s1.bx=s.bx/\s1.mp=s.mp/\s1.ar=s.ar/\∀ i r,zan s.rw i=some r->∃ k',zan s1.rw i=some { r with k:=k' }
theorem sealC_ok {s1:S}(hl:likeRows s s1){x y:AV}{e:List (Nat×Rw)}(h:sealC s x=some (y,e))(hs:St g N M E s1 tmps w)(hx:RelS M E v x) :
  ∃ M',(∀ b j v,M b j=some v->M' b j=some v)/\St g N M' E { s1 with rw:=e++s1.rw } tmps w/\RelS M' E v y/\likeRows s { s1 with rw:=e++s1.rw }:=by
 cases x with
 | row i vr=>
  simp only [sealC] at h;split at h
  ·rename_i r hr;split at h
   ·rename_i hp;cases h;obtain ⟨h1,h2⟩:=zd0 hr;obtain ⟨l1,l2,l3,l4,l5⟩:=hl;obtain ⟨k',hk'⟩:=l5 i r h1;have hc:ze8 s1 i vr=some { r with k:=k' }:=by
     simp only [ze8,hk',h2,xej]
    obtain ⟨M',hM,hs',hrel⟩:=sealed_row hs hc hp;refine ⟨M',hM,hs',hrel v hx,l1,l2,l3,l4,fun j r' hj=>?_⟩;simp only [xbn,xbt,zai];by_cases e:j=i
    ·subst e;rw [h1] at hj; cases hj;exact ⟨_,xad rfl⟩
    ·rw [xab e]; exact l5 j r' hj
   ·cases h
  ·cases h
 | _=>
  simp only [sealC] at h;cases h;exact ⟨M,fun _ _ _ h=>h,hs,hx,hl⟩
theorem sealL_ok:∀ {cs ds:List AV} {e:List (Nat×Rw)} {s1:S} {vs:List Value} {M:Mem},likeRows s s1->sealL s cs=some (ds,e)->St g N M E s1 tmps w->AllR (RelS M E) vs cs->
  ∃ M',(∀ b j v,M b j=some v->M' b j=some v)/\St g N M' E { s1 with rw:=e++s1.rw } tmps w/\AllR (RelS M' E) vs ds/\likeRows s { s1 with rw:=e++s1.rw }
 | [],ds,e,s1,vs,M,hl,h,hs,hv=>by
  simp only [sealL] at h;cases h;exact ⟨M,fun _ _ _ h=>h,hs,hv,hl⟩
 | x::cs,ds,e,s1,vs,M,hl,h,hs,hv=>by
  simp only [sealL] at h;split at h
  ·rename_i y e1 h1;split at h
   ·rename_i m e2 h2;cases h
    match vs,hv with
    | [],hv=>exact absurd hv.1 (by simp)
    | u::vs,hv=>
     obtain ⟨M1,hM1,hs1,hr1,hl1⟩:=sealC_ok hl h1 hs (hv.2 0 u x rfl rfl);have htail:AllR (RelS M1 E) vs cs:=⟨by simpa using hv.1,fun j v c hj hc=>(hv.2 (j+1) v c (by simpa using hj) (by simpa using hc)).monoM hM1⟩;obtain ⟨M2,hM2,hs2,hr2,hl2⟩:=sealL_ok hl1 h2 hs1 htail;refine ⟨M2,fun b j v h=>hM2 b j v (hM1 b j v h),by simpa only [xaj] using hs2,⟨by simp [hr2.1],fun j v c hj hc=>?_⟩,by simpa only [xaj] using hl2⟩;cases j with
     | zero=>simp at hj hc; subst hj; subst hc; exact hr1.monoM hM2
     | succ j=>simp only [xbe] at hj hc; exact hr2.2 j v c hj hc
   ·cases h
  ·cases h
theorem sealA_ok {s1:S}(hl:likeRows s s1){x y:AV}{e:List (Nat×Rw)}(h:sealA s x=some (y,e))(hs:St g N M E s1 tmps w)(hx:Rel M E v x) :
  ∃ M',(∀ b j v,M b j=some v->M' b j=some v)/\St g N M' E { s1 with rw:=e++s1.rw } tmps w/\Rel M' E v y/\likeRows s { s1 with rw:=e++s1.rw }:=by
 cases x with
 | agg cs=>
  simp only [sealA] at h;split at h
  ·rename_i ds e1 h1;cases h;obtain ⟨vs,rfl,hlen,hr⟩:=hx.agg_inv;obtain ⟨M',hM,hs',hr',hl'⟩:=sealL_ok hl h1 hs ⟨hlen,hr⟩;exact ⟨M',hM,hs',.agg vs _ hr'.1 hr'.2,hl'⟩
  ·cases h
 | row i vr=>
  simp only [sealA] at h;obtain ⟨M',hM,hs',hr,hl'⟩:=sealC_ok hl h hs (hx.of_cell rfl);exact ⟨M',hM,hs',.cell hr,hl'⟩
 | _=>
  simp only [sealA,sealC] at h;cases h;exact ⟨M,fun _ _ _ h=>h,hs,hx,hl⟩
theorem sealAL_ok:∀ {cs ds:List AV} {e:List (Nat×Rw)} {s1:S} {vs:List Value} {M:Mem},likeRows s s1->sealAL s cs=some (ds,e)->St g N M E s1 tmps w->RelL M E vs cs->
  ∃ M',(∀ b j v,M b j=some v->M' b j=some v)/\St g N M' E { s1 with rw:=e++s1.rw } tmps w/\RelL M' E vs ds/\likeRows s { s1 with rw:=e++s1.rw }
 | [],ds,e,s1,vs,M,hl,h,hs,hv=>by
  simp only [sealAL] at h;cases h;exact ⟨M,fun _ _ _ h=>h,hs,hv,hl⟩
 | x::cs,ds,e,s1,vs,M,hl,h,hs,hv=>by
  simp only [sealAL] at h;split at h
  ·rename_i y e1 h1;split at h
   ·rename_i m e2 h2;cases h
    match vs,hv with
    | [],hv=>exact absurd hv.1 (by simp)
    | u::vs,hv=>
     obtain ⟨M1,hM1,hs1,hr1,hl1⟩:=sealA_ok hl h1 hs (hv.2 0 u x rfl rfl);have htail:RelL M1 E vs cs:=⟨by simpa using hv.1,fun j v c hj hc=>(hv.2 (j+1) v c (by simpa using hj) (by simpa using hc)).monoM hM1⟩;obtain ⟨M2,hM2,hs2,hr2,hl2⟩:=sealAL_ok hl1 h2 hs1 htail;refine ⟨M2,fun b j v h=>hM2 b j v (hM1 b j v h),by simpa only [xaj] using hs2,⟨by simp [hr2.1],fun j v c hj hc=>?_⟩,by simpa only [xaj] using hl2⟩;cases j with
     | zero=>simp at hj hc; subst hj; subst hc; exact hr1.monoM hM2
     | succ j=>simp only [xbe] at hj hc; exact hr2.2 j v c hj hc
   ·cases h
  ·cases h
theorem likeRows.refl (hs:St g N M E s tmps w):likeRows s s:=⟨rfl,rfl,rfl,rfl,fun i r h=>⟨r.k,h⟩⟩
end
theorem sealR_ok {g:Gh}{N:Nat}{M:Mem}{E:Env}{tmps:Array Value}{w:World}{v:Value}{t:TypeId}{an:List An}{x y:AV}{e:List (Nat×Rw)}(h:sealR τ t an s x=some (y,e))(hs:St g N M E s tmps w)(hx:Rel M E v x) :
  ∃ M',(∀ b j v,M b j=some v->M' b j=some v)/\St g N M' E { s with rw:=e++s.rw } tmps w/\Rel M' E v y/\likeRows s { s with rw:=e++s.rw }:=by
 unfold sealR at h;split at h
 ·cases h; exact ⟨M,fun _ _ _ h=>h,hs,hx,likeRows.refl hs⟩
 ·exact sealA_ok (likeRows.refl hs) h hs (norm_rel hx)
theorem Sound.loadEp (hτ:zgl C.P τ){o:Oper}{t:TypeId}{x:Operand}(ho:o.op = .load t x)(hd:∀ d,o.dst=some d->d<C.N){an:List An}{i vr k' of:Nat}(hx:Has C s x (.ep i vr k' of)) :
  Sound C o s (ziw τ s an t i vr k' of):=by
 unfold ziw;split
 ·rename_i ti hti;split
  ·rename_i r hr;split
   ·rename_i u an';split
    ·rename_i y hy;split
     ·rename_i hcell;split
      ·rename_i hfit;intro res hres hg _;cases hres;refine zic hd fun a w M E hs=>?_;have hu:r.xs[k']?=some u:=hg.1;obtain ⟨q,blk,he,ha,hq,hok⟩:=ep_cur hs (hx a w M E hs) hr
       rcases hok.blk with hc0 | ⟨blk',vs,g1,g2,g3,g4,g5⟩
       ·have h1:=hok.n;have h2:=hok.nc;have:r.xs=[]:=xai (by omega);rw [this] at hu; simp at hu
       rw [ha] at g1; cases g1;have hcell:=zd4 hcell;obtain ⟨f,hread⟩:∃ f:Nat->Value,∀ j c,u.cells[of+j]?=some c->w.cell? ⟨blk,k'*r.sz+of+j,none⟩=some (f j)/\cR M E w r.pu r.ns 5 i (k'*r.sz+(of+j)) (f j) c:=by
        refine ⟨fun j=>vs.getD (k'*r.sz+of+j) undef,fun j c hc=>?_⟩;obtain ⟨v,hv,hrel⟩:=hok.elem g5 hu hc;rw [<- xcf] at hv;refine ⟨?_,?_⟩
        ·rw [xcz w blk _ vs r.ty (0,0) g3,hv]; simp [xan,hv]
        ·simp only [xan,hv,xb8]; exact hrel
       have run:∀ v,(loadVar t ⟨blk,k'*r.sz+of,none⟩).run C.P w = .ok v w->(execOp a.eval o).run C.P w = .ok (.value v) w:=fun v hv=>by
        simp [execOp,ho,he,Instr.loadAt,Instr.sureAddr,hv]
       rcases partOf_at (hτ _ _ hti) hy with ⟨hk,rfl,hl⟩ | ⟨hk,h1,hc⟩
       ·have hl':∀ j,j<ti.sz->∃ c,u.cells[of+j]?=some c:=fun j hj=>⟨_,xag (by have:=hl (by omega); omega)⟩;have hload:=(hτ _ _ hti).loadVar w blk (k'*r.sz+of) f (fun j hj=>by
         obtain ⟨c,hc⟩:=hl' j hj;exact (hread j c hc).1)
        refine ⟨_,run _ hload,?_⟩;rw [xad hk];refine .agg _ _ (by
         simp only [xa5,List.length_range,xar,xa8]
         rcases xel ti.sz with h0 | h0
         ·omega
         ·have:=hl h0; omega) fun j v c hv hc=>?_
        rw [xbf,xay] at hv;obtain ⟨j',hj',rfl⟩:=hv;have hj:j<ti.sz:=by have:=(xac.1 hj').1; simpa using this
        rw [xdu hj] at hj'; cases hj';have hci:c.isCell=true:=(xcl.1 hcell) c (xbk (by simpa [AV.cells] using hc));rw [xau,xad hj,xbb] at hc;exact (hread j c hc).2.cell hci
       ·have hload:=(hτ _ _ hti).loadVar w blk (k'*r.sz+of) f (fun j hj=>by
         have:j=0:=by omega
         subst this;exact (hread 0 y (by simpa using hc)).1)
        refine ⟨_,run _ hload,?_⟩;rw [xab (by simp [hk])];have hyc:y.isCell=true:=by
         cases y <;> first
          | (simp [fits,hk] at hfit; done)
          | (exact (xcl.1 hcell) _ (by simp [AV.cells]))
        exact .cell ((hread 0 y (by simpa using hc)).2.cell hyc)
      ·exact .nil
     ·exact .nil
    ·exact .nil
   ·exact .nil
  ·exact .nil
 ·exact .nil
end Go.Dm
namespace Go.Dm
open Go Go.RowKit
variable {C:Cx}{k:List It}{s:S}{τ:zbn}
theorem flat_set {xs:List AV}{sz k o:Nat}{u u':AV}{ys:List AV}(hz:∀ x∈xs,x.cells.length=sz)(hu:xs[k]?=some u)(hc:u'.cells=u.cells.take o++ys++u.cells.drop (o+ys.length))(ho:o+ys.length<=sz) :
  zc0 (xs.set k u')=(zc0 xs).take (k*sz+o)++ys++(zc0 xs).drop (k*sz+o+ys.length):=by
 have hk:=(xac.1 hu).1;have hul:u.cells.length=sz:=hz u (xbk hu);have hA:(zc0 (xs.take k)).length=k*sz:=by rw [zex (fun y hy=>hz y (xb6 hy)),xar,xca (by omega)]
 have e1:zc0 xs=zc0 (xs.take k)++(u.cells++zc0 (xs.drop (k+1))):=by
  conv=>lhs; rw [<- xbp k xs,xcs hk,(xac.1 hu).2,zf7,ze6]
 have e2:zc0 (xs.set k u')=zc0 (xs.take k)++(u'.cells++zc0 (xs.drop (k+1))):=by
  rw [xfj,xad hk,zf7,ze6]
 rw [e2,hc,e1];have h1:(zc0 (xs.take k)++(u.cells++zc0 (xs.drop (k+1)))).take (k*sz+o)=zc0 (xs.take k)++u.cells.take o:=by
  rw [<- hA,List.take_length_add_append,List.take_append_of_le_length (by omega)]
 have h2:(zc0 (xs.take k)++(u.cells++zc0 (xs.drop (k+1)))).drop (k*sz+o+ys.length)=u.cells.drop (o+ys.length)++zc0 (xs.drop (k+1)):=by
  rw [xcf,<- hA,List.drop_length_add_append,List.drop_append_of_le_length (by omega)]
 rw [h1,h2];simp only [xaj]
section
variable {M:Mem}{E:Env}{w:World}
theorem CsOk.put {pu:Nat}{ns:List Nat}{kd i:Nat}{vs:List Value}{cs:List AV}(h:CsOk M E w pu ns kd i 0 vs.toArray cs){nv:List Value}{ys:List AV}(hl:nv.length=ys.length)
  (hy:∀ (j:Nat) (u:AV),ys[j]?=some u->∃ v,nv[j]?=some v/\eR M E pu ns v u){o:Nat}(ho:o+ys.length<=cs.length)(hv:o+ys.length<=vs.length) :
  CsOk M E w pu ns kd i 0 (vs.take o++nv++vs.drop (o+nv.length)).toArray (cs.take o++ys++cs.drop (o+ys.length)):=by
 intro j u hu;have t1:(vs.take o).length=o:=by simp; omega
 have t2:(cs.take o).length=o:=by simp; omega
 rw [xaj] at hu;rw [xa1,xaj];by_cases h1:j<o
 ·rw [xak (by omega),xau,xad h1] at hu;rw [xak (by omega),xau,xad h1];simpa using h j u hu
 ·rw [xas (by omega),t2] at hu;rw [xas (by omega),t1];by_cases h2:j - o<ys.length
  ·rw [xak h2] at hu;rw [xak (by omega)];obtain ⟨v,hv,hr⟩:=hy _ u hu;exact ⟨v,hv,hr.c w _ _ _⟩
  ·rw [xas (by omega),xbb] at hu;rw [xas (by omega),xbb,hl];have e:o+ys.length+(j - o - ys.length)=j:=by omega
   rw [e] at hu ⊢;simpa using h j u hu
end
theorem Sound.storeEp (hτ:zgl C.P τ){o:Oper}{an:List An}{t:TypeId}{x y:Operand}(ho:o.op = .store t x y)(hd:o.dst=none){i vr k' of:Nat}{v:AV}(hy:Has C s y v)(hx:Has C s x (.ep i vr k' of)) :
  Sound C o s (zhm τ s an t v i vr k' of):=by
 unfold zhm;split
 ·rename_i ti hti;split
  ·rename_i r hr;split
   ·rename_i y' e hse;split
    ·rename_i hnk;split
     ·rename_i hc1;split
      ·rename_i hel;split
       ·rename_i u zs an' _;split
        ·rename_i old hold;split
         ·rename_i hoc;split
          ·rename_i u' hput;intro res hres hg _;cases hres;intro a w ⟨hdf,M,E,hs,hp0⟩;obtain ⟨hu,hzs,hk,_⟩:=hg;have hc1:=zbc hc1;obtain ⟨q,blk,he,ha,hq,hok⟩:=ep_cur hs (hx a w M E hs) hr;obtain ⟨M',hM,hs1,hv,_⟩:=sealR_ok hse hs (hy a w M E hs);have hr0:zan s.rw i=some r:=(zd0 hr).1;have hr1:zan (e++s.rw) i=some r:=by
            rw [zdn];cases hh:zan e i with
            | none=>exact hr0
            | some r'=>rw [zdj hh] at hnk; cases hnk
           obtain ⟨q',hq',hok1⟩:=hs1.rw i r hr1;rw [hq] at hq'; cases hq';have hxs:r.xs≠[]:=by rintro h0; rw [h0] at hu; simp at hu
           rcases hok1.blk with hc0 | ⟨blk',vs,g1,g2,g3,g4,g5⟩
           ·have h1:=hok1.n;have h2:=hok1.nc;exact absurd (xai (by omega)) hxs
           rw [ha] at g1; cases g1;have hall:=hv.allR (zd4 (zg2 hel));obtain ⟨eold,hlo⟩:=zge _ _ _ _ hold;have hul:u.cells.length=r.sz:=hok1.es u (xbk hu);obtain ⟨hu'c,hu'l⟩:u'.cells=u.cells.take of++y'.cells++u.cells.drop (of+y'.cells.length)/\u'.cells.length=r.sz:=by
            unfold putCells at hput;split at hput
            ·rename_i ds hds;obtain ⟨e1,e2⟩:=zfh _ _ _ _ hds;have hdl:ds.length=r.sz:=by
              rw [e1];simp only [xaa,xar,xa8];by_cases h0:y'.cells=[]
              ·rw [h0]; simp; omega
              ·have:=e2 h0; omega
             split at hput
             ·cases hput; exact ⟨e1,hdl⟩
             ·split at hput
              ·rename_i d;split at hput
               ·rename_i hdc;cases hput;have:u'.cells=[u']:=by cases u' <;> first | rfl | (simp [AV.isCell] at hdc)
                exact ⟨by rw [this]; exact e1,by rw [this]; exact hdl⟩
               ·cases hput
              ·cases hput
            ·cases hput
           have hfit:of+y'.cells.length<=r.sz\/y'.cells=[]:=by
            by_cases h0:y'.cells=[]
            ·exact .inr h0
            ·left;have:0<ti.sz:=by rw [<- hc1]; exact xa4.2 h0
             have:=hlo this;omega
           have hk':=(xac.1 hu).1;have hn:=hok1.n;have hnc:=hok1.nc;have hflen:=zex hok1.es;have hle:(k'+1)*r.sz<=r.xs.length*r.sz:=xa6 _ hk';have hle2:r.xs.length*r.sz<=vs.size:=by rw [g4,hok1.sz]; exact xa6 _ (by omega)
           rw [xdw] at hle;have hnl:(a.eval y).cells.toList.length=y'.cells.length:=hall.1;have hnl':(a.eval y).cells.size=y'.cells.length:=by simpa using hnl
           have hnc2:(k'*r.sz+of)+y'.cells.length<=vs.size\/y'.cells=[]:=by rcases hfit with h | h <;> first | exact .inr h | (left; omega)
           rcases hfit with hfit | hnil
           ·have hfl:=flat_set hok1.es hu hu'c hfit;have hvs:vs.toList.toArray=vs:=by simp
            have hst:(storeVar t ⟨blk,k'*r.sz+of,none⟩ (a.eval y)).run C.P w = .ok () (w.setRow blk ((vs.toList.take (k'*r.sz+of)++(a.eval y).cells.toList++vs.toList.drop (k'*r.sz+of+(a.eval y).cells.toList.length)).toArray)):=by
             unfold storeVar;have hne:¬ (a.eval y).cells.size≠ti.sz:=by rw [<- hc1,<- hnl]; simp
             simp only [xao,(hτ _ _ hti).sizeOf,xae,xab hne,xat];have:=xer (P:=C.P) blk (k'*r.sz+of) r.ty (a.eval y).cells.toList 0 vs w g3 (by rw [hnl]; omega) (fun u hu=>hall.one u hu);simpa using this
            refine ⟨undef,w.setRow blk ((vs.toList.take (k'*r.sz+of)++(a.eval y).cells.toList++vs.toList.drop (k'*r.sz+of+(a.eval y).cells.toList.length)).toArray),.inr ⟨by simp [execOp,ho,he,Instr.storeAt,Instr.sureAddr,hst],rfl⟩,?_⟩;rw [hd];obtain ⟨E',hE',hq2,hst2⟩:=hs1.rowPut (w':=w.setRow blk ((vs.toList.take (k'*r.sz+of)++(a.eval y).cells.toList++vs.toList.drop (k'*r.sz+of+(a.eval y).cells.toList.length)).toArray)) hr1 hq
             (r':={ r with xs:=zs }) (n':=q.n) (.inl ⟨rfl,rfl⟩) ((Grow.setRow w blk _).mono fun b e=>by rw [e]; exact g2) rfl (by show q.n=zs.length; rw [hzs,xcn]; exact hn) hnc
             (fun z hz=>by
              have hz:z∈zs:=hz;rw [hzs] at hz
              rcases List.mem_or_eq_of_mem_set hz with h | h
              ·exact hok1.es z h
              ·rw [h]; exact hu'l)
             (by show r.k<=zs.length; rw [hzs,xcn]; exact hok1.k) hok1.cm
             (fun h=>by
              show q.a=none↔zs=[];rw [ha];simp only [reduceCtorEq,false_iff];intro h0; apply hxs; apply xai;have:=congrArg List.length h0;rw [hzs,xcn] at this; simpa using this) (xaf _)
             (fun p=>by
              have e0:zcs { s with rw:=e++s.rw } (5,i,p)=ownK (zc0 r.xs)[p]?:=by simp [zcs,hr1]
              rw [e0];show _<=ownK (zc0 zs)[p]?;rw [hzs,hfl];have t2:((zc0 r.xs).take (k'*r.sz+of)).length=k'*r.sz+of:=by rw [xar]; omega
              rw [xaj];by_cases h1:p<k'*r.sz+of
              ·rw [xak (by omega),xau,xad h1]; exact xaf _
              ·by_cases h2:p<k'*r.sz+of+y'.cells.length
               ·
                have hp:(zc0 r.xs)[p]?=u.cells[p - k'*r.sz]?:=by
                 have hcc:u.cells[p - k'*r.sz]?=some u.cells[p - k'*r.sz]:=xag (by omega);rw [hcc,<- flat_at hok1.es hu hcc];congr 1; omega
                have hp2:u.cells[p - k'*r.sz]?=old[p - k'*r.sz - of]?:=by
                 rw [eold,xau,xad (by omega),xbb];congr 1; omega
                rw [hp,hp2];cases ho2:old[p - k'*r.sz - of]? with
                | none=>exact xbm _
                | some c=>
                 have:=(xcl.1 (zd4 hoc)) c (xbk ho2);cases c <;> simp only [ownK] <;> first | exact xbm _ | (simp [AV.isCell] at this)
               ·rw [xas (by omega),t2,xas (by omega),xbb];have e3:k'*r.sz+of+y'.cells.length+(p - (k'*r.sz+of) - y'.cells.length)=p:=by omega
                rw [e3]; exact xaf _)
             (fun b j v' ho' hv'=>by
              obtain ⟨h1,h2⟩:=hs1.mem b j v' hv';by_cases hbb:b=blk
              ·subst hbb;have h3:=h2 _ ho';rw [zmt hr1] at h3;have h4:j<k'*r.sz:=xbi h3 (xa6 _ hk);rw [xcz _ b j _ r.ty (0,0) (xdj w b vs _ r.ty _ g3)];rw [xcz w b j vs r.ty (0,0) g3] at h1;rw [xa1,xaj,xak (by rw [xar,xbv]; omega),xau,xad (by omega)];simpa using h1
              ·exact (Grow.setRow w blk _).cell h1 hbb)
             (fun blk' vs' e1 e2 e3 e4 e5=>by
              rw [ha] at e1; cases e1;rw [g3] at e3; cases e3;refine ⟨_,xdj w blk vs _ r.ty _ g3,?_,?_⟩
              ·simp only [xaz,xaa,xar,xa8,xbv];omega
              ·show CsOk M' E w r.pu r.ns 5 i 0 _ (zc0 zs);rw [hzs,hfl];rw [<- hvs] at g5;exact g5.put hnl (fun j c hc=>by
                have hj:=(xac.1 hc).1;have hvj:(a.eval y).cells.toList[j]?=some (a.eval y).cells.toList[j]:=xag (by omega);exact ⟨_,hvj,zm3 (zhr hel hc) (hall.2 j _ c hvj hc)⟩) (by omega) (by simp; omega))
            exact ⟨hdf,M',E',hst2,hE'.p _ hp0⟩
           ·
            have hz0:ti.sz=0:=by rw [<- hc1,hnil]; rfl
            have e0:(a.eval y).cells.toList=[]:=xai (by rw [hnl,hnil]; rfl);have hne:¬ (a.eval y).cells.size≠ti.sz:=by rw [<- hc1,<- hnl]; simp
            have hst:(storeVar t ⟨blk,k'*r.sz+of,none⟩ (a.eval y)).run C.P w = .ok () w:=by
             unfold storeVar;simp only [xao,(hτ _ _ hti).sizeOf,xae,xab hne,xat];rw [e0];simp [storeCells]
            refine ⟨undef,w,.inr ⟨by simp [execOp,ho,he,Instr.storeAt,Instr.sureAddr,hst],rfl⟩,?_⟩;rw [hd];have hcu:u'.cells=u.cells:=by rw [hu'c,hnil]; simp
            have hfl:zc0 zs=zc0 r.xs:=by
             have e1:zc0 r.xs=zc0 (r.xs.take k')++(u.cells++zc0 (r.xs.drop (k'+1))):=by
              conv=>lhs; rw [<- xbp k' r.xs,xcs hk',(xac.1 hu).2,zf7,ze6]
             rw [hzs,xfj,xad hk',zf7,ze6,hcu,e1]
            obtain ⟨E',hE',hq2,hst2⟩:=hs1.rowPut (w':=w) hr1 hq
             (r':={ r with xs:=zs }) (n':=q.n) (.inl ⟨rfl,rfl⟩) (Grow.refl w _) rfl (by show q.n=zs.length; rw [hzs,xcn]; exact hn) hnc
             (fun z hz=>by
              have hz:z∈zs:=hz;rw [hzs] at hz
              rcases List.mem_or_eq_of_mem_set hz with h | h
              ·exact hok1.es z h
              ·rw [h]; exact hu'l)
             (by show r.k<=zs.length; rw [hzs,xcn]; exact hok1.k) hok1.cm
             (fun h=>by
              show q.a=none↔zs=[];rw [ha];simp only [reduceCtorEq,false_iff];intro h0; apply hxs; apply xai;have:=congrArg List.length h0;rw [hzs,xcn] at this; simpa using this) (xaf _)
             (fun p=>by
              have e0:zcs { s with rw:=e++s.rw } (5,i,p)=ownK (zc0 r.xs)[p]?:=by simp [zcs,hr1]
              rw [e0]; show _<=ownK (zc0 zs)[p]?; rw [hfl]; exact xaf _)
             (fun b j v' ho' hv'=>(hs1.mem b j v' hv').1)
             (fun blk' vs' e1 e2 e3 e4 e5=>⟨vs',e3,rfl,by show CsOk M' E w r.pu r.ns 5 i 0 _ (zc0 zs); rw [hfl]; exact e5⟩)
            exact ⟨hdf,M',E',hst2,hE'.p _ hp0⟩
          ·exact .nil
         ·exact .nil
        ·exact .nil
       ·exact .nil
      ·exact .nil
     ·exact .nil
    ·exact .nil
   ·exact .nil
  ·exact .nil
 ·exact .nil
end Go.Dm
namespace Go.Dm
open Go Go.RowKit
variable {C:Cx}{k:List It}{s:S}{τ:zbn}
theorem run_cut {o:Oper}{t:TypeId}{x:Operand}{lo hi:Option Operand}(ho:o.op = .slice t x lo hi none){l h:Option Int}(hlo:zg6 s lo=some l)(hhi:zg6 s hi=some h)(hwl:∀ x,lo=some x->Done s x)(hwh:∀ x,hi=some x->Done s x)
  {e:TypeId}{sz:Nat}(hun:C.P.underlying t=some (.slice e))(hse:∀ w,(sizeOf e).run C.P w = .ok sz w){a:Act}{w:World}{M:Mem}{E:Env}(hs:St C.g C.N M E s a.tmps w){ad:Option Addr}{len cap:Nat}(he:a.eval x = .slice ad len cap)
  {i j:Nat}(hl:l.map Int.toNat=some i\/(l=none/\i=0))(hh:h.map Int.toNat=some j\/(h=none/\j=len))(h0:∀ n,l=some n->0<=n)(h1:∀ n,h=some n->0<=n)(hij:i<=j)(hjc:h≠none->j<=cap) :
  (execOp a.eval o).run C.P w = .ok (.value (.slice (if cap=i then ad else ad.map (·.add (i*sz))) (j - i) (cap - i))) w:=by
 have e1:(Option.map a.eval lo)=(l.map fun n=>Value.int .i64 n):=bound_rel hlo hwl hs;have e2:(Option.map a.eval hi)=(h.map fun n=>Value.int .i64 n):=bound_rel hhi hwh hs;have hb:=zie (P:=C.P) w true len cap l h i j hl hh h0 h1 hij hjc;simp only [execOp,ho,Instr.sliceAt,xao,xah hun,xae,e1,e2,xdy];simp only [Instr.slice,xao,xah hun,xae,he,hb,hse,xat]
section
variable {M:Mem}{E:Env}{w:World}
theorem mention_v {i vr off m:Nat}{q:RwE}{c:Nat}{ad:Option Addr}(hq:E.rw i=some q)(hv:vr=q.ver)(hz:off=0->ad=q.a)(ha:c≠0->ad=viewA q off)(hc:off+c=q.c)(hm:m<=c):Rel M E (.slice ad m c) (.rowv i vr off m):=
 .cell (.rowv i vr off m m c ad q hq (by omega) fun _=>⟨rfl,hz,ha,hc,hm⟩)
end
theorem Sound.sliceRow (hτ:zgl C.P τ){o:Oper}{an:List An}{t:TypeId}{x:Operand}{lo hi:Option Operand}(ho:o.op = .slice t x lo hi none)(hd:∀ d,o.dst=some d->d<C.N){l h:Option Int}{i vr:Nat}
  (hx:Has C s x (.row i vr))(hlo:zg6 s lo=some l)(hhi:zg6 s hi=some h)(hwl:∀ x,lo=some x->Done s x)(hwh:∀ x,hi=some x->Done s x):Sound C o s (zgc τ s an t l h i vr):=by
 unfold zgc;split
 ·rename_i z hz;obtain ⟨e,hun,hse⟩:=zgd hτ hz;split
  ·rename_i r hr;split
   ·rename_i hsz;have hsz:=zbc hsz;have main:∀ (a0 b0 n:Nat),(l.map Int.toNat=some a0\/(l=none/\a0=0))->(∀ (q:RwE),q.n=r.xs.length->(h.map Int.toNat=some b0\/(h=none/\b0=q.n)))->(∀ n,l=some n->0<=n)->(∀ n,h=some n->0<=n)->a0+n=b0->(h≠none->b0<=r.xs.length\/b0<=r.cm)->
      (h=none->b0=r.xs.length)->Does C o s ((⟨some (.rowv i vr a0 n),[],[],[],[]⟩:Eff).app o.dst s):=by
     intro a0 b0 n h1 h2 h3 h4 h5 h6 h7;refine zic hd fun a w M E hs=>?_;obtain ⟨q,he,hq,hok⟩:=zn7 hs (hx a w M E hs) hr;have hn:=hok.n;have hnc:=hok.nc;have hcm:=hok.cm;have hbc:b0<=q.c:=by
      by_cases hh:h=none
      ·have:=h7 hh; omega
      ·rcases h6 hh with h | h <;> omega
     refine ⟨_,run_cut ho hlo hhi hwl hwh hun hse hs he h1 (h2 q hn) h3 h4 (by omega) (fun _=>hbc),?_⟩;have e1:b0 - a0=n:=by omega
     rw [e1];have hadd0:∀ x:Option Addr,x.map (fun y=>y.add (0*z))=x:=fun x=>by cases x <;> simp [Addr.add]
     refine mention_v hq (by rw [hok.ver]; exact (zd0 hr).2) (fun h0=>?_) (fun hne=>?_) (by omega) (by omega)
     ·subst h0;split
      ·rfl
      ·exact hadd0 _
     ·rw [xab (by omega)];unfold viewA;by_cases h0:a0=0
      ·subst h0; rw [xad rfl]; exact hadd0 _
      ·rw [xab h0,hok.sz,hsz]
    split
    ·rename_i n an';split
     ·intro res hres hg he;cases hres;have hg:n=r.xs.length:=hg.1;exact main 0 r.xs.length n (.inr ⟨rfl,rfl⟩) (fun q hq=>.inr ⟨rfl,hq.symm⟩) (fun n h=>by cases h) (fun n h=>by cases h) (by omega) (fun h=>absurd rfl h) (fun _=>rfl)
     ·rename_i av;intro res hres hg he;cases hres;have hg:0<=av/\av.toNat+n=r.xs.length:=hg.1;exact main av.toNat r.xs.length n (.inl rfl) (fun q hq=>.inr ⟨rfl,hq.symm⟩) (fun n h=>by cases h; exact hg.1) (fun n h=>by cases h) hg.2 (fun h=>absurd rfl h) (fun _=>rfl)
     ·rename_i bv;intro res hres hg he;cases hres;have hg:0<=bv/\n=bv.toNat/\(bv.toNat<=r.xs.length\/bv.toNat<=r.cm):=hg.1;exact main 0 bv.toNat n (.inr ⟨rfl,rfl⟩) (fun q hq=>.inl rfl) (fun n h=>by cases h) (fun n h=>by cases h; exact hg.1) (by omega) (fun _=>hg.2.2) (fun h=>by cases h)
     ·rename_i av bv;intro res hres hg he;cases hres;have hg:0<=av/\0<=bv/\av.toNat+n=bv.toNat/\(bv.toNat<=r.xs.length\/bv.toNat<=r.cm):=hg.1;exact main av.toNat bv.toNat n (.inl rfl) (fun q hq=>.inl rfl) (fun n h=>by cases h; exact hg.1) (fun n h=>by cases h; exact hg.2.1) hg.2.2.1 (fun _=>hg.2.2.2) (fun h=>by cases h)
    ·rename_i ys an';split
     ·rename_i hpu;split
      ·rename_i q0 hq0;intro res hres hg he;cases hres;have hx0:q0.e.x=some (.sl r.sz ys)/\q0.eq=[]/\(AllP q0.gs->∃ a0 b0:Nat,(l.map Int.toNat=some a0\/(l=none/\a0=0))/\(h.map Int.toNat=some b0\/(h=none/\b0=r.xs.length))/\(∀ n,l=some n->0<=n)/\(∀ n,h=some n->0<=n)/\a0<=b0/\b0<=r.xs.length/\ys=(r.xs.take b0).drop a0):=by
        unfold evalSlice at hq0;simp only at hq0;split at hq0
        ·split at hq0
         ·split at hq0
          ·cases hq0;refine ⟨rfl,rfl,fun hg=>⟨0,r.xs.length,.inr ⟨rfl,rfl⟩,.inr ⟨rfl,rfl⟩,fun n h=>(by cases h),fun n h=>(by cases h),xbm _,xaf _,?_⟩⟩;have:=hg.1; simpa using this
          ·rename_i av;cases hq0;refine ⟨rfl,rfl,fun hg=>?_⟩;obtain ⟨g1,g2,g3⟩:=hg.1;exact ⟨av.toNat,r.xs.length,.inl rfl,.inr ⟨rfl,rfl⟩,fun n h=>(by cases h; exact g1),fun n h=>(by cases h),g2,xaf _,by simpa using g3⟩
          ·rename_i bv;cases hq0;refine ⟨rfl,rfl,fun hg=>?_⟩;obtain ⟨g1,g2,g3⟩:=hg.1;exact ⟨0,bv.toNat,.inr ⟨rfl,rfl⟩,.inl rfl,fun n h=>(by cases h),fun n h=>(by cases h; exact g1),xbm _,g2,by simpa using g3⟩
          ·rename_i av bv;cases hq0;refine ⟨rfl,rfl,fun hg=>?_⟩;obtain ⟨g1,g2,g3,g4⟩:=hg.1;exact ⟨av.toNat,bv.toNat,.inl rfl,.inl rfl,fun n h=>(by cases h; exact g1),fun n h=>(by cases h; omega),by omega,g3,g4⟩
         ·cases hq0
        ·cases hq0
       obtain ⟨hx1,_,hx2⟩:=hx0;obtain ⟨a0,b0,c1,c2,c3,c4,c5,c6,c7⟩:=hx2 hg;refine znw (x:=.sl r.sz ys) hx1 hd fun a w M E hs=>?_;obtain ⟨q,hev,hq,hok⟩:=zn7 hs (hx a w M E hs) hr;obtain ⟨M',hM,hs',hrel⟩:=sealed_row hs hr hpu;have hsl:=(Rel.cell (hrel _ ((hx a w M E hs).of_cell rfl))).sl_inv.1;have hn:=hok.n;have hnc:=hok.nc;rw [hev,hn] at hsl;have hsub:=hsl.sl_sub c5 c6;rw [<- c7] at hsub;refine ⟨_,w,M',E,run_cut ho hlo hhi hwl hwh hun hse hs hev c1 (by rw [hn]; exact c2) c3 c4 c5 (fun _=>by omega),hs',?_,Env.up_refl E⟩;rw [<- hsz];exact .cell (.pure hsub)
      ·exact .nil
     ·exact .nil
    ·split
     ·rename_i bv;split
      ·rename_i hpu;intro res hres hg he;cases hres;have hg:0<=bv/\bv.toNat<=r.xs.length/\r.k<=bv.toNat/\_=r.xs.take bv.toNat:=hg.1;rw [hg.2.2.2];have hp1:r.pu<=1:=xap hpu;refine znw (x:=.row i (vr+1)) rfl hd fun a w M E hs=>?_;obtain ⟨q,hev,hq,hok⟩:=zn7 hs (hx a w M E hs) hr;obtain ⟨hr1,hr2⟩:=zd0 hr;have hn:=hok.n;have hnc:=hok.nc;have hlt:(r.xs.take bv.toNat).length=bv.toNat:=by rw [xar,xca hg.2.1]
       obtain ⟨E',hup,hE',hst⟩:=hs.rowPut (w':=w) hr1 hq (r':={ r with ver:=r.ver+1,cm:=r.xs.length,nl:=false,xs:=r.xs.take bv.toNat }) (n':=bv.toNat) (.inr (xc6 _)) (Grow.refl w _) rfl hlt.symm (by omega)
        (fun y hy=>hok.es y (xb6 hy)) (by show r.k<=(r.xs.take bv.toNat).length; rw [hlt]; exact hg.2.2.1) (by show r.xs.length<=q.c; omega) (fun h=>by cases h) (xaf _)
        (fun p=>by
         have e:zcs s (5,i,p)=ownK (zc0 r.xs)[p]?:=by simp [zcs,hr1]
         rw [e,hok.own1 hp1]; exact xbm _) (fun b j v _ hv=>(hs.mem b j v hv).1) (fun blk vs g1 g2 g3 g4 g5=>⟨vs,g3,rfl,fun m u hu=>by
         have hu:(zc0 (r.xs.take bv.toNat))[m]?=some u:=hu;rw [zjj bv.toNat hok.es,xau] at hu;split at hu
         ·exact g5 m u hu
         ·cases hu⟩)
       refine ⟨_,w,M,E',run_cut ho hlo hhi hwl hwh hun hse hs hev (.inr ⟨rfl,rfl⟩) (.inl rfl) (fun n h=>by cases h) (fun n h=>by cases h; exact hg.1) (xbm _) (fun _=>by omega),hst,?_,hup⟩;have hadd0:(if q.c=0 then q.a else q.a.map (fun y=>y.add (0*z)))=q.a:=by
        split
        ·rfl
        ·cases q.a <;> simp [Addr.add]
       rw [hadd0,Nat.sub_zero,Nat.sub_zero];exact .cell (.row i _ _ q.c q.a _ hE' (by rw [hr2]; exact xaf _) fun _=>⟨rfl,rfl,rfl⟩)
      ·exact .nil
     ·exact .nil
    ·exact .nil
   ·exact .nil
  ·exact .nil
 ·exact .nil
theorem Sound.sliceV (hτ:zgl C.P τ){o:Oper}{an:List An}{t:TypeId}{x:Operand}{lo hi:Option Operand}(ho:o.op = .slice t x lo hi none)(hd:∀ d,o.dst=some d->d<C.N){l h:Option Int}{i vr off m:Nat}
  (hx:Has C s x (.rowv i vr off m))(hlo:zg6 s lo=some l)(hhi:zg6 s hi=some h)(hwl:∀ x,lo=some x->Done s x)(hwh:∀ x,hi=some x->Done s x):Sound C o s (zkr τ s an t l h i vr off m):=by
 unfold zkr;exact .nil
end Go.Dm
namespace Go.Dm
open Go Go.RowKit
variable {C:Cx}{k:List It}{s:S}{τ:zbn}
theorem St.newSealed {g:Gh}{N:Nat}{M:Mem}{E:Env}{tmps:Array Value}{w w1:World}(hs:St g N M E s tmps w)(hg:Grow w w1 (fun _=>False)){vs:Array Value}{e:TypeId}{fr:Nat×Nat}{sz n c:Nat}{xs:List AV}
  (hn:xs.length=n)(hnc:n<=c)(hc:c<=maxLen)(hsz:∀ x∈xs,x.cells.length=sz)(hrel:∀ (j:Nat) (u:AV),(zc0 xs)[j]?=some u->∃ v,vs[j]?=some v/\RelP M v u) :
  ∃ M',(∀ b j v,M b j=some v->M' b j=some v)/\St g N M' E s tmps (w1.alloc (.cells vs e fr))/\RelP M' (.slice (some ⟨w1.heap.size,0,none⟩) n c) (.sl sz xs):=by
 have hbig:Grow w (w1.alloc (.cells vs e fr)) (fun _=>False):=(hg.mono (fun _ h=>h.elim)).trans ((Grow.alloc w1 _).mono (fun _ h=>h.elim));have hs1:St g N M E s tmps (w1.alloc (.cells vs e fr)):=
  hs.grow' (fun _=>False) (fun _ _ h=>h.elim) hbig (Env.le_refl E) (fun _ _ _=>rfl) (fun b o h=>xbi (hs.live b o h) hbig.size) rfl (fun b j v h=>h.elim) (fun b o _ _=>xaf _)
   (fun i cs h=>.inl ⟨h,fun _ _ h=>h⟩) hs.bxn (fun i r h=>.inl ⟨h,rfl,fun _ _ _ h=>h⟩) hs.rwn (fun i es h=>.inl ⟨h,fun _ _ h=>h⟩) hs.mpn (fun i r h=>.inl ⟨h,rfl,fun _ _ _ h=>h⟩) hs.arn
 have hnew:(w1.alloc (.cells vs e fr)).heap[w1.heap.size]?=some (.cells vs e fr):=heap_alloc_new w1 _;have hown:E.own w1.heap.size=none:=own_none hs hg.size;have hMn:∀ j,M w1.heap.size j=none:=fun j=>by
  cases h:M w1.heap.size j with
  | none=>rfl
  | some v=>
   have:=xcg _ _ (hs.mem _ _ _ h).1;have h2:=hg.size;simp only at this;omega
 have hle:∀ b j v,M b j=some v->(if b=w1.heap.size then vs[j]? else M b j)=some v:=by
  intro b j v h;rw [xab (by rintro rfl; rw [hMn] at h; cases h)]; exact h
 have hcell:∀ j,(w1.alloc (.cells vs e fr)).cell? ⟨w1.heap.size,j,none⟩=vs[j]?:=fun j=>xcz _ _ _ vs e fr hnew;refine ⟨fun b j=>if b=w1.heap.size then vs[j]? else M b j,hle,hs1.moreM hle ?_ ?_ rfl rfl rfl rfl (fun i r h=>⟨r,h,r.k,rfl,by obtain ⟨q,_,hok⟩:=hs1.rw i r h; exact hok.k⟩) (fun i h=>h),?_⟩
 ·intro b j v h;split at h
  ·rename_i hb;subst hb;exact ⟨by rw [hcell]; exact h,fun o ho=>by rw [hown] at ho; cases ho⟩
  ·exact hs1.mem b j v h
 ·intro b j v h hF;rw [xab (by rintro rfl; have:=(hs.foreign _ hF).1; have:=hg.size; omega)] at h;exact hs.mf b j v h hF
 ·refine .sl _ n c sz xs (fun j=>vs.getD j undef) hn hnc hc hsz (fun _=>⟨w1.heap.size,0,rfl,fun j hj=>?_⟩) (fun j u hu=>?_)
  ·obtain ⟨v,hv,_⟩:=hrel j _ (xag hj);show (if w1.heap.size=w1.heap.size then vs[0+j]? else M w1.heap.size (0+j))=_;rw [xad rfl,xbr,hv];simp [xan,hv]
  ·obtain ⟨v,hv,hr⟩:=hrel j u hu;simp only [xan,hv,xb8];exact hr.mono hle
theorem effM {o:Oper}{x:AV}(hd:∀ d,o.dst=some d->d<C.N)
  (h:∀ (a:Act) (w:World) (M:Mem) (E:Env),St C.g C.N M E s a.tmps w->∃ v w' M' E',(execOp a.eval o).run C.P w = .ok (.value v) w'/\St C.g C.N M' E' s a.tmps w'/\Rel M' E' v x/\E.up E'):Does C o s ((⟨some x,[],[],[],[]⟩:Eff).app o.dst s):=
 znw rfl hd h
theorem u8s_flat (l:List UInt8):zc0 (u8s l)=u8s l:=ih_flat l
theorem isBytes_sound (hτ:zgl C.P τ){t e:TypeId}{sz by' z cz sz2 by2 z2 cz2}(h1:τ t=some ⟨.slice e,sz,by',z,cz⟩)(h2:τ e=some ⟨.int .u8,sz2,by2,z2,cz2⟩):C.P.underlying t=some (.slice e)/\C.P.underlying e=some (.int .u8)/\sz2=1:=
 ⟨(hτ _ _ h1).kind,(hτ _ _ h2).kind,(hτ _ _ h2).one rfl⟩
theorem isStrT_sound (hτ:zgl C.P τ){t:TypeId}(h:isStrT τ t=true):C.P.underlying t=some .string:=by
 unfold isStrT at h;split at h
 ·rename_i h1; exact (hτ _ _ h1).kind
 ·cases h
theorem isSlT_sound (hτ:zgl C.P τ){t:TypeId}(h:isSlT τ t=true):∃ e,C.P.underlying t=some (.slice e):=by
 unfold isSlT at h;split at h
 ·rename_i h1; exact ⟨_,(hτ _ _ h1).kind⟩
 ·cases h
theorem isPtrT_sound (hτ:zgl C.P τ){t:TypeId}(h:isPtrT τ t=true):C.P.underlying t=some (.pointer (C.P.pointee t)):=by
 unfold isPtrT at h;split at h
 ·rename_i h1;have:=(hτ _ _ h1).kind;simp only [TKOk] at this;simp [Program.pointee,this]
 ·cases h
theorem Sound.bytesOf (hτ:zgl C.P τ){o:Oper}{an:List An}{src dst:TypeId}{x:Operand}(ho:o.op = .convert src dst x)(hd:∀ d,o.dst=some d->d<C.N){l:List UInt8}(hx:Has C s x (.str l))(hsrc:C.P.underlying src=some .string):Sound C o s (evalBytesOf τ an dst l):=by
 unfold evalBytesOf;split
 ·rename_i e _ _ _ _ h1;split
  ·rename_i sz _ _ _ h2;obtain ⟨ht,he,hsz⟩:=isBytes_sound hτ h1 h2;intro res hres hg _;cases hres;have hlen:l.length<=maxLen:=by have:=hg.1; unfold maxLen; omega
   refine effM hd fun a w M E hs=>?_;have hv:=(hx a w M E hs).str_inv;have hrun:=run_bytes_of_string (P:=C.P) w src dst e ⟨l.toArray⟩ hsrc ht he;obtain ⟨vs,fr,hw,hvs⟩:∃ (vs:Array Value) (fr:Nat×Nat),(convert src dst (.string ⟨l.toArray⟩)).run C.P w = .ok (.slice (some ⟨w.heap.size,0,none⟩) l.length (grownCap w l.length 0 e)) (w.drew.alloc (.cells vs e fr))/\
     ∀ (j:Nat) (u:AV),(zc0 (u8s l))[j]?=some u->∃ v,vs[j]?=some v/\RelP M v u:=by
    refine ⟨_,_,hrun,fun j u hu=>?_⟩;rw [u8s_flat] at hu;simp only [u8s,xbf,xay] at hu;obtain ⟨b,hb,rfl⟩:=hu;have hj:=(xac.1 hb).1;refine ⟨.int .u8 (b.toNat:Int),?_,.int _ _⟩;simp only [bytesRow];rw [xc5 (by simpa using hj)];simp [hb]
   obtain ⟨M',hM,hs',hr⟩:=hs.newSealed (w1:=w.drew) (Grow.drew w) (vs:=vs) (e:=e) (fr:=fr) (sz:=sz) (n:=l.length) (c:=grownCap w l.length 0 e) (xs:=u8s l) (by simp [u8s]) (xfc w _ _ e) (xdz w _ _ e hlen)
    (fun y hy=>by
     simp only [u8s,xb1] at hy;obtain ⟨b,_,rfl⟩:=hy;rw [hsz]; rfl) hvs
   exact ⟨_,_,M',E,by simp [execOp,ho,hv,hw],hs',.cell (.pure hr),Env.up_refl E⟩
  ·exact .nil
 ·exact .nil
theorem Sound.strRow (hτ:zgl C.P τ){o:Oper}{an:List An}{src dst:TypeId}{x:Operand}(ho:o.op = .convert src dst x)(hd:∀ d,o.dst=some d->d<C.N){i vr:Nat}(hx:Has C s x (.row i vr)):Sound C o s (zkt τ s an src dst i vr):=by
 unfold zkt;exact .nil
theorem nilB_rel {M:Mem}{E:Env}{v:Value}{x:AV}{b:Bool}(h:nilB x=some b)(hr:Rel M E v x):∃ p,v = .pointer p/\p.isNone=b:=by
 have ne:∀ {y:AV},(∃ i o,y = .ptr i o)\/(∃ z,y = .rp z)\/(∃ i v k o,y = .ep i v k o)\/(∃ i k o,y = .aptr i k o)->∀ {v:Value},RelS M E v y->∃ a,v = .pointer (some a):=by
  rintro y (⟨i,o,rfl⟩ | ⟨z,rfl⟩ | ⟨i,v',k,o,rfl⟩ | ⟨i,k,o,rfl⟩) v hr
  ·obtain ⟨b,_,e⟩:=(Rel.cell hr).ptr_inv; exact ⟨_,e⟩
  ·obtain ⟨b,o,e,_⟩:=(Rel.cell hr).rp_inv; exact ⟨_,e⟩
  ·obtain ⟨ad,q,e,_⟩:=(Rel.cell hr).ep_inv; exact ⟨_,e⟩
  ·obtain ⟨bs,b,_,_,e⟩:=(Rel.cell hr).aptr_inv; exact ⟨_,e⟩
 have opt:∀ {c:Bool} {y:AV},(∃ i o,y = .ptr i o)\/(∃ z,y = .rp z)\/(∃ i v k o,y = .ep i v k o)\/(∃ i k o,y = .aptr i k o)->Rel M E v (.popt c y)->∃ p,v = .pointer p/\p.isNone = !c:=by
  intro c y hy hr;obtain ⟨h1,h2⟩:=hr.popt_inv;cases c with
  | true=>obtain ⟨a,e⟩:=ne hy (h1 rfl); exact ⟨_,e,rfl⟩
  | false=>exact ⟨none,h2 rfl,rfl⟩
 unfold nilB at h;split at h <;> cases h
 ·exact ⟨none,hr.nilp_inv,rfl⟩
 ·obtain ⟨a,e⟩:=ne (.inl ⟨_,_,rfl⟩) (hr.of_cell rfl); exact ⟨_,e,rfl⟩
 ·obtain ⟨a,e⟩:=ne (.inr (.inl ⟨_,rfl⟩)) (hr.of_cell rfl); exact ⟨_,e,rfl⟩
 ·obtain ⟨a,e⟩:=ne (.inr (.inr (.inl ⟨_,_,_,_,rfl⟩))) (hr.of_cell rfl); exact ⟨_,e,rfl⟩
 ·obtain ⟨a,e⟩:=ne (.inr (.inr (.inr ⟨_,_,_,rfl⟩))) (hr.of_cell rfl); exact ⟨_,e,rfl⟩
 ·exact opt (.inl ⟨_,_,rfl⟩) hr
 ·exact opt (.inr (.inl ⟨_,rfl⟩)) hr
 ·exact opt (.inr (.inr (.inl ⟨_,_,_,_,rfl⟩))) hr
 ·exact opt (.inr (.inr (.inr ⟨_,_,_,rfl⟩))) hr
theorem eqGuard_ptr {P:Program}{op:BinOp}{t:TypeId}{x y:Operand}{a b:Option Addr}(w:World):(eqGuard op t x y (.pointer a) (.pointer b)).run P w = .ok () w:=by
 cases op <;> simp [eqGuard]
theorem eqGuard_sl {P:Program}{op:BinOp}{t:TypeId}{x y:Operand}{a b:Option Addr}{n c n' c':Nat}(w:World):(eqGuard op t x y (.slice a n c) (.slice b n' c')).run P w = .ok () w:=by
 cases op <;> simp [eqGuard]
theorem eqIfIn_nil {P:Program}{t:TypeId}{ms:Array (String×TypeId)}(w:World)(d:Nat)(h:P.underlying t=some (.interface ms)):(Op.equalIn (d+1) t .nilIface .nilIface).run P w = .ok true w:=by
 simp [Op.equalIn,xah h]
theorem eqIfIn_some {P:Program}{t:TypeId}{ms:Array (String×TypeId)}{a:TypeId}{p:Value}(w:World)(d:Nat)(h:P.underlying t=some (.interface ms)):(Op.equalIn (d+1) t (.iface a p) .nilIface).run P w = .ok false w:=by
 simp [Op.equalIn,xah h]
theorem eqIf_nil {P:Program}{t:TypeId}{ms:Array (String×TypeId)}(w:World)(h:P.underlying t=some (.interface ms)):(Op.equal t .nilIface .nilIface).run P w = .ok true w:=eqIfIn_nil w 9999 h
theorem eqIf_some {P:Program}{t:TypeId}{ms:Array (String×TypeId)}{a:TypeId}{p:Value}(w:World)(h:P.underlying t=some (.interface ms)):(Op.equal t (.iface a p) .nilIface).run P w = .ok false w:=eqIfIn_some w 9999 h
theorem eqGuard_ifN {P:Program}{op:BinOp}{t:TypeId}{x:Operand}{c:Value}(w:World):(eqGuard op t x (.const c) .nilIface .nilIface).run P w = .ok () w:=by
 cases op <;> cases x <;> rfl
theorem eqGuard_ifS {P:Program}{op:BinOp}{t:TypeId}{x y:Operand}{d:TypeId}{p:Value}(w:World):(eqGuard op t x y (.iface d p) .nilIface).run P w = .ok () w:=by
 cases op <;> simp [eqGuard]
theorem Sound.ifc (hτ:zgl C.P τ){o:Oper}{an:List An}{op:BinOp}{t t':TypeId}{x y:Operand}(ho:o.op = .binOp op t x y t')(hd:∀ d,o.dst=some d->d<C.N){v:AV}(hx:Has C s x v):Sound C o s (evalIf τ an t v y op):=by
 unfold evalIf;split
 ·rename_i hc;obtain ⟨h1,h2⟩:=xa2.1 hc;have hy:y = .const .nilIface:=by unfold isNilC at h2; split at h2 <;> first | rfl | cases h2
  subst hy;obtain ⟨ms,ht⟩:∃ ms,C.P.underlying t=some (.interface ms):=by
   unfold isIfT at h1;split at h1
   ·rename_i h3; exact (hτ _ _ h3).kind
   ·cases h1
  split
  ·rename_i b;have main:∀ (a:Act) (w:World) (M:Mem) (E:Env),St C.g C.N M E s a.tmps w->(a.eval x = .nilIface/\b=true)\/∃ d p,a.eval x = .iface d p/\b=false:=fun a w M E hs=>by
    have h0:=hx a w M E hs;generalize a.eval x=z at h0 ⊢;cases h0 with
    | cell h=>cases h with
     | pure h=>cases h with
      | ifcN=>exact .inl ⟨rfl,rfl⟩
      | ifcS d p=>exact .inr ⟨d,p,rfl,rfl⟩
   split
   ·refine .retV hd fun a w M E hs=>?_
    rcases main a w M E hs with ⟨e,rfl⟩ | ⟨d,p,e,rfl⟩
    ·exact ⟨_,zi9 ho a.eval w (fun v v' h h'=>by rw [<- h,<- h',e]; exact eqGuard_ifN w) (by rw [e]; simp [Act.eval,binOp,eqIf_nil w ht]),.cell (.pure (.bool _))⟩
    ·exact ⟨_,zi9 ho a.eval w (fun v v' h h'=>by rw [<- h,<- h',e]; exact eqGuard_ifS w) (by rw [e]; simp [Act.eval,binOp,eqIf_some w ht]),.cell (.pure (.bool _))⟩
   ·refine .retV hd fun a w M E hs=>?_
    rcases main a w M E hs with ⟨e,rfl⟩ | ⟨d,p,e,rfl⟩
    ·exact ⟨_,zi9 ho a.eval w (fun v v' h h'=>by rw [<- h,<- h',e]; exact eqGuard_ifN w) (by rw [e]; simp [Act.eval,binOp,eqIf_nil w ht]),.cell (.pure (.bool _))⟩
    ·exact ⟨_,zi9 ho a.eval w (fun v v' h h'=>by rw [<- h,<- h',e]; exact eqGuard_ifS w) (by rw [e]; simp [Act.eval,binOp,eqIf_some w ht]),.cell (.pure (.bool _))⟩
   ·exact .nil
  ·exact .nil
 ·exact .nil
theorem Sound.nilp (hτ:zgl C.P τ){o:Oper}{an:List An}{op:BinOp}{t t':TypeId}{x y:Operand}(ho:o.op = .binOp op t x y t')(hd:∀ d,o.dst=some d->d<C.N){u v:AV}(hx:Has C s x v)(hy:Has C s y u):Sound C o s (evalNil τ an t v u y op):=by
 unfold evalNil;split
 ·rename_i hpt;have ht:=isPtrT_sound hτ hpt;split
  ·rename_i hn;have hu:u = .nilp:=by cases u <;> first | rfl | (cases hn)
   subst hu;split
   ·rename_i b hb;have main:∀ (a:Act) (w:World) (M:Mem) (E:Env),St C.g C.N M E s a.tmps w->∃ p,a.eval x = .pointer p/\p.isNone=b/\a.eval y = .pointer none:=fun a w M E hs=>by
     obtain ⟨p,e1,e2⟩:=nilB_rel hb (hx a w M E hs);exact ⟨p,e1,e2,(hy a w M E hs).nilp_inv⟩
    split
    ·refine .retV hd fun a w M E hs=>?_;obtain ⟨p,e1,e2,e3⟩:=main a w M E hs;exact ⟨_,zi9 ho a.eval w (fun v v' h h'=>by rw [<- h,<- h',e1,e3]; exact eqGuard_ptr w) (by rw [e1,e3,run_eql_pointer_nil w t p ht,e2]),.cell (.pure (.bool _))⟩
    ·refine .retV hd fun a w M E hs=>?_;obtain ⟨p,e1,e2,e3⟩:=main a w M E hs;exact ⟨_,zi9 ho a.eval w (fun v v' h h'=>by rw [<- h,<- h',e1,e3]; exact eqGuard_ptr w) (by rw [e1,e3,run_neq_pointer_nil w t p ht,e2]),.cell (.pure (.bool _))⟩
    ·exact .nil
   ·exact .nil
  ·exact .nil
 ·exact Sound.ifc hτ ho hd hx
theorem Sound.nilRow (hτ:zgl C.P τ){o:Oper}{an:List An}{op:BinOp}{t t':TypeId}{x y:Operand}(ho:o.op = .binOp op t x y t')(hd:∀ d,o.dst=some d->d<C.N){u:AV}{i vr:Nat}(hx:Has C s x (.row i vr))(hy:Has C s y u):Sound C o s (zk1 τ s an t i vr u op):=by
 unfold zk1;exact .nil
theorem Sound.nilSl (hτ:zgl C.P τ){o:Oper}{an:List An}{op:BinOp}{t t':TypeId}{x y:Operand}(ho:o.op = .binOp op t x y t')(hd:∀ d,o.dst=some d->d<C.N){u:AV}{sz:Nat}{xs:List AV}(hx:Has C s x (.sl sz xs))(hy:Has C s y u):Sound C o s (evalNilSl τ an t xs u op):=by
 unfold evalNilSl;split
 ·rename_i hst;obtain ⟨e,ht⟩:=isSlT_sound hτ hst;split
  ·split
   ·rename_i b an';have main:∀ (a:Act) (w:World) (M:Mem) (E:Env),St C.g C.N M E s a.tmps w->∃ ad n c,a.eval x = .slice ad n c/\(ad.isNone=true->xs=[])/\a.eval y = .slice none 0 0:=fun a w M E hs=>by
     obtain ⟨hp,ad,c,e1,_⟩:=(hx a w M E hs).sl_inv;refine ⟨ad,_,c,e1,fun hn=>?_,(hy a w M E hs).nils_inv⟩;rw [e1] at hp;generalize xs.length=n at hp;cases hp with
     | sl _ _ _ _ _ f hn' hc hb hz ha hf=>
      cases xs with
      | nil=>rfl
      | cons z l=>
       obtain ⟨blk,off,e,_⟩:=ha (by simp);rw [e] at hn; cases hn
    split
    ·refine .retG hd fun hg a w M E hs=>?_;obtain ⟨ad,n,c,e1,e2,e3⟩:=main a w M E hs;exact ⟨_,zi9 ho a.eval w (fun v v' h h'=>by rw [<- h,<- h',e1,e3]; exact eqGuard_sl w) (by rw [e1,e3]; simp only [binOp,xao,run_equal_slice_nil w t e ad n c ht,xae,xat]),.cell (.pure (.ub _ _ _ (fun h=>hg.1 (e2 h)) (fun _=>rfl)))⟩
    ·refine .retG hd fun hg a w M E hs=>?_;obtain ⟨ad,n,c,e1,e2,e3⟩:=main a w M E hs;exact ⟨.bool (!ad.isNone),zi9 ho a.eval w (fun v v' h h'=>by rw [<- h,<- h',e1,e3]; exact eqGuard_sl w) (by rw [e1,e3]; simp only [binOp,xao,run_equal_slice_nil w t e ad n c ht,xae,xat]),.cell (.pure (.ub _ _ _ (fun _=>rfl) (fun h=>hg.1 (e2 (by cases ad <;> simp_all)))))⟩
    ·exact .nil
   ·exact .nil
  ·exact .nil
 ·exact .nil
theorem Sound.nilN (hτ:zgl C.P τ){o:Oper}{an:List An}{op:BinOp}{t t':TypeId}{x y:Operand}(ho:o.op = .binOp op t x y t')(hd:∀ d,o.dst=some d->d<C.N){u:AV}(hx:Has C s x .nils)(hy:Has C s y u):Sound C o s (evalNilN τ an t u op):=by
 unfold evalNilN;exact .nil
theorem Sound.slice3 (hτ:zgl C.P τ){o:Oper}{an:List An}{t:TypeId}{x lo hi mx:Operand}(ho:o.op = .slice t x (some lo) (some hi) (some mx))(hd:∀ d,o.dst=some d->d<C.N){a b m:Int}{u:AV}
  (hx:Has C s x u)(hlo:zg6 s (some lo)=some (some a))(hhi:zg6 s (some hi)=some (some b))(hmx:zg6 s (some mx)=some (some m))(hwl:Done s lo)(hwh:Done s hi)(hwm:Done s mx)
  {e:TypeId}{sz:Nat}(hun:C.P.underlying t=some (.slice e))(hse:∀ w,(sizeOf e).run C.P w = .ok sz w):Sound C o s (zkx s an a b m u):=by
 unfold zkx;exact .nil
end Go.Dm
namespace Go.Dm
open Go Go.RowKit
variable {C:Cx}{k:List It}{s:S}{τ:zbn}
section
variable {g:Gh}{N:Nat}{M:Mem}{E:Env}{tmps:Array Value}{w:World}{P:Program}{t2:TypeId}
def SrcOk (P:Program)(M:Mem)(E:Env)(w:World)(t2:TypeId)(v:Value)(sz pu:Nat)(ns:List Nat)(ys:List AV):Prop:=
 ∃ news,SrcV P w t2 v sz ys.length news/\(∀ y∈ys,y.cells.length=sz)/\∀ (j:Nat) (u:AV),(zc0 ys)[j]?=some u->∃ v,news[j]?=some v/\eR M E pu ns v u
theorem eR.of_pure {pu:Nat}{ns:List Nat}{v:Value}{u:AV}(h:RelP M v u):eR M E pu ns v u:=by
 match pu with
 | 0=>exact h
 | 1=>exact RelS.pure h
 | n+2=>exact RelS.pure h
theorem eR.one {pu:Nat}{ns:List Nat}{v:Value}{u:AV}(h:eR M E pu ns v u):v.oneCell'=true:=by
 match pu,h with
 | 0,h=>exact (RelP.one h).1
 | 1,h=>exact (RelS.one h).1
 | n+2,h=>exact (RelS.one h).1
theorem eR.mono {E':Env}(hE:E.le E'){pu:Nat}{ns:List Nat}{v:Value}{u:AV}(h:eR M E pu ns v u):eR M E' pu ns v u:=by
 match pu,h with
 | 0,h=>exact h
 | 1,h=>exact RelS.monoE (Env.arO_le hE ns) h
 | n+2,h=>exact RelS.monoE (Env.arP_le hE ns _) h
theorem zox:∀ l:List AV,zgo l=zc0 l
 | []=>rfl
 | x::l=>by rw [zgo,ze6,zox l]
theorem src_part (ht:(∃ e,P.underlying t2=some (.slice e))\/P.underlying t2=some .string){i:Nat}{q:RwE}{r:Rw}(hok:RwOk M E w i q r){pu:Nat}{ns:List Nat}(hel:∀ {vs:Array Value},CsOk M E w r.pu r.ns 5 i 0 vs (zc0 r.xs)->∀ (j:Nat) (u:AV),(zc0 r.xs)[j]?=some u->∃ v,vs[j]?=some v/\eR M E pu ns v u)
  {off n c:Nat}{ad:Option Addr}(hon:off+n<=r.xs.length)(hc:off+c=q.c)(hav:c≠0->ad=viewA q off)(hnc:n<=c):SrcOk P M E w t2 (.slice ad n c) r.sz pu ns ((r.xs.drop off).take n):=by
 have hlen:((r.xs.drop off).take n).length=n:=by simp; omega
 have hes:∀ y∈(r.xs.drop off).take n,y.cells.length=r.sz:=fun y hy=>hok.es y (xdb (xb6 hy));have hfl:zc0 ((r.xs.drop off).take n)=((zc0 r.xs).drop (off*r.sz)).take (n*r.sz):=by
  rw [zjj n (fun y hy=>hok.es y (xdb hy)),flat_drop off hok.es]
 have hfx:=zex hok.es;have hle:(off+n)*r.sz<=r.xs.length*r.sz:=xa6 _ hon;rw [xcj] at hle;by_cases hc0:c=0
 ·have hn0:n=0:=by omega
  have hnil:(r.xs.drop off).take n=[]:=by rw [hn0]; simp
  refine ⟨[],?_,hes,fun j u hu=>by rw [hnil] at hu; simp [zc0] at hu⟩;rw [hnil];have:(([]:List AV).length)=n:=by rw [hn0]; rfl
  rw [this];exact srcV_slice ht (by simp [hn0]) (by simp) (fun h=>absurd (by rw [hn0,xei]) h)
 ·rcases hok.blk with hb | ⟨blk,vs,g1,g2,g3,g4,g5⟩
  ·omega
  have hnl:((vs.toList.drop (off*r.sz)).take (n*r.sz)).length=n*r.sz:=by
   have hn:=hok.n;have h1:(off+n)*r.sz<=vs.size:=by rw [g4,hok.sz]; exact xa6 _ (by have:=hok.nc; omega)
   rw [xcj] at h1;simp only [xar,xa8,xbv];omega
  have hget:∀ j,j<n*r.sz->((vs.toList.drop (off*r.sz)).take (n*r.sz))[j]?=vs[off*r.sz+j]?:=fun j hj=>by
   rw [xau,xad hj,xbb]; simp
  have hel:=hel g5;have key:∀ (j:Nat) (u:AV),(zc0 ((r.xs.drop off).take n))[j]?=some u->∃ v,((vs.toList.drop (off*r.sz)).take (n*r.sz))[j]?=some v/\eR M E pu ns v u:=fun j u hu=>by
   rw [hfl,xau] at hu;split at hu
   ·rename_i hj;rw [xbb] at hu;obtain ⟨v,hv,hr⟩:=hel _ u hu;exact ⟨v,by rw [hget j hj]; exact hv,hr⟩
   ·cases hu
  refine ⟨(vs.toList.drop (off*r.sz)).take (n*r.sz),?_,hes,key⟩;rw [hlen];refine srcV_slice ht hnl (fun u hu=>?_) (fun _=>⟨blk,off*r.sz,by rw [hav hc0,viewA_at g1 hc hc0,hok.sz],fun j v hv=>?_⟩)
  ·obtain ⟨j,hj⟩:=xcc hu;have hjl:j<n*r.sz:=by have:=(xac.1 hj).1; omega
   have:(zc0 ((r.xs.drop off).take n)).length=n*r.sz:=by rw [zex hes,hlen]
   obtain ⟨v,hv,hr⟩:=key j _ (xag (by omega));rw [hj] at hv; cases hv;exact hr.one
  ·have hjl:j<n*r.sz:=by have:=(xac.1 hv).1; omega
   rw [hget j hjl] at hv;rw [xcz w blk _ vs r.ty (0,0) g3]; exact hv
theorem src_ok (hs:St g N M E s tmps w)(ht:(∃ e,P.underlying t2=some (.slice e))\/P.underlying t2=some .string){sz pu:Nat}{u8:Bool}{ns:List Nat}{x:AV}{v:Value}{ys:List AV}{gs:List Prop}{ks:List Key}(hu8:u8=true->sz=1)
  (h:srcAny s sz u8 pu ns x=some (ys,gs,ks))(hg:AllP gs)(hx:Rel M E v x):SrcOk P M E w t2 v sz pu ns ys:=by
 unfold srcAny at h;split at h
 ·rename_i r0 h0;cases h;unfold srcOf at h0;split at h0
  ·rename_i z ys';split at h0
   ·rename_i hz;have hz:=zbc hz;subst hz;cases h0;obtain ⟨hP,_⟩:=hx.sl_inv;cases hP with
    | sl a n c sz _ f hn hc hb hzz ha hf=>
     refine ⟨newsOf f (zc0 ys).length,?_,hzz,fun j u hu=>⟨f j,newsOf_get (xac.1 hu).1,eR.of_pure (hf j u hu)⟩⟩;rw [hn];refine srcV_slice ht (by rw [newsOf_len,zex hzz,hn]) (fun u hu=>?_) (fun hne=>?_)
     ·obtain ⟨j,hj⟩:=xcc hu;obtain ⟨hj',rfl⟩:=newsOf_get' hj;exact (hf j _ (xag hj')).one.1
     ·have hxs:ys≠[]:=by rintro rfl; simp at hn; subst hn; simp at hne
      obtain ⟨blk,off,e,hM⟩:=ha hxs;refine ⟨blk,off,e,fun j v hv=>?_⟩;obtain ⟨hj',rfl⟩:=newsOf_get' hv;exact (hs.mem _ _ _ (hM j hj')).1
   ·cases h0
  ·cases h0;have:=hx.nils_inv;subst this;exact ⟨[],srcV_slice ht (by simp) (by simp) (fun h=>absurd (by simp) h),by simp,fun j u hu=>by simp [zc0] at hu⟩
  ·rename_i l;split at h0
   ·cases h0;have:=hx.str_inv;subst this;have hsz:=hu8 rfl;subst hsz;refine ⟨l.map fun b=>.int .u8 (b.toNat:Int),?_,fun y hy=>?_,fun j u hu=>?_⟩
    ·have:(u8s l).length=l.length:=by simp [u8s]
     rw [this]; exact srcV_str ht l
    ·simp only [u8s,xb1] at hy;obtain ⟨b,_,rfl⟩:=hy;rfl
    ·rw [u8s_flat] at hu;simp only [u8s,xbf,xay] at hu;obtain ⟨b,hb,rfl⟩:=hu;exact ⟨.int .u8 (b.toNat:Int),by simp [hb],eR.of_pure (.int _ _)⟩
   ·cases h0
  ·rename_i j vr;split at h0
   ·rename_i r hr;split at h0
    ·rename_i hp;split at h0
     ·rename_i hz;have hz:=zbc hz;cases h0;obtain ⟨q,he,hq,hok⟩:=zn7 hs hx hr;subst he;have:=src_part (P:=P) (t2:=t2) (pu:=pu) (ns:=ns) ht hok (fun hcs j u hu=>let ⟨v,hv,hrel⟩:=cs_pure hcs hp j u hu; ⟨v,hv,eR.of_pure hrel⟩) (off:=0) (n:=r.xs.length) (c:=q.c) (ad:=q.a) (by omega) (by omega) (fun _=>by simp [viewA]) (by have:=hok.n; have:=hok.nc; omega);rw [xce,xco] at this;rw [hok.n,<- hz];exact this
     ·cases h0
    ·cases h0
   ·cases h0
  ·rename_i j vr off n;split at h0
   ·rename_i r hr;split at h0
    ·rename_i hp;split at h0
     ·rename_i hz;have hz:=zbc hz;cases h0;obtain ⟨q,c,ad,he,hq,hok,hc1,hc2,_,hav⟩:=rowv_cur hs hx hr;subst he;rw [<- hz];exact src_part ht hok (fun hcs j u hu=>let ⟨v,hv,hrel⟩:=cs_pure hcs hp j u hu; ⟨v,hv,eR.of_pure hrel⟩) hg.1 hc1 hav hc2
     ·cases h0
    ·cases h0
   ·cases h0
  ·cases h0
 ·split at h
  ·cases h
  ·rename_i pu';split at h
   ·rename_i h3;have h3:=xap h3;unfold srcX at h;split at h
    ·rename_i j vr;split at h
     ·rename_i r hr;split at h
      ·cases h
      ·split at h
       ·rename_i hel;split at h
        ·rename_i hz;have hz:=zbc hz;cases h;obtain ⟨q,he,hq,hok⟩:=zn7 hs hx hr;subst he;have:=src_part (P:=P) (t2:=t2) (pu:=pu'+1) (ns:=ns) ht hok (fun hcs j u hu=>by
          obtain ⟨v,hv,hrel⟩:=hcs j u hu;have hc:u.isCell=true:=xcl.1 (zd4 (zg2 hel)) u (xbk (by rw [zox]; exact hu));have hrel:RelS M E v u:=hrel.cell hc;obtain ⟨n,rfl⟩:∃ n,pu'=n+2:=⟨pu' - 2,by omega⟩;exact ⟨v,hv,hrel⟩) (off:=0) (n:=r.xs.length) (c:=q.c) (ad:=q.a) (by omega) (by omega) (fun _=>by simp [viewA]) (by have:=hok.n; have:=hok.nc; omega)
         rw [xce,xco] at this;rw [hok.n,<- hz];exact this
        ·cases h
       ·cases h
     ·cases h
    ·cases h
   rename_i h3f;have h3f:¬ 3<=pu'+1:=fun h=>by rw [xd7 h] at h3f; cases h3f
   unfold srcA at h;split at h
   ·rename_i j vr;split at h
    ·rename_i r hr;split at h
     ·rename_i hp;split at h
      ·rename_i hns;split at h
       ·rename_i hz;have hz:=zbc hz;cases h;obtain ⟨q,he,hq,hok⟩:=zn7 hs hx hr;subst he;have hle:(E.arO r.ns).le (E.arO ns):=by
         refine ⟨fun i b e=>(by cases e),fun i q e=>(by cases e),fun i r e=>(by cases e),fun i bs e=>⟨[],?_⟩⟩;simp only [Env.arO,xbh] at e ⊢;split at e
         ·rename_i hm;rw [xad (allN_get hns (memN_in hm))]; exact e
         ·cases e
        have:=src_part (P:=P) (t2:=t2) (pu:=pu'+1) (ns:=ns) ht hok (fun hcs j u hu=>by
         obtain ⟨v,hv,hrel⟩:=hcs j u hu;rw [hp] at hrel;have hrel:RelS M (E.arO r.ns) v u:=hrel;refine ⟨v,hv,?_⟩
         match pu',h3f with
         | 0,_=>exact hrel.monoE hle
         | 1,_=>exact (hrel.monoE hle:RelS M (E.arO ns) v u)
         | n+2,h=>exact absurd (by omega) h) (off:=0) (n:=r.xs.length) (c:=q.c) (ad:=q.a) (by omega) (by omega) (fun _=>by simp [viewA]) (by have:=hok.n; have:=hok.nc; omega)
        rw [xce,xco] at this;rw [hok.n,<- hz];exact this
       ·cases h
      ·cases h
     ·cases h
    ·cases h
   ·rename_i j vr off n;split at h
    ·rename_i r hr;split at h
     ·rename_i hp;split at h
      ·rename_i hns;split at h
       ·rename_i hz;have hz:=zbc hz;cases h;obtain ⟨q,c,ad,he,hq,hok,hc1,hc2,_,hav⟩:=rowv_cur hs hx hr;subst he;have hle:(E.arO r.ns).le (E.arO ns):=by
         refine ⟨fun i b e=>(by cases e),fun i q e=>(by cases e),fun i r e=>(by cases e),fun i bs e=>⟨[],?_⟩⟩;simp only [Env.arO,xbh] at e ⊢;split at e
         ·rename_i hm;rw [xad (allN_get hns (memN_in hm))]; exact e
         ·cases e
        rw [<- hz];exact src_part ht hok (fun hcs j u hu=>by
         obtain ⟨v,hv,hrel⟩:=hcs j u hu;rw [hp] at hrel;have hrel:RelS M (E.arO r.ns) v u:=hrel;refine ⟨v,hv,?_⟩
         match pu',h3f with
         | 0,_=>exact hrel.monoE hle
         | 1,_=>exact (hrel.monoE hle:RelS M (E.arO ns) v u)
         | n+2,h=>exact absurd (by omega) h) hg.1 hc1 hav hc2
       ·cases h
      ·cases h
     ·cases h
    ·cases h
   ·cases h
end
theorem Sound.appendTo (hτ:zgl C.P τ){o:Oper}{an:List An}{c:Call}{x y:Operand}{t t2:TypeId}(ho:o.op = .call c)(hc:c.callee = .builtin .append)(hargs:c.args.toList=[x,y])(htys:c.argTypes.toList=[t,t2])(hd:∀ d,o.dst=some d->d<C.N)
  {e:TypeId}{ie:TI}{szt bt:Nat}{zt:List AV}{czt:List Nat}(ht:τ t=some ⟨.slice e,szt,bt,zt,czt⟩)(hie:τ e=some ie)(ht2:(∃ e,C.P.underlying t2=some (.slice e))\/C.P.underlying t2=some .string){i:Nat}{r:Rw}(hrt:r.ty=e)(hrs:r.sz=ie.sz)
  {full:Bool}{n0:Nat}{x2:AV}(hy:Has C s y x2){rd:List Key}(hdeep:r.pu<=1\/full=true)
  (hst:∀ (a:Act) (w:World) (M:Mem) (E:Env),St C.g C.N M E s a.tmps w->∃ E1 s1 q,E.up E1/\St C.g C.N M E1 s1 a.tmps w/\(∀ r',({ s with rw:=(i,r')::s.rw }:S)={ s with rw:=(i,r')::s.rw })/\zan s1.rw i=some r/\E1.rw i=some q/\
   a.eval x = .slice q.a (bif full then r.xs.length else n0) q.c/\∀ r' M' E' w',St C.g C.N M' E' { s1 with rw:=(i,r')::s1.rw } a.tmps w'->St C.g C.N M' E' { s with rw:=(i,r')::s.rw } a.tmps w') :
  Sound C o s (Dm.appendTo s an ie.bytes i r full n0 (isU8 τ e) x2 rd):=by
 unfold Dm.appendTo;split
 ·rename_i ys gs ks hsrc;split
  ·rename_i zs an';split
   ·rename_i hb1;split
    ·rename_i hs1;intro res hres hg _;cases hres;obtain ⟨hzs,hbytes,hg2⟩:=hg;have hg2:AllP ((bif full then [] else [n0<=r.xs.length/\r.k<=n0])++gs):=hg2;obtain ⟨hg3,hg4⟩:=zn1.1 hg2;refine znw rfl hd fun a w M E hs=>?_;obtain ⟨E1,s1,q,hle,hst1,_,hr1,hq1,hev,hback⟩:=hst a w M E hs;have hu8:isU8 τ e=true->r.sz=1:=fun h=>by
      unfold isU8 at h;split at h
      ·rename_i sz2 by2 z2 cz2 h2;rw [hie] at h2; cases h2;rw [hrs]; exact (hτ _ _ hie).one rfl
      ·cases h
     obtain ⟨news,hsv,hsz2,hrel2⟩:=src_ok (P:=C.P) (t2:=t2) hs ht2 hu8 hsrc hg4 (hy a w M E hs);obtain ⟨inf,z,hi,hsize,hby,hz,hzz⟩:=(hτ _ _ hie).info;have hzl:z.cells.size=r.sz:=by
      have:=congrArg List.length hzz;simp only [xbv,xa5] at this;rw [this,(hτ _ _ hie).len,hrs]
     obtain ⟨q',hq',hok⟩:=hst1.rw i r hr1;rw [hq1] at hq'; cases hq';have hzl2:zs.length=(bif full then r.xs.length else n0)+ys.length:=by
      rw [hzs,xaa];cases full with
      | true=>rfl
      | false=>
       have h3:n0<=r.xs.length/\r.k<=n0:=hg3.1;simp only [cond_false,xar]; omega
     have hbytes':zs.length*ie.bytes<=140737488351232:=hbytes;have hb1':1<=ie.bytes:=xap hb1;have hzb:zs.length<=zs.length*ie.bytes:=xde _ hb1';subst hrt;obtain ⟨v',w',E',hrun,hle',hrel',hst'⟩:=hst1.appendRow (P:=C.P) (t:=t) (t2:=t2) (ty:=o.type) hr1 hq1 (hτ _ _ ht).kind hi hz (by rw [hsize,hrs]) hzl (xap hs1)
      (n0:=bif full then r.xs.length else n0) (m:=ys.length)
      (by
        cases full with
        | true=>exact xaf _
        | false=>exact hg3.1.1)
      (by
        cases full with
        | true=>exact hok.k
        | false=>exact hg3.1.2)
      (by
        rcases hdeep with h | h
        ·exact .inl h
        ·subst h; exact .inr rfl)
      (x:=a.eval y) (nx:=ys) (news:=news) hsv rfl hsz2 (fun j u hu=>by
       obtain ⟨v,hv,hr⟩:=hrel2 j u hu;refine ⟨v,hv,?_⟩;exact hr.mono hle.le)
      (cm':=bif full then r.cm else r.xs.length) (nl':=bif full then r.nl else false)
      (by
        cases full with
        | true=>exact .inr (xaf _)
        | false=>exact .inl (xaf _))
      (fun h=>by cases full with
        | true=>exact ⟨h,rfl⟩
        | false=>cases h)
      (by unfold maxLen; omega) (by rw [<- hzl2,hby]; omega)
     refine ⟨v',w',M,E',?_,?_,.cell hrel',Env.up_trans hle hle'⟩
     ·refine zdp ho hc a.eval w w' ?_;have e1:c.args.map a.eval=#[a.eval x,a.eval y]:=by
       have:c.args=#[x,y]:=by apply Array.ext'; simpa using hargs
       rw [this]; simp
      have e2:c.argTypes=#[t,t2]:=by apply Array.ext'; simpa using htys
      rw [e1,e2];rw [<- hev] at hrun;simp [builtin,hrun]
     ·have:=hback _ M E' w' hst';have hzs':zs=r.xs.take (bif full then r.xs.length else n0)++ys:=by
       rw [hzs];cases full with
       | true=>simp
       | false=>rfl
      rw [<- hzs'] at this;exact this
    ·exact .nil
   ·exact .nil
  ·exact .nil
 ·exact .nil
end Go.Dm
namespace Go.Dm
open Go Go.RowKit
variable {C:Cx}{k:List It}{s:S}{τ:zbn}
theorem Sound.append (hτ:zgl C.P τ){o:Oper}{an:List An}{c:Call}{x y:Operand}{t t2:TypeId}(ho:o.op = .call c)(hc:c.callee = .builtin .append)(hargs:c.args.toList=[x,y])(htys:c.argTypes.toList=[t,t2])(hd:∀ d,o.dst=some d->d<C.N)
  {x1 x2:AV}(hx:Has C s x x1)(hy:Has C s y x2):Sound C o s (zk0 τ s an o.dst t t2 x1 x2):=by
 unfold zk0;split
 ·rename_i e szt bt zt czt ht;split
  ·rename_i ie hie;split
   ·rename_i h2;have ht2:(∃ e,C.P.underlying t2=some (.slice e))\/C.P.underlying t2=some .string:=by
     simp only [xa0] at h2
     rcases h2 with h | h
     ·exact .inr (isStrT_sound hτ h)
     ·exact .inl (isSlT_sound hτ h)
    split
    ·rename_i i vr;split
     ·rename_i r hr;split
      ·rename_i h3;split
       ·rename_i h4;refine .appendTo hτ ho hc hargs htys hd ht hie ht2 (zbc h3) (zbc h4) hy (.inr rfl) fun a w M E hs=>?_;obtain ⟨q,he,hq,hok⟩:=zn7 hs (hx a w M E hs) hr;exact ⟨E,s,q,Env.up_refl E,hs,fun _=>rfl,(zd0 hr).1,hq,by rw [he,hok.n]; rfl,fun _ _ _ _ h=>h⟩
       ·exact .nil
      ·exact .nil
     ·exact .nil
    ·rename_i i vr n;split
     ·rename_i r hr;split
      ·rename_i h3;split
       ·rename_i h4;split
        ·rename_i hp;refine .appendTo hτ ho hc hargs htys hd ht hie ht2 (zbc h3) (zbc h4) hy (.inl (xap hp)) fun a w M E hs=>?_;obtain ⟨q,c',ad,he,hq,hok,hc1,hc2,haz,_⟩:=rowv_cur hs (hx a w M E hs) hr;exact ⟨E,s,q,Env.up_refl E,hs,fun _=>rfl,(zd0 hr).1,hq,by rw [he,haz rfl]; rw [xbr] at hc1; rw [hc1]; rfl,fun _ _ _ _ h=>h⟩
        ·exact .nil
       ·exact .nil
      ·exact .nil
     ·exact .nil
    ·split
     ·rename_i i hi;split
      ·rename_i hn;split
       case h_2=>exact .nil
       rename_i hB;have hB:i<nB:=by simpa [xcx] using hB
       refine .appendTo hτ ho hc hargs htys hd ht hie ht2 rfl rfl hy (.inl (xbm _)) fun a w M E hs=>?_;obtain ⟨E',hle,hq,hst⟩:=hs.row0 hn hB none e ie.sz true 0 [] (fun _=>rfl);refine ⟨E',_,_,hle,hst,fun _=>rfl,by simp only [zai,xc1],hq,by rw [(hx a w M E hs).nils_inv]; rfl,fun r' M' E2 w' h=>?_⟩;refine h.weak (fun j y hj=>⟨y,hj,fun v hv=>hv⟩) (fun j cs hj=>⟨j,cs,hj,fun b h=>h,fun b h=>h,rfl,fun m c c' v h1 h2 hv=>by rw [h1] at h2; cases h2; exact hv⟩) h.bxn
        (fun j r2 hj=>?_) (fun j hj=>?_) (fun j es hj=>⟨j,es,hj,fun b h=>h,fun b h=>h,rfl,fun m c c' h1 h2=>by rw [h1] at h2; cases h2; exact ⟨rfl,fun v hv=>hv⟩⟩) h.mpn
        (fun j r2 hj=>⟨hj,rfl,fun b p h=>h,fun b p h=>h,(Env.le_refl _),fun _ _ _ h=>h⟩) h.arn (fun b o' ho'=>⟨o',ho',fun m hm=>?_⟩)
       ·have:zan ((i,r')::(i,(⟨e,ie.sz,0,0,0,true,0,[],[]⟩:Rw))::s.rw) j=some r2:=by
         simp only [zai] at hj ⊢;split at hj
         ·rename_i e; rw [xad e]; exact hj
         ·rename_i e; rw [xab e,xab e]; exact hj
        refine ⟨j,r2,this,fun q hq=>?_,fun b h=>h,fun b p h=>h,rfl,rfl,.inl rfl,rfl,rfl,rfl,xaf _,fun h=>h,fun _=>Env.le_refl _⟩;obtain ⟨q',hq',hok⟩:=h.rw j r2 this;rw [hq] at hq'; cases hq';rw [<- hok.ver]; exact hq
       ·refine h.rwn j ?_;simp only [zai] at hj ⊢;split at hj
        ·cases hj
        ·rename_i e; rw [xab e,xab e]; exact hj
       ·obtain ⟨kd,j,p⟩:=o';have:zan ((i,r')::(i,(⟨e,ie.sz,0,0,0,true,0,[],[]⟩:Rw))::s.rw) j=zan ((i,r')::s.rw) j:=by
         simp only [zai];split
         ·rfl
         ·rfl
        simp only [zcs,this] at hm ⊢;exact hm
      ·exact .nil
     ·exact .nil
    ·exact .nil
   ·exact .nil
  ·exact .nil
 ·exact .nil
theorem sizesOk_get {sz:Nat}:∀ {l:List AV},sizesOk sz l=true->∀ x∈l,x.cells.length=sz
 | y::l,h,x,hx=>by
  simp only [sizesOk] at h;split at h
  ·rename_i hy
   rcases xaq.1 hx with rfl | hx
   ·exact zbc hy
   ·exact sizesOk_get h x hx
  ·cases h
theorem litParts_ok:∀ {l:List (Nat×Operand)} {k:Nat} {ops:List Operand},zj6 k l=some ops->l=(ops.zipIdx k).map fun p=>(p.2,p.1)
 | [],k,ops,h=>by simp only [zj6] at h; cases h; rfl
 | (i,x)::l,k,ops,h=>by
  simp only [zj6] at h;split at h
  ·rename_i hi;split at h
   ·rename_i r hr;cases h;rw [xdr,xa9,<- litParts_ok hr,zbc hi]
   ·cases h
  ·cases h
theorem normE_rel {M:Mem}{E:Env}{e:TypeId}:∀ {xs:List AV} {vs:List Value},RelL M E vs xs->RelL M E vs (normE τ e xs)
 | [],vs,h=>h
 | x::xs,[],h=>absurd h.1 (by simp)
 | x::xs,v::vs,h=>by
  have ih:=normE_rel (e:=e) (xs:=xs) (vs:=vs) ⟨by simpa using h.1,fun j u c hu hc=>h.2 (j+1) u c (by simpa using hu) (by simpa using hc)⟩;refine ⟨by simp [normE,ih.1],fun j u c hu hc=>?_⟩;cases j with
  | zero=>simp [normE] at hu hc; subst hu; subst hc; exact norm_rel (h.2 0 v x rfl rfl)
  | succ j=>simp only [normE,xbe] at hu hc; exact ih.2 j u c hu hc
theorem fold_set:∀ (l:List Value) (c:List Value) (o k:Nat),o+k+l.length<=c.length->
  ((l.zipIdx k).foldl (fun (cs:Array Value) (p:Value×Nat)=>cs.setIfInBounds (o+p.2) p.1) c.toArray)=(c.take (o+k)++l++c.drop (o+k+l.length)).toArray:=by
 intro l
 induction l with
 | nil=>intro c o k _; simp
 | cons y l ih=>
  intro c o k hb;simp only [xdr,xef];have:(c.toArray.setIfInBounds (o+k) y)=(c.set (o+k) y).toArray:=by simp
  rw [this,ih (c.set (o+k) y) o (k+1) (by simp at hb ⊢; omega)];congr 1;simp only [xal] at hb ⊢;apply xbz;intro j;simp only [xaj,xb7,xau,xbb,xcr,xar,xcn,xd0]
  grind
theorem fill_lit {sz:Nat}:∀ (vs:List Value) (k:Nat) (pre suf:List Value),pre.length=k*sz->(∀ v∈vs,v.cells.size=sz)->suf.length=vs.length*sz->
  Instr.fill (fun i=>some (i*sz,sz)) (pre++suf).toArray ((vs.zipIdx k).map fun p=>(p.2,p.1))=some (pre++vs.flatMap fun v=>v.cells.toList).toArray
 | [],k,pre,suf,hp,_,hs=>by
  have:suf=[]:=xai (by simpa using hs);subst this;simp [Instr.fill]
 | v::vs,k,pre,suf,hp,hv,hs=>by
  have hvs:=hv v (by simp);simp only [xdr,xa9,Instr.fill];rw [xal,xdw] at hs;have hcnd:¬ ((decide (v.cells.size≠sz)||decide (k*sz+v.cells.size > (pre++suf).toArray.size))=true):=by
   simp only [xa0,xav,xaz,xaa];omega
  rw [xab hcnd];have hfold:(Array.foldl (fun cs (x:Value×Nat)=>cs.setIfInBounds (k*sz+x.2) x.1) (pre++suf).toArray v.cells.zipIdx)=((pre++v.cells.toList)++suf.drop sz).toArray:=by
   rw [<- xem];have:=fold_set v.cells.toList (pre++suf) (k*sz) 0 (by simp; omega);have e1:v.cells.toList.length=sz:=by simpa using hvs
   rw [e1,xcu,<- hp,xd4,List.drop_length_add_append] at this;have e2:v.cells.zipIdx.toList=v.cells.toList.zipIdx:=by simp
   rw [e2,<- hp];exact this
  rw [hfold,fill_lit vs (k+1) (pre++v.cells.toList) (suf.drop sz) (by rw [xaa,xdw,hp]; simp [hvs]) (fun u hu=>hv u (by simp [hu])) (by rw [xa8]; omega)];simp
theorem lit_cells {M:Mem}{E:Env}{sz:Nat}:∀ {ws:List AV} {vs:List Value},RelL M E vs ws->zat (zgo ws)=true->(∀ x∈ws,x.cells.length=sz)->
  (∀ v∈vs,v.cells.size=sz)/\AllR (RelS M E) (vs.flatMap fun v=>v.cells.toList) (zc0 ws)
 | [],[],h,_,_=>⟨by simp,by simp [zc0],by simp [zc0]⟩
 | [],v::vs,h,_,_=>absurd h.1 (by simp)
 | x::ws,[],h,_,_=>absurd h.1 (by simp)
 | x::ws,v::vs,h,hc,hz=>by
  have hsplit:∀ a b:List AV,zat (a++b)=true->zat a=true/\zat b=true:=by
   intro a b
   induction a with
   | nil=>intro h; exact ⟨rfl,h⟩
   | cons y a ih=>
    intro h;simp only [xbn,zat] at h ⊢;split at h
    ·exact ih h
    ·cases h
  obtain ⟨hc1,hc2⟩:=hsplit _ _ hc;obtain ⟨h1,h2⟩:=lit_cells (ws:=ws) (vs:=vs) (sz:=sz) ⟨by simpa using h.1,fun j u c hu hcc=>h.2 (j+1) u c (by simpa using hu) (by simpa using hcc)⟩ hc2 (fun y hy=>hz y (by simp [hy]));have h0:=(h.2 0 v x rfl rfl).allR (zd4 hc1);have hx:=hz x (by simp);refine ⟨fun u hu=>?_,?_⟩
  ·rcases xaq.1 hu with rfl | hu
   ·have:=h0.1; simp at this; omega
   ·exact h1 u hu
  ·rw [List.flatMap_cons,ze6];refine ⟨by simp only [xaa]; rw [h0.1,h2.1],fun j u c hu hcc=>?_⟩;rw [xb7] at hu hcc;rw [h0.1] at hu;split at hu
   ·rename_i hj; rw [xad hj] at hcc; exact h0.2 j u c hu hcc
   ·rename_i hj; rw [xab hj] at hcc; exact h2.2 _ u c hu hcc
theorem sealB_ok {g:Gh}{N:Nat}{M:Mem}{E:Env}{tmps:Array Value}{w:World}{vs:List Value}{e:TypeId}{an:List An}{xs ys:List AV}{ef:List (Nat×Rw)}(h:sealB τ e an s xs=some (ys,ef))(hs:St g N M E s tmps w)(hx:RelL M E vs xs) :
  ∃ M',(∀ b j v,M b j=some v->M' b j=some v)/\St g N M' E { s with rw:=ef++s.rw } tmps w/\RelL M' E vs ys/\likeRows s { s with rw:=ef++s.rw }:=by
 unfold sealB at h;split at h
 ·cases h; exact ⟨M,fun _ _ _ h=>h,hs,hx,likeRows.refl hs⟩
 ·exact sealAL_ok (likeRows.refl hs) h hs (normE_rel hx)
theorem Sound.buildSlice (hτ:zgl C.P τ){o:Oper}{an:List An}{t:TypeId}{len:Nat}{parts:Array (Nat×Operand)}(ho:o.op = .buildSlice t len parts)(hd:∀ d,o.dst=some d->d<C.N)(hw:∀ p∈parts.toList,Done s p.2) :
  Sound C o s (zf1 τ s an o.dst t len parts.toList):=by
 unfold zf1;split
 ·rename_i e szt bt zt czt ht;split
  ·rename_i ie hie;split
   ·rename_i ops hops;split
    ·rename_i hlen;split
     ·rename_i hbig;split
      ·rename_i vs hvs;split
       ·rename_i ws ef hse;split
        ·rename_i hsz;split
         ·rename_i hsh;have hlen:=zbc hlen;obtain ⟨hbig,hlb⟩:=xa2.1 hbig;have hbig:=xap hbig;have hlb:=xap hlb;have hes:=sizesOk_get hsz;have hparts:=litParts_ok hops;have hun:=(hτ _ _ ht).kind;obtain ⟨inf,z,hi,hsize,hby,hz,hzz⟩:=(hτ _ _ hie).info;have hzl:z.cells.size=ie.sz:=by
           have:=congrArg List.length hzz;simp only [xbv,xa5] at this;rw [this,(hτ _ _ hie).len]
          have hwo:∀ x∈ops,Done s x:=fun x hx=>by
           obtain ⟨j,hj⟩:=xcc hx;have:(j,x)∈parts.toList:=by
            rw [hparts,xb1];exact ⟨(x,j),by rw [List.mem_zipIdx_iff_getElem?]; exact hj,rfl⟩
           exact hw _ this
          have main:zat (zgo ws)=true->∀ (a:Act) (w:World) (M:Mem) (E:Env),St C.g C.N M E s a.tmps w->∃ M',(∀ b j v,M b j=some v->M' b j=some v)/\St C.g C.N M' E { s with rw:=ef++s.rw } a.tmps w/\
            ∃ cs:List Value,AllR (RelS M' E) cs (zc0 ws)/\ws.length=len/\(execOp a.eval o).run C.P w = .ok (.value (.slice (some ⟨w.heap.size,0,none⟩) len len)) (w.alloc (.cells cs.toArray e)):=by
           intro hcell a w M E hs;have hr0:=zl7 hvs hwo hs;obtain ⟨M',hM,hs',hr1,_⟩:=sealB_ok hse hs hr0;obtain ⟨hvz,hall⟩:=lit_cells hr1 hcell hes;have hwl:ws.length=len:=by rw [<- hr1.1,xa5,hlen]
           refine ⟨M',hM,hs',_,hall,hwl,?_⟩;have hp:(parts.map fun p=>(p.1,a.eval p.2)).toList=((ops.map a.eval).zipIdx 0).map fun p=>(p.2,p.1):=by
            rw [xc0,hparts,List.zipIdx_map];simp [Function.comp_def]
           have hfl:=fill_lit (sz:=ie.sz) (ops.map a.eval) 0 [] (((Array.range (len*ie.sz)).map (fun x=>z.cells[x % z.cells.size]!)).toList) (by simp) hvz (by simp [hlen]);simp only [xbt,xec] at hfl;by_cases h0:len*ie.sz=0
           ·have hr:(Array.range (len*ie.sz)).map (fun x=>z.cells[x % z.cells.size]!)=#[]:=by rw [h0]; simp
            rw [hr] at hfl;simp only [execOp,ho,Instr.buildSlice,xao,xah hun,xae,(hτ _ _ hie).sizeOf,xab (show ¬ (len*ie.sz > 2 ^ 24) by omega),xad h0,xat];have hr2:(Array.range (len*ie.sz)).map (fun x=>(#[]:Array Value)[x % (#[]:Array Value).size]!)=#[]:=by rw [h0]; simp
            simp only [hr2,hp,hfl,newRow];simp
           ·simp only [execOp,ho,Instr.buildSlice,xao,xah hun,xae,(hτ _ _ hie).sizeOf,xab (show ¬ (len*ie.sz > 2 ^ 24) by omega),xab h0,zeroValue,typeInfo,hi,hz,xat,hp,hfl,newRow];simp [hi,hz];rw [hfl];simp
          have hlm:len<=maxLen:=by unfold maxLen; omega
          have hflen:=zex hes;have named:∀ (i:Nat),o.dst=some i->zan s.rw i=none->(zam ef i||Nat.ble nB i)=false->∀ (pu:Nat) (ns:List Nat),zfj pu ns (zgo ws)=true->
            Does C o s ((⟨some (.row i 0),[],(i,⟨e,ie.sz,0,0,0,match ws with | []=>false | _::_=>true,pu,ns,ws⟩)::ef,[],[]⟩:Eff).app o.dst s):=by
           intro i hi' hn hk pu ns hel;obtain ⟨hk,hB⟩:=xcd.1 hk;have hB:i<nB:=by
            rcases Nat.lt_or_ge i nB with h | h
            ·exact h
            ·rw [xd7 h] at hB; cases hB
           refine znw rfl hd fun a w M E hs=>?_;obtain ⟨M',hM,hs',cs,hall,hwl,hrun⟩:=main (zg2 hel) a w M E hs;have hn':zan (ef++s.rw) i=none:=by
            rw [zdn];cases hh:zan ef i with
            | none=>exact hn
            | some r'=>rw [zdj hh] at hk; cases hk
           have hcl:cs.length=len*ie.sz:=by rw [hall.1,hflen,hwl]
           obtain ⟨E',hle,hq,hst⟩:=hs'.rowNew (i:=i) (vr:=0) (.inl ⟨hn',hB⟩) (w1:=w) (Grow.refl w _) (vs:=cs.toArray) (e:=e) (sz:=ie.sz) (n:=len) (c:=len) (k:=0) (cm:=0) (nl:=match ws with | []=>false | _::_=>true) (pu:=pu) (ns:=ns) (xs:=ws)
            (xbm _) hwl.symm (xaf _) hlm hes (xbm _) (fun h=>by cases ws with
             | nil=>cases h
             | cons _ _=>simp) (by simpa using hcl) (fun p=>by simp [zcs,hn'])
            (fun j u hu=>by
             have hj:=(xac.1 hu).1;obtain ⟨cj,hv⟩:∃ cj,cs[j]?=some cj:=⟨_,xag (by rw [hall.1]; exact hj)⟩;refine ⟨_,by simpa using hv,?_⟩;exact (zm3 (zhr hel (by rw [zox]; exact hu)) (hall.2 j _ u hv hu)).c w _ _ _)
           exact ⟨_,_,M',E',hrun,hst,.cell (.row i 0 _ _ _ _ hq (xaf _) fun _=>⟨rfl,rfl,rfl⟩),hle⟩
          split
          ·rename_i an';split
           ·rename_i hel;intro res hres _ _;cases hres;refine znw rfl hd fun a w M E hs=>?_;obtain ⟨M',hM,hs',cs,hall,hwl,hrun⟩:=main (zg2 hel) a w M E hs;obtain ⟨M2,hM2,hs2,hr2⟩:=hs'.newSealed (w1:=w) (Grow.refl w _) (vs:=cs.toArray) (e:=e) (fr:=(0,0)) (sz:=ie.sz) (n:=len) (c:=len) (xs:=ws) hwl (xaf _) hlm hes (fun j u hu=>by
             have hj:=(xac.1 hu).1;obtain ⟨cj,hv⟩:∃ cj,cs[j]?=some cj:=⟨_,xag (by rw [hall.1]; exact hj)⟩;exact ⟨_,by simpa using hv,zm3 (pu:=0) (ns:=[]) (zhr hel (by rw [zox]; exact hu)) (hall.2 j _ u hv hu)⟩)
            exact ⟨_,_,M2,E,hrun,hs2,.cell (.pure hr2),Env.up_refl E⟩
           ·exact .nil
          ·split
           ·rename_i i hi';split
            ·rename_i hn;split
             ·exact .nil
             ·rename_i hk;split
              ·rename_i hel;intro res hres _ _;cases hres;exact named i hi' hn hk 3 [] hel
              ·exact .nil
            ·exact .nil
           ·exact .nil
          ·split
           ·rename_i i hi';split
            ·rename_i hn;split
             ·exact .nil
             ·rename_i hk;split
              ·rename_i hel;intro res hres _ _;cases hres;exact named i hi' hn hk 0 [] hel
              ·split
               ·rename_i hel;intro res hres _ _;cases hres;exact named i hi' hn hk 1 _ hel
               ·exact .nil
            ·exact .nil
           ·exact .nil
         ·exact .nil
        ·exact .nil
       ·exact .nil
      ·exact .nil
     ·exact .nil
    ·exact .nil
   ·exact .nil
  ·exact .nil
 ·exact .nil
end Go.Dm
namespace Go.Dm
open Go Go.RowKit
variable {C:Cx}{k:List It}{s:S}{τ:zbn}
theorem AllR.isP {M:Mem}{E:Env}{vs:List Value}{cs:List AV}(h:AllR (RelS M E) vs cs)(hp:zfj 0 [] cs=true):AllR (RelP M) vs cs:=
 ⟨h.1,fun j v c hv hc=>zm3 (pu:=0) (ns:=[]) (zhr hp hc) (h.2 j v c hv hc)⟩
theorem cs_low {M:Mem}{E:Env}{w:World}{pu:Nat}{ns:List Nat}{kd i p:Nat}{vs:Array Value}{cs:List AV}(h:CsOk M E w pu ns kd i p vs cs)(hp:pu<=1):∀ (j:Nat) (u:AV),cs[j]?=some u->∃ v,vs[j]?=some v/\eR M E pu ns v u:=fun j u hu=>by
 obtain ⟨v,hv,hr⟩:=h j u hu;refine ⟨v,hv,?_⟩
 match pu,hp,hr with
 | 0,_,hr=>exact hr
 | 1,_,hr=>exact hr
theorem eR_pure {M:Mem}{E:Env}{pu:Nat}{ns:List Nat}{v:Value}{u:AV}(h:RelP M v u):eR M E pu ns v u:=by
 match pu with
 | 0=>exact h
 | 1=>exact RelS.pure h
 | n+2=>exact RelS.pure h
theorem eR_cs {M:Mem}{E:Env}{w:World}{pu:Nat}{ns:List Nat}{kd i p:Nat}{vs:Array Value}{cs:List AV}(h:∀ (j:Nat) (u:AV),cs[j]?=some u->∃ v,vs[j]?=some v/\eR M E pu ns v u):CsOk M E w pu ns kd i p vs cs:=fun j u hu=>by
 obtain ⟨v,hv,hr⟩:=h j u hu;exact ⟨v,hv,hr.c _ _ _ _⟩
theorem zeroEl_rel {P:Program}{e:TypeId}{ie:TI}(hi:TyOk1 P e ie){zel:AV}(h:zeroEl τ e ie=some zel)(hp:zfj 0 [] zel.cells=true)(M:Mem):AllR (RelP M) (ie.zero.map AV.zv) zel.cells:=by
 have hz:AllR (RelS M Env.none) (ie.zero.map AV.zv) ie.zero:=zero_rel hi.lit;have hc:=zd4 (zg2 hp);unfold zeroEl at h;split at h
 ·cases h;have h1:Rel M Env.none (.agg (ie.zero.map AV.zv).toArray) (.agg ie.zero):=.agg _ _ hz.1 hz.2;have h2:=(norm_rel (τ:=τ) (t:=e) h1).allR hc;exact AllR.isP (by simpa [Value.cells] using h2) hp
 ·split at h
  ·rename_i z1 hz1;cases h;rw [hz1] at hz;have h0:=hz.2 0 _ _ rfl rfl;have h1:Rel M Env.none z1.zv z1:=.cell h0;have h2:=(norm_rel (τ:=τ) (t:=e) h1).allR hc;rw [cells_of_one h0.one.1] at h2;rw [hz1];exact AllR.isP (by simpa using h2) hp
  ·cases h
theorem rep_at {zel:AV}{sz:Nat}(hs:zel.cells.length=sz):∀ (n j:Nat) (u:AV),(zc0 (List.replicate n zel))[j]?=some u->j<n*sz/\zel.cells[j % sz]?=some u
 | 0,j,u,h=>by simp [zc0] at h
 | n+1,j,u,h=>by
  rw [List.replicate_succ,ze6] at h;by_cases hj:j<sz
  ·rw [xak (by omega)] at h;rw [xb9 hj,xdw];exact ⟨by omega,h⟩
  ·rw [xas (by omega),hs] at h;obtain ⟨h1,h2⟩:=rep_at hs n _ u h;rw [xdw];refine ⟨by omega,?_⟩;rw [<- Nat.mod_eq_sub_mod (by omega)] at h2;exact h2
theorem zget {zc:List Value}{z:Value}(hz:z.cells.toList=zc){p:Nat}(h:p<zc.length):z.cells[p]! = zc[p]:=by
 subst hz;have:p<z.cells.size:=by simpa using h
 simp [this]
theorem Sound.makeSlice (hτ:zgl C.P τ){o:Oper}{an:List An}{t:TypeId}{x y:Operand}(ho:o.op = .makeSlice t x y)(hd:∀ d,o.dst=some d->d<C.N){n c:Int}(hx:Has C s x (.int .i64 n))(hy:Has C s y (.int .i64 c)) :
  Sound C o s (zgv τ s an o.dst t n c):=by
 unfold zgv;split
 ·rename_i e szt bt zt czt ht;split
  ·rename_i ie hie;split
   ·rename_i z hz;split
    ·rename_i i hi';split
     ·rename_i hn;split
      ·rename_i zs an';split
       ·rename_i hb;intro res hres hg _;cases hres;obtain ⟨⟨g1,g2,g3⟩,g4,_⟩:=hg;obtain ⟨hb,hB⟩:=xa2.1 hb;obtain ⟨hb1,hel⟩:=xa2.1 hb;have hB:i<nB:=by simpa [xcx] using hB
        have hb1:=xap hb1;obtain ⟨inf,zv,hi,hsize,hby,hzv,hzz⟩:=(hτ _ _ hie).info;refine znw rfl hd fun a w M E hs=>?_;have e1:=(hx a w M E hs).int_inv;have e2:=(hy a w M E hs).int_inv;have hzr:=zeroEl_rel (hτ _ _ hie) hz hel M;have hsz:z.cells.length=ie.sz:=by rw [<- hzr.1,xa5,(hτ _ _ hie).len]
        have hc0:c.toNat<=c.toNat*ie.bytes:=xde _ hb1;have hcc:(c.toNat:Int)=c:=by omega
        have hbc:(inf.bytes:Int)*c<=281474976710656:=by
         rw [<- hcc,hby];have:(((c.toNat*ie.bytes:Nat)):Int)<=281474976710656:=by omega
         rw [xc3] at this;rw [Int.mul_comm]; exact this
        have hrun:=run_make (P:=C.P) w t e inf zv (hτ _ _ ht).kind hi hzv .i64 .i64 n c g1 g2 hbc (by omega);obtain ⟨E',hle,hq,hst⟩:=hs.rowNew (i:=i) (vr:=0) (.inl ⟨hn,hB⟩) (w1:=w) (Grow.refl w _) (vs:=madeCells zv.cells (c.toNat*inf.size)) (e:=e) (sz:=ie.sz) (n:=n.toNat) (c:=c.toNat) (k:=0) (cm:=0) (nl:=false) (pu:=0) (ns:=[]) (xs:=zs)
         (xbm _) (by rw [g4]; simp) (by omega) (by unfold maxLen; omega) (fun y hy=>by rw [g4] at hy; rw [xdx hy]; exact hsz) (xbm _) (fun h=>by cases h) (by rw [size_madeCells,hsize])
         (fun p=>by simp [zcs,hn])
         (fun j u hu=>by
          rw [g4] at hu;obtain ⟨hj,hzu⟩:=rep_at hsz _ j u hu;have hpos:0<ie.sz:=xfh fun h=>by rw [h] at hj; simp at hj
          have hm:j % ie.sz<(ie.zero.map AV.zv).length:=by rw [xa5,(hτ _ _ hie).len]; exact xdh _ hpos
          have hzs:zv.cells.size=ie.sz:=by
           have:=congrArg List.length hzz;simp only [xbv,xa5] at this;rw [this,(hτ _ _ hie).len]
          refine ⟨(ie.zero.map AV.zv)[j % ie.sz],?_,hzr.2 _ _ u (xag hm) hzu⟩;have hjl:j<c.toNat*inf.size:=by
           rw [hsize];have:n.toNat*ie.sz<=c.toNat*ie.sz:=xa6 _ (by omega);omega
          have:(madeCells zv.cells (c.toNat*inf.size))[j]?=some (zv.cells[j % zv.cells.size]!):=by
           simp [madeCells,hjl]
          rw [this,hzs,zget hzz hm])
        exact ⟨_,_,M,E',by simp [execOp,ho,e1,e2,hrun],hst,.cell (.row i 0 _ _ _ _ hq (xaf _) fun _=>⟨rfl,rfl,rfl⟩),hle⟩
       ·exact .nil
      ·exact .nil
     ·exact .nil
    ·exact .nil
   ·exact .nil
  ·exact .nil
 ·exact .nil
theorem run_append_zeros {P:Program}(w:World)(t t2 ty e:TypeId)(i:TypeInfo)(z:Value)(ht:P.underlying t=some (.slice e))(h2:P.underlying t2=some (.int .i64))(hi:P.info? e=some i)(hz:i.zero=some z)(n:Int)(h0:0<n)(h47:n.toNat*i.bytes<=140737488351232)(hb:1<=i.bytes)(hs:1<=i.size) :
  (Builtin.append_ #[t,t2] ty #[.slice none 0 0,.int .i64 n]).run P w = .ok (.slice (some ⟨w.heap.size,0,none⟩) n.toNat (grownCap w n.toNat 0 e)) (w.drew.alloc (.cells (Builtin.zeroCells z.cells n.toNat++Builtin.zeroCells z.cells (grownCap w n.toNat 0 e - n.toNat)) e)):=by
 obtain ⟨m,rfl⟩:∃ m:Nat,n=(m:Int):=⟨n.toNat,by omega⟩;simp only [xbs] at h47 ⊢;have hle:m<=m*i.bytes:=xde _ hb;have wn:IntKind.i64.wrap (m:Int)=m:=by rw [xc7]; omega
 have n1:¬ ((m:Int)<0):=by omega
 have n2:¬ (281474976710656<(m:Int)*(i.bytes:Int)):=by
  rw [<- xc3]; omega
 have n3:¬ (m=0):=by omega
 have n4:¬ (9223372036854775807<(m:Int)):=by omega
 have n5:¬ (281474976710656<Builtin.nextslicecap m 0*i.bytes):=by rw [nextslicecap_zero (by omega)]; omega
 have n6:¬ (i.size=0):=by omega
 simp [Builtin.append_,xah ht,xah h2,asInt,asIntOf,sizeOf,typeInfo,zeroValue,hi,hz,wn,n1,n2,n3,n4,n5,n6,Question.forced,run_firstCells_none,newRow,grownCap];intro h;have:0<m*i.size:=Nat.mul_pos (by omega) (by omega);omega
theorem run_append_zero0 {P:Program}(w:World)(t t2 ty e:TypeId)(i:TypeInfo)(ht:P.underlying t=some (.slice e))(h2:P.underlying t2=some (.int .i64))(hi:P.info? e=some i) :
  (Builtin.append_ #[t,t2] ty #[.slice none 0 0,.int .i64 0]).run P w = .ok (.slice none 0 0) w:=by
 have wn:IntKind.i64.wrap 0=0:=by rw [xc7]; omega
 simp [Builtin.append_,xah ht,xah h2,asInt,asIntOf,sizeOf,typeInfo,hi,wn]
theorem zc_get (z:Array Value)(n m j:Nat)(h:j<(n+m)*z.size):(Builtin.zeroCells z n++Builtin.zeroCells z m)[j]?=some z[j % z.size]!:=by
 rw [Array.getElem?_append];have e1:(Builtin.zeroCells z n).size=n*z.size:=by simp [Builtin.zeroCells]
 rw [xcj] at h;split
 ·rename_i hj;rw [e1] at hj;simp [Builtin.zeroCells,hj]
 ·rename_i hj;rw [e1] at hj;rw [e1];have e2:j % z.size=(j - n*z.size) % z.size:=by
   conv=>lhs; rw [show j=(j - n*z.size)+n*z.size by omega]
   rw [Nat.add_mul_mod_self_right]
  rw [e2];simp [Builtin.zeroCells,show j - n*z.size<m*z.size by omega]
theorem Sound.appZ (hτ:zgl C.P τ){o:Oper}{an:List An}{c:Call}{x y:Operand}{t t2:TypeId}(ho:o.op = .call c)(hc:c.callee = .builtin .append)(hargs:c.args.toList=[x,y])(htys:c.argTypes.toList=[t,t2])(hd:∀ d,o.dst=some d->d<C.N)(h2:C.P.underlying t2=some (.int .i64))
  {x1 x2:AV}(hx:Has C s x x1)(hy:Has C s y x2):Sound C o s (evalAppZ τ s an o.dst t x1 x2):=by
 unfold evalAppZ;split
 ·split
  ·rename_i n;split
   ·rename_i e szt bt zt czt ht;split
    ·rename_i ie hie;split
     ·rename_i z hz;split
      ·rename_i i hi';split
       ·rename_i hn;split
        ·rename_i zs an';split
         ·rename_i hb;intro res hres hg _;cases hres;obtain ⟨⟨g1,g2⟩,g4,_⟩:=hg;obtain ⟨hb,hB⟩:=xa2.1 hb;obtain ⟨hb,hel⟩:=xa2.1 hb;obtain ⟨hb1,hs1⟩:=xa2.1 hb;have hB:i<nB:=by simpa [xcx] using hB
          have hb1:=xap hb1;have hs1:=xap hs1;obtain ⟨inf,zv,hi,hsize,hby,hzv,hzz⟩:=(hτ _ _ hie).info;have e1':c.argTypes=#[t,t2]:=by apply Array.ext'; simpa using htys
          refine znw rfl hd fun a w M E hs=>?_;have e1:=(hx a w M E hs).nils_inv;have e2:=(hy a w M E hs).int_inv;have e3:c.args.map a.eval=#[.slice none 0 0,.int .i64 n]:=by
           have:c.args=#[x,y]:=by apply Array.ext'; simpa using hargs
           rw [this]; simp [e1,e2]
          have hzr:=zeroEl_rel (hτ _ _ hie) hz hel M;have hsz:z.cells.length=ie.sz:=by rw [<- hzr.1,xa5,(hτ _ _ hie).len]
          have hle0:n.toNat<=n.toNat*ie.bytes:=xde _ hb1;by_cases h0:n=0
          ·subst h0;have hzs:zs=[]:=by rw [g4]; simp
           subst hzs;obtain ⟨E',hle,hq,hst⟩:=hs.row0 hn hB none e ie.sz true 0 [] (fun _=>rfl);refine ⟨_,w,M,E',?_,hst,.cell (.row i 0 _ _ _ _ hq (xaf _) fun _=>⟨rfl,rfl,rfl⟩),hle⟩;refine zdp ho hc a.eval w w ?_;rw [e3,e1'];exact by simp [builtin,run_append_zero0 w t t2 o.type e inf (hτ _ _ ht).kind h2 hi]
          ·have hrun:=run_append_zeros (P:=C.P) w t t2 o.type e inf zv (hτ _ _ ht).kind h2 hi hzv n (by omega) (by rw [hby]; exact g2) (by omega) (by omega);have hzs:zv.cells.size=ie.sz:=by
            have:=congrArg List.length hzz;simp only [xbv,xa5] at this;rw [this,(hτ _ _ hie).len]
           have hge:=xfc w n.toNat 0 e;have hcm:=xdz w n.toNat 0 e (by unfold maxLen; omega);obtain ⟨E',hle,hq,hst⟩:=hs.rowNew (i:=i) (vr:=0) (.inl ⟨hn,hB⟩) (w1:=w.drew) (Grow.drew w) (vs:=Builtin.zeroCells zv.cells n.toNat++Builtin.zeroCells zv.cells (grownCap w n.toNat 0 e - n.toNat)) (e:=e) (sz:=ie.sz) (n:=n.toNat) (c:=grownCap w n.toNat 0 e) (k:=0) (cm:=0) (nl:=true) (pu:=0) (ns:=[]) (xs:=zs)
            (xbm _) (by rw [g4]; simp) hge hcm (fun y hy=>by rw [g4] at hy; rw [xdx hy]; exact hsz) (xbm _) (fun _ h=>by
             have:=congrArg List.length h;rw [g4] at this;simp at this;omega) (by
             rw [Array.size_append,xfa,xfa,hzs,<- xcj];congr 1; omega)
            (fun p=>by simp [zcs,hn])
            (fun j u hu=>by
             rw [g4] at hu;obtain ⟨hj,hzu⟩:=rep_at hsz _ j u hu;have hm:j % ie.sz<(ie.zero.map AV.zv).length:=by rw [xa5,(hτ _ _ hie).len]; exact xdh _ (by omega)
             refine ⟨(ie.zero.map AV.zv)[j % ie.sz],?_,hzr.2 _ _ u (xag hm) hzu⟩;rw [zc_get _ _ _ _ (by
              rw [hzs];have:n.toNat*ie.sz<=(n.toNat+(grownCap w n.toNat 0 e - n.toNat))*ie.sz:=xa6 _ (by omega);omega),hzs,zget hzz hm])
           refine ⟨_,_,M,E',?_,hst,.cell (.row i 0 _ _ _ _ hq (xaf _) fun _=>⟨rfl,rfl,rfl⟩),hle⟩;refine zdp ho hc a.eval w _ ?_;rw [e3,e1'];exact by simp [builtin,hrun]
         ·exact .nil
        ·exact .nil
       ·exact .nil
      ·exact .nil
     ·exact .nil
    ·exact .nil
   ·exact .nil
  ·exact .nil
 ·exact .nil
theorem isI64T_sound (hτ:zgl C.P τ){t:TypeId}(h:isI64T τ t=true):C.P.underlying t=some (.int .i64):=by
 unfold isI64T at h;split at h
 ·rename_i h1; exact (hτ _ _ h1).kind
 ·cases h
theorem Sound.app2 (hτ:zgl C.P τ){o:Oper}{an:List An}{c:Call}{x y:Operand}{t t2:TypeId}(ho:o.op = .call c)(hc:c.callee = .builtin .append)(hargs:c.args.toList=[x,y])(htys:c.argTypes.toList=[t,t2])(hd:∀ d,o.dst=some d->d<C.N)
  {x1 x2:AV}(hx:Has C s x x1)(hy:Has C s y x2):Sound C o s (evalApp2 τ s an o.dst t t2 x1 x2):=by
 unfold evalApp2;split
 ·rename_i h; exact .appZ hτ ho hc hargs htys hd (isI64T_sound hτ h) hx hy
 ·exact .append hτ ho hc hargs htys hd hx hy
theorem Sound.clear (hτ:zgl C.P τ){o:Oper}{an:List An}{c:Call}{x:Operand}{t:TypeId}(ho:o.op = .call c)(hc:c.callee = .builtin .clear)(hargs:c.args.toList=[x])(htys:c.argTypes.toList=[t])(hd:∀ d,o.dst=some d->d<C.N)
  {i vr off n:Nat}(hx:Has C s x (.rowv i vr off n)):Sound C o s (zld τ s an t i vr off n):=by
 unfold zld;split
 ·rename_i e szt bt zt czt ht;split
  ·rename_i ie hie;split
   ·rename_i z hz;split
    ·rename_i r hr;split
     ·rename_i hty;split
      ·rename_i hsz0;split
       ·rename_i hpu;split
        ·exact .nil
        ·rename_i hel;split
         ·rename_i zs an';intro res hres hg _;cases hres;obtain ⟨g1,g2,_⟩:=hg;have hty:=zbc hty;have hsz0:=zbc hsz0;obtain ⟨inf,zv,hi,hsize,hby,hzv,hzz⟩:=(hτ _ _ hie).info;refine znw rfl hd fun a w M E hs=>?_;obtain ⟨q,cp,ad,he,hq,hok,hc1,hc2,haz,hav⟩:=rowv_cur hs (hx a w M E hs) hr;have hzr:=zeroEl_rel (hτ _ _ hie) hz hel M;have hzl:z.cells.length=ie.sz:=by rw [<- hzr.1,xa5,(hτ _ _ hie).len]
          have hzs:zv.cells.size=ie.sz:=by
           have:=congrArg List.length hzz;simp only [xbv,xa5] at this;rw [this,(hτ _ _ hie).len]
          have hr0:zan s.rw i=some r:=(zd0 hr).1;have hn:=hok.n;have hnc:=hok.nc;have hzlen:zs.length=r.xs.length:=by
           rw [g1]; simp only [xaa,xar,List.length_replicate,xa8]; omega
          have hzes:∀ y∈zs,y.cells.length=r.sz:=fun y hy=>by
           rw [g1] at hy;simp only [xax] at hy
           rcases hy with (hy | hy) | hy
           ·exact hok.es y (xb6 hy)
           ·rw [xdx hy,hzl,hsz0]
           ·exact hok.es y (xdb hy)
          have hb:∀ w',(Builtin.clear_ #[t] o.type #[a.eval x]).run C.P w = .ok (.tuple #[]) w'->(execOp a.eval o).run C.P w = .ok (.value (.tuple #[])) w':=fun w' h=>by
           refine zdp ho hc a.eval w w' ?_;have e1:c.args.map a.eval=#[a.eval x]:=by
            have:c.args=#[x]:=by apply Array.ext'; simpa using hargs
            rw [this]; simp
           have e2:c.argTypes=#[t]:=by apply Array.ext'; simpa using htys
           rw [e1,e2];simp [builtin,h]
          have htup:∀ (M:Mem) (E:Env),Rel M E (.tuple #[]) (.tup []):=fun M E=>.tup [] [] rfl (by simp);have hnlz:r.nl=true->(q.a=none↔zs=[]):=fun h=>by
           rw [hok.nl h];constructor
           ·intro e; exact xai (by rw [hzlen,e]; rfl)
           ·intro e; exact xai (by rw [<- hzlen,e]; rfl)
          have hown:∀ p,zcs s (5,i,p)<=ownK (zc0 zs)[p]?:=fun p=>by
           have e0:zcs s (5,i,p)=ownK (zc0 r.xs)[p]?:=by simp [zcs,hr0]
           rw [e0,hok.own1 (xap hpu)]; exact xbm _
          by_cases hn0:n=0
          ·
           have hzx:zs=r.xs:=by rw [g1,hn0]; simp
           obtain ⟨E',hle,hq2,hst⟩:=hs.rowPut (w':=w) hr0 hq (r':={ r with xs:=zs }) (n':=q.n) (.inl ⟨rfl,rfl⟩) (Grow.refl w _) rfl (by rw [hzlen]; exact hn) hnc hzes (by rw [hzlen]; exact hok.k) hok.cm hnlz (xaf _) hown
            (fun b j v _ hv=>(hs.mem b j v hv).1) (fun blk vs e1 e2 e3 e4 e5=>⟨vs,e3,rfl,by show CsOk M E w r.pu r.ns 5 i 0 vs (zc0 zs); rw [hzx]; exact e5⟩)
           refine ⟨_,w,M,E',hb w ?_,hst,htup _ _,hle⟩;rw [he,hn0];cases ad <;> simp [Builtin.clear_,xah (hτ _ _ ht).kind]
          ·rcases hok.blk with hb0 | ⟨blk,vs,h1,h2,h3,h4,h5⟩
           ·omega
           have hadr:ad=some ⟨blk,off*r.sz,none⟩:=by rw [hav (by omega),viewA_at h1 hc1 (by omega),hok.sz]
           have hzc:(Builtin.zeroCells zv.cells n).toList.length=n*r.sz:=by simp [xfa,hzs,hsz0]
           have hfit:off*r.sz+n*r.sz<=vs.size:=by
            rw [h4,hok.sz,<- xcj]; exact xa6 _ (by omega)
           have hone:∀ u∈(Builtin.zeroCells zv.cells n).toList,u.oneCell'=true:=fun u hu=>by
            have hu:u∈(Array.range (n*zv.cells.size)).toList.map fun i=>zv.cells[i % zv.cells.size]!:=by simpa [Builtin.zeroCells] using hu
            rw [xb1] at hu;obtain ⟨p,hp,rfl⟩:=hu;have hp:p<n*zv.cells.size:=by simpa using hp
            have hpos:0<ie.sz:=xfh fun h=>by rw [hzs,h] at hp; simp at hp
            have hm:p % ie.sz<(ie.zero.map AV.zv).length:=by rw [xa5,(hτ _ _ hie).len]; exact xdh _ hpos
            rw [hzs,zget hzz hm];have hc:=xag (l:=z.cells) (i:=p % ie.sz) (by rw [hzl]; exact xdh _ hpos);exact (hzr.2 _ _ _ (xag hm) hc).one.1
           have hst:=xer (P:=C.P) blk (off*r.sz) r.ty (Builtin.zeroCells zv.cells n).toList 0 vs w h3 (by rw [hzc]; omega) hone;simp only [xcu] at hst;have hrun:(Builtin.clear_ #[t] o.type #[a.eval x]).run C.P w = .ok (.tuple #[]) (w.setRow blk (vs.toList.take (off*r.sz)++(Builtin.zeroCells zv.cells n).toList++vs.toList.drop (off*r.sz+(Builtin.zeroCells zv.cells n).toList.length)).toArray):=by
            rw [he,hadr];obtain ⟨m,rfl⟩:∃ m,n=m+1:=⟨n - 1,by omega⟩;simp [Builtin.clear_,xah (hτ _ _ ht).kind,zeroValue,typeInfo,hi,hzv];simp at hst;rw [hst];rfl
           obtain ⟨E',hle,hq2,hst2⟩:=hs.rowPut (w':=w.setRow blk (vs.toList.take (off*r.sz)++(Builtin.zeroCells zv.cells n).toList++vs.toList.drop (off*r.sz+(Builtin.zeroCells zv.cells n).toList.length)).toArray) hr0 hq
            (r':={ r with xs:=zs }) (n':=q.n) (.inl ⟨rfl,rfl⟩) ((Grow.setRow w blk _).mono fun b e=>by rw [e]; exact h2) rfl (by rw [hzlen]; exact hn) hnc hzes (by rw [hzlen]; exact hok.k) hok.cm hnlz (xaf _) hown
            (fun b j v ho' hv=>by
             obtain ⟨m1,m2⟩:=hs.mem b j v hv;by_cases hbb:b=blk
             ·subst hbb;have m3:=m2 _ ho';rw [zmt hr0] at m3;have m4:j<off*r.sz:=xbi m3 (xa6 _ g2);rw [xcz _ b j _ r.ty (0,0) (xdj w b vs _ r.ty _ h3)];rw [xcz w b j vs r.ty (0,0) h3] at m1;rw [xa1,xaj,xak (by rw [xar,xbv]; omega),xau,xad m4];simpa using m1
             ·exact (Grow.setRow w blk _).cell m1 hbb)
            (fun blk' vs' e1 e2 e3 e4 e5=>by
             rw [h1] at e1; cases e1;rw [h3] at e3; cases e3;refine ⟨_,xdj w blk vs _ r.ty _ h3,?_,?_⟩
             ·simp only [xaz,xaa,xar,xa8,xbv,hzc];have:(Builtin.zeroCells zv.cells n).size=n*r.sz:=by simpa using hzc
              omega
             ·show CsOk M E w r.pu r.ns 5 i 0 _ (zc0 zs);have hcs:∀ (j:Nat) (u:AV),(zc0 r.xs)[j]?=some u->∃ v,vs[j]?=some v/\eR M E r.pu r.ns v u:=cs_low h5 (xap hpu);have hup:∀ (v:Value) (u:AV),RelP M v u->eR M E r.pu r.ns v u:=fun v u h=>eR_pure h;refine eR_cs fun j u hu=>?_;have tl:(vs.toList.take (off*r.sz)).length=off*r.sz:=by rw [xar,xbv]; omega
              rw [g1,zf7,zf7] at hu;have t1:(zc0 (r.xs.take off)).length=min off r.xs.length*r.sz:=by rw [zex (fun y hy=>hok.es y (xb6 hy)),xar]
              have t2:(zc0 (List.replicate (min n (r.xs.length - off)) z)).length=min n (r.xs.length - off)*r.sz:=by
               rw [zex (sz:=r.sz) (fun y hy=>by rw [xdx hy,hzl,hsz0]),List.length_replicate]
              have hmin:min off r.xs.length*r.sz<=off*r.sz:=xa6 _ (Nat.min_le_left _ _);rw [xaj] at hu;rw [xa1,xaj];by_cases c1:j<min off r.xs.length*r.sz
              ·rw [xak (by rw [t1]; exact c1),zjj off hok.es,xau,xad (by omega)] at hu;obtain ⟨v,hv,hr2⟩:=hcs j u hu;exact ⟨v,by rw [xak (by rw [tl]; omega),xau,xad (by omega)]; simpa using hv,hr2⟩
              ·rw [xas (by rw [t1]; omega),t1] at hu;by_cases c2:off<=r.xs.length
               ·rw [xca c2] at c1 hu;by_cases c3:j - off*r.sz<min n (r.xs.length - off)*r.sz
                ·rw [xak (by rw [t2]; exact c3)] at hu;obtain ⟨hj,hzu⟩:=rep_at (sz:=ie.sz) hzl _ _ u hu;have hpos:0<ie.sz:=xfh fun h=>by rw [h] at hj; simp at hj
                 have hm:(j - off*r.sz) % ie.sz<(ie.zero.map AV.zv).length:=by rw [xa5,(hτ _ _ hie).len]; exact xdh _ hpos
                 refine ⟨_,?_,hup _ _ (hzr.2 _ _ u (xag hm) hzu)⟩;have hjn:j - off*r.sz<n*r.sz:=by
                  have:min n (r.xs.length - off)*r.sz<=n*r.sz:=xa6 _ (Nat.min_le_left _ _);omega
                 rw [xas (by rw [tl]; omega),tl,xak (by rw [hzc]; exact hjn)];have:(Builtin.zeroCells zv.cells n)[j - off*r.sz]?=some (zv.cells[(j - off*r.sz) % zv.cells.size]!):=by
                  simp [Builtin.zeroCells,hzs,<- hsz0,hjn]
                 rw [xd9,this,hzs,zget hzz hm]
                ·rw [xas (by rw [t2]; omega),t2] at hu;have hjl:=(xac.1 hu).1;have hdl:(zc0 (r.xs.drop (off+n))).length=(r.xs.length - (off+n))*r.sz:=by rw [zex (fun y hy=>hok.es y (xdb hy)),xa8]
                 rw [hdl] at hjl;by_cases c4:n<=r.xs.length - off
                 ·rw [xca c4] at c3 hu hjl;rw [flat_drop _ hok.es,xbb,xcj] at hu;have ej:off*r.sz+n*r.sz+(j - off*r.sz - n*r.sz)=j:=by omega
                  rw [ej] at hu;obtain ⟨v,hv,hr2⟩:=hcs j u hu;refine ⟨v,?_,hr2⟩;rw [xas (by rw [tl]; omega),tl,xas (by rw [hzc]; omega),hzc,xbb,ej];simpa using hv
                 ·have:r.xs.length - (off+n)=0:=by omega
                  rw [this] at hjl; simp at hjl
               ·exfalso;have e1:min n (r.xs.length - off)=0:=by omega
                rw [e1,xcq (by omega)] at hu;simp [zc0] at hu)
           exact ⟨_,_,M,E',hb _ hrun,hst2,htup _ _,hle⟩
         ·exact .nil
       ·exact .nil
      ·exact .nil
     ·exact .nil
    ·exact .nil
   ·exact .nil
  ·exact .nil
 ·exact .nil
end Go.Dm
