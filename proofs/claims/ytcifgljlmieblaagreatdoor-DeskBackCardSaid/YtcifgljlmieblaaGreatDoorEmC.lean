/- The machine over the model's code, part EmC. -/
import Derived.Test.YtcifgljlmieblaaGreatDoorEmB
import Derived.MapKept
import Derived.Carry
import Derived.LaidEqlPtr
import Derived.Orders
set_option linter.unnecessarySimpa false
set_option linter.constructorNameAsVariable false
set_option linter.unusedSectionVars false
set_option linter.unusedSimpArgs false
set_option linter.unusedVariables false
namespace Go.Dm
open Go Go.RowKit Go.MapKept
variable {C:Cx} {k:List It} {s:S} {τ:TyTab}
theorem St.mapNew {g:Gh} {N:Nat} {M:Mem} {E:Env} {s:S} {tmps:Array Value} {w:World} (hs:St g N M E s tmps w) {i:Nat} (hi:aget s.mp i=none) (hB:i<nB) :
  ∃ E',E.up E'∧E'.mp i=some w.heap.size∧St g N M E' { s with mp:=(i,[])::s.mp } tmps (w.alloc (.map #[] 0)):=by
 have hnone:=own_none hs (Nat.le_refl w.heap.size)
 have hbn:=hs.mpn i hi
 have hle:E.le { E with mp:=fun j=>if j=i then some w.heap.size else E.mp j,own:=fun b=>if b=w.heap.size then some (2,i,0) else E.own b }:=by
  refine ⟨fun j b hb=>hb,fun j q hq=>⟨q,hq,Nat.le_refl _,fun _=>⟨rfl,rfl,rfl,rfl⟩⟩,fun j r hr=>?_,fun j bs h=>⟨[],by simpa using h⟩⟩
  show (if j=i then some w.heap.size else E.mp j)=some r
  rw [if_neg (by rintro rfl; rw [hbn] at hr; cases hr)]; exact hr
 refine ⟨_,⟨hle,fun E0 hp=>⟨hp.bx,hp.rw,fun j b hj h=>hp.mp j b hj (by simp only at h; rwa [if_neg (by omega)] at h),hp.ar⟩⟩,if_pos rfl,?_⟩
 refine hs.grow' (fun _=>False) (fun _ _ h=>h.elim) (Grow.alloc w _) hle (fun b hb _=>if_neg (by omega)) ?_ rfl (fun b j v h=>h.elim) (fun b o _ _=>Nat.le_refl _)
  (fun j r hj=>.inl ⟨hj,fun _ _ h=>h⟩) hs.bxn
  (fun j r hj=>.inl ⟨hj,rfl,fun _ _ _ h=>h⟩) hs.rwn ?_ ?_ (fun j r hj=>.inl ⟨hj,rfl,fun _ _ _ h=>h⟩) hs.arn
 ·intro b o hb
  simp only at hb
  split at hb
  ·simp; omega
  ·have:=hs.live b o hb; simp; omega
 ·intro j cs' hj
  simp only [aget_cons] at hj
  split at hj
  ·rename_i e; subst e
   cases hj
   right
   exact ⟨w.heap.size,if_pos rfl,if_pos rfl,#[],0,heap_alloc_new w _,⟨rfl,rfl,fun j e he=>by simp at he⟩,fun j v c hv hc=>by simp at hv⟩
  ·exact .inl ⟨hj,fun _ _ h=>h⟩
 ·intro j hj
  simp only [aget_cons] at hj
  split at hj
  ·cases hj
  ·rename_i hne
   show (if j=i then some w.heap.size else E.mp j)=none
   rw [if_neg hne]; exact hs.mpn j hj
theorem Grow.setMap (w:World) (r:Nat) (o:Obj):Grow w { w with heap:=w.heap.setIfInBounds r o } (fun b=>b=r):=
 ⟨rfl,rfl,rfl,by simp,fun b _ hb=>by simp [Array.getElem?_setIfInBounds,Ne.symm hb]⟩
theorem St.mapSet {g:Gh} {N:Nat} {M:Mem} {E:Env} {s:S} {tmps:Array Value} {w:World} (hs:St g N M E s tmps w) {i r:Nat} {es es':List (AV×AV)} (hi:aget s.mp i=some es) (hb:E.mp i=some r)
  {ents:Array MapEntry} {clock:Nat} (hsz:ents.size=es'.length∧clock=es'.length∧∀ (j:Nat) (e:MapEntry),ents[j]?=some e→e.born=j) (h:∀ (j:Nat) (e:MapEntry) (p:AV×AV),ents[j]?=some e→es'[j]?=some p→RelP M e.key p.1∧Rel M (E.arO (mns i)) e.val p.2) :
  St g N M E { s with mp:=(i,es')::s.mp } tmps { w with heap:=w.heap.setIfInBounds r (.map ents clock) }:=by
 obtain ⟨r',hr',hown,ents0,clock0,hh,hold,_⟩:=hs.mp i es hi
 rw [hb] at hr'; cases hr'
 have hlt:=hs.live r _ hown
 have hX:∀ k o,k=r→E.own k=some o→o=(2,i,0):=fun k o e ho=>by rw [e,hown] at ho; cases ho; rfl
 refine hs.grow' (fun k=>k=r) (fun k _ hk=>⟨(2,i,0),by rw [hk]; exact hown⟩) (Grow.setMap w r _) (Env.le_refl E) (fun _ _ _=>rfl) (fun k o hk=>by have:=hs.live k o hk; simpa using this) rfl ?_ (fun b o _ _=>Nat.le_refl _)
  (fun j cs hj=>.inl (hs.bxK (fun k i' hk ho=>by have:=hX k _ hk ho; cases this) j cs hj)) hs.bxn
  (fun j r hj=>.inl ⟨hj,rfl,fun k p ho hk=>?_⟩) hs.rwn ?_ ?_ (fun j r hj=>.inl ⟨hj,rfl,fun k p ho hk=>?_⟩) hs.arn
 ·intro k j v hk hv
  subst hk
  have:=(hs.mem k j v hv).2 _ hown
  simp [sealN] at this
 ·rcases ho with ho | ho <;> · have:=hX k _ hk ho; cases this
 ·intro j cs2 hj
  simp only [aget_cons] at hj
  split at hj
  ·rename_i e; subst e
   cases hj
   right
   exact ⟨r,hb,hown,ents,clock,(heap_set hh).1,hsz,h⟩
  ·rename_i hne
   refine .inl ⟨hj,fun k hk hkb=>?_⟩
   obtain ⟨b2,hb2,hown2,_⟩:=hs.mp j cs2 hj
   rw [hk] at hb2; cases hb2
   have:=hX _ _ hkb hown2
   cases this
   exact hne rfl
 ·intro j hj
  simp only [aget_cons] at hj
  split at hj
  ·cases hj
  ·exact hs.mpn j hj
 ·rcases ho with ho | ho <;> · have:=hX k _ hk ho; cases this
def keyD:TK→Option TypeDesc
 | .int q=>some (.int q)
 | .str=>some .string
 | _=>none
theorem keyOk_rel {P:Program} {kt:TypeId} {tk:TK} (hk:TKOk P kt tk) {x:AV} (h:keyOk tk x=true):∃ d,keyD tk=some d∧P.underlying kt=some d∧∀ (M:Mem) (E:Env) (v:Value),Rel M E v x→IsKey d v∧RelP M v x:=by
 unfold keyOk at h
 split at h
 ·rename_i q q' n
  refine ⟨_,rfl,hk,fun M E v hv=>?_⟩
  have e:=sameKind_eq h
  subst e
  rw [hv.int_inv]
  exact ⟨rfl,.int _ _⟩
 ·refine ⟨_,rfl,hk,fun M E v hv=>?_⟩
  rw [hv.str_inv]
  exact ⟨trivial,.str _⟩
 ·cases h
theorem keyEq_iff {M:Mem} {tk:TK} {x y:AV} (hx:keyOk tk x=true) (hy:keyOk tk y=true) {v u:Value} (hv:RelP M v x) (hu:RelP M u y):keyEq x y=true↔v=u:=by
 unfold keyOk at hx hy
 split at hx
 ·rename_i q q' n
  split at hy
  ·rename_i q2 q2' m e
   cases e
   have e1:=sameKind_eq hx
   have e2:=sameKind_eq hy
   subst e1; subst e2
   cases hv; cases hu
   simp [keyEq]
  ·rename_i e; cases e
  ·cases hy
 ·split at hy
  ·rename_i e; cases e
  ·cases hv; cases hu
   simp [keyEq]
  ·cases hy
 ·cases hx
def EntR (M:Mem) (E:Env) (l:List MapEntry) (es:List (AV×AV)):Prop:=l.length=es.length∧∀ (j:Nat) (e:MapEntry) (p:AV×AV),l[j]?=some e→es[j]?=some p→RelP M e.key p.1∧Rel M E e.val p.2
theorem EntR.cons {M:Mem} {E:Env} {e:MapEntry} {l:List MapEntry} {p:AV×AV} {es:List (AV×AV)} (h:EntR M E (e::l) (p::es)):(RelP M e.key p.1∧Rel M E e.val p.2)∧EntR M E l es:=
 ⟨h.2 0 e p rfl rfl,by simpa using h.1,fun j e p he hp=>h.2 (j+1) e p (by simpa using he) (by simpa using hp)⟩
theorem find_rel {M:Mem} {E:Env} {tk:TK} {d:TypeDesc} {P:Program} {kt:TypeId} (hd:keyD tk=some d) (hK:TKOk P kt tk) {key:AV} (hkey:keyOk tk key=true) {v:Value} (hv:RelP M v key) (hvk:IsKey d v) :
  ∀ {es:List (AV×AV)} {l:List MapEntry} (i:Nat),keysOk tk es=true→EntR M E l es→
   (Instr.findNow d v l i=some none∧mlook key es=none∧∀ y,mputA key y es=es++[(key,y)])∨
   ∃ j e p,Instr.findNow d v l i=some (some (i+j,e.val))∧l[j]?=some e∧e.key=v∧es[j]?=some p∧mlook key es=some p.2∧∀ y,mputA key y es=es.set j (key,y)
 | [],l,i,_,h=>by
  match l,h with
  | [],_=>exact .inl ⟨rfl,rfl,fun y=>rfl⟩
  | e::l,h=>exact absurd h.1 (by simp)
 | p::es,l,i,hks,h=>by
  match l,h with
  | [],h=>exact absurd h.1 (by simp)
  | e::l,h=>
   obtain ⟨⟨h1,h2⟩,ht⟩:=h.cons
   obtain ⟨pk,pv⟩:=p
   simp only [keysOk,Bool.and_eq_true] at hks
   obtain ⟨d',hd',hu',hrel⟩:=keyOk_rel hK hks.1
   rw [hd] at hd'; cases hd'
   have hek:IsKey d e.key:=(hrel M E e.key (.cell (.pure h1))).1
   obtain ⟨r,hr,hiff⟩:=sameNow_of_keys hvk hek
   have hq:=keyEq_iff hks.1 hkey h1 hv
   cases r with
   | true=>
    have e1:=hiff.1 rfl
    have e2:keyEq pk key=true:=hq.2 e1.symm
    exact .inr ⟨0,e,(pk,pv),by simp [Instr.findNow,hr],rfl,e1.symm,rfl,by simp [mlook,e2],fun y=>by simp [mputA,e2]⟩
   | false=>
    have e2:keyEq pk key=false:=by
     cases hb:keyEq pk key with
     | false=>rfl
     | true=>have:=hiff.2 (hq.1 hb).symm; cases this
    rcases find_rel hd hK hkey hv hvk (i+1) hks.2 ht with ⟨f1,f2,f3⟩ | ⟨j,e',p',f1,f2,f3,f4,f5,f6⟩
    ·exact .inl ⟨by simp [Instr.findNow,hr,f1],by simp [mlook,e2,f2],fun y=>by simp [mputA,e2,f3]⟩
    ·exact .inr ⟨j+1,e',p',by simp [Instr.findNow,hr,f1]; omega,by simpa using f2,f3,by simpa using f4,by simp [mlook,e2,f5],fun y=>by simp [mputA,e2,f6]⟩
theorem zeroVal_rel {P:Program} {e:TypeId} {ie:TI} (hi:TyOk1 P e ie) {zel:AV} (h:zeroEl τ e ie=some zel) (w:World):∃ zv,(zeroValue e).run P w = .ok zv w∧∀ (M:Mem) (E:Env),Rel M E zv zel:=by
 obtain ⟨inf,z,h1,_,_,h2,h3⟩:=hi.info
 have hag:=hi.ag inf z h1 h2
 refine ⟨z,by simp [zeroValue,typeInfo,h1,h2],fun M E=>?_⟩
 have hz:AllR (RelS M E) (ie.zero.map AV.zv) ie.zero:=zero_rel hi.lit
 unfold zeroEl at h
 split at h
 ·rename_i ha
  cases h
  rw [ha] at hag
  cases z with
  | agg vs=>
   simp only [Value.cells] at h3
   have ev:vs=(ie.zero.map AV.zv).toArray:=by rw [← h3]
   rw [ev]
   exact norm_rel (τ:=τ) (t:=e) (.agg _ _ hz.1 hz.2)
  | _=>simp [Value.isAgg'] at hag
 ·rename_i ha
  split at h
  ·rename_i z1 hz1
   cases h
   rw [ha] at hag
   rw [hz1] at hz h3
   have h0:=hz.2 0 _ _ rfl rfl
   have ez:z=z1.zv:=by
    have hc:z.cells=#[z]:=by cases z <;> first | rfl | (simp [Value.isAgg'] at hag)
    rw [hc] at h3
    simpa using h3
   rw [ez]
   exact norm_rel (τ:=τ) (.cell h0)
  ·cases h
theorem Rel.arO {M:Mem} {E:Env} {v:Value} {x:AV} {ns:List Nat} (h:Rel M E v x) (hx:x.okIn no no no (fun j=>memN j ns)=true):Rel M (E.arO ns) v x:=
 (h.keep hx).monoE ⟨fun i b e=>by simp [Env.keep,no] at e,fun i q e=>by simp [Env.keep,no] at e,fun i r e=>by simp [Env.keep,no] at e,fun i bs e=>⟨[],by
  simp only [Env.keep] at e
  simp only [Env.arO,List.append_nil]; exact e⟩⟩
theorem Sound.makeMap (hτ:TyOk C.P τ) {o:Oper} {an:List An} {t:TypeId} (ho:o.op = .makeMap t none) (hd:∀ d,o.dst=some d→d<C.N):Sound C o s (evalMakeMap τ s an o.dst t):=by
 unfold evalMakeMap
 split
 ·split
  ·rename_i d0 hdi
   split
   rename_i i an2 hmk
   split
   ·rename_i hn
    split
    ·rename_i hB
     intro res hres _ _
     cases hres
     refine effDoes rfl hd fun a w M E hs=>?_
     obtain ⟨E',hup,hr,hst⟩:=hs.mapNew hn (Nat.le_of_ble_eq_true hB)
     exact ⟨_,_,M,E',by simp only [execOp,ho,Option.map_none,run_makeMap,Sem.run_bind,Result.andThen_ok,Sem.run_pure],hst,.cell (.mp i _ hr),hup⟩
    ·exact .nil
   ·exact .nil
  ·exact .nil
 ·exact .nil
theorem Sound.lookup (hτ:TyOk C.P τ) {o:Oper} {an:List An} {t:TypeId} {x y:Operand} {ok:Bool} (ho:o.op = .lookup t x y ok) (hd:∀ d,o.dst=some d→d<C.N) {v u:AV} (hx:Has C s x v) (hy:Has C s y u):Sound C o s (evalLookup τ s an t ok v u):=by
 unfold evalLookup
 split
 ·rename_i kt et szt bt zt czt ht
  split
  ·rename_i ik hik
   split
   ·rename_i ie hie
    split
    ·rename_i z hz
     split
     ·rename_i hkey
      split
      ·rename_i i
       split
       ·rename_i es hes
        split
        ·rename_i v' b an'
         intro res hres hg _
         cases hres
         obtain ⟨g1,g2,g3,_⟩:=hg
         refine pureDoes hd fun a w M E hs=>?_
         obtain ⟨r,hr,hown,ents,clock,hh,⟨hsz,hclk,hborn⟩,hent⟩:=hs.mp i es hes
         have hxv:a.eval x = .map (some r):=by
          have:=(hx a w M E hs).of_cell rfl
          generalize a.eval x=vv at this
          cases this with
          | pure h=>cases h
          | mp _ r' h=>rw [hr] at h; cases h; rfl
         obtain ⟨d,hd1,hd2,hd3⟩:=keyOk_rel (hτ _ _ hik).kind hkey
         obtain ⟨hyk,hyr⟩:=hd3 M E _ (hy a w M E hs)
         obtain ⟨zv,hz1,hz2⟩:=zeroVal_rel (hτ _ _ hie) hz w
         have hm:C.P.underlying t=some (.map kt et):=(hτ _ _ ht).kind
         have hE:EntR M (E.arO (mns i)) ents.toList es:=⟨by simpa using hsz,fun j e p he hp=>hent j e p (by simpa using he) hp⟩
         have fin:∀ (vv:Value),Rel M E vv v'→∃ q,(execOp a.eval o).run C.P w = .ok (.value q) w∧Rel M E q (match ok with | true=>.tup [v',.bool b] | false=>v')→True:=fun _ _=>⟨undef,fun _=>trivial⟩
         rcases find_rel (E:=E.arO (mns i)) hd1 (hτ _ _ hik).kind hkey hyr hyk 0 g1 hE with ⟨f1,f2,_⟩ | ⟨j,e,p,f1,f2,f3,f4,f5,_⟩
         ·rw [f2] at g2 g3
          have g3:false=b:=g3
          subst g3
          have hzr:Rel M E zv v':=by
           rcases g2 with g2 | ⟨g2,c,i3,k3,j3,rfl,⟨g4,_⟩ | ⟨_,rfl⟩⟩
           ·have g2:z=v':=g2
            subst g2; exact hz2 M E
           ·cases g4
           ·subst g2
            have e:zv = .pointer none:=(hz2 M E).nilp_inv
            rw [e]
            exact .cell (.popt false _ (fun e=>by cases e) fun _=>rfl)
          cases ok with
          | false=>
           refine ⟨zv,?_,hzr⟩
           simp [execOp,ho,hxv,Instr.lookup,run_underlying hm,Go.MapKept.run_getObj_map hh,Go.MapKept.run_checkKey hd2 hyk,Go.MapKept.run_findKey hd2 f1,hz1]
          | true=>
           refine ⟨.tuple #[zv,.bool false],?_,.tup [zv,.bool false] _ rfl fun j v c hv hc=>?_⟩
           ·simp [execOp,ho,hxv,Instr.lookup,run_underlying hm,Go.MapKept.run_getObj_map hh,Go.MapKept.run_checkKey hd2 hyk,Go.MapKept.run_findKey hd2 f1,hz1]
           ·match j with
            | 0=>simp at hv hc; subst hv; subst hc; exact hzr
            | 1=>simp at hv hc; subst hv; subst hc; exact .cell (.pure (.bool _))
            | j+2=>simp at hv
         ·rw [f5] at g2 g3
          have g3:true=b:=g3
          subst g3
          have hrel0:Rel M E e.val p.2:=(hent j e p (by simpa using f2) f4).2.monoE (Env.arO_sub E _)
          have hrel:Rel M E e.val v':=by
           rcases g2 with g2 | ⟨_,c,i3,k3,j3,rfl,⟨g4,rfl⟩ | ⟨g4,_⟩⟩
           ·have g2:p.2=v':=g2
            subst g2; exact hrel0
           ·have g4:some p.2=some (.aptr i3 k3 j3):=g4
            have g5:p.2 = .aptr i3 k3 j3:=by simpa using g4
            rw [g5] at hrel0
            exact .cell (.popt true _ (fun _=>hrel0.of_cell rfl) fun e=>by cases e)
           ·cases g4
          cases ok with
          | false=>
           refine ⟨e.val,?_,hrel⟩
           simp [execOp,ho,hxv,Instr.lookup,run_underlying hm,Go.MapKept.run_getObj_map hh,Go.MapKept.run_checkKey hd2 hyk,Go.MapKept.run_findKey hd2 f1]
          | true=>
           refine ⟨.tuple #[e.val,.bool true],?_,.tup [e.val,.bool true] _ rfl fun j v c hv hc=>?_⟩
           ·simp [execOp,ho,hxv,Instr.lookup,run_underlying hm,Go.MapKept.run_getObj_map hh,Go.MapKept.run_checkKey hd2 hyk,Go.MapKept.run_findKey hd2 f1]
           ·match j with
            | 0=>simp at hv hc; subst hv; subst hc; exact hrel
            | 1=>simp at hv hc; subst hv; subst hc; exact .cell (.pure (.bool _))
            | j+2=>simp at hv
        ·exact .nil
       ·exact .nil
      ·exact .nil
     ·exact .nil
    ·exact .nil
   ·exact .nil
  ·exact .nil
 ·exact .nil
theorem Sound.mapUpdate (hτ:TyOk C.P τ) {o:Oper} {an:List An} {t:TypeId} {m x y:Operand} (ho:o.op = .mapUpdate t m x y) {v u z:AV} (hm:Has C s m v) (hx:Has C s x u) (hy:Has C s y z):Sound C o s (evalMapUpdate τ s an o.dst t v u z):=by
 unfold evalMapUpdate
 split
 ·exact .nil
 ·rename_i hdn
  split
  ·rename_i kt et szt bt zt czt ht
   split
   ·rename_i ik hik
    split
    ·rename_i hkey
     split
     ·rename_i i
      split
      ·rename_i es hes
       split
       ·rename_i y' e hse
        rcases Bool.eq_false_or_eq_true (AV.isPure y'||AV.okIn no no no (fun j=>memN j (mns i)) y') with hpure | hpure
        rotate_left
        ·simp only [hpure]; exact .nil
        simp only [hpure]
        split
        ·rename_i es' an'
         intro res hres hg _
         cases hres
         obtain ⟨g1,g2,_⟩:=hg
         intro a w ⟨hdf,M,E,hs,hp0⟩
         obtain ⟨M',hM,hs1,hv1,_⟩:=sealA_ok (likeRows.refl hs) hse hs (norm_rel (τ:=τ) (t:=et) (hy a w M E hs))
         have hv:Rel M' (E.arO (mns i)) (a.eval y) y':=by
          rw [Bool.or_eq_true] at hpure
          rcases hpure with h | h
          ·exact hv1.of_pure _ h
          ·exact hv1.arO h
         obtain ⟨r,hr,hown,ents,clock,hh,⟨hsz,hclk,hborn⟩,hent⟩:=hs1.mp i es hes
         have hmv:a.eval m = .map (some r):=by
          have:=(hm a w M E hs).of_cell rfl
          generalize a.eval m=vv at this
          cases this with
          | pure h=>cases h
          | mp _ r' h=>rw [hr] at h; cases h; rfl
         obtain ⟨d,hd1,hd2,hd3⟩:=keyOk_rel (hτ _ _ hik).kind hkey
         obtain ⟨hyk,hyr0⟩:=hd3 M E _ (hx a w M E hs)
         have hyr:RelP M' (a.eval x) u:=RelP.mono hM hyr0
         have hmt:C.P.underlying t=some (.map kt et):=(hτ _ _ ht).kind
         have hE:EntR M' (E.arO (mns i)) ents.toList es:=⟨by simpa using hsz,fun j e p he hp=>hent j e p (by simpa using he) hp⟩
         rcases find_rel (E:=E.arO (mns i)) hd1 (hτ _ _ hik).kind hkey hyr hyk 0 g1 hE with ⟨f1,_,f3⟩ | ⟨j,en,p,f1,f2,f3,f4,_,f6⟩
         ·rw [f3] at g2
          refine ⟨undef,{ w with heap:=w.heap.setIfInBounds r (.map (ents.push { key:=a.eval x,val:=a.eval y,born:=clock }) (clock+1)) },.inr ⟨?_,rfl⟩,by rw [defers_put]; exact hdf,M',E,?_,hp0⟩
          rotate_left
          ·rw [hdn]
           exact hs1.mapSet hes hr (ents:=ents.push { key:=a.eval x,val:=a.eval y,born:=clock }) (clock:=clock+1) (by
            refine ⟨by rw [g2]; simp [hsz],by rw [g2]; simp [hclk],fun j en he=>?_⟩
            rw [Array.getElem?_push] at he
            split at he
            ·rename_i ej
             cases he
             show clock=j
             omega
            ·exact hborn j en he) (fun j en p he hp=>by
            rw [g2,List.getElem?_append] at hp
            rw [Array.getElem?_push] at he
            split at he
            ·rename_i ej
             cases he
             rw [ej,hsz] at hp
             simp at hp
             subst hp
             exact ⟨hyr,hv⟩
            ·rename_i ej
             have hlt:j<es.length:=by
              have:=(Array.getElem?_eq_some_iff.1 he).1
              omega
             rw [if_pos hlt] at hp
             exact hent j en p he hp)
          ·simp [execOp,ho,hmv,Instr.mapUpdate,run_underlying hmt,Go.MapKept.run_getObj_map hh,Go.MapKept.run_checkKey hd2 hyk,Go.MapKept.run_findKey hd2 f1,Go.MapKept.run_setObj_map _ hh]
         ·rw [f6] at g2
          have hje:(0+j)=j:=Nat.zero_add j
          refine ⟨undef,{ w with heap:=w.heap.setIfInBounds r (.map (ents.modify j fun e=>{ e with key:=a.eval x,val:=a.eval y }) clock) },.inr ⟨?_,rfl⟩,by rw [defers_put]; exact hdf,M',E,?_,hp0⟩
          rotate_left
          ·rw [hdn]
           exact hs1.mapSet hes hr (ents:=ents.modify j fun e=>{ e with key:=a.eval x,val:=a.eval y }) (clock:=clock) (by
            refine ⟨by rw [g2]; simp [hsz],by rw [g2]; simp [hclk],fun j' en' he=>?_⟩
            rw [Array.getElem?_modify] at he
            by_cases hjj:j=j'
            ·rw [if_pos hjj] at he
             obtain ⟨e0,h0,rfl⟩:=Option.map_eq_some_iff.1 he
             exact hborn j' e0 h0
            ·rw [if_neg hjj] at he
             exact hborn j' en' he) (fun j' en' p' he hp=>by
            rw [g2,List.getElem?_set] at hp
            rw [Array.getElem?_modify] at he
            by_cases hjj:j=j'
            ·subst hjj
             rw [if_pos rfl] at he hp
             obtain ⟨e0,_,rfl⟩:=Option.map_eq_some_iff.1 he
             split at hp
             ·cases hp; exact ⟨hyr,hv⟩
             ·cases hp
            ·rw [if_neg hjj] at he hp
             exact hent j' en' p' he hp)
          ·have e1:ents[j]?=some en:=by simpa using f2
           simp [execOp,ho,hmv,Instr.mapUpdate,run_underlying hmt,Go.MapKept.run_getObj_map hh,Go.MapKept.run_checkKey hd2 hyk,Go.MapKept.run_findKey hd2 f1,e1,f3,Go.MapKept.run_keyThatStays hyk,Go.MapKept.run_setObj_map _ hh]
        ·exact .nil
       ·exact .nil
      ·exact .nil
     ·exact .nil
    ·exact .nil
   ·exact .nil
  ·exact .nil
end Go.Dm
namespace Go.Dm
open Go Go.RowKit
section
variable {g:Gh} {N:Nat} {M:Mem} {E:Env} {s:S} {tmps:Array Value} {w:World}
theorem arO_no_ptr {M:Mem} {E:Env} {ns:List Nat} {v:Value} {c o:Nat} (h:RelS M (E.arO ns) v (.ptr c o)):False:=by
 cases h with
 | pure h=>cases h
 | ptr _ _ _ h=>cases h
theorem sealN_ar_le {s s':S} {A:Nat} {r r':Arn} (hr:aget s.ar A=some r) (hrw:s'.rw=s.rw) (har:s'.ar=(A,r')::s.ar) (h:∀ p:Nat,ownK (flat r.xs)[p]?≤ownK (flat r'.xs)[p]?) (o:Nat×Nat×Nat):sealN s o≤sealN s' o:=by
 obtain ⟨kd,j,p⟩:=o
 unfold sealN
 rw [hrw,har]
 dsimp only
 split
 ·exact Nat.le_refl _
 ·split
  ·exact Nat.le_refl _
  ·split
   ·rw [aget_cons]
    by_cases e:j=A
    ·rw [if_pos e,e,hr]; exact h p
    ·rw [if_neg e]; exact Nat.le_refl _
   ·exact Nat.le_refl _
theorem St.arPush (hs:St g N M E s tmps w) {A:Nat} {r:Arn} (hA:aget s.ar A=some r) {vs:List Value} {y:AV} (hl:y.cells.length=r.sz)
  (hv:vs.length=y.cells.length) (hr:∀ (j:Nat) (v:Value) (c:AV),vs[j]?=some v→y.cells[j]?=some c→eR M E 1 r.ns v c∨(v = .slice none 0 0∧∃ ty sz,c = .own ty sz 0 [])) :
  ∃ E' bs,E.up E'∧E'.ar A=some bs∧bs[r.xs.length]?=some w.heap.size∧St g N M E' { s with ar:=(A,{ r with xs:=r.xs++[y] })::s.ar } tmps (w.alloc (.cells vs.toArray r.ty)):=by
 obtain ⟨bs,hbs,hok⟩:=hs.ar A r hA
 have hn:=hok.n
 have hle:E.le { E with ar:=fun j=>if j=A then some (bs++[w.heap.size]) else E.ar j,own:=fun b=>if b=w.heap.size then some (3,A,bs.length) else E.own b }:=by
  refine ⟨fun j b hb=>hb,fun j q hq=>⟨q,hq,Nat.le_refl _,fun _=>⟨rfl,rfl,rfl,rfl⟩⟩,fun j r hr=>hr,fun j bs' h=>?_⟩
  by_cases e:j=A
  ·rw [e,hbs] at h
   cases h
   exact ⟨[w.heap.size],by simp only [if_pos e]⟩
  ·exact ⟨[],by simp only [if_neg e,List.append_nil]; exact h⟩
 refine ⟨_,bs++[w.heap.size],⟨hle,fun E0 hp=>⟨hp.bx,hp.rw,hp.mp,fun j bs' hj h=>?_⟩⟩,if_pos rfl,by rw [← hn,List.getElem?_append_right (Nat.le_refl _)]; simp,?_⟩
 ·simp only at h
  by_cases e:j=A
  ·rw [if_pos e] at h
   cases h
   obtain ⟨bs0,l,h1,h2⟩:=hp.ar j bs hj (by rw [e]; exact hbs)
   exact ⟨bs0,l++[w.heap.size],h1,by rw [h2,List.append_assoc]⟩
  ·rw [if_neg e] at h; exact hp.ar j bs' hj h
 have hown:∀ b,b<w.heap.size→(if b=w.heap.size then some ((3:Nat),A,bs.length) else E.own b)=E.own b:=fun b hb=>if_neg (by omega)
 have hpush:∀ p:Nat,ownK (flat r.xs)[p]?≤ownK (flat (r.xs++[y]))[p]?:=fun p=>by
  rw [flat_append]
  by_cases h:p<(flat r.xs).length
  ·rw [List.getElem?_append_left h]; exact Nat.le_refl _
  ·rw [List.getElem?_eq_none (by omega)]; exact Nat.zero_le _
 refine hs.grow' (fun _=>False) (fun _ _ h=>h.elim) (Grow.alloc w _) hle (fun b hb _=>hown b hb) ?_ rfl (fun b j v h=>h.elim)
  (fun b o _ _=>sealN_ar_le (s':={ s with ar:=(A,{ r with xs:=r.xs++[y] })::s.ar }) (r':={ r with xs:=r.xs++[y] }) hA rfl rfl hpush o)
  (fun j cs hj=>.inl ⟨hj,fun _ _ h=>h⟩) hs.bxn (fun j r hj=>.inl ⟨hj,rfl,fun _ _ _ h=>h⟩) hs.rwn (fun j es hj=>.inl ⟨hj,fun _ _ h=>h⟩) hs.mpn ?_ ?_
 ·intro b o hb
  simp only at hb
  split at hb
  ·simp; omega
  ·have:=hs.live b o hb; simp; omega
 ·intro j r2 hj
  simp only [aget_cons] at hj
  split at hj
  ·rename_i e; subst e
   cases hj
   refine .inr ⟨bs++[w.heap.size],if_pos rfl,⟨by simp [hn],fun x hx=>?_,fun k x hx hh=>?_,fun k c o l hx=>?_⟩⟩
   ·rcases List.mem_append.1 hx with h | h
    ·exact hok.es x h
    ·rw [List.mem_singleton.1 h]; exact hl
   ·have hx:(r.xs++[y])[k]?=some x:=hx
    by_cases hk:k<r.xs.length
    ·rw [List.getElem?_append_left hk] at hx
     obtain ⟨b,vs',g1,g2,g3,g4,g5⟩:=hok.el k x hx hh
     have hlt:=hs.live b _ g2
     refine ⟨b,vs',by rw [List.getElem?_append_left (by omega)]; exact g1,(hown b hlt).trans g2,by rw [(Grow.alloc w _).block b hlt (fun h=>h)]; exact g3,g4,?_⟩
     exact g5.mono (fun _ _ _ h=>h) (fun _=>Env.arO_le hle _) fun b' j' ho=>by
      have hlt':=hs.live b' _ ho
      exact ⟨(hown b' hlt').trans ho,(Grow.alloc w _).block b' hlt' fun h=>h⟩
    ·have hk':k=r.xs.length:=by
      have:=(List.getElem?_eq_some_iff.1 hx).1
      simp at this; omega
     subst hk'
     rw [List.getElem?_append_right (Nat.le_refl _)] at hx
     simp at hx
     subst hx
     refine ⟨w.heap.size,vs.toArray,by rw [← hn,List.getElem?_append_right (Nat.le_refl _)]; simp,by show (if w.heap.size=w.heap.size then some ((3:Nat),j,bs.length) else E.own _)=_; rw [if_pos rfl,hn],⟨_,heap_alloc_new w _⟩,by simp [hv,hl],?_⟩
     intro p u hu
     have hp:=(List.getElem?_eq_some_iff.1 hu).1
     refine ⟨vs[p]'(by omega),by simp [show p<vs.length by omega],?_⟩
     rcases hr p _ u (List.getElem?_eq_getElem (by omega)) hu with h1 | ⟨h1,ty,sz,rfl⟩
     ·exact .rel (RelS.monoE (Env.arO_le hle _) h1)
     ·rw [h1]
      exact .own ty sz 0 [] none 0 0 rfl (Nat.le_refl _) (Nat.zero_le _) (fun x hx=>by cases hx) (Nat.le_refl _) (.inl rfl)
   ·have hx:(r.xs++[y])[k]?=some (.agg (.ptr c o::l)):=hx
    by_cases hk:k<r.xs.length
    ·rw [List.getElem?_append_left hk] at hx
     obtain ⟨h1,b,h2,h3⟩:=hok.ho k c o l hx
     exact ⟨h1,b,by rw [List.getElem?_append_left (by omega)]; exact h2,h3⟩
    ·have hk':k=r.xs.length:=by
      have:=(List.getElem?_eq_some_iff.1 hx).1
      simp at this; omega
     subst hk'
     rw [List.getElem?_append_right (Nat.le_refl _)] at hx
     simp at hx
     rw [hx] at hr hv
     have h0:0<vs.length:=by rw [hv]; simp [AV.cells]
     rcases hr 0 _ (.ptr c o) (List.getElem?_eq_getElem h0) rfl with h1 | ⟨_,ty,sz,h1⟩
     ·exact (arO_no_ptr h1).elim
     ·cases h1
  ·rename_i hne
   exact .inl ⟨hj,if_neg hne,fun _ _ _ h=>h⟩
 ·intro j hj
  simp only [aget_cons] at hj
  split at hj
  ·cases hj
  ·rename_i hne
   show (if j=A then _ else E.ar j)=none
   rw [if_neg hne]; exact hs.arn j hj
theorem St.arSet (hs:St g N M E s tmps w) {A:Nat} {r:Arn} (hA:aget s.ar A=some r) {bs:List Nat} (hbs:E.ar A=some bs) {k b:Nat} (hb:bs[k]?=some b) {u u':AV} (hu:r.xs[k]?=some u) (hhole:u.isHole=false) {vs:Array Value} {ty':TypeId} (hh:w.heap[b]?=some (.cells vs ty' (0,0))) {vs':Array Value}
  (hsz:vs'.size=vs.size) (hu':u'.cells.length=r.sz) (hown:∀ p:Nat,ownK u.cells[p]?≤ownK u'.cells[p]?) (hcs:CsOk M E w 2 r.ns 6 A (k*r.sz) vs' u'.cells) :
  St g N M E { s with ar:=(A,{ r with xs:=r.xs.set k u' })::s.ar } tmps (w.setRow b vs'):=by
 obtain ⟨bs',hbs',hok⟩:=hs.ar A r hA
 rw [hbs] at hbs'; cases hbs'
 have hk:=(List.getElem?_eq_some_iff.1 hu).1
 obtain ⟨b',vs0,g1,g2,g3,g4,g5⟩:=hok.el k u hu hhole
 rw [hb] at g1; cases g1
 obtain ⟨_,g3⟩:=g3
 rw [hh] at g3; cases g3
 have hlt:=hs.live b _ g2
 have hX:∀ b' o,b'=b→E.own b'=some o→o=(3,A,k):=fun b' o e ho=>by rw [e,g2] at ho; cases ho; rfl
 have hflat:∀ p:Nat,ownK (flat r.xs)[p]?≤ownK (flat (r.xs.set k u'))[p]?:=by
  intro p
  have hul:u.cells.length=r.sz:=hok.es u (List.mem_of_getElem? hu)
  have hT:(flat (r.xs.take k)).length=k*r.sz:=by rw [flat_len (fun y hy=>hok.es y (List.mem_of_mem_take hy)),List.length_take,Nat.min_eq_left (by omega)]
  have e1:flat r.xs=flat (r.xs.take k)++(u.cells++flat (r.xs.drop (k+1))):=by
   conv=>lhs; rw [← List.take_append_drop k r.xs,List.drop_eq_getElem_cons hk,(List.getElem?_eq_some_iff.1 hu).2,flat_append,flat_cons]
  have e2:flat (r.xs.set k u')=flat (r.xs.take k)++(u'.cells++flat (r.xs.drop (k+1))):=by
   rw [List.set_eq_take_append_cons_drop,if_pos hk,flat_append,flat_cons]
  rw [e1,e2]
  have l1:∀ X:List AV,p<k*r.sz→(flat (r.xs.take k)++X)[p]?=(flat (r.xs.take k))[p]?:=fun X h=>List.getElem?_append_left (by omega)
  have r1:∀ X:List AV,k*r.sz≤p→(flat (r.xs.take k)++X)[p]?=X[p - k*r.sz]?:=fun X h=>by rw [List.getElem?_append_right (by omega),hT]
  have l2:∀ (c X:List AV) (q:Nat),q<c.length→(c++X)[q]?=c[q]?:=fun c X q h=>List.getElem?_append_left h
  have r2:∀ (c X:List AV) (q:Nat),c.length≤q→(c++X)[q]?=X[q - c.length]?:=fun c X q h=>List.getElem?_append_right h
  by_cases h1:p<k*r.sz
  ·rw [l1 _ h1,l1 _ h1]; exact Nat.le_refl _
  ·rw [r1 _ (by omega),r1 _ (by omega)]
   by_cases h2:p - k*r.sz<r.sz
   ·rw [l2 u.cells _ _ (by omega),l2 u'.cells _ _ (by omega)]; exact hown _
   ·rw [r2 u.cells _ _ (by omega),r2 u'.cells _ _ (by omega),hul,hu']; exact Nat.le_refl _
 refine hs.grow' (fun b'=>b'=b) (fun b' _ e=>⟨(3,A,k),by rw [e]; exact g2⟩) (Grow.setRow w b _) (Env.le_refl E) (fun _ _ _=>rfl) (fun b' o ho=>by have:=hs.live b' o ho; simpa using this) rfl
  (fun b' j v e hv=>?_) (fun b' o _ _=>sealN_ar_le (s':={ s with ar:=(A,{ r with xs:=r.xs.set k u' })::s.ar }) (r':={ r with xs:=r.xs.set k u' }) hA rfl rfl hflat o)
  (fun j cs hj=>.inl (hs.bxK (fun b' i' e ho=>by have:=hX b' _ e ho; cases this) j cs hj)) hs.bxn
  (fun j r' hj=>.inl ⟨hj,rfl,fun b' p ho e=>?_⟩) hs.rwn
  (fun j es hj=>.inl (hs.mpK (fun b' i' e ho=>by have:=hX b' _ e ho; cases this) j es hj)) hs.mpn ?_ ?_
 ·have:=(hs.mem b' j v hv).2 (3,A,k) (by rw [e]; exact g2)
  simp [sealN] at this
 ·rcases ho with ho | ho <;> (have:=hX b' _ e ho; cases this)
 ·intro j r2 hj
  simp only [aget_cons] at hj
  split at hj
  ·rename_i e; subst e
   cases hj
   refine .inr ⟨bs,hbs,⟨by simp [hok.n],fun x hx=>?_,fun k2 x hx hh2=>?_,fun k2 c o l hx=>?_⟩⟩
   ·rcases List.mem_or_eq_of_mem_set hx with h | h
    ·exact hok.es x h
    ·rw [h]; exact hu'
   ·have hx:(r.xs.set k u')[k2]?=some x:=hx
    by_cases e:k=k2
    ·subst e
     rw [List.getElem?_set_self hk] at hx
     cases hx
     refine ⟨b,vs',hb,g2,⟨ty',setRow_heap w b vs _ ty' _ hh⟩,by rw [hsz]; exact g4,?_⟩
     exact hcs.mono (fun _ _ _ h=>h) (fun _=>Env.le_refl _) fun b' j' ho=>⟨ho,setRow_other w b b' _ (fun e=>by have:=hX b' _ e ho; cases this)⟩
    ·rw [List.getElem?_set_ne e] at hx
     obtain ⟨b2,vs2,f1,f2,f3,f4,f5⟩:=hok.el k2 x hx hh2
     have hne:b2≠b:=fun e2=>by have:=hX b2 _ e2 f2; cases this; exact e rfl
     exact ⟨b2,vs2,f1,f2,by rw [setRow_other w b b2 _ hne]; exact f3,f4,f5.mono (fun _ _ _ h=>h) (fun _=>Env.le_refl _) fun b' j' ho=>⟨ho,setRow_other w b b' _ (fun e2=>by have:=hX b' _ e2 ho; cases this)⟩⟩
   ·have hx:(r.xs.set k u')[k2]?=some (.agg (.ptr c o::l)):=hx
    by_cases e:k=k2
    ·subst e
     rw [List.getElem?_set_self hk] at hx
     cases hx
     obtain ⟨v,_,h1⟩:=hcs 0 (.ptr c o) rfl
     have h1:RelC M (E.arO r.ns) w 6 j (k*r.sz+0) v (.ptr c o):=h1
     cases h1 with
     | rel h1=>exact (arO_no_ptr h1).elim
    ·rw [List.getElem?_set_ne e] at hx
     exact hok.ho k2 c o l hx
  ·rename_i hne
   refine .inl ⟨hj,rfl,fun b' p ho e=>?_⟩
   rcases ho with ho | ho
   ·have:=hX b' _ e ho; cases this; exact hne rfl
   ·have:=hX b' _ e ho; cases this
 ·intro j hj
  simp only [aget_cons] at hj
  split at hj
  ·cases hj
  ·exact hs.arn j hj
end
theorem CsOk.putP {M:Mem} {E:Env} {w:World} {pu:Nat} {ns:List Nat} {kd i p:Nat} {vs:List Value} {cs:List AV} (h:CsOk M E w pu ns kd i p vs.toArray cs) {nv:List Value} {ys:List AV} (hl:nv.length=ys.length)
  (hy:∀ (j:Nat) (u:AV),ys[j]?=some u→∃ v,nv[j]?=some v∧cR M E w pu ns kd i (p+0) v u∧∀ q,cR M E w pu ns kd i q v u) {o:Nat} (ho:o+ys.length≤cs.length) (hv:o+ys.length≤vs.length) :
  CsOk M E w pu ns kd i p (vs.take o++nv++vs.drop (o+nv.length)).toArray (cs.take o++ys++cs.drop (o+ys.length)):=by
 intro j u hu
 have t1:(vs.take o).length=o:=by simp; omega
 have t2:(cs.take o).length=o:=by simp; omega
 rw [List.append_assoc] at hu
 rw [List.getElem?_toArray,List.append_assoc]
 by_cases h1:j<o
 ·rw [List.getElem?_append_left (by omega),List.getElem?_take,if_pos h1] at hu
  rw [List.getElem?_append_left (by omega),List.getElem?_take,if_pos h1]
  simpa using h j u hu
 ·rw [List.getElem?_append_right (by omega),t2] at hu
  rw [List.getElem?_append_right (by omega),t1]
  by_cases h2:j - o<ys.length
  ·rw [List.getElem?_append_left h2] at hu
   rw [List.getElem?_append_left (by omega)]
   obtain ⟨v,hv,_,hr⟩:=hy _ u hu
   exact ⟨v,hv,hr _⟩
  ·rw [List.getElem?_append_right (by omega),List.getElem?_drop] at hu
   rw [List.getElem?_append_right (by omega),List.getElem?_drop,hl]
   have e:o+ys.length+(j - o - ys.length)=j:=by omega
   rw [e] at hu ⊢
   simpa using h j u hu
variable {C:Cx} {k:List It} {s:S} {τ:TyTab}
theorem Sound.boxAr {o:Oper} {an:List An} {t:TypeId} {x:Operand} (ho:o.op = .box t x) (hd:∀ d,o.dst=some d→d<C.N) {A n:Nat} {l:List Nat} {zs:List AV} {v:AV} (hx:Has C s x v):Sound C o s (evalBoxAr τ o.dst s t A n l zs an v):=by
 unfold evalBoxAr
 split
 ·rename_i i hi
  split
  ·rename_i r hA
   split
   ·rename_i hty
    have hty:=beq_true hty
    split
    ·rename_i y e hse
     split
     ·rename_i hl
      have hl:=beq_true hl
      split
      ·rename_i hel
       intro res hres hg _
       cases hres
       intro a w ⟨hdf,M,E,hs,hp0⟩
       obtain ⟨hn,hzs,_⟩:=hg
       obtain ⟨M',hM,hs1,hv,_⟩:=sealA_ok (likeRows.refl hs) hse hs (by unfold normO; split; exact norm_rel (hx a w M E hs); exact hx a w M E hs)
       have hall:=hv.allR (allCell_all (elemsOk_isCell hel))
       have hA1:aget ({ s with rw:=e++s.rw }:S).ar A=some r:=hA
       obtain ⟨E',bs,hE,hbs,hbk,hs2⟩:=hs1.arPush hA1 (vs:=(a.eval x).cells.toList) (y:=ownN l y) ((ownN_cells l y).1.trans hl) (hall.1.trans (ownN_cells l y).1.symm)
        (fun j v c hv hc=>by
         rcases (ownN_cells l y).2 j c hc with hc | ⟨hc2,ty,sz,rfl⟩
         ·exact .inl (elemOk_rel (elemsOk_get hel hc) (hall.2 j v c hv hc))
         ·have h1:=hall.2 j v _ hv hc2
          exact .inr ⟨Rel.nils_inv (.cell h1),ty,sz,rfl⟩)
       have hrun:(execOp a.eval o).run C.P w = .ok (.value (.pointer (some ⟨w.heap.size,0,none⟩))) (w.alloc (.cells (a.eval x).cells.toList.toArray t)):=by
        simp [execOp,ho,Instr.box,newVar,newRow]
       rw [← hty] at hrun
       refine ⟨_,_,.inl hrun,by rw [defers_put]; exact hdf,M',E',?_,hE.p _ hp0⟩
       subst hn hzs
       have:=hs2.putS (hd i hi) (v:=.pointer (some ⟨w.heap.size,0,none⟩)) (x:=.aptr A r.xs.length 0) (.cell (.aptr A _ 0 bs _ hbs hbk))
       rw [hi]
       exact this
      ·exact .nil
     ·exact .nil
    ·exact .nil
   ·exact .nil
  ·exact .nil
 ·exact .nil
theorem aptr_cur {M:Mem} {E:Env} {w:World} {tmps:Array Value} {g:Gh} {N:Nat} (hs:St g N M E s tmps w) {A k' of:Nat} {r:Arn} {v:Value} {u:AV} (hA:aget s.ar A=some r) (hx:Rel M E v (.aptr A k' of)) (hu:r.xs[k']?=some u) (hhole:u.isHole=false) :
  ∃ bs blk vs ty',v = .pointer (some ⟨blk,of,none⟩)∧E.ar A=some bs∧bs[k']?=some blk∧ArOk M E w A bs r∧E.own blk=some (3,A,k')∧w.heap[blk]?=some (.cells vs ty' (0,0))∧vs.size=r.sz∧CsOk M E w 2 r.ns 6 A (k'*r.sz) vs u.cells:=by
 obtain ⟨bs,b,h1,h2,he⟩:=hx.aptr_inv
 obtain ⟨bs',hbs',hok⟩:=hs.ar A r hA
 rw [h1] at hbs'; cases hbs'
 obtain ⟨b',vs,g1,g2,⟨ty',g3⟩,g4,g5⟩:=hok.el k' u hu hhole
 rw [h2] at g1; cases g1
 exact ⟨bs,b,vs,ty',he,h1,h2,hok,g2,g3,g4,g5⟩
theorem run_equal_ptr {P:Program} {tp te:TypeId} {j:TypeInfo} (w:World) {a b:Addr} {ca cb:Array Value} {ta tb:TypeId} (hp:P.underlying tp=some (.pointer te)) (hte:P.info? te=some j) (hsz:j.size≠0)
  (ha:w.heap[a.block]?=some (.cells ca ta (0,0))) (hb:w.heap[b.block]?=some (.cells cb tb (0,0))):(Op.equal tp (.pointer (some a)) (.pointer (some b))).run P w = .ok (decide (a=b)) w:=by
 have h:∀ d:Nat,(Op.equalIn (d+1) tp (.pointer (some a)) (.pointer (some b))).run P w = .ok (decide (a=b)) w:=fun d=>by
  by_cases hne:a=b
  ·subst hne
   simp [Op.equalIn,run_underlying hp,sizeOf,typeInfo,hte,run_sameAddr_same]
  ·simp [Op.equalIn,run_underlying hp,sizeOf,typeInfo,hte,hsz,run_sameAddr_other w hne ha hb,hne]
 simp [Op.equal,Op.maxDepth,h 9999]
theorem Sound.aptrEq (hτ:TyOk C.P τ) {o:Oper} {an:List An} {op:BinOp} {t t':TypeId} {x y:Operand} (ho:o.op = .binOp op t x y t') (hd:∀ d,o.dst=some d→d<C.N) {A k' of B j p:Nat} (hx:Has C s x (.aptr A k' of)) (hy:Has C s y (.aptr B j p)):Sound C o s (evalAptr τ s an t A k' of B j p op):=by
 unfold evalAptr
 split
 ·rename_i e _ _ _ _ ht
  split
  ·rename_i te hte
   split
   ·rename_i hc
    simp only [Bool.and_eq_true] at hc
    obtain ⟨hc1,hc2,hc3⟩:=hc
    have hc1:1≤te.sz:=Nat.le_of_ble_eq_true hc1
    have hc2:=beq_true hc2
    have hc3:=beq_true hc3
    subst hc2; subst hc3
    split
    ·rename_i r hA
     split
     ·rename_i b an'
      have hpt:C.P.underlying t=some (.pointer e):=(hτ _ _ ht).kind
      obtain ⟨inf,z,i1,i2,_,_,_⟩:=(hτ _ _ hte).info
      have main:(∀ x∈r.xs,x.isHole=false)→k'<r.xs.length→j<r.xs.length→(b=true↔k'=j)→∀ (a:Act) (w:World) (M:Mem) (E:Env),St C.g C.N M E s a.tmps w→∃ p q,a.eval x = .pointer (some p)∧a.eval y = .pointer (some q)∧(Op.equal t (.pointer (some p)) (.pointer (some q))).run C.P w = .ok b w:=fun h1 h2 h3 h4 a w M E hs=>by
       have u1:=List.getElem?_eq_getElem h2
       have u2:=List.getElem?_eq_getElem h3
       obtain ⟨bs,blk,vs,_,e1,f1,f2,_,f4,f5,_,_⟩:=aptr_cur hs hA (hx a w M E hs) u1 (h1 _ (List.getElem_mem h2))
       obtain ⟨bs',blk',vs',_,e1',f1',f2',_,f4',f5',_,_⟩:=aptr_cur hs hA (hy a w M E hs) u2 (h1 _ (List.getElem_mem h3))
       refine ⟨_,_,e1,e1',?_⟩
       have hsz:inf.size≠0:=by rw [i2]; omega
       rw [run_equal_ptr w hpt i1 hsz f5 f5']
       congr 1
       have key:(blk=blk')↔k'=j:=by
        constructor
        ·intro q
         rw [q,f4'] at f4
         cases f4; rfl
        ·intro q
         subst q
         rw [f1] at f1'; cases f1'
         rw [f2] at f2'; cases f2'; rfl
       rw [Bool.eq_iff_iff,h4,← key]
       simp
      split
      ·intro res hres hg _
       cases hres
       refine pureDoes hd fun a w M E hs=>?_
       obtain ⟨p,q,e1,e2,e3⟩:=main hg.1 hg.2.1 hg.2.2.1 hg.2.2.2.1 a w M E hs
       exact ⟨_,run_bin ho a.eval w (fun v v' h h'=>by rw [← h,← h',e1,e2]; exact eqGuard_ptr w) (by rw [e1,e2]; simp only [binOp,Sem.run_bind,e3,Result.andThen_ok,Sem.run_pure]),.cell (.pure (.bool _))⟩
      ·intro res hres hg _
       cases hres
       refine pureDoes hd fun a w M E hs=>?_
       obtain ⟨p,q,e1,e2,e3⟩:=main hg.1 hg.2.1 hg.2.2.1 hg.2.2.2.1 a w M E hs
       exact ⟨_,run_bin ho a.eval w (fun v v' h h'=>by rw [← h,← h',e1,e2]; exact eqGuard_ptr w) (by rw [e1,e2]; simp only [binOp,Sem.run_bind,e3,Result.andThen_ok,Sem.run_pure]),.cell (.pure (.bool _))⟩
      ·exact .nil
     ·exact .nil
    ·exact .nil
   ·exact .nil
  ·exact .nil
 ·exact .nil
theorem Sound.loadAr (hτ:TyOk C.P τ) {o:Oper} {t:TypeId} {x:Operand} (ho:o.op = .load t x) (hd:∀ d,o.dst=some d→d<C.N) {an:List An} {A k' of:Nat} (hx:Has C s x (.aptr A k' of)) :
  Sound C o s (evalLoadAr τ s an t A k' of):=by
 unfold evalLoadAr
 split
 ·rename_i ti hti
  split
  ·rename_i r hr
   split
   ·rename_i u an'
    split
    ·rename_i y hy
     split
     ·rename_i hcell
      split
      ·rename_i hfit
       intro res hres hg _
       cases hres
       refine pureDoes hd fun a w M E hs=>?_
       have hu:r.xs[k']?=some u:=hg.1
       obtain ⟨hcell,hhole⟩:=Bool.and_eq_true_iff.1 hcell
       have hhole:u.isHole=false:=by simpa using hhole
       obtain ⟨bs,blk,vs,ty',he,_,_,hok,_,g3,g4,g5⟩:=aptr_cur hs hr (hx a w M E hs) hu hhole
       have hcell:=allCell_all hcell
       obtain ⟨f,hread⟩:∃ f:Nat→Value,∀ j c,u.cells[of+j]?=some c→w.cell? ⟨blk,of+j,none⟩=some (f j)∧cR M E w 2 r.ns 6 A (k'*r.sz+(of+j)) (f j) c:=by
        refine ⟨fun j=>vs.getD (of+j) undef,fun j c hc=>?_⟩
        obtain ⟨v,hv,hrel⟩:=g5 _ c hc
        refine ⟨?_,?_⟩
        ·rw [cell_of_row w blk _ vs ty' (0,0) g3,hv]; simp [Array.getD_eq_getD_getElem?,hv]
        ·simp only [Array.getD_eq_getD_getElem?,hv,Option.getD_some]; exact hrel
       have run:∀ v,(loadVar t ⟨blk,of,none⟩).run C.P w = .ok v w→(execOp a.eval o).run C.P w = .ok (.value v) w:=fun v hv=>by
        simp [execOp,ho,he,Instr.loadAt,Instr.sureAddr,hv]
       rcases partOf_at (hτ _ _ hti) hy with ⟨hk,rfl,hl⟩ | ⟨hk,h1,hc⟩
       ·have hl':∀ j,j<ti.sz→∃ c,u.cells[of+j]?=some c:=fun j hj=>⟨_,List.getElem?_eq_getElem (by have:=hl (by omega); omega)⟩
        have hload:=(hτ _ _ hti).loadVar w blk of f (fun j hj=>by
         obtain ⟨c,hc⟩:=hl' j hj
         exact (hread j c hc).1)
        refine ⟨_,run _ hload,?_⟩
        rw [if_pos hk]
        refine .agg _ _ (by
         simp only [List.length_map,List.length_range,List.length_take,List.length_drop]
         rcases Nat.eq_zero_or_pos ti.sz with h0 | h0
         ·omega
         ·have:=hl h0; omega) fun j v c hv hc=>?_
        rw [List.getElem?_map,Option.map_eq_some_iff] at hv
        obtain ⟨j',hj',rfl⟩:=hv
        have hj:j<ti.sz:=by have:=(List.getElem?_eq_some_iff.1 hj').1; simpa using this
        rw [List.getElem?_range hj] at hj'; cases hj'
        have hci:c.isCell=true:=(List.all_eq_true.1 hcell) c (List.mem_of_getElem? (by simpa [AV.cells] using hc))
        rw [List.getElem?_take,if_pos hj,List.getElem?_drop] at hc
        exact (hread j c hc).2.cell hci
       ·have hload:=(hτ _ _ hti).loadVar w blk of f (fun j hj=>by
         have:j=0:=by omega
         subst this
         exact (hread 0 y (by simpa using hc)).1)
        refine ⟨_,run _ hload,?_⟩
        rw [if_neg (by simp [hk])]
        have hyc:y.isCell=true:=by
         cases y <;> first
          | (simp [fits,hk] at hfit; done)
          | (exact (List.all_eq_true.1 hcell) _ (by simp [AV.cells]))
        exact .cell ((hread 0 y (by simpa using hc)).2.cell hyc)
      ·exact .nil
     ·exact .nil
    ·exact .nil
   ·exact .nil
  ·exact .nil
 ·exact .nil
theorem Sound.storeAr (hτ:TyOk C.P τ) {o:Oper} {an:List An} {t:TypeId} {x y:Operand} (ho:o.op = .store t x y) (hd:o.dst=none) {A k' of:Nat} {v:AV} (hy:Has C s y v) (hx:Has C s x (.aptr A k' of)) :
  Sound C o s (evalStoreAr τ s an t v A k' of):=by
 unfold evalStoreAr
 split
 ·rename_i ti hti
  split
  ·rename_i r hr
   split
   ·rename_i y' e hse
    split
    ·rename_i hc1
     split
     ·rename_i hel
      split
      ·rename_i u zs an'
       split
       ·rename_i old hold
        split
        ·rename_i hoc
         split
         ·rename_i u' hput
          intro res hres hg _
          cases hres
          intro a w ⟨hdf,M,E,hs,hp0⟩
          obtain ⟨hu,hzs,_⟩:=hg
          obtain ⟨hc1,hc0⟩:=Bool.and_eq_true_iff.1 hc1
          obtain ⟨hoc,hhole⟩:=Bool.and_eq_true_iff.1 hoc
          have hhole:u.isHole=false:=by simpa using hhole
          have hc1:=beq_true hc1
          have hc0:1≤ti.sz:=Nat.le_of_ble_eq_true hc0
          obtain ⟨M',hM,hs1,hv,_⟩:=sealA_ok (likeRows.refl hs) hse hs (norm_rel (hy a w M E hs))
          have hr1:aget ({ s with rw:=e++s.rw }:S).ar A=some r:=hr
          obtain ⟨bs,blk,vs,ty',he,hbs,hbk,hok,hown,g3,g4,g5⟩:=aptr_cur hs1 hr1 ((hx a w M E hs).monoM hM) hu hhole
          have hall:=hv.allR (allCell_all (elemsOk_isCell hel))
          obtain ⟨eold,hlo⟩:=takeAt_eq _ _ _ _ hold
          have hul:u.cells.length=r.sz:=hok.es u (List.mem_of_getElem? hu)
          obtain ⟨hu'c,hu'l⟩:u'.cells=u.cells.take of++y'.cells++u.cells.drop (of+y'.cells.length)∧u'.cells.length=r.sz:=by
           unfold putCells at hput
           split at hput
           ·rename_i ds hds
            obtain ⟨e1,e2⟩:=setAt_eq _ _ _ _ hds
            have hdl:ds.length=r.sz:=by
             rw [e1]
             simp only [List.length_append,List.length_take,List.length_drop]
             by_cases h0:y'.cells=[]
             ·rw [h0]; simp; omega
             ·have:=e2 h0; omega
            split at hput
            ·cases hput; exact ⟨e1,hdl⟩
            ·split at hput
             ·rename_i d
              split at hput
              ·rename_i hdc
               cases hput
               have:u'.cells=[u']:=by cases u' <;> first | rfl | (simp [AV.isCell] at hdc)
               exact ⟨by rw [this]; exact e1,by rw [this]; exact hdl⟩
              ·cases hput
             ·cases hput
           ·cases hput
          have hfit:of+y'.cells.length≤r.sz:=by have:=hlo (by omega); omega
          have hnl:(a.eval y).cells.toList.length=y'.cells.length:=hall.1
          have hnl':(a.eval y).cells.size=y'.cells.length:=by simpa using hnl
          have hst:(storeVar t ⟨blk,of,none⟩ (a.eval y)).run C.P w = .ok () (w.setRow blk ((vs.toList.take of++(a.eval y).cells.toList++vs.toList.drop (of+(a.eval y).cells.toList.length)).toArray)):=by
           unfold storeVar
           have hne:¬ (a.eval y).cells.size≠ti.sz:=by rw [← hc1,← hnl]; simp
           simp only [Sem.run_bind,(hτ _ _ hti).sizeOf,Result.andThen_ok,if_neg hne,Sem.run_pure]
           have:=run_storeCells_at (P:=C.P) blk of ty' (a.eval y).cells.toList 0 vs w g3 (by rw [hnl]; omega) (fun u hu=>hall.one u hu)
           simpa using this
          refine ⟨undef,w.setRow blk ((vs.toList.take of++(a.eval y).cells.toList++vs.toList.drop (of+(a.eval y).cells.toList.length)).toArray),.inr ⟨by simp [execOp,ho,he,Instr.storeAt,Instr.sureAddr,hst],rfl⟩,?_⟩
          rw [hd]
          subst hzs
          have hvs:vs.toList.toArray=vs:=by simp
          have hset:=hs1.arSet hr1 hbs hbk hu hhole (u':=u') g3 (vs':=(vs.toList.take of++(a.eval y).cells.toList++vs.toList.drop (of+(a.eval y).cells.toList.length)).toArray)
           (by simp only [List.size_toArray,List.length_append,List.length_take,List.length_drop,Array.length_toList]; omega) hu'l
           (fun p=>by
            rw [hu'c]
            have t2:(u.cells.take of).length=of:=by rw [List.length_take]; omega
            rw [List.append_assoc]
            by_cases h1:p<of
            ·rw [List.getElem?_append_left (by omega),List.getElem?_take,if_pos h1]; exact Nat.le_refl _
            ·rw [List.getElem?_append_right (by omega),t2]
             by_cases h2:p - of<y'.cells.length
             ·have hp2:u.cells[p]?=old[p - of]?:=by
               rw [eold,List.getElem?_take,if_pos (by omega),List.getElem?_drop]
               congr 1; omega
              rw [hp2]
              cases ho2:old[p - of]? with
              | none=>exact Nat.zero_le _
              | some c=>
               have:=(List.all_eq_true.1 (allCell_all hoc)) c (List.mem_of_getElem? ho2)
               cases c <;> simp only [ownK] <;> first | exact Nat.zero_le _ | (simp [AV.isCell] at this)
             ·rw [List.getElem?_append_right (by omega),List.getElem?_drop]
              have e3:of+y'.cells.length+(p - of - y'.cells.length)=p:=by omega
              rw [e3]; exact Nat.le_refl _)
           (by
            rw [hu'c]
            rw [← hvs] at g5
            refine g5.putP hnl (fun j c hc=>?_) (by omega) (by simp; omega)
            have hj:=(List.getElem?_eq_some_iff.1 hc).1
            have hvj:(a.eval y).cells.toList[j]?=some (a.eval y).cells.toList[j]:=List.getElem?_eq_getElem (by omega)
            have h1:=elemOk_rel (elemsOk_get hel hc) (hall.2 j _ c hvj hc)
            exact ⟨_,hvj,.rel h1,fun q=>.rel h1⟩)
          exact ⟨hdf,M',E,hset,hp0⟩
         ·exact .nil
        ·exact .nil
       ·exact .nil
      ·exact .nil
     ·exact .nil
    ·exact .nil
   ·exact .nil
  ·exact .nil
 ·exact .nil
def ea (k:Nat):AV:=.aptr 100000 k 0
end Go.Dm
namespace Go.Dm
open Go Go.RowKit
variable {C:Cx} {k:List It} {s:S} {τ:TyTab}
theorem Has.unp {x:Operand} {v:AV} (h:Has C s x v):Has C s x (unp v):=by
 intro a w M E hs
 have:=h a w M E hs
 unfold Dm.unp
 split
 ·exact .cell (this.popt_inv.1 rfl)
 ·exact this
def needs:Op→List Operand
 | .pick c _ _=>[c]
 | .call c=>(match c.callee with | .value f=>[f] | _=>[])++c.args.toList
 | op=>op.operands.toList
theorem evalOp_sound (hτ:TyOk C.P τ) {A:List (Nat×Bool)} (hA:allB A=true) (o:Oper) (an:List An) (hd:∀ d,o.dst=some d→d<C.N) (hw:∀ x∈needs o.op,Done s x):Sound C o s (evalOp τ A o.dst s an o.op):=by
 have has:∀ {x:Operand} {v:AV},valW s x=some v→x∈needs o.op→Has C s x v:=fun hv hx a w M E hs=>valW_rel hs hv (hw _ hx)
 cases ho:o.op <;> rw [ho] at has hw <;> simp only [evalOp] <;> try exact .nil
 case move x=>exact .retO hd fun v hv a w M E hs=>⟨_,run_move (.inl ho) _ _,has hv (by simp [needs,Op.operands]) a w M E hs⟩
 case assign x=>exact .retO hd fun v hv a w M E hs=>⟨_,run_move (.inr ho) _ _,has hv (by simp [needs,Op.operands]) a w M E hs⟩
 case pick c a b=>
  cases c with
  | tmp d=>
   simp only [evalOp]
   split
   ·rename_i p hp
    split
    ·rename_i x hx
     split
     ·rename_i y hy
      exact .pick hA ho hd (has hp (by simp [needs])) hx hy
     ·exact .nil
    ·exact .nil
   ·exact .nil
  | _=>exact .nil
 case alloc t=>
  split
  ·rename_i ti hti; exact .alloc hτ ho hd hti
  ·exact .nil
 case box t x=>
  split
  ·rename_i v hv
   have h1:=has hv (by simp [needs,Op.operands])
   split
   ·exact .boxAr ho hd h1
   ·exact .box ho hd h1
  ·exact .nil
 case build t parts=>exact .build hτ ho hd fun p hp=>hw _ (by simp [needs,Op.operands]; exact ⟨p.1,by simpa using hp⟩)
 case load t a=>
  split
  ·rename_i v hv
   have h1:=(has hv (by simp [needs,Op.operands])).unp
   split
   ·rename_i i vr kk oo e; rw [e] at h1; exact .loadEp hτ ho hd h1
   ·rename_i A kk oo e; rw [e] at h1; exact .loadAr hτ ho hd h1
   ·exact .load hτ ho hd h1
  ·exact .nil
 case store t a x=>
  split
  ·rename_i hdd
   split
   ·rename_i v hv
    split
    ·rename_i u hu
     have h1:=has hv (by simp [needs,Op.operands])
     have h2:=(has hu (by simp [needs,Op.operands])).unp
     split
     ·rename_i i vr kk oo e; rw [e] at h2; exact .storeEp hτ ho hdd h1 h2
     ·rename_i A kk oo e; rw [e] at h2; exact .storeAr hτ ho hdd h1 h2
     ·exact .store hτ ho hdd h1 h2
    ·exact .nil
   ·exact .nil
  ·exact .nil
 case nilCheck x=>
  split
  ·rename_i v hv; exact .nilCheck ho hd (has hv (by simp [needs,Op.operands])).unp
  ·exact .nil
 case binOp op t x y t'=>
  split
  ·rename_i v hv
   split
   ·rename_i u hu
    have h1:=has hv (by simp [needs,Op.operands])
    have h2:=has hu (by simp [needs,Op.operands])
    split
    ·exact .nilRow hτ ho hd h1 h2
    ·exact .nilSl hτ ho hd h1 h2
    ·exact .nilN hτ ho hd h1 h2
    ·split
     ·exact .aptrEq hτ ho hd h1 h2
     ·exact Sound.nilp hτ ho hd h1 h2
    ·split
     ·rename_i r hr
      have:=Sound.nilp hτ (an:=an) ho hd h1 h2
      rw [hr] at this
      exact this
     ·exact .bin hτ ho hd h1 h2 fun cs ds e e'=>.agg hτ ho hd (by rw [← e]; exact h1) (by rw [← e']; exact h2)
   ·exact .nil
  ·exact .nil
 case unOp op t x=>
  split
  ·rename_i v hv; exact .un ho hd (has hv (by simp [needs,Op.operands]))
  ·exact .nil
 case convert src dst x=>
  split
  ·rename_i i hi
   split
   ·rename_i ii vr hv; exact .strRow hτ ho hd (has hv (by simp [needs,Op.operands]))
   ·rename_i l hv
    have h1:=has hv (by simp [needs,Op.operands])
    split
    ·exact .conv hτ ho hd ⟨i,hi⟩ h1
    ·split
     ·rename_i hst; exact .bytesOf hτ ho hd h1 (isStrT_sound hτ hst)
     ·exact .nil
   ·rename_i v _ _ hv; exact .conv hτ ho hd ⟨i,hi⟩ (has hv (by simp [needs,Op.operands]))
   ·exact .nil
  ·exact .nil
 case fieldAddr t x f=>
  split
  ·rename_i v hv; exact .fieldAddr hτ ho hd (has hv (by simp [needs,Op.operands])).unp
  ·exact .nil
 case field t x f=>
  split
  ·rename_i v hv; exact .field hτ ho hd (has hv (by simp [needs,Op.operands]))
  ·exact .nil
 case extract x i=>
  split
  ·rename_i v hv; exact .extract ho hd (has hv (by simp [needs,Op.operands]))
  ·exact .nil
 case makeFunc fn first caps=>
  cases fn with
  | func f=>
   simp only [evalOp]
   split
   ·rename_i h; exact .mkfn ho h hd fun x hx=>hw _ (by simp [needs,Op.operands]; right; simpa using hx)
   ·exact .nil
  | _=>exact .nil
 case indexAddr t x i=>
  split
  ·rename_i v hv
   split
   ·rename_i u hu; exact .indexAddr hτ ho hd (has hv (by simp [needs,Op.operands])) (has hu (by simp [needs,Op.operands]))
   ·exact .nil
  ·exact .nil
 case index t x i=>
  split
  ·rename_i v hv
   split
   ·rename_i u hu; exact .index hτ ho hd (has hv (by simp [needs,Op.operands])) (has hu (by simp [needs,Op.operands]))
   ·exact .nil
  ·exact .nil
 case slice t x lo hi mx=>
  cases mx with
  | some m=>
   cases lo with
   | none=>exact .nil
   | some lo=>
    cases hi with
    | none=>exact .nil
    | some hi=>
     simp only [evalOp]
     split
     ·rename_i v hv
      split
      ·rename_i a ha
       split
       ·rename_i b hb
        split
        ·rename_i m' hm
         split
         ·rename_i z hz
          obtain ⟨e,hun,hse⟩:=elemSz_sound hτ hz
          exact .slice3 hτ ho hd (has hv (by simp [needs,Op.operands])) ha hb hm (hw _ (by simp [needs,Op.operands])) (hw _ (by simp [needs,Op.operands])) (hw _ (by simp [needs,Op.operands])) hun hse
         ·exact .nil
        ·exact .nil
       ·exact .nil
      ·exact .nil
     ·exact .nil
  | none=>
   simp only [evalOp]
   split
   ·rename_i v hv
    split
    ·rename_i l hl
     split
     ·rename_i h hh
      have h1:=has hv (by simp [needs,Op.operands])
      have w1:∀ y,lo=some y→Done s y:=fun y hy=>hw _ (by subst hy; simp [needs,Op.operands])
      have w2:∀ y,hi=some y→Done s y:=fun y hy=>hw _ (by subst hy; simp [needs,Op.operands])
      split
      ·exact .sliceRow hτ ho hd h1 hl hh w1 w2
      ·exact .sliceV hτ ho hd h1 hl hh w1 w2
      ·exact .slice hτ ho hd h1 hl hh w1 w2
     ·exact .nil
    ·exact .nil
   ·exact .nil
 case buildSlice t len parts=>
  refine .buildSlice hτ ho hd fun p hp=>hw _ ?_
  simp only [needs,Op.operands]
  simp
  exact ⟨p.1,by simpa using hp⟩
 case makeSlice t x y=>
  split
  ·rename_i a ha
   split
   ·rename_i b hb; exact .makeSlice hτ ho hd (has ha (by simp [needs,Op.operands])) (has hb (by simp [needs,Op.operands]))
   ·exact .nil
  ·exact .nil
 case makeMap t r=>
  cases r with
  | some h=>exact .nil
  | none=>exact .makeMap hτ ho hd
 case lookup t x y ok=>
  split
  ·rename_i v hv
   split
   ·rename_i u hu; exact .lookup hτ ho hd (has hv (by simp [needs,Op.operands])) (has hu (by simp [needs,Op.operands]))
   ·exact .nil
  ·exact .nil
 case mapUpdate t m y x=>
  split
  ·rename_i v hv
   split
   ·rename_i u hu
    split
    ·rename_i z hz; exact .mapUpdate hτ ho (has hv (by simp [needs,Op.operands])) (has hu (by simp [needs,Op.operands])) (has hz (by simp [needs,Op.operands]))
    ·exact .nil
   ·exact .nil
  ·exact .nil
 case call c=>
  cases hc:c.callee with
  | builtin b=>
   cases b <;> simp only [evalBuiltin] <;> try exact .nil
   case append=>
    split
    ·rename_i x y t u hx ht
     split
     ·rename_i v hv
      split
      ·rename_i w' hw'; exact .app2 hτ ho hc hx ht hd (has hv (by simp [needs,hx])) (has hw' (by simp [needs,hx]))
      ·exact .nil
     ·exact .nil
    ·exact .nil
   case clear=>
    split
    ·rename_i x t hx ht
     split
     ·rename_i i vr off n hv; exact .clear hτ ho hc hx ht hd (has hv (by simp [needs,hx]))
     ·exact .nil
    ·exact .nil
   case len=>
    split
    ·rename_i x t hx ht
     split
     ·rename_i ti hti
      split
      ·rename_i v hv; exact .len hτ ho hc hx ht hti hd (has hv (by simp [needs,hx]))
      ·exact .nil
     ·exact .nil
    ·exact .nil
   case cap=>
    split
    ·rename_i x t hx ht
     split
     ·rename_i ti hti
      split
      ·rename_i v hv; exact .cap hτ ho hc hx ht hti hd (has hv (by simp [needs,hx]))
      ·exact .nil
     ·exact .nil
    ·exact .nil
   case min=>
    split
    ·rename_i vs hvs; exact .minmax ho false hc hd hvs fun x hx=>hw _ (by simp [needs]; exact Or.inr (by simpa using hx))
    ·exact .nil
   case max=>
    split
    ·rename_i vs hvs; exact .minmax ho true hc hd hvs fun x hx=>hw _ (by simp [needs]; exact Or.inr (by simpa using hx))
    ·exact .nil
  | _=>exact .nil
end Go.Dm
namespace Go.Dm
open Go Go.RowKit
def frc:AV→AV
 | .own _ sz _ ys=>.sl sz ys
 | x=>x
def frz:AV→AV
 | .agg cs=>.agg (cs.map frc)
 | x=>frc x
def okc:AV→Bool
 | .own _ _ _ _=>true
 | x=>x.isP
theorem frz_cells (x:AV):(frz x).cells=x.cells.map frc:=by
 cases x <;> rfl
theorem frz_flat:∀ xs:List AV,flat (xs.map frz)=(flat xs).map frc
 | []=>rfl
 | x::l=>by rw [List.map_cons,flat_cons,flat_cons,List.map_append,frz_cells,frz_flat l]
def is5 (i:Nat):Option (Nat×Nat×Nat)→Bool
 | some (k,j,_)=>k == 5&&j == i
 | none=>false
theorem is5_iff {i:Nat} {o:Option (Nat×Nat×Nat)}:is5 i o=true↔∃ p,o=some (5,i,p):=by
 cases o with
 | none=>simp [is5]
 | some o=>
  obtain ⟨k,j,p⟩:=o
  simp only [is5,Bool.and_eq_true,beq_iff_eq,Option.some.injEq,Prod.mk.injEq]
  constructor
  ·rintro ⟨rfl,rfl⟩; exact ⟨p,rfl,rfl,rfl⟩
  ·rintro ⟨_,rfl,rfl,_⟩; exact ⟨rfl,rfl⟩
def Env.un5 (E:Env) (i:Nat):Env:={ E with own:=fun b=>if is5 i (E.own b)=true then Option.none else E.own b }
section
variable {g:Gh} {N:Nat} {M:Mem} {E:Env} {s:S} {tmps:Array Value} {w:World} {v:Value}
theorem un5_le (E:Env) (i:Nat):E.le (E.un5 i):=⟨fun _ _ h=>h,fun _ q h=>⟨q,h,Nat.le_refl _,fun _=>⟨rfl,rfl,rfl,rfl⟩⟩,fun _ _ h=>h,fun _ bs h=>⟨[],by simpa [Env.un5] using h⟩⟩
theorem un5_other {E:Env} {i b:Nat} {o:Nat×Nat×Nat} (h:E.own b=some o) (hn:¬ (o.1=5∧o.2.1=i)):(E.un5 i).own b=some o:=by
 show (if is5 i (E.own b)=true then none else E.own b)=some o
 rw [if_neg,h]
 intro h5
 obtain ⟨p,hp⟩:=is5_iff.1 h5
 rw [h] at hp; cases hp
 exact hn ⟨rfl,rfl⟩
theorem un5_some {E:Env} {i b:Nat} {o:Nat×Nat×Nat} (h:(E.un5 i).own b=some o):E.own b=some o∧is5 i (E.own b)=false:=by
 have h:(if is5 i (E.own b)=true then none else E.own b)=some o:=h
 split at h
 ·cases h
 ·rename_i hn; exact ⟨h,by simpa using hn⟩
theorem St.freeze (hs:St g N M E s tmps w) {i:Nat} {r:Rw} (hr:aget s.rw i=some r) (hokc:∀ x∈r.xs,x.cells.all okc=true) :
  ∃ M',(∀ b j v,M b j=some v→M' b j=some v)∧St g N M' (E.un5 i) { s with rw:=(i,{ r with pu:=0,ns:=[],xs:=r.xs.map frz })::s.rw } tmps w:=by
 let M':Mem:=fun b j=>if is5 i (E.own b)=true then w.cell? ⟨b,j,none⟩ else M b j
 have hM:∀ b j v,M b j=some v→M' b j=some v:=fun b j v h=>by
  show (if is5 i (E.own b)=true then w.cell? ⟨b,j,none⟩ else M b j)=some v
  split
  ·exact (hs.mem b j v h).1
  ·exact h
 have hE:=un5_le E i
 obtain ⟨q,hq,hok⟩:=hs.rw i r hr
 have hnew:RwOk M' (E.un5 i) w i q { r with pu:=0,ns:=[],xs:=r.xs.map frz }:=by
  refine ⟨hok.sz,hok.ver,by simpa using hok.n,hok.nc,hok.cap,fun x hx=>?_,by simpa using hok.k,hok.cm,fun h=>by simpa using hok.nl h,?_⟩
  ·obtain ⟨y,hy,rfl⟩:=List.mem_map.1 hx
   rw [frz_cells,List.length_map]; exact hok.es y hy
  ·rcases hok.blk with hb | ⟨blk,vs,g1,g2,g3,g4,g5⟩
   ·exact .inl hb
   ·refine .inr ⟨blk,vs,g1,un5_other g2 (by simp),g3,g4,fun p u hu=>?_⟩
    have hu:(flat (r.xs.map frz))[p]?=some u:=hu
    rw [frz_flat,List.getElem?_map,Option.map_eq_some_iff] at hu
    obtain ⟨c,hc,rfl⟩:=hu
    obtain ⟨v,hv,hrel⟩:=g5 p c hc
    refine ⟨v,hv,?_⟩
    show RelP M' v (frc c)
    have hcc:okc c=true:=by
     have hcm:=List.mem_of_getElem? hc
     simp only [flat,List.mem_flatMap] at hcm
     obtain ⟨x,hx,hxc⟩:=hcm
     exact List.all_eq_true.1 (hokc x hx) c hxc
    by_cases hP:c.isP=true
    ·have hfc:frc c=c:=by cases c <;> first | rfl | cases hP
     have hcell:c.isCell=true:=by cases c <;> first | rfl | cases hP
     rw [hfc]
     exact (isP_rel hP (hrel.cell hcell)).mono hM
    ·cases c with
     | own ty sz kk ys=>
      have hrel:RelC M (E.arP r.ns r.pu) w 5 i (0+p) v (.own ty sz kk ys):=by
       generalize r.pu=pu at hrel
       match pu,hrel with
       | 0,h=>cases h
       | 1,h=>cases h with
        | pure h=>cases h
       | n+2,h=>exact h
      cases hrel with
      | rel h=>cases h with
       | pure h=>cases h
      | own _ _ _ _ a n c hn hnc hm hz hk hb=>
       subst hn
       rcases hb with h0 | ⟨b2,vs2,e1,e2,e3,e4,e5⟩
       ·have hy:ys=[]:=List.eq_nil_of_length_eq_zero (by omega)
        refine .sl a _ c sz ys (fun _=>undef) rfl hnc hm hz (fun h=>absurd hy h) (fun j u hu=>?_)
        rw [hy] at hu; simp [flat] at hu
       ·rw [Env.arP_own] at e2
        refine .sl a _ c sz ys (fun j=>vs2.getD j undef) rfl hnc hm hz (fun _=>⟨b2,0,e1,fun j hj=>?_⟩) (fun j u hu=>?_)
        ·obtain ⟨v2,hv2,_⟩:=e5 j _ (List.getElem?_eq_getElem hj)
         show (if is5 i (E.own b2)=true then w.cell? ⟨b2,0+j,none⟩ else M b2 (0+j))=_
         rw [if_pos (is5_iff.2 ⟨_,e2⟩),Nat.zero_add,cell_of_row w b2 j vs2 ty (0,0) e3,hv2]
         simp [Array.getD_eq_getD_getElem?,hv2]
        ·obtain ⟨v2,hv2,hr2⟩:=e5 j u hu
         simp only [Array.getD_eq_getD_getElem?,hv2,Option.getD_some]
         exact hr2.mono hM
     | _=>exact absurd hcc hP
 refine ⟨M',hM,?_⟩
 refine {
  size:=hs.size
  fr:=fun n av hn=>⟨(hs.fr n av hn).1,(hs.fr n av hn).2.mono hM hE⟩
  mem:=fun b j v h=>?_
  bx:=fun n cs hn=>?_
  bxn:=hs.bxn
  rw:=fun n r2 hn=>?_
  rwn:=fun n hn=>?_
  mp:=fun n es hn=>?_
  mpn:=hs.mpn
  ar:=fun n r2 hn=>?_
  arn:=hs.arn
  live:=fun b o h=>hs.live b o (un5_some h).1
  foreign:=fun b h=>?_
  m0:=fun b j v h=>hM b j v (hs.m0 b j v h)
  lay:=hs.lay
  mf:=fun b j v h hF=>?_
  os:=hs.os
  tape:=hs.tape
  output:=hs.output
  grow:=hs.grow }
 ·have h:(if is5 i (E.own b)=true then w.cell? ⟨b,j,none⟩ else M b j)=some v:=h
  split at h
  ·rename_i h5
   refine ⟨h,fun o ho=>?_⟩
   have:=(un5_some ho).2
   rw [h5] at this; cases this
  ·obtain ⟨h1,h2⟩:=hs.mem b j v h
   refine ⟨h1,fun o ho=>?_⟩
   obtain ⟨ho1,ho2⟩:=un5_some ho
   have:=h2 o ho1
   obtain ⟨kd,j',p⟩:=o
   by_cases hj:j'=i
   ·subst hj
    have h5:kd≠5:=by
     rintro rfl
     rw [is5_iff.2 ⟨p,ho1⟩] at ho2; cases ho2
    simp only [sealN,aget_cons,if_true,hr,h5,if_false] at this ⊢
    exact this
   ·simp only [sealN,aget_cons,if_neg hj] at this ⊢; exact this
 ·obtain ⟨b,h1,h2,t,vs,h3,h4,h5⟩:=hs.bx n cs hn
  exact ⟨b,h1,un5_other h2 (by simp),t,vs,h3,h4,fun j v c hv hc=>(h5 j v c hv hc).mono hM hE⟩
 ·simp only [aget_cons] at hn
  split at hn
  ·rename_i e; subst e; cases hn
   exact ⟨q,hq,hnew⟩
  ·rename_i hne
   obtain ⟨q2,h1,hok2⟩:=hs.rw n r2 hn
   exact ⟨q2,h1,hok2.mono hM hE (fun b h=>⟨un5_other h (by simp),rfl⟩) (fun b j h=>⟨un5_other h (by simpa using hne),rfl⟩)⟩
 ·simp only [aget_cons] at hn
  split at hn
  ·cases hn
  ·exact hs.rwn n hn
 ·obtain ⟨r2,h1,h2,ents,clock,h3,h4,h5⟩:=hs.mp n es hn
  exact ⟨r2,h1,un5_other h2 (by simp),ents,clock,h3,h4,fun j e p he hp=>⟨(h5 j e p he hp).1.mono hM,((h5 j e p he hp).2.monoM hM).monoE (Env.arO_le hE _)⟩⟩
 ·obtain ⟨bs,h1,hok2⟩:=hs.ar n r2 hn
  exact ⟨bs,h1,hok2.mono hM hE (fun b j h=>⟨un5_other h (by simp),rfl⟩) (fun b j h=>⟨un5_other h (by simp),rfl⟩)⟩
 ·obtain ⟨h1,h2,h3⟩:=hs.foreign b h
  refine ⟨h1,h2,?_⟩
  show (if is5 i (E.own b)=true then none else E.own b)=none
  rw [h3]; simp
 ·have h:(if is5 i (E.own b)=true then w.cell? ⟨b,j,none⟩ else M b j)=some v:=h
  rw [(hs.foreign b hF).2.2] at h
  simp only [is5,Bool.false_eq_true,if_false] at h
  exact hs.mf b j v h hF
theorem St.lent {M1 M':Mem} {E1:Env} {s0:S} {w':World} (hs:St g N M E s tmps w) (hsub:∀ i v,aget s0.bx i=some v→aget s.bx i=some v)
  (hsc:∀ i cs,aget s0.bx i=some cs→∀ c∈cs,∀ v,RelS M' E1 v c→RelS M E v c)
  (hc:St ⟨w,fun b=>b<w.heap.size∧(E.keep (hasKey s0.bx) no no no).own b=none,M1,Env.none⟩ 0 M' E1 s0 #[] w') (hle:(E.keep (hasKey s0.bx) no no no).lw E1):St g N M E s tmps w':=by
 have hg:Grow w w' (fun b=>∃ i p,hasKey s0.bx i=true∧E.own b=some (0,i,p)):=by
  refine ⟨hc.os,hc.tape,hc.output,hc.grow,fun b hb hX=>(hc.foreign b ⟨hb,?_⟩).2.1⟩
  cases hk:(E.keep (hasKey s0.bx) no no no).own b with
  | none=>rfl
  | some o=>
   obtain ⟨h1,h2⟩:=keep_own' hk
   obtain ⟨kd,i,p⟩:=o
   rcases h2 with ⟨h,h2⟩ | ⟨_,h2⟩ | ⟨_,h2⟩ | ⟨_,h2⟩
   ·have h:kd=0:=h
    subst h; exact absurd ⟨i,p,h2,h1⟩ hX
   ·cases h2
   ·cases h2
   ·cases h2
 refine hs.grow' _ (fun b _ ⟨i,p,_,h⟩=>⟨_,h⟩) hg (Env.le_refl E) (fun _ _ _=>rfl) (fun b o h=>Nat.lt_of_lt_of_le (hs.live b o h) hc.grow) rfl (fun b j v ⟨i,p,_,h⟩ hM=>?_) (fun b o _ _=>Nat.le_refl _)
  (fun i cs h=>?_) hs.bxn (fun i r h=>.inl ⟨h,rfl,fun b p ho ⟨i',p',_,hX⟩=>by rcases ho with ho | ho <;> (rw [ho] at hX; cases hX)⟩) hs.rwn
  (fun i es h=>.inl (hs.mpK (fun b i' ⟨i2,p',_,hX⟩ ho=>by rw [ho] at hX; cases hX) i es h)) hs.mpn (fun i r h=>.inl ⟨h,rfl,fun b p ho ⟨i',p',_,hX⟩=>by rcases ho with ho | ho <;> (rw [ho] at hX; cases hX)⟩) hs.arn
 ·have:=(hs.mem b j v hM).2 _ h
  simp [sealN] at this
 ·obtain ⟨b0,e1,e2,e3⟩:=hs.bx i cs h
  by_cases hk:hasKey s0.bx i=true
  ·right
   rw [hasKey_aget] at hk
   obtain ⟨cs',hcs⟩:=Option.isSome_iff_exists.1 hk
   have:=hsub i cs' hcs
   rw [h] at this; cases this
   obtain ⟨b,h1,h2,t,vs,h3,h4,h5⟩:=hc.bx i cs hcs
   have hb:b=b0:=hle.bx i b0 b (by simp only [Env.keep]; rw [if_pos (hasKey_some hcs)]; exact e1) h1
   subst hb
   exact ⟨b,e1,e2,t,vs,h3,h4,fun j v c hv hcc=>hsc i cs hcs c (List.mem_of_getElem? hcc) v (h5 j v c hv hcc)⟩
  ·left
   refine ⟨h,fun b hb ⟨i',p,hk',hX⟩=>?_⟩
   rw [hb] at e1; cases e1
   rw [e2] at hX; cases hX
   exact hk hk'
end
end Go.Dm
namespace Go.Dm
open Go Go.RowKit
variable {C:Cx} {k:List It} {s:S} {τ:TyTab}
def resOne (τ:TyTab) (s:S):ResultVar→Option AV
 | .tmp t=>aget s.fr t
 | .cell a t=>match aget s.fr a,τ t with
  | some (.ptr i 0),some ti=>match aget s.bx i with
   | some cs=>partOf ti cs 0
   | none=>none
  | _,_=>none
def resAll (τ:TyTab) (s:S):List ResultVar→Option (List AV)
 | []=>some []
 | r::l=>match resOne τ s r,resAll τ s l with
  | some v,some vs=>some (v::vs)
  | _,_=>none
def resSem (tmps:Array Value):ResultVar→Sem Value
 | .tmp t=>pure (tmps.getD t undef)
 | .cell ad t=>do loadVar t (← asAddr (tmps.getD ad undef))
theorem resOne_run (hτ:TyOk C.P τ) {M:Mem} {E:Env} {a:Act} {w:World} (hs:St C.g C.N M E s a.tmps w) {r:ResultVar} {x:AV} (h:resOne τ s r=some x) :
  ∃ v,(resSem a.tmps r).run C.P w = .ok v w∧Rel M E v x:=by
 cases r with
 | tmp t=>exact ⟨_,rfl,(hs.fr t x h).2⟩
 | cell ad t=>
  simp only [resOne] at h
  split at h
  ·rename_i i ti hp hti
   split at h
   ·rename_i cs hcs
    obtain ⟨b,hb,he⟩:=(hs.fr ad _ hp).2.ptr_inv
    obtain ⟨b',hb',hown,hbx⟩:=hs.bx i cs hcs
    rw [hb] at hb'; cases hb'
    obtain ⟨ty,vs,hh,hall⟩:=hbx.allR
    have hz:ti.sz≠0∨ti.k.agg=true:=by
     cases hk:ti.k.agg with
     | true=>exact .inr rfl
     | false=>exact .inl (by have:=(hτ _ _ hti).one hk; omega)
    obtain ⟨hlen,hrel,_⟩:=part_rel (hτ _ _ hti) hall h hz
    have hl:=(hτ _ _ hti).loadVar w b 0 (fun j=>vs.getD (0+j) undef) (fun j hj=>by
     rw [cell_of_heap hh]
     have:0+j<vs.length:=by omega
     simp only [List.getD,List.getElem?_eq_getElem this,Option.getD_some])
    have e1:(List.range ti.sz).map (fun j=>vs.getD (0+j) undef)=(vs.drop 0).take ti.sz:=by
     apply List.ext_getElem?
     intro j
     rw [List.getElem?_take]
     by_cases hj:j<ti.sz
     ·have:j<vs.length:=by omega
      simp [hj,List.getD,this]
     ·simp [hj]
    rw [e1] at hl
    refine ⟨_,?_,hrel⟩
    simp only [resSem,he,asAddr,Sem.run_bind,Sem.run_pure,Result.andThen_ok]
    simpa using hl
   ·cases h
  ·cases h
theorem resAll_run (hτ:TyOk C.P τ) {M:Mem} {E:Env} {a:Act} {w:World} (hs:St C.g C.N M E s a.tmps w):∀ {l:List ResultVar} {xs:List AV},resAll τ s l=some xs→
  ∃ vs:List Value,(l.mapM (resSem a.tmps)).run C.P w = .ok vs w∧RelL M E vs xs
 | [],xs,h=>by simp only [resAll] at h; cases h; exact ⟨[],rfl,rfl,fun j v c hv=>by simp at hv⟩
 | r::l,xs,h=>by
  simp only [resAll] at h
  split at h
  ·rename_i v vs hv hvs
   cases h
   obtain ⟨u,h1,h2⟩:=resOne_run hτ hs hv
   obtain ⟨us,h3,h4⟩:=resAll_run hτ hs hvs
   refine ⟨u::us,?_,by simp [h4.1],fun j v' c hv' hc=>?_⟩
   ·rw [List.mapM_cons]
    simp only [Sem.run_bind,h1,Result.andThen_ok,h3,Sem.run_pure]
   ·cases j with
    | zero=>simp at hv' hc; subst hv'; subst hc; exact h2
    | succ j=>simp only [List.getElem?_cons_succ] at hv' hc; exact h4.2 j v' c hv' hc
  ·cases h
def argSlots:Nat→List AV→List (Nat×AV)
 | _,[]=>[]
 | i,x::l=>(i,x)::argSlots (i+1) l
theorem get_argSlots:∀ (l:List AV) (i j:Nat),aget (argSlots i l) j=if i≤j then l[j - i]? else none
 | [],i,j=>by simp [argSlots,aget]
 | x::l,i,j=>by
  simp only [argSlots,aget_cons,get_argSlots l (i+1) j]
  by_cases h:j=i
  ·subst h; simp
  ·rw [if_neg h]
   by_cases h2:i≤j
   ·have:i+1≤j:=by omega
    rw [if_pos this,if_pos h2]
    have e:j - i=(j - (i+1))+1:=by omega
    rw [e]; simp
   ·rw [if_neg h2,if_neg (by omega)]
theorem Bodied_of {P:Program} {f:FuncId} {fn:Func} {c:Code} (hfn:P.funcs[f]?=some fn) (hbody:fn.body=some c) (hname:(fn.name == "runtime.NumGoroutine")=false):Bodied P f:=
 ⟨fn,hfn,by rw [hbody]; rfl,hname⟩
def TyAll (P:Program):Nat→List (Option TI)→Prop
 | _,[]=>True
 | k,none::l=>TyAll P (k+1) l
 | k,some i::l=>TyOk1 P k i∧TyAll P (k+1) l
theorem TyAll.get {P:Program}:∀ {l:List (Option TI)} {k j:Nat} {i:TI},TyAll P k l→nth l j=some (some i)→TyOk1 P (k+j) i
 | [],k,j,i,_,h=>by simp [nth] at h
 | none::l,k,0,i,_,h=>by simp [nth] at h
 | none::l,k,j+1,i,hl,h=>by
  have e:k+(j+1)=k+1+j:=by omega
  rw [e]; exact TyAll.get (l:=l) hl h
 | some i'::l,k,0,i,hl,h=>by simp [nth] at h; subst h; exact hl.1
 | some i'::l,k,j+1,i,hl,h=>by
  have e:k+(j+1)=k+1+j:=by omega
  rw [e]; exact TyAll.get (l:=l) hl.2 h
def tyTab (l:List (Option TI)):TyTab:=fun t=>(nth l t).bind id
theorem TyAll.ok {P:Program} {l:List (Option TI)} (h:TyAll P 0 l):TyOk P (tyTab l):=by
 intro t i ht
 unfold tyTab at ht
 obtain ⟨o,ho,e⟩:=Option.bind_eq_some_iff.1 ht
 simp only [id] at e
 subst e
 have:=h.get ho
 rwa [Nat.zero_add] at this
theorem TyOk1.of {P:Program} {t:TypeId} {i:TI} (h1:(P.info? t).map (fun x=>(x.size,x.bytes,x.zero.map fun z=>(z.cells.toList,z.isAgg')))=some (i.sz,i.bytes,some (i.zero.map AV.zv,i.k.agg)))
  (h2:i.zero.all AV.isZ=true) (h3:i.zero.length=i.sz) (h4:TKOk P t i.k) (h5:(i.k.agg||decide (i.sz=1))=true):TyOk1 P t i:=by
 obtain ⟨inf,hi,e⟩:=Option.map_eq_some_iff.1 h1
 simp only [Prod.mk.injEq] at e
 obtain ⟨z,hz,e3⟩:=Option.map_eq_some_iff.1 e.2.2
 simp only [Prod.mk.injEq] at e3
 refine ⟨⟨inf,z,hi,e.1,e.2.1,hz,e3.1⟩,h2,h3,h4,fun h=>?_,fun inf' z' hi' hz'=>?_⟩
 ·simpa [h] using h5
 ·rw [hi] at hi'; cases hi'
  rw [hz] at hz'; cases hz'
  exact e3.2
theorem run_call {P:Program} {o:Oper} {c:Call} {f:FuncId} (ho:o.op = .call c) (hc:c.callee = .value (.func f)) (a:Act) (w:World) :
  (execOp a.eval o).run P w=(callFunc f ((c.args.toList.map a.eval).toArray)).run P w:=by
 have e:(List.map a.eval c.args.toList).toArray=Array.map a.eval c.args:=by rw [← Array.toList_map]
 rw [e]
 simp [execOp,ho,resolve,hc,Act.eval,Deferred.ofValue,Sem.run_bind,Sem.run_pure,Result.andThen_ok,invoke]
theorem run_callFunc {P:Program} {f:FuncId} (h:Bodied P f) (args:Array Value) (w:World):(callFunc f args).run P w = .ok (.enter f args) w:=by
 obtain ⟨fn,h1,h2,h3⟩:=h
 simp only [callFunc,Sem.run_bind,run_program,Result.andThen_ok,h1,h3,h2,Bool.false_eq_true,if_false,Sem.run_pure]
theorem run_callV {P:Program} {o:Oper} {c:Call} {t:Nat} {f:FuncId} {cs:List Value} (ho:o.op = .call c) (hc:c.callee = .value (.tmp t)) (a:Act) (hv:a.eval (.tmp t) = .func (.func f) #[] cs.toArray) (w:World) :
  (execOp a.eval o).run P w=(callFunc f ((c.args.toList.map a.eval++cs).toArray)).run P w:=by
 have e:(List.map a.eval c.args.toList).toArray=Array.map a.eval c.args:=by rw [← Array.toList_map]
 have e2:(c.args.toList.map a.eval++cs).toArray=Array.map a.eval c.args++cs.toArray:=by rw [← e]; simp
 rw [e2]
 simp [execOp,ho,resolve,hc,hv,Deferred.ofValue,Sem.run_bind,Sem.run_pure,Result.andThen_ok,invoke]
def guardSlot (all:List Oper) (j:Nat):Option Nat:=match nth all j with
 | some o=>o.dst
 | none=>none
def gcond (all:List Oper) (s:S) (gd:Option (Nat×Bool)):Option (List (Nat×Bool)):=
 match gd with
 | none=>some []
 | some (j,want)=>match guardSlot all j with
  | some d=>match aget s.fr d with
   | some (.bool b)=>some [(d,match want with | true=>b | false=>!b)]
   | some (.when cs (.bool b))=>some ((d,match want with | true=>b | false=>!b)::cs)
   | _=>none
  | none=>none
def asB:Value→Option Bool
 | .bool b=>some b
 | _=>none
theorem yielded_slot {all:List Oper} {a:Act} {w:World} {M:Mem} {E:Env} (hs:St C.g C.N M E s a.tmps w) {j d:Nat} (hd:guardSlot all j=some d) {x:AV} (hx:aget s.fr d=some x) {v:Value} (hv:a.tmps.getD d undef=v) :
  yielded all.toArray a.tmps j=asB v:=by
 unfold guardSlot at hd
 rw [nth_eq] at hd
 split at hd
 ·rename_i o ho
  have hlt:d<a.tmps.size:=by rw [hs.size]; exact (hs.fr d x hx).1
  have hv':(a.tmps[d]?:Option Value)=some v:=by
   rw [Array.getD_eq_getD_getElem?,Array.getElem?_eq_getElem hlt] at hv
   rw [Array.getElem?_eq_getElem hlt]
   simpa using hv
  have ho':all.toArray[j]?=some o:=by simpa using ho
  unfold yielded
  simp only [ho',hd,Option.bind_some,hv']
  cases v <;> rfl
 ·cases hd
theorem gcond_ok {all:List Oper} {o:Oper} {A:List (Nat×Bool)} (h:gcond all s o.guard=some A) {a:Act} {w:World} (hx:H C.g C.N s a w):Region.wanted o (yielded all.toArray a.tmps)=allB A:=by
 obtain ⟨_,M,E,hs,_⟩:=hx
 unfold gcond at h
 split at h
 ·rename_i hg; cases h; simp [Region.wanted,hg,allB]
 ·rename_i j want hg
  split at h
  ·rename_i d hd
   split at h
   ·rename_i b hb
    cases h
    have hv:=(hs.fr d _ hb).2.bool_inv
    rw [Region.wanted,hg]
    simp only [yielded_slot hs hd hb hv,asB,allB]
    cases b <;> cases want <;> rfl
   ·rename_i cs b hb
    cases h
    rw [Region.wanted,hg]
    have hr:=(hs.fr d _ hb).2
    cases hcs:allB cs with
    | true=>
     have hv:=(hr.when_inv hcs).bool_inv
     simp only [yielded_slot hs hd hb hv,asB,allB,hcs]
     cases b <;> cases want <;> rfl
    | false=>
     have hv:=hr.when_undef hcs
     simp only [yielded_slot hs hd hb hv,undef,asB,allB,hcs]
     cases want <;> simp
   ·cases h
  ·cases h
def selF {α:Type}:List Nat→List (Nat×α)→Option (List (Nat×α))
 | [],_=>some []
 | i::l,m=>match aget m i with
  | some v=>match selF l m with
   | some r=>some ((i,v)::r)
   | none=>none
  | none=>none
theorem selF_get {α:Type}:∀ {l:List Nat} {m r:List (Nat×α)},selF l m=some r→∀ {i:Nat} {v:α},aget r i=some v→aget m i=some v
 | [],m,r,h,i,v,hi=>by simp only [selF] at h; cases h; cases hi
 | j::l,m,r,h,i,v,hi=>by
  simp only [selF] at h
  split at h
  ·rename_i u hu
   split at h
   ·rename_i r' hr'
    cases h
    rw [aget_cons] at hi
    split at hi
    ·rename_i e; cases hi; rw [e]; exact hu
    ·exact selF_get hr' hi
   ·cases h
  ·cases h
mutual
def AV.scal:AV→Bool
 | .int _ _ | .bool _ | .str _ | .nils | .nilp | .nilfn | .nilmp=>true
 | .sl _ []=>true
 | .agg cs=>AV.scalL cs
 | .tup cs=>AV.scalL cs
 | _=>false
def AV.scalL:List AV→Bool
 | []=>true
 | x::l=>match x.scal with
  | true=>AV.scalL l
  | false=>false
end
theorem scalL_get:∀ {l:List AV} {j:Nat} {x:AV},AV.scalL l=true→l[j]?=some x→x.scal=true
 | y::l,0,x,h,hx=>by
  simp at hx; subst hx
  simp only [AV.scalL] at h
  split at h
  ·assumption
  ·cases h
 | y::l,j+1,x,h,hx=>by
  simp only [AV.scalL] at h
  split at h
  ·exact scalL_get h (by simpa using hx)
  ·cases h
theorem RelP.scal {M M':Mem} {v:Value} {x:AV} (h:RelP M v x) (hx:x.scal=true):RelP M' v x:=by
 cases h with
 | sl a n c sz xs f hn hc hb hz ha hf=>
  cases xs with
  | nil=>exact .sl a n c sz [] f hn hc hb hz (fun h=>absurd rfl h) (fun j u hu=>by simp [flat] at hu)
  | cons _ _=>simp [AV.scal] at hx
 | rp blk off x f ha hf=>simp [AV.scal] at hx
 | raw v h=>exact .raw v h
 | ub b p q h1 h2=>exact .ub b p q h1 h2
 | _=>constructor
theorem RelS.scal {M M':Mem} {E E':Env} {v:Value} {x:AV} (h:RelS M E v x) (hx:x.scal=true):RelS M' E' v x:=by
 cases h with
 | pure h=>exact .pure (h.scal hx)
 | _=>simp [AV.scal] at hx
theorem Rel.scal {M M':Mem} {E E':Env} {v:Value} {x:AV} (h:Rel M E v x):x.scal=true→Rel M' E' v x:=by
 induction h with
 | cell h=>exact fun hx=>.cell (h.scal hx)
 | agg vs cs hl h=>exact fun hx=>.agg vs cs hl fun j v c hv hc=>(h j v c hv hc).scal (scalL_get (by simpa only [AV.scal] using hx) hc)
 | tup vs cs hl h ih=>exact fun hx=>.tup vs cs hl fun j v c hv hc=>ih j v c hv hc (scalL_get (by simpa only [AV.scal] using hx) hc)
 | any v=>exact fun hx=>by simp [AV.scal] at hx
 | when v c x h hu ih=>exact fun hx=>by simp [AV.scal] at hx
def sealCx (R:List Nat) (s:S):AV→Option (AV×List (Nat×Rw))
 | .row i v=>match memN i R with
  | true=>some (.row i v,[])
  | false=>sealC s (.row i v)
 | x=>some (x,[])
def sealLx (R:List Nat) (s:S):List AV→Option (List AV×List (Nat×Rw))
 | []=>some ([],[])
 | x::l=>match sealCx R s x with
  | some (y,e)=>match sealLx R s l with
   | some (m,f)=>some (y::m,f++e)
   | none=>none
  | none=>none
def sealAx (R:List Nat) (s:S):AV→Option (AV×List (Nat×Rw))
 | .agg cs=>match sealLx R s cs with
  | some (ds,e)=>some (.agg ds,e)
  | none=>none
 | x=>sealCx R s x
def sealALx (R:List Nat) (s:S):List AV→Option (List AV×List (Nat×Rw))
 | []=>some ([],[])
 | x::l=>match sealAx R s x with
  | some (y,e)=>match sealALx R s l with
   | some (m,f)=>some (y::m,f++e)
   | none=>none
  | none=>none
section
variable {g:Gh} {N:Nat} {M:Mem} {E:Env} {tmps:Array Value} {w:World} {v:Value}
theorem sealCx_ok {R:List Nat} {s1:S} (hl:likeRows s s1) {x y:AV} {e:List (Nat×Rw)} (h:sealCx R s x=some (y,e)) (hs:St g N M E s1 tmps w) (hx:RelS M E v x) :
  ∃ M',(∀ b j v,M b j=some v→M' b j=some v)∧St g N M' E { s1 with rw:=e++s1.rw } tmps w∧RelS M' E v y∧likeRows s { s1 with rw:=e++s1.rw }:=by
 cases x with
 | row i vr=>
  simp only [sealCx] at h
  split at h
  ·cases h; exact ⟨M,fun _ _ _ h=>h,hs,hx,hl⟩
  ·exact sealC_ok hl h hs hx
 | _=>
  simp only [sealCx] at h
  cases h
  exact ⟨M,fun _ _ _ h=>h,hs,hx,hl⟩
theorem sealLx_ok {R:List Nat}:∀ {cs ds:List AV} {e:List (Nat×Rw)} {s1:S} {vs:List Value} {M:Mem},likeRows s s1→sealLx R s cs=some (ds,e)→St g N M E s1 tmps w→AllR (RelS M E) vs cs→
  ∃ M',(∀ b j v,M b j=some v→M' b j=some v)∧St g N M' E { s1 with rw:=e++s1.rw } tmps w∧AllR (RelS M' E) vs ds∧likeRows s { s1 with rw:=e++s1.rw }
 | [],ds,e,s1,vs,M,hl,h,hs,hv=>by
  simp only [sealLx] at h
  cases h
  exact ⟨M,fun _ _ _ h=>h,hs,hv,hl⟩
 | x::cs,ds,e,s1,vs,M,hl,h,hs,hv=>by
  simp only [sealLx] at h
  split at h
  ·rename_i y e1 h1
   split at h
   ·rename_i m e2 h2
    cases h
    match vs,hv with
    | [],hv=>exact absurd hv.1 (by simp)
    | u::vs,hv=>
     obtain ⟨M1,hM1,hs1,hr1,hl1⟩:=sealCx_ok hl h1 hs (hv.2 0 u x rfl rfl)
     have htail:AllR (RelS M1 E) vs cs:=⟨by simpa using hv.1,fun j v c hj hc=>(hv.2 (j+1) v c (by simpa using hj) (by simpa using hc)).monoM hM1⟩
     obtain ⟨M2,hM2,hs2,hr2,hl2⟩:=sealLx_ok hl1 h2 hs1 htail
     refine ⟨M2,fun b j v h=>hM2 b j v (hM1 b j v h),by simpa only [List.append_assoc] using hs2,⟨by simp [hr2.1],fun j v c hj hc=>?_⟩,by simpa only [List.append_assoc] using hl2⟩
     cases j with
     | zero=>simp at hj hc; subst hj; subst hc; exact hr1.monoM hM2
     | succ j=>simp only [List.getElem?_cons_succ] at hj hc; exact hr2.2 j v c hj hc
   ·cases h
  ·cases h
theorem sealAx_ok {R:List Nat} {s1:S} (hl:likeRows s s1) {x y:AV} {e:List (Nat×Rw)} (h:sealAx R s x=some (y,e)) (hs:St g N M E s1 tmps w) (hx:Rel M E v x) :
  ∃ M',(∀ b j v,M b j=some v→M' b j=some v)∧St g N M' E { s1 with rw:=e++s1.rw } tmps w∧Rel M' E v y∧likeRows s { s1 with rw:=e++s1.rw }:=by
 cases x with
 | agg cs=>
  simp only [sealAx] at h
  split at h
  ·rename_i ds e1 h1
   cases h
   obtain ⟨vs,rfl,hlen,hr⟩:=hx.agg_inv
   obtain ⟨M',hM,hs',hr',hl'⟩:=sealLx_ok hl h1 hs ⟨hlen,hr⟩
   exact ⟨M',hM,hs',.agg vs _ hr'.1 hr'.2,hl'⟩
  ·cases h
 | row i vr=>
  simp only [sealAx] at h
  obtain ⟨M',hM,hs',hr,hl'⟩:=sealCx_ok hl h hs (hx.of_cell rfl)
  exact ⟨M',hM,hs',.cell hr,hl'⟩
 | _=>
  simp only [sealAx,sealCx] at h
  cases h
  exact ⟨M,fun _ _ _ h=>h,hs,hx,hl⟩
theorem sealALx_ok {R:List Nat}:∀ {cs ds:List AV} {e:List (Nat×Rw)} {s1:S} {vs:List Value} {M:Mem},likeRows s s1→sealALx R s cs=some (ds,e)→St g N M E s1 tmps w→RelL M E vs cs→
  ∃ M',(∀ b j v,M b j=some v→M' b j=some v)∧St g N M' E { s1 with rw:=e++s1.rw } tmps w∧RelL M' E vs ds∧likeRows s { s1 with rw:=e++s1.rw }
 | [],ds,e,s1,vs,M,hl,h,hs,hv=>by
  simp only [sealALx] at h
  cases h
  exact ⟨M,fun _ _ _ h=>h,hs,hv,hl⟩
 | x::cs,ds,e,s1,vs,M,hl,h,hs,hv=>by
  simp only [sealALx] at h
  split at h
  ·rename_i y e1 h1
   split at h
   ·rename_i m e2 h2
    cases h
    match vs,hv with
    | [],hv=>exact absurd hv.1 (by simp)
    | u::vs,hv=>
     obtain ⟨M1,hM1,hs1,hr1,hl1⟩:=sealAx_ok hl h1 hs (hv.2 0 u x rfl rfl)
     have htail:RelL M1 E vs cs:=⟨by simpa using hv.1,fun j v c hj hc=>(hv.2 (j+1) v c (by simpa using hj) (by simpa using hc)).monoM hM1⟩
     obtain ⟨M2,hM2,hs2,hr2,hl2⟩:=sealALx_ok hl1 h2 hs1 htail
     refine ⟨M2,fun b j v h=>hM2 b j v (hM1 b j v h),by simpa only [List.append_assoc] using hs2,⟨by simp [hr2.1],fun j v c hj hc=>?_⟩,by simpa only [List.append_assoc] using hl2⟩
     cases j with
     | zero=>simp at hj hc; subst hj; subst hc; exact hr1.monoM hM2
     | succ j=>simp only [List.getElem?_cons_succ] at hj hc; exact hr2.2 j v c hj hc
   ·cases h
  ·cases h
end
def keysIn {α β:Type}:List (Nat×α)→List (Nat×β)→Bool
 | [],_=>true
 | (i,_)::l,m=>match hasKey m i with
  | true=>keysIn l m
  | false=>false
def keysNew {α β γ:Type}:List (Nat×α)→List (Nat×β)→List (Nat×γ)→Bool
 | [],_,_=>true
 | (i,_)::l,m,o=>match hasKey m i with
  | true=>keysNew l m o
  | false=>match hasKey o i||Nat.ble nB i with
   | true=>false
   | false=>keysNew l m o
theorem keysIn_ok {α β:Type}:∀ {l:List (Nat×α)} {m:List (Nat×β)},keysIn l m=true→∀ i,hasKey l i=true→hasKey m i=true
 | (j,x)::l,m,h,i,hi=>by
  simp only [keysIn] at h
  split at h
  ·rename_i hj
   simp only [hasKey] at hi
   split at hi
   ·rename_i e; rw [beq_true e]; exact hj
   ·exact keysIn_ok h i hi
  ·cases h
theorem keysNew_ok {α β γ:Type}:∀ {l:List (Nat×α)} {m:List (Nat×β)} {o:List (Nat×γ)},keysNew l m o=true→∀ i,hasKey l i=true→hasKey m i=true∨(aget o i=none∧i<nB)
 | (j,x)::l,m,o,h,i,hi=>by
  simp only [keysNew] at h
  simp only [hasKey] at hi
  split at h
  ·rename_i hj
   split at hi
   ·rename_i e; rw [beq_true e]; exact .inl hj
   ·exact keysNew_ok h i hi
  ·split at h
   ·cases h
   ·rename_i hn
    split at hi
    ·rename_i e
     obtain ⟨h1,h2⟩:=Bool.or_eq_false_iff.1 hn
     rw [beq_true e]
     refine .inr ⟨?_,?_⟩
     ·rw [hasKey_aget] at h1; simpa using h1
     ·rcases Nat.lt_or_ge j nB with h' | h'
      ·exact h'
      ·rw [Nat.ble_eq_true_of_le h'] at h2; cases h2
    ·exact keysNew_ok h i hi
def apartB {α:Type}:List (Nat×α)→List Nat→Bool
 | [],_=>true
 | (i,_)::l,R=>match memN i R with
  | true=>false
  | false=>apartB l R
def okeys {α:Type} (c:Nat):List (Nat×α)→List Key
 | []=>[]
 | (i,_)::l=>(c,i)::okeys c l
def S.keys (s:S):List Key:=okeys 1 s.bx++(okeys 2 s.rw++(okeys 3 s.mp++okeys 4 s.ar))
def subS (s:S) (bs rs ms as:List Nat):Option S:=
 match selF bs s.bx with
 | some b=>match selF rs s.rw with
  | some r=>match selF ms s.mp with
   | some m=>match selF as s.ar with
    | some a=>some ⟨[],b,r,m,a⟩
    | none=>none
   | none=>none
  | none=>none
 | none=>none
def callE (P:Program) (s:S) (f:FuncId) (xs:List AV) (ro:Bool) (bs rs ms as:List Nat) (r:AV) (s1':S) (an:List An):Option Res:=
 match subS s bs rs ms as with
 | some s0=>match closedB s0 with
  | true=>match sealALx rs s xs with
   | some (ys,ef)=>match apartB ef rs with
    | true=>match AV.okInL (hasKey s0.bx) (hasKey s0.rw) (hasKey s0.mp) (hasKey s0.ar) ys with
     | true=>match ro with
      | true=>match AV.okIn (hasKey s0.bx) (hasKey s0.rw) (hasKey s0.mp) (hasKey s0.ar) r with
       | true=>some ⟨[Pe P f s0 ys r s0],[],⟨some r,[],ef,[],[]⟩,s0.keys++rkeys ef,an⟩
       | false=>none
      | false=>match keysIn s0.bx s1'.bx&&(keysIn s0.rw s1'.rw&&(keysIn s0.mp s1'.mp&&keysIn s0.ar s1'.ar)) with
       | true=>match keysNew s1'.bx s0.bx s.bx&&(keysNew s1'.rw s0.rw s.rw&&(keysNew s1'.mp s0.mp s.mp&&keysNew s1'.ar s0.ar s.ar)) with
        | true=>some ⟨[Pe P f s0 ys r s1'],[],⟨some r,s1'.bx,s1'.rw++ef,s1'.mp,s1'.ar⟩,s0.keys++(s1'.keys++rkeys ef),an⟩
        | false=>none
       | false=>none
     | false=>none
    | false=>none
   | none=>none
  | false=>none
 | none=>none
def scalB:List (Nat×List AV)→Bool
 | []=>true
 | (_,cs)::l=>match AV.scalL cs with
  | true=>scalB l
  | false=>false
theorem scalB_get:∀ {l:List (Nat×List AV)} {i:Nat} {cs:List AV},scalB l=true→aget l i=some cs→AV.scalL cs=true
 | [],_,_,_,h=>by cases h
 | (j,y)::l,i,x,hl,h=>by
  simp only [scalB] at hl
  split at hl
  ·rw [aget_cons] at h
   split at h
   ·cases h; assumption
   ·exact scalB_get hl h
  ·cases hl
def evalLent (P:Program) (s:S) (f:FuncId) (bs:List Nat) (zs:List AV) (r:AV) (an:List An):List AV→Option Res
 | .row i v::xs=>match curRow s i v with
  | some q=>match subS s bs [] [] [] with
   | some s0=>match closedB s0 with
    | true=>match scalB s0.bx with
     | true=>match AV.okInL (hasKey s0.bx) no no no xs with
      | true=>match AV.scal r with
       | true=>some ⟨[∀ x∈q.xs,x.cells.all okc=true,zs=q.xs.map frz,Pe P f s0 (.sl q.sz zs::xs) r s0],[],⟨some r,[],[],[],[]⟩,(2,i)::s0.keys,an⟩
       | false=>none
      | false=>none
     | false=>none
    | false=>none
   | none=>none
  | none=>none
 | _=>none
def evalCall (P:Program) (s:S) (an:List An) (f:FuncId) (xs:List AV):Option Res:=
 match an with
 | .call r::an=>match sealAL s xs with
  | some (ys,ef)=>match AV.okInL no no no no ys with
   | true=>match AV.isPure r with
    | true=>some ⟨[Pc P f ys r],[],⟨some r,[],ef,[],[]⟩,rkeys ef,an⟩
    | false=>none
   | false=>none
  | none=>none
 | .callB r::an=>match sealAL s xs with
  | some (ys,ef)=>match AV.okInL no no no no ys with
   | true=>match AV.scal r with
    | true=>some ⟨[Pc P f ys r],[],⟨some r,[],[],[],[]⟩,rkeys ef,an⟩
    | false=>none
   | false=>none
  | none=>none
 | .callQ bs zs r::an=>evalLent P s f bs zs r an xs
 | .callR bs rs ms as r::an=>callE P s f xs true bs rs ms as r S.none an
 | .callE bs rs ms as r s1::an=>callE P s f xs false bs rs ms as r s1 an
 | _=>none
def normX (τ:TyTab) (nk:List Nat):Nat→List TypeId→List AV→List AV
 | i,t::ts,x::l=>(match memN i nk with | true=>x | false=>norm τ t x)::normX τ nk (i+1) ts l
 | _,_,l=>l
def argN (τ:TyTab) (an:List An) (ts:List TypeId) (xs:List AV):List AV×List An:=
 match an with
 | .raw nk::an=>(normX τ nk 0 ts xs,an)
 | an=>(normL τ ts xs,an)
theorem normX_rel {nk:List Nat} {M:Mem} {E:Env}:∀ {ts:List TypeId} {i:Nat} {xs:List AV} {vs:List Value},RelL M E vs xs→RelL M E vs (normX τ nk i ts xs)
 | [],i,xs,vs,h=>by simp only [normX]; exact h
 | t::ts,i,[],vs,h=>by simp only [normX]; exact h
 | t::ts,i,x::xs,vs,h=>by
  obtain ⟨h1,h2⟩:=h
  match vs,h1 with
  | v::vs,h1=>
   have ih:RelL M E vs (normX τ nk (i+1) ts xs):=normX_rel ⟨by simpa using h1,fun j u c hu hc=>h2 (j+1) u c (by simpa using hu) (by simpa using hc)⟩
   simp only [normX]
   refine ⟨by simp [ih.1],fun j u c hu hc=>?_⟩
   cases j with
   | zero=>
    simp at hu hc
    subst hu; subst hc
    split
    ·exact h2 0 v x rfl rfl
    ·exact norm_rel (h2 0 v x rfl rfl)
   | succ j=>simp only [List.getElem?_cons_succ] at hu hc; exact ih.2 j u c hu hc
theorem argN_rel {M:Mem} {E:Env} {an:List An} {ts:List TypeId} {xs:List AV} {vs:List Value} (h:RelL M E vs xs):RelL M E vs (argN τ an ts xs).1:=by
 unfold argN
 split
 ·exact normX_rel h
 ·exact normL_rel h
def evalAny (τ:TyTab) (P:Program) (A:List (Nat×Bool)) (s:S) (an:List An) (d:Option Nat):Op→Option Res
 | .call ⟨.value (.func f),ops,tys⟩=>match vals s ops.toList with
  | some xs=>evalCall P s (argN τ an tys.toList xs).2 f (argN τ an tys.toList xs).1
  | none=>none
 | .call ⟨.value (.tmp t),ops,tys⟩=>match valW s (.tmp t) with
  | some (.fn f caps)=>match vals s ops.toList with
   | some xs=>evalCall P s (argN τ an tys.toList xs).2 f ((argN τ an tys.toList xs).1++caps)
   | none=>none
  | _=>none
 | op=>evalOp τ A d s an op
def und:List (Nat×Bool)→Prop→Prop
 | [],p=>p
 | (_,c)::l,p=>c=true→und l p
theorem und_ok:∀ {A:List (Nat×Bool)} {p:Prop},und A p→allB A=true→p
 | [],p,h,_=>h
 | (d,c)::l,p,h,hA=>by
  simp only [allB,Bool.and_eq_true] at hA
  exact und_ok (h hA.1) hA.2
def undL (A:List (Nat×Bool)):List Prop→List Prop
 | []=>[]
 | p::l=>und A p::undL A l
theorem undL_ok {A:List (Nat×Bool)} (hA:allB A=true):∀ {l:List Prop},AllP (undL A l)→AllP l
 | [],_=>trivial
 | p::l,h=>⟨und_ok h.1 hA,undL_ok hA h.2⟩
def evalG (τ:TyTab) (P:Program) (A:List (Nat×Bool)) (s:S) (an:List An) (o:Oper):Option Res:=
 match obs A s (needs o.op) with
 | some es=>match evalAny τ P A s an o.dst o.op with
  | some r=>match A with
   | []=>some ⟨r.gs,es++r.eq,r.e,r.rd,r.an⟩
   | (_,_)::_=>match r.e with
    | ⟨some x,[],[],[],[]⟩=>some ⟨undL A r.gs,es++r.eq,⟨some (.when A x),[],[],[],[]⟩,r.rd,r.an⟩
    | _=>none
  | none=>none
 | none=>none
def Step (C:Cx) (all:List Oper) (o:Oper) (s s1:S):Prop:=
 ∀ a w,H C.g C.N s a w→∀ (K:Act→World→Prop) (Q:Exit→Act→World→Prop),(∀ a' w',H C.g C.N s1 a' w'→K a' w')→
  if Region.wanted o (yielded all.toArray a.tmps) then o.wp C.P a w K Q else K (a.put o.dst undef) w
def Wp (C:Cx) (o:Oper) (s s1:S):Prop:=
 ∀ a w,H C.g C.N s a w→∀ (K:Act→World→Prop) (Q:Exit→Act→World→Prop),(∀ a' w',H C.g C.N s1 a' w'→K a' w')→o.wp C.P a w K Q
theorem Wp_of_does {o:Oper} {s1:S} (h:Does C o s s1):Wp C o s s1:=by
 intro a w hx K Q hK
 obtain ⟨v,w',hrun,hH⟩:=h a w hx
 unfold Oper.wp
 rcases hrun with hrun | ⟨hrun,rfl⟩
 ·rw [hrun,Oper.upon_value]; exact hK _ _ hH
 ·rw [hrun,Oper.upon_skip]; exact hK _ _ hH
section
variable {g:Gh} {N:Nat} {M:Mem} {E:Env} {tmps:Array Value} {w:World}
theorem likeRows.get {s1:S} (hl:likeRows s s1) {R:List Nat} {ef:List (Nat×Rw)} (h:s1.rw=ef++s.rw) (ha:apartB ef R=true) {i:Nat} (hi:memN i R=true):aget s1.rw i=aget s.rw i:=by
 have:aget ef i=none:=by
  clear h hl
  induction ef with
  | nil=>rfl
  | cons p ef ih=>
   obtain ⟨j,x⟩:=p
   simp only [apartB] at ha
   split at ha
   ·cases ha
   ·rename_i hj
    rw [aget_cons,if_neg (by rintro rfl; rw [hi] at hj; cases hj)]
    exact ih ha
 rw [h,aget_append,this]
theorem selF_mem {α:Type}:∀ {l:List Nat} {m r:List (Nat×α)},selF l m=some r→∀ {i:Nat} {v:α},aget r i=some v→memN i l=true
 | [],m,r,h,i,v,hi=>by simp only [selF] at h; cases h; cases hi
 | j::l,m,r,h,i,v,hi=>by
  simp only [selF] at h
  split at h
  ·split at h
   ·rename_i r' hr'
    cases h
    rw [aget_cons] at hi
    simp only [memN]
    split at hi
    ·rename_i e; rw [e,Nat.beq_refl]
    ·split
     ·rfl
     ·exact selF_mem hr' hi
   ·cases h
  ·cases h
theorem subS_get {bs rs ms as:List Nat} {s0:S} (h:subS s bs rs ms as=some s0):s0.fr=[]∧(∀ i v,aget s0.bx i=some v→aget s.bx i=some v)∧(∀ i v,aget s0.rw i=some v→aget s.rw i=some v∧memN i rs=true)∧
  (∀ i v,aget s0.mp i=some v→aget s.mp i=some v)∧∀ i v,aget s0.ar i=some v→aget s.ar i=some v:=by
 unfold subS at h
 split at h
 ·rename_i b hb
  split at h
  ·rename_i r hr
   split at h
   ·rename_i m hm
    split at h
    ·rename_i a ha
     cases h
     exact ⟨rfl,fun i v=>selF_get hb,fun i v hv=>⟨selF_get hr hv,selF_mem hr hv⟩,fun i v=>selF_get hm,fun i v=>selF_get ha⟩
    ·cases h
   ·cases h
  ·cases h
 ·cases h
theorem namesOk_self {α:Type} (l m:List (Nat×α)):namesOk l l m:=⟨fun _ h=>h,fun _ h=>.inl h⟩
theorem callE_sound {P:Program} {f:FuncId} {xs:List AV} {ro:Bool} {bs rs ms as:List Nat} {r:AV} {s1':S} {an:List An} {res:Res} (h:callE P s f xs ro bs rs ms as r s1' an=some res) (hg:AllP res.gs)
  (hs:St g N M E s tmps w) {vs:List Value} (hx:RelL M E vs xs):Bodied P f∧Calls P f vs.toArray w fun e w'=>∃ M' E' v x,e = .returned v∧res.e.x=some x∧E.up E'∧St g N M' E' (res.e.app none s) tmps w'∧Rel M' E' v x:=by
 unfold callE at h
 split at h
 ·rename_i s0 hs0
  split at h
  ·rename_i hcl
   split at h
   ·rename_i ys ef hse
    split at h
    ·rename_i hap
     split at h
     ·rename_i hok
      obtain ⟨q0,q1,q2,q3,q4⟩:=subS_get hs0
      have hl0:likeRows s s:=⟨rfl,rfl,rfl,rfl,fun i r h=>⟨r.k,h⟩⟩
      obtain ⟨M1,hM1,hs1,hr1,hl1⟩:=sealALx_ok hl0 hse hs hx
      have hsub:(∀ i v,aget s0.bx i=some v→aget s.bx i=some v)∧(∀ i v,aget s0.rw i=some v→aget (ef++s.rw) i=some v)∧(∀ i v,aget s0.mp i=some v→aget s.mp i=some v)∧∀ i v,aget s0.ar i=some v→aget s.ar i=some v:=
       ⟨q1,fun i v hv=>by
        obtain ⟨e1,e2⟩:=q2 i v hv
        have:=hl1.get (R:=rs) (ef:=ef) rfl hap e2
        rw [this]; exact e1,q3,q4⟩
      have hst0:=hs1.noFr.sub (t:=s0) (fun i v hi=>by rw [q0] at hi; cases hi) hsub.1 hsub.2.1 hsub.2.2.1 hsub.2.2.2 hcl
      have hargs:RelL M1 (E.keep (hasKey s0.bx) (hasKey s0.rw) (hasKey s0.mp) (hasKey s0.ar)) vs ys:=⟨hr1.1,fun j v c hv hc=>(hr1.2 j v c hv hc).keep (okInL_get hok hc)⟩
      have hpre:=hst0.rebase (fun b=>b<w.heap.size∧(E.keep (hasKey s0.bx) (hasKey s0.rw) (hasKey s0.mp) (hasKey s0.ar)).own b=none) (fun b hb=>hb) (fun b hb=>⟨(hst0.foreign b hb).1,(hst0.foreign b hb).2.2⟩)
      split at h
      ·split at h
       ·rename_i hro
        cases h
        obtain ⟨hb,hc⟩:=hg.1
        refine ⟨hb,(hc w M1 _ _ vs hpre hargs).mono ?_⟩
        rintro e w' ⟨M',E1,v,rfl,hlw,hst,hrel⟩
        obtain ⟨E2,hup,hle2,hst2⟩:=hs1.called hst hlw hsub (namesOk_self _ _) (namesOk_self _ _) (namesOk_self _ _) (namesOk_self _ _)
        refine ⟨M',E2,v,r,rfl,rfl,hup,?_,hrel.monoE hle2⟩
        have same:∀ {α:Type} {a b:List (Nat×α)},(∀ i v,aget a i=some v→aget b i=some v)→∀ i,aget (a++b) i=aget b i:=fun {α a b} hab i=>by
         rw [aget_append]
         cases hh:aget a i with
         | none=>rfl
         | some v=>exact (hab i v hh).symm
        refine hst2.weak (fun j y hj=>⟨y,hj,fun v hv=>hv⟩) (fun j cs hj=>⟨j,cs,by simp only [S.over,same hsub.1]; exact hj,fun b h=>h,fun b h=>h,rfl,fun m c c' v h1 h2 hv=>by rw [h1] at h2; cases h2; exact hv⟩)
         (fun j hj=>hst2.bxn j (by simp only [S.over,same hsub.1]; exact hj)) (fun j r2 hj=>?_) (fun j hj=>hst2.rwn j (by simp only [S.over,same hsub.2.1]; exact hj))
         (fun j es hj=>⟨j,es,by simp only [S.over,same hsub.2.2.1]; exact hj,fun b h=>h,fun b h=>h,rfl,fun m c c' h1 h2=>by rw [h1] at h2; cases h2; exact ⟨rfl,fun v hv=>hv⟩⟩) (fun j hj=>hst2.mpn j (by simp only [S.over,same hsub.2.2.1]; exact hj))
         (fun j r2 hj=>⟨by simp only [S.over,same hsub.2.2.2]; exact hj,rfl,fun b p h=>h,fun b p h=>h,Env.le_refl _,fun _ _ _ h=>h⟩) (fun j hj=>hst2.arn j (by simp only [S.over,same hsub.2.2.2]; exact hj)) (fun b o ho=>⟨o,ho,fun m hm=>?_⟩)
        ·have hj':aget (s0.over { s with rw:=ef++s.rw }).rw j=some r2:=by simp only [S.over,same hsub.2.1]; exact hj
         refine ⟨j,r2,hj',fun q hq=>?_,fun b h=>h,fun b p h=>h,rfl,rfl,.inl rfl,rfl,rfl,rfl,Nat.le_refl _,fun h=>h,fun _=>Env.le_refl _⟩
         obtain ⟨q',hq',hok'⟩:=hst2.rw j r2 hj'
         rw [hq] at hq'; cases hq'
         rw [← hok'.ver]; exact hq
        ·obtain ⟨kd,j,p⟩:=o
         simp only [sealN,S.over,same hsub.2.1,same hsub.2.2.2] at hm
         exact hm
       ·cases h
      ·split at h
       ·rename_i hk1
        split at h
        ·rename_i hk2
         cases h
         obtain ⟨hb,hc⟩:=hg.1
         simp only [Bool.and_eq_true] at hk1 hk2
         obtain ⟨k1,k2,k3,k4⟩:=hk1
         obtain ⟨m1,m2,m3,m4⟩:=hk2
         have nrw:∀ i,aget s.rw i=none→i<nB→aget (ef++s.rw) i=none:=fun i hi _=>by
          cases hh:aget (ef++s.rw) i with
          | none=>rfl
          | some v=>
           exfalso
           have hsealed:∀ {R:List Nat} {cs ds:List AV} {e:List (Nat×Rw)},sealALx R s cs=some (ds,e)→aget e i=none:=by
            have hC:∀ {R:List Nat} {x y:AV} {e:List (Nat×Rw)},sealCx R s x=some (y,e)→aget e i=none:=by
             intro R x y e h
             cases x with
             | row j vr=>
              simp only [sealCx] at h
              split at h
              ·cases h; rfl
              ·simp only [sealC] at h
               split at h
               ·rename_i r' hr'
                split at h
                ·cases h
                 rw [aget_cons,if_neg (by rintro rfl; rw [(curRow_get hr').1] at hi; cases hi)]
                 rfl
                ·cases h
               ·cases h
             | _=>simp only [sealCx] at h; cases h; rfl
            have hL:∀ {R:List Nat} {cs ds:List AV} {e:List (Nat×Rw)},sealLx R s cs=some (ds,e)→aget e i=none:=by
             intro R cs
             induction cs with
             | nil=>intro ds e h; simp only [sealLx] at h; cases h; rfl
             | cons x cs ih=>
              intro ds e h
              simp only [sealLx] at h
              split at h
              ·rename_i y e1 h1
               split at h
               ·rename_i m e2 h2
                cases h
                rw [aget_append,ih h2,hC h1]
               ·cases h
              ·cases h
            have hA:∀ {R:List Nat} {x y:AV} {e:List (Nat×Rw)},sealAx R s x=some (y,e)→aget e i=none:=by
             intro R x y e h
             cases x with
             | agg cs=>
              simp only [sealAx] at h
              split at h
              ·rename_i ds e1 h1
               cases h
               exact hL h1
              ·cases h
             | _=>exact hC (by simpa only [sealAx] using h)
            intro R cs
            induction cs with
            | nil=>intro ds e h; simp only [sealALx] at h; cases h; rfl
            | cons x cs ih=>
             intro ds e h
             simp only [sealALx] at h
             split at h
             ·rename_i y e1 h1
              split at h
              ·rename_i m e2 h2
               cases h
               rw [aget_append,ih h2,hA h1]
              ·cases h
             ·cases h
           rw [aget_append,hsealed hse,hi] at hh
           cases hh
         refine ⟨hb,(hc w M1 _ _ vs hpre hargs).mono ?_⟩
         rintro e w' ⟨M',E1,v,rfl,hlw,hst,hrel⟩
         obtain ⟨E2,hup,hle2,hst2⟩:=hs1.called hst hlw hsub ⟨keysIn_ok k1,keysNew_ok m1⟩ ⟨keysIn_ok k2,fun i hi=>(keysNew_ok m2 i hi).imp id fun ⟨h1,h2⟩=>⟨nrw i h1 h2,h2⟩⟩ ⟨keysIn_ok k3,keysNew_ok m3⟩ ⟨keysIn_ok k4,keysNew_ok m4⟩
         refine ⟨M',E2,v,r,rfl,rfl,hup,?_,hrel.monoE hle2⟩
         simpa only [Eff.app,S.over,List.append_assoc] using hst2
        ·cases h
       ·cases h
     ·cases h
    ·cases h
   ·cases h
  ·cases h
 ·cases h
theorem un5_keep (E:Env) (i:Nat) (kb:Nat→Bool):(E.un5 i).keep kb no no no=E.keep kb no no no:=by
 simp only [Env.keep,Env.un5,Env.mk.injEq,true_and]
 funext b
 cases h:E.own b with
 | none=>simp [is5]
 | some o=>
  obtain ⟨k,j,p⟩:=o
  by_cases h5:is5 i (some (k,j,p))=true
  ·obtain ⟨p',hp⟩:=is5_iff.1 h5
   cases hp
   simp [is5]
  ·rw [if_neg h5]
theorem evalLent_sound {P:Program} {f:FuncId} {xs:List AV} {bs:List Nat} {zs:List AV} {r:AV} {an:List An} {res:Res} (h:evalLent P s f bs zs r an xs=some res) (hg:AllP res.gs)
  (hs:St g N M E s tmps w) {vs:List Value} (hx:RelL M E vs xs):Bodied P f∧Calls P f vs.toArray w fun e w'=>∃ M' E' v x,e = .returned v∧res.e.x=some x∧E.up E'∧St g N M' E' (res.e.app none s) tmps w'∧Rel M' E' v x:=by
 unfold evalLent at h
 split at h
 ·rename_i i v xs'
  split at h
  ·rename_i q hq
   split at h
   ·rename_i s0 hs0
    split at h
    ·rename_i hcl
     split at h
     ·rename_i hsc
      split at h
      ·rename_i hok
       split at h
       ·rename_i hpr
        cases h
        obtain ⟨hoc,hzs,⟨hb,hc⟩,_⟩:=hg
        obtain ⟨hr,rfl⟩:=curRow_get hq
        obtain ⟨q0,q1,q2,q3,q4⟩:=subS_get hs0
        obtain ⟨sf,sb,sr,sm,sa⟩:=s0
        obtain ⟨rfl,rfl,rfl⟩:sr=[]∧sm=[]∧sa=[]:=by
         simp only [subS,selF] at hs0
         split at hs0
         ·cases hs0; exact ⟨rfl,rfl,rfl⟩
         ·cases hs0
        obtain ⟨M1,hM1,hs1⟩:=hs.freeze hr hoc
        obtain ⟨M2,hM2,hs2,hrel2⟩:=hs1.sealRow (i:=i) (r:={ q with pu:=0,ns:=[],xs:=q.xs.map frz }) (by rw [aget_cons,if_pos rfl]) rfl
        have hst0:=hs2.noFr.sub (t:=⟨sf,sb,[],[],[]⟩) (fun i v hi=>by rw [q0] at hi; cases hi) q1 (fun i v hi=>by cases hi) (fun i v hi=>by cases hi) (fun i v hi=>by cases hi) hcl
        have hst0:St g 0 M2 ((E.un5 i).keep (hasKey sb) no no no) ⟨sf,sb,[],[],[]⟩ #[] w:=hst0
        rw [un5_keep] at hst0
        have hpre:=hst0.rebase (fun b=>b<w.heap.size∧(E.keep (hasKey sb) no no no).own b=none) (fun b hb=>hb) (fun b hb=>⟨(hst0.foreign b hb).1,(hst0.foreign b hb).2.2⟩)
        have hargs:RelL M2 (E.keep (hasKey sb) no no no) vs (.sl q.sz zs::xs'):=by
         refine ⟨by simpa using hx.1,fun j v c hv hc=>?_⟩
         cases j with
         | zero=>
          simp at hc; subst hc
          have h0:=(hx.2 0 v _ hv rfl).of_cell rfl
          have:=hrel2 v (h0.mono hM1 (un5_le E i))
          rw [hzs]
          exact .cell (.pure this)
         | succ j=>
          have hcc:=hx.2 (j+1) v c hv (by simpa using hc)
          exact (hcc.monoM fun b j v h=>hM2 b j v (hM1 b j v h)).keep (okInL_get hok (by simpa using hc))
        refine ⟨hb,(hc w M2 _ _ vs hpre hargs).mono ?_⟩
        rintro e w' ⟨M',E1,v,rfl,hlw,hst,hrel⟩
        refine ⟨M,E,v,_,rfl,rfl,Env.up_refl E,hs.lent (s0:=⟨sf,sb,[],[],[]⟩) q1 (fun i cs hi c hcm v hv=>?_) hst hlw,hrel.scal hpr⟩
        obtain ⟨j,hj⟩:=List.getElem?_of_mem hcm
        exact hv.scal (scalL_get (scalB_get hsc hi) hj)
       ·cases h
      ·cases h
     ·cases h
    ·cases h
   ·cases h
  ·cases h
 ·cases h
theorem evalCall_sound {P:Program} {f:FuncId} {xs:List AV} {an:List An} {res:Res} (h:evalCall P s an f xs=some res) (hg:AllP res.gs)
  (hs:St g N M E s tmps w) {vs:List Value} (hx:RelL M E vs xs):Bodied P f∧Calls P f vs.toArray w fun e w'=>∃ M' E' v x,e = .returned v∧res.e.x=some x∧E.up E'∧St g N M' E' (res.e.app none s) tmps w'∧Rel M' E' v x:=by
 unfold evalCall at h
 have hl0:likeRows s s:=⟨rfl,rfl,rfl,rfl,fun i r h=>⟨r.k,h⟩⟩
 split at h
 ·split at h
  ·rename_i ys ef hse
   split at h
   ·rename_i hp
    split at h
    ·rename_i hpr
     cases h
     obtain ⟨hb,hc⟩:=hg.1
     obtain ⟨M1,hM1,hs1,hr1,hl1⟩:=sealAL_ok hl0 hse hs hx
     have hargs:RelL M1 Env.none vs ys:=⟨hr1.1,fun j v c hv hc=>(hr1.2 j v c hv hc).of_pure _ (okInL_get hp hc)⟩
     have hst0:=(hs1.noFr.sub (t:=S.none) (fun i v h=>by cases h) (fun i v h=>by cases h) (fun i v h=>by cases h) (fun i v h=>by cases h) (fun i v h=>by cases h) rfl)
     have hkn:E.keep (hasKey S.none.bx) (hasKey S.none.rw) (hasKey S.none.mp) (hasKey S.none.ar)=Env.none:=Env.keep_none E
     have hpre:=hst0.rebase (fun b=>b<w.heap.size∧(E.keep (hasKey S.none.bx) (hasKey S.none.rw) (hasKey S.none.mp) (hasKey S.none.ar)).own b=none) (fun b hb=>hb) (fun b hb=>⟨(hst0.foreign b hb).1,(hst0.foreign b hb).2.2⟩)
     refine ⟨hb,(hc w M1 _ _ vs hpre (by rw [hkn]; exact hargs)).mono ?_⟩
     rintro e w' ⟨M',E1,v,rfl,hlw,hst,hrel⟩
     obtain ⟨E2,hup,hle2,hst2⟩:=hs1.called hst hlw ⟨fun i v h=>(by cases h),fun i v h=>(by cases h),fun i v h=>(by cases h),fun i v h=>by cases h⟩ ⟨fun i h=>(by cases h),fun i h=>by cases h⟩ ⟨fun i h=>(by cases h),fun i h=>by cases h⟩ ⟨fun i h=>(by cases h),fun i h=>by cases h⟩ ⟨fun i h=>(by cases h),fun i h=>by cases h⟩
     exact ⟨M',E2,v,_,rfl,rfl,hup,hst2,hrel.monoE hle2⟩
    ·cases h
   ·cases h
  ·cases h
 ·split at h
  ·rename_i ys ef hse
   split at h
   ·rename_i hp
    split at h
    ·rename_i hpr
     cases h
     obtain ⟨hb,hc⟩:=hg.1
     obtain ⟨M1,hM1,hs1,hr1,hl1⟩:=sealAL_ok hl0 hse hs hx
     have hargs:RelL M1 Env.none vs ys:=⟨hr1.1,fun j v c hv hc=>(hr1.2 j v c hv hc).of_pure _ (okInL_get hp hc)⟩
     have hst0:=(hs1.noFr.sub (t:=S.none) (fun i v h=>by cases h) (fun i v h=>by cases h) (fun i v h=>by cases h) (fun i v h=>by cases h) (fun i v h=>by cases h) rfl)
     have hkn:E.keep (hasKey S.none.bx) (hasKey S.none.rw) (hasKey S.none.mp) (hasKey S.none.ar)=Env.none:=Env.keep_none E
     rw [hkn] at hst0
     have hpre:=hst0.rebase (fun b=>b<w.heap.size) (fun b hb=>⟨hb,rfl⟩) (fun b hb=>(hst0.foreign b hb).1)
     refine ⟨hb,(hc w M1 _ _ vs hpre hargs).mono ?_⟩
     rintro e w' ⟨M',E1,v,rfl,hlw,hst,hrel⟩
     exact ⟨M,E,v,_,rfl,rfl,Env.up_refl E,hs.borrowed hst,hrel.scal hpr⟩
    ·cases h
   ·cases h
  ·cases h
 ·exact evalLent_sound h hg hs hx
 ·exact callE_sound h hg hs hx
 ·exact callE_sound h hg hs hx
 ·cases h
end
theorem Wp_of_call {o:Oper} {f:FuncId} {r:Res} (hd:∀ d,o.dst=some d→d<C.N)
  (h:∀ (a:Act) (w:World) (M:Mem) (E:Env),St C.g C.N M E s a.tmps w→∃ vs:List Value,(execOp a.eval o).run C.P w=(callFunc f vs.toArray).run C.P w∧Bodied C.P f∧
   Calls C.P f vs.toArray w fun e w'=>∃ M' E' v x,e = .returned v∧r.e.x=some x∧E.up E'∧St C.g C.N M' E' (r.e.app none s) a.tmps w'∧Rel M' E' v x):Wp C o s (r.e.app o.dst s):=by
 intro a w ⟨hdf,M,E,hs,hp0⟩ K Q hK
 obtain ⟨vs,hrun,hb,hc⟩:=h a w M E hs
 unfold Oper.wp
 rw [hrun,run_callFunc hb,Oper.upon_enter]
 refine hc.mono ?_
 rintro e w' ⟨M',E',v,x,rfl,hx,hup,hst,hr⟩
 refine hK _ _ ⟨by rw [defers_put]; exact hdf,M',E',?_,hup.p _ hp0⟩
 cases hdd:o.dst with
 | none=>exact hst
 | some d=>
  have:=hst.putS (hd d hdd) hr
  simpa only [Eff.app,hx] using this
theorem evalAny_sound (hτ:TyOk C.P τ) {A:List (Nat×Bool)} (hA:allB A=true) {o:Oper} {an:List An} (hd:∀ d,o.dst=some d→d<C.N) (hw:∀ x∈needs o.op,Done s x) {r:Res} (h:evalAny τ C.P A s an o.dst o.op=some r) (hg:AllP r.gs) (he:AllE r.eq):Wp C o s (r.e.app o.dst s):=by
 unfold evalAny at h
 split at h
 ·rename_i f ops tys ho
  rw [ho] at hw
  split at h
  ·rename_i xs hxs
   refine Wp_of_call (f:=f) hd fun a w M E hs=>?_
   have hrel0:=vals_rel hxs (fun x hx=>hw x (by simp [needs]; exact Or.inr (by simpa using hx))) hs
   have hrel:=argN_rel (τ:=τ) (an:=an) (ts:=tys.toList) hrel0
   obtain ⟨hb,hc⟩:=evalCall_sound h hg hs hrel
   exact ⟨_,run_call ho rfl a w,hb,hc⟩
  ·cases h
 ·rename_i t ops tys ho
  rw [ho] at hw
  split at h
  ·rename_i f caps hf
   split at h
   ·rename_i xs hxs
    refine Wp_of_call (f:=f) hd fun a w M E hs=>?_
    have hrel0:=vals_rel hxs (fun x hx=>hw x (by simp [needs]; exact Or.inr (by simpa using hx))) hs
    have hrel:=argN_rel (τ:=τ) (an:=an) (ts:=tys.toList) hrel0
    obtain ⟨cs,hcv,hcl,hcr⟩:=(valW_rel hs hf (hw _ (by simp [needs]))).fn_inv
    have hall:RelL M E ((ops.toList.map a.eval)++cs) ((argN τ an tys.toList xs).1++caps):=by
     refine ⟨by rw [List.length_append,List.length_append,hrel.1,hcl],fun j v c hv hc=>?_⟩
     rw [List.getElem?_append] at hv hc
     rw [hrel.1] at hv
     split at hv
     ·rename_i hj; rw [if_pos hj] at hc; exact hrel.2 j v c hv hc
     ·rename_i hj; rw [if_neg hj] at hc; exact .cell (hcr _ v c hv hc)
    obtain ⟨hb,hc⟩:=evalCall_sound h hg hs hall
    exact ⟨_,run_callV ho rfl a hcv w,hb,hc⟩
   ·cases h
  ·cases h
 ·exact Wp_of_does (evalOp_sound hτ hA o an hd hw r h hg he)
theorem evalG_sound (hτ:TyOk C.P τ) {all:List Oper} {o:Oper} {A:List (Nat×Bool)} {an:List An} (hd:∀ d,o.dst=some d→d<C.N) (hgc:gcond all s o.guard=some A) {r:Res} (h:evalG τ C.P A s an o=some r) (hg:AllP r.gs) (he:AllE r.eq) :
  Step C all o s (r.e.app o.dst s):=by
 unfold evalG at h
 split at h
 ·rename_i es hes
  split at h
  ·rename_i r0 hr0
   split at h
   ·cases h
    obtain ⟨e1,e2⟩:=AllE_append.1 he
    intro a w hx K Q hK
    rw [gcond_ok hgc hx,if_pos (show allB []=true from rfl)]
    exact evalAny_sound hτ rfl hd (obs_done rfl hes e1) hr0 hg e2 a w hx K Q hK
   ·rename_i d0 c0 A'
    split at h
    ·rename_i x hx0
     cases h
     obtain ⟨e1,e2⟩:=AllE_append.1 he
     intro a w hx K Q hK
     rw [gcond_ok hgc hx]
     cases hA:allB ((d0,c0)::A') with
     | true=>
      rw [if_pos rfl]
      refine evalAny_sound hτ hA hd (obs_done hA hes e1) hr0 (undL_ok hA hg) e2 a w hx K Q fun a' w' hH=>hK _ _ ?_
      rw [hx0] at hH
      obtain ⟨hdf,M,E,hs,hp0⟩:=hH
      refine ⟨hdf,M,E,?_,hp0⟩
      cases hdd:o.dst with
      | none=>rw [hdd] at hs; exact hs
      | some d=>
       rw [hdd] at hs
       refine { hs with fr:=fun i av hi=>?_ }
       have hi':aget ((d,AV.when ((d0,c0)::A') x)::s.fr) i=some av:=hi
       have hfr:∀ i av,aget ((d,x)::s.fr) i=some av→i<C.N∧Rel M E (a'.tmps.getD i undef) av:=hs.fr
       rw [aget_cons] at hi'
       split at hi'
       ·rename_i e
        cases hi'
        obtain ⟨h1,h2⟩:=hfr i x (by rw [aget_cons,if_pos e])
        exact ⟨h1,.when _ _ _ (fun _=>h2) (fun h=>by rw [hA] at h; cases h)⟩
       ·rename_i e
        exact hfr i av (by rw [aget_cons,if_neg e]; exact hi')
     | false=>
      rw [if_neg (by simp)]
      obtain ⟨hdf,M,E,hs,hp0⟩:=hx
      refine hK _ _ ⟨by rw [defers_put]; exact hdf,M,E,?_,hp0⟩
      cases hdd:o.dst with
      | none=>exact hs
      | some d=>exact hs.putS (hd d hdd) (.when _ _ _ (fun h=>by rw [hA] at h; cases h) (fun _=>rfl))
    ·cases h
  ·cases h
 ·cases h
end Go.Dm
namespace Go.Dm
open Go Go.RowKit
variable {C:Cx} {k:List It} {s s' t:S} {τ:TyTab}
structure DE where
 d:Option Nat
 e:Eff
def DE.app (x:DE) (s:S):S:=x.e.app x.d s
def keysL {α:Type} (c:Nat):List (Nat×α)→List Key
 | []=>[]
 | (i,_)::l=>(c,i)::keysL c l
def DE.writes (x:DE):List Key:=
 (match x.d with | some i=>[(0,i)] | none=>[])++(keysL 1 x.e.bx++(keysL 2 x.e.rw++(keysL 3 x.e.mp++keysL 4 x.e.ar)))
def same (κ:Key) (s s':S):Prop:=
 (κ.1=0→aget s.fr κ.2=aget s'.fr κ.2)∧(κ.1=1→aget s.bx κ.2=aget s'.bx κ.2)∧(κ.1=2→aget s.rw κ.2=aget s'.rw κ.2)∧(κ.1=3→aget s.mp κ.2=aget s'.mp κ.2)∧(κ.1=4→aget s.ar κ.2=aget s'.ar κ.2)
def Agree (R:List Key) (s s':S):Prop:=∀ κ∈R,same κ s s'
def SEq (s s':S):Prop:=∀ κ,same κ s s'
theorem Agree.sub {R R':List Key} (h:Agree R s s') (hR:∀ κ∈R',κ∈R):Agree R' s s':=fun κ hκ=>h κ (hR κ hκ)
theorem same.refl (κ:Key) (s:S):same κ s s:=⟨fun _=>rfl,fun _=>rfl,fun _=>rfl,fun _=>rfl,fun _=>rfl⟩
theorem same.symm {κ:Key} (h:same κ s s'):same κ s' s:=⟨fun e=>(h.1 e).symm,fun e=>(h.2.1 e).symm,fun e=>(h.2.2.1 e).symm,fun e=>(h.2.2.2.1 e).symm,fun e=>(h.2.2.2.2 e).symm⟩
theorem same.trans {κ:Key} (h:same κ s s') (h':same κ s' t):same κ s t:=
 ⟨fun e=>(h.1 e).trans (h'.1 e),fun e=>(h.2.1 e).trans (h'.2.1 e),fun e=>(h.2.2.1 e).trans (h'.2.2.1 e),fun e=>(h.2.2.2.1 e).trans (h'.2.2.2.1 e),fun e=>(h.2.2.2.2 e).trans (h'.2.2.2.2 e)⟩
theorem SEq.fr (h:SEq s s') (i:Nat):aget s.fr i=aget s'.fr i:=(h (0,i)).1 rfl
theorem SEq.bx (h:SEq s s') (i:Nat):aget s.bx i=aget s'.bx i:=(h (1,i)).2.1 rfl
theorem SEq.rw (h:SEq s s') (i:Nat):aget s.rw i=aget s'.rw i:=(h (2,i)).2.2.1 rfl
theorem SEq.mp (h:SEq s s') (i:Nat):aget s.mp i=aget s'.mp i:=(h (3,i)).2.2.2.1 rfl
theorem SEq.ar (h:SEq s s') (i:Nat):aget s.ar i=aget s'.ar i:=(h (4,i)).2.2.2.2 rfl
theorem H.eq {g:Gh} {N:Nat} {a:Act} {w:World} (h:H g N s a w) (e:SEq s s'):H g N s' a w:=by
 obtain ⟨hd,M,E,hs,hp⟩:=h
 exact ⟨hd,M,E,{ hs with
  fr:=fun i av hi=>hs.fr i av (by rw [e.fr]; exact hi)
  mem:=fun b j v hv=>⟨(hs.mem b j v hv).1,fun o ho=>by
   have:=(hs.mem b j v hv).2 o ho
   simp only [sealN,e.rw,e.ar] at this ⊢
   exact this⟩
  bx:=fun i cs hi=>hs.bx i cs (by rw [e.bx]; exact hi)
  bxn:=fun i hi=>hs.bxn i (by rw [e.bx]; exact hi)
  rw:=fun i cs hi=>hs.rw i cs (by rw [e.rw]; exact hi)
  rwn:=fun i hi=>hs.rwn i (by rw [e.rw]; exact hi)
  mp:=fun i cs hi=>hs.mp i cs (by rw [e.mp]; exact hi)
  mpn:=fun i hi=>hs.mpn i (by rw [e.mp]; exact hi)
  ar:=fun i cs hi=>hs.ar i cs (by rw [e.ar]; exact hi)
  arn:=fun i hi=>hs.arn i (by rw [e.ar]; exact hi) },hp⟩
theorem mem_keysL {α:Type} {c:Nat}:∀ {l:List (Nat×α)} {κ:Key},κ∈keysL c l↔κ.1=c∧(aget l κ.2).isSome=true
 | [],κ=>by simp [keysL,aget]
 | (j,v)::l,κ=>by
  simp only [keysL,List.mem_cons,mem_keysL (l:=l),aget_cons]
  obtain ⟨a,b⟩:=κ
  simp only [Prod.mk.injEq]
  constructor
  ·rintro (⟨rfl,rfl⟩ | ⟨rfl,h⟩)
   ·simp
   ·refine ⟨rfl,?_⟩
    split
    ·rfl
    ·exact h
  ·rintro ⟨rfl,h⟩
   split at h
   ·rename_i e; exact .inl ⟨rfl,e⟩
   ·exact .inr ⟨rfl,h⟩
theorem aget_app_none {α:Type} {a b:List (Nat×α)} {i:Nat} (h:(aget a i).isSome=false):aget (a++b) i=aget b i:=by
 rw [aget_append]
 cases hh:aget a i with
 | none=>rfl
 | some v=>rw [hh] at h; cases h
theorem aget_app_some {α:Type} {a b b':List (Nat×α)} {i:Nat} (h:(aget a i).isSome=true∨aget b i=aget b' i):aget (a++b) i=aget (a++b') i:=by
 rw [aget_append,aget_append]
 cases hh:aget a i with
 | some v=>rfl
 | none=>
  rcases h with h | h
  ·rw [hh] at h; cases h
  ·exact h
def slotL (x:DE):List (Nat×AV):=match x.d,x.e.x with
 | some i,some v=>[(i,v)]
 | some i,none=>[(i,.any)]
 | none,_=>[]
theorem app_fr (x:DE) (s:S):(x.app s).fr=slotL x++s.fr:=by
 obtain ⟨d,e⟩:=x
 unfold DE.app Eff.app slotL
 cases d with
 | none=>rfl
 | some i=>cases he:e.x <;> simp [he]
theorem slotL_keys (x:DE) (κ:Key):κ∈(match x.d with | some i=>[((0:Nat),i)] | none=>[])↔κ.1=0∧(aget (slotL x) κ.2).isSome=true:=by
 obtain ⟨d,e⟩:=x
 obtain ⟨a,b⟩:=κ
 cases d with
 | none=>simp [slotL,aget]
 | some i=>
  cases he:e.x <;> simp only [slotL,he,aget_cons,aget,List.mem_singleton,Prod.mk.injEq]
  all_goals
   constructor
   ·rintro ⟨rfl,rfl⟩; simp
   ·rintro ⟨rfl,h⟩
    split at h
    ·rename_i e; exact ⟨rfl,e⟩
    ·cases h
theorem app_other {e:DE} {κ:Key} (h:κ∉e.writes) (s:S):same κ (e.app s) s:=by
 simp only [DE.writes,List.mem_append,not_or,slotL_keys,mem_keysL] at h
 obtain ⟨h0,h1,h2,h3,h4⟩:=h
 refine ⟨fun hc=>?_,fun hc=>?_,fun hc=>?_,fun hc=>?_,fun hc=>?_⟩
 ·rw [app_fr]; exact aget_app_none (by simpa [hc] using h0)
 ·exact aget_app_none (by simpa [hc] using h1)
 ·exact aget_app_none (by simpa [hc] using h2)
 ·exact aget_app_none (by simpa [hc] using h3)
 ·exact aget_app_none (by simpa [hc] using h4)
theorem app_same {e:DE} {κ:Key} {s s':S} (h:κ∈e.writes∨same κ s s'):same κ (e.app s) (e.app s'):=by
 simp only [DE.writes,List.mem_append,slotL_keys,mem_keysL] at h
 refine ⟨fun hc=>?_,fun hc=>?_,fun hc=>?_,fun hc=>?_,fun hc=>?_⟩
 ·rw [app_fr,app_fr]; refine aget_app_some ?_
  rcases h with (h | h | h | h | h) | h
  ·exact .inl h.2
  all_goals first | omega | exact .inr (h.1 hc)
 ·refine aget_app_some ?_
  rcases h with (h | h | h | h | h) | h
  ·omega
  ·exact .inl h.2
  all_goals first | omega | exact .inr (h.2.1 hc)
 ·refine aget_app_some ?_
  rcases h with (h | h | h | h | h) | h
  ·omega
  ·omega
  ·exact .inl h.2
  all_goals first | omega | exact .inr (h.2.2.1 hc)
 ·refine aget_app_some ?_
  rcases h with (h | h | h | h | h) | h
  ·omega
  ·omega
  ·omega
  ·exact .inl h.2
  all_goals first | omega | exact .inr (h.2.2.2.1 hc)
 ·refine aget_app_some ?_
  rcases h with (h | h | h | h | h) | h
  ·omega
  ·omega
  ·omega
  ·omega
  ·exact .inl h.2
  ·exact .inr (h.2.2.2.2 hc)
def OpOk (C:Cx) (all:List Oper) (i:Nat) (s s1:S):Prop:=
 ∀ a w,H C.g C.N s a w→∀ (K:Act→World→Prop) (Q:Exit→Act→World→Prop),(∀ a' w',H C.g C.N s1 a' w'→K a' w')→wpOp C.P all.toArray Q i K a w
def ValidE (C:Cx) (all:List Oper) (i:Nat) (R:List Key) (e:DE) (s:S):Prop:=∀ s',Agree R s s'→OpOk C all i s' (e.app s')
inductive DRun (C:Cx) (all:List Oper):Nat→S→List (List Key×DE)→S→Prop
 | nil (i:Nat) (s:S):DRun C all i s [] s
 | cons {i:Nat} {s s2:S} {R:List Key} {e:DE} {l:List (List Key×DE)} (h:ValidE C all i R e s) (ht:DRun C all (i+1) (e.app s) l s2):DRun C all i s ((R,e)::l) s2
def stOf (L:Nat→Bool):Nat→List (List Key×DE)→S→S
 | _,[],s=>s
 | k,(_,e)::l,s=>stOf L (k+1) l (if L k then e.app s else s)
theorem stOf_congr {L L':Nat→Bool} {κ:Key}:∀ (l:List (List Key×DE)) (k:Nat) (s s':S),same κ s s'→
  (∀ j R e,l[j]?=some (R,e)→κ∈e.writes→L (k+j)=L' (k+j))→same κ (stOf L k l s) (stOf L' k l s')
 | [],_,_,_,h,_=>h
 | (R,e)::l,k,s,s',h,hw=>by
  simp only [stOf]
  refine stOf_congr l (k+1) _ _ ?_ (fun j R' e' hj hk=>by
   have:=hw (j+1) R' e' (by simpa using hj) hk
   rw [show k+1+j=k+(j+1) by omega]; exact this)
  by_cases hκ:κ∈e.writes
  ·have:=hw 0 R e rfl hκ
   rw [Nat.add_zero] at this
   rw [this]
   split
   ·exact app_same (.inl hκ)
   ·exact h
  ·split <;> split
   ·exact app_same (.inr h)
   ·exact (app_other hκ s).trans h
   ·exact h.trans (app_other hκ s').symm
   ·exact h
theorem stOf_insert {L:Nat→Bool} {κ:Key} {R:List Key} {e:DE}:∀ (l:List (List Key×DE)) (k i:Nat) (s:S),l[i]?=some (R,e)→L (k+i)=false→
  (κ∈e.writes→∀ j R' e',l[j]?=some (R',e')→i<j→κ∈e'.writes→L (k+j)=false)→
  same κ (stOf (fun j=>L j||decide (j=k+i)) k l s) (e.app (stOf L k l s))
 | [],_,_,_,h,_,_=>by simp at h
 | (R0,e0)::l,k,0,s,h,hL,hw=>by
  simp at h
  obtain ⟨rfl,rfl⟩:=h
  simp only [stOf,Nat.add_zero,decide_true,Bool.or_true,if_true]
  rw [Nat.add_zero] at hL
  rw [hL]
  simp only [Bool.false_eq_true,if_false]
  have e1:same κ (stOf (fun j=>L j||decide (j=k)) (k+1) l (e0.app s)) (stOf L (k+1) l (e0.app s)):=
   stOf_congr l (k+1) _ _ (same.refl _ _) (fun j _ _ _ _=>by
    have:decide (k+1+j=k)=false:=by simp; omega
    simp [this])
  refine e1.trans ?_
  by_cases hκ:κ∈e0.writes
  ·have hn:∀ j R' e',l[j]?=some (R',e')→κ∈e'.writes→L (k+1+j)=(fun _=>false) (k+1+j):=fun j R' e' hj hk=>by
    have:=hw hκ (j+1) R' e' (by simpa using hj) (by omega) hk
    rw [show k+1+j=k+(j+1) by omega]; exact this
   have z:∀ (l:List (List Key×DE)) (k:Nat) (s:S),stOf (fun _=>false) k l s=s:=by
    intro l
    induction l with
    | nil=>intro k s; rfl
    | cons p l ih=>intro k s; obtain ⟨_,_⟩:=p; simp [stOf,ih]
   have a1:=stOf_congr (L:=L) (L':=fun _=>false) (κ:=κ) l (k+1) (e0.app s) (e0.app s) (same.refl _ _) hn
   rw [z] at a1
   exact a1.trans (app_same (.inl hκ))
  ·have a1:same κ (stOf L (k+1) l (e0.app s)) (stOf L (k+1) l s):=stOf_congr l (k+1) _ _ (app_other hκ s) (fun _ _ _ _ _=>rfl)
   exact a1.trans (app_other hκ _).symm
 | (R0,e0)::l,k,i+1,s,h,hL,hw=>by
  simp only [stOf]
  have hk:decide (k=k+(i+1))=false:=by simp
  simp only [hk,Bool.or_false]
  have:=stOf_insert (L:=L) (κ:=κ) l (k+1) i (if L k=true then e0.app s else s) (by simpa using h) (by rw [show k+1+i=k+(i+1) by omega]; exact hL)
   (fun hκ j R' e' hj hlt hk=>by
    have:=hw hκ (j+1) R' e' (by simpa using hj) (by omega) hk
    rw [show k+1+j=k+(j+1) by omega]; exact this)
  rw [show k+1+i=k+(i+1) by omega] at this
  exact this
def anc (all:List Oper):Nat→Nat→Nat→Bool
 | 0,_,_=>false
 | n+1,i,j=>match nth all j with
  | some o=>o.after.toList.any fun e=>Region.binds .any e&&(decide (e.on=i)||anc all n i e.on)
  | none=>false
def keyIn (x:Key):List Key→Bool
 | []=>false
 | y::l=>match Nat.beq x.1 y.1 with
  | true=>match Nat.beq x.2 y.2 with
   | true=>true
   | false=>keyIn x l
  | false=>keyIn x l
def hits (a b:List Key):Bool:=match a with
 | []=>false
 | x::l=>match keyIn x b with
  | true=>true
  | false=>hits l b
theorem keyIn_of {x:Key}:∀ {l:List Key},x∈l→keyIn x l=true
 | y::l,h=>by
  simp only [keyIn]
  rcases List.mem_cons.1 h with e | h
  ·subst e
   have e1:Nat.beq x.1 x.1=true:=Nat.beq_refl _
   have e2:Nat.beq x.2 x.2=true:=Nat.beq_refl _
   rw [e1,e2]
  ·have:=keyIn_of h
   split
   ·split
    ·rfl
    ·exact this
   ·exact this
def clash (x y:List Key×List Key):Bool:=hits x.2 y.1||(hits x.2 y.2||hits y.2 x.1)
def indep1 (all:List Oper) (i:Nat) (x:List Key×List Key):Nat→List (List Key×List Key)→Bool
 | _,[]=>true
 | j,y::l=>(!clash x y||anc all 6 i j)&&indep1 all i x (j+1) l
def indepB (all:List Oper):Nat→List (List Key×List Key)→Bool
 | _,[]=>true
 | i,x::l=>indep1 all i x (i+1) l&&indepB all (i+1) l
def backB:Nat→List Oper→Bool
 | _,[]=>true
 | i,o::l=>o.after.toList.all (fun e=>!Region.binds .any e||decide (e.on<i))&&backB (i+1) l
def keysOf (l:List (List Key×DE)):List (List Key×List Key):=l.map fun p=>(p.1,p.2.writes)
theorem hits_of {a b:List Key} {κ:Key} (h1:κ∈a) (h2:κ∈b):hits a b=true:=by
 induction a with
 | nil=>cases h1
 | cons x l ih=>
  simp only [hits]
  rcases List.mem_cons.1 h1 with e | h1
  ·subst e; rw [keyIn_of h2]
  ·split
   ·rfl
   ·exact ih h1
theorem indep1_at {all:List Oper} {i:Nat} {x:List Key×List Key}:∀ {l:List (List Key×List Key)} {j m:Nat} {y:List Key×List Key},indep1 all i x j l=true→l[m]?=some y→clash x y=true→anc all 6 i (j+m)=true
 | [],_,_,_,_,h,_=>by simp at h
 | z::l,j,0,y,h,hm,hc=>by
  simp at hm; subst hm
  simp only [indep1,Bool.and_eq_true,Bool.or_eq_true,Bool.not_eq_true'] at h
  rcases h.1 with h | h
  ·rw [hc] at h; cases h
  ·exact h
 | z::l,j,m+1,y,h,hm,hc=>by
  simp only [indep1,Bool.and_eq_true] at h
  have:=indep1_at h.2 (by simpa using hm) hc
  rw [show j+(m+1)=j+1+m by omega]; exact this
theorem indepB_at {all:List Oper}:∀ {l:List (List Key×List Key)} {i a b:Nat} {x y:List Key×List Key},indepB all i l=true→l[a]?=some x→l[b]?=some y→a<b→clash x y=true→anc all 6 (i+a) (i+b)=true
 | [],_,_,_,_,_,_,h,_,_,_=>by simp at h
 | z::l,i,0,b+1,x,y,h,ha,hb,_,hc=>by
  simp at ha; subst ha
  simp only [indepB,Bool.and_eq_true] at h
  have:=indep1_at h.1 (by simpa using hb) hc
  rw [show i+(b+1)=i+1+b by omega]; exact this
 | z::l,i,a+1,b+1,x,y,h,ha,hb,hlt,hc=>by
  simp only [indepB,Bool.and_eq_true] at h
  have:=indepB_at h.2 (by simpa using ha) (by simpa using hb) (by omega) hc
  rw [show i+(a+1)=i+1+a by omega,show i+(b+1)=i+1+b by omega]; exact this
 | z::l,i,0,0,_,_,_,_,_,h,_=>absurd h (by omega)
 | z::l,i,a+1,0,_,_,_,_,_,h,_=>absurd h (by omega)
theorem backB_at:∀ {l:List Oper} {i a:Nat} {o:Oper} {e:Edge},backB i l=true→l[a]?=some o→e∈o.after.toList→Region.binds .any e=true→e.on<i+a
 | [],_,_,_,_,_,h,_,_=>by simp at h
 | z::l,i,0,o,e,h,ha,he,hb=>by
  simp at ha; subst ha
  simp only [backB,Bool.and_eq_true,List.all_eq_true] at h
  have:=h.1 e he
  simpa [hb] using this
 | z::l,i,a+1,o,e,h,ha,he,hb=>by
  simp only [backB,Bool.and_eq_true] at h
  have:=backB_at h.2 (by simpa using ha) he hb
  omega
def Closed (all:List Oper) (L:Nat→Bool):Prop:=∀ j o e,all[j]?=some o→L j=true→e∈o.after.toList→Region.binds .any e=true→L e.on=true
theorem anc_listed {all:List Oper} {L:Nat→Bool} (hC:Closed all L):∀ (n i j:Nat),anc all n i j=true→L j=true→L i=true
 | 0,i,j,h,_=>by simp [anc] at h
 | n+1,i,j,h,hL=>by
  simp only [anc,nth_eq] at h
  split at h
  ·rename_i o ho
   simp only [List.any_eq_true,Bool.and_eq_true,Bool.or_eq_true,decide_eq_true_eq] at h
   obtain ⟨e,he,hb,h | h⟩:=h
   ·rw [← h]; exact hC j o e ho hL he hb
   ·exact anc_listed hC n i e.on h (hC j o e ho hL he hb)
  ·cases h
theorem anc_ready {all:List Oper} {L:Nat→Bool} (hC:Closed all L) {n i j:Nat} {o:Oper} (ho:all[j]?=some o) (hd:∀ e∈o.after.toList,Region.binds .any e=true→L e.on=true) (h:anc all n i j=true):L i=true:=by
 cases n with
 | zero=>simp [anc] at h
 | succ n=>
  simp only [anc,nth_eq,ho,List.any_eq_true,Bool.and_eq_true,Bool.or_eq_true,decide_eq_true_eq] at h
  obtain ⟨e,he,hb,h | h⟩:=h
  ·rw [← h]; exact hd e he hb
  ·exact anc_listed hC n i e.on h (hd e he hb)
theorem DRun.at_ {all:List Oper}:∀ {l:List (List Key×DE)} {i:Nat} {s s2:S},DRun C all i s l s2→∀ {j:Nat} {R:List Key} {e:DE},l[j]?=some (R,e)→
  ValidE C all (i+j) R e (stOf (fun m=>decide (m<i+j)) i l s)
 | _,_,_,_,.nil i s,j,R,e,h=>by simp at h
 | _,_,_,_,.cons (i:=i) (s:=s) (R:=R0) (e:=e0) (l:=l) hv ht,0,R,e,h=>by
  simp at h
  obtain ⟨rfl,rfl⟩:=h
  have z:∀ (l:List (List Key×DE)) (k:Nat) (s:S),i≤k→stOf (fun m=>decide (m<i)) k l s=s:=by
   intro l
   induction l with
   | nil=>intro k s _; rfl
   | cons p l ih=>intro k s hk; obtain ⟨_,_⟩:=p; simp only [stOf]; rw [if_neg (by simp; omega),ih _ _ (by omega)]
  rw [Nat.add_zero,z _ _ _ (Nat.le_refl _)]
  exact hv
 | _,_,_,_,.cons (i:=i) (s:=s) (R:=R0) (e:=e0) (l:=l) hv ht,j+1,R,e,h=>by
  have:=DRun.at_ ht (j:=j) (by simpa using h)
  rw [show i+(j+1)=i+1+j by omega]
  simp only [stOf]
  rw [if_pos (by simp; omega)]
  exact this
theorem DRun.end_ {all:List Oper}:∀ {l:List (List Key×DE)} {i:Nat} {s s2:S},DRun C all i s l s2→∀ (L:Nat→Bool),(∀ j,j<l.length→L (i+j)=true)→stOf L i l s=s2
 | _,_,_,_,.nil i s,L,_=>rfl
 | _,_,_,_,.cons (i:=i) (s:=s) (R:=R0) (e:=e0) (l:=l) hv ht,L,hL=>by
  simp only [stOf]
  have h0:=hL 0 (by simp)
  rw [Nat.add_zero] at h0
  rw [if_pos h0]
  exact DRun.end_ ht L (fun j hj=>by rw [show i+1+j=i+(j+1) by omega]; exact hL (j+1) (by simp; omega))
theorem draw_any {all:List Oper} {res:List (List Key×DE)} {s0 s2:S} (hr:DRun C all 0 s0 res s2) (hl:res.length=all.length) (hi:indepB all 0 (keysOf res)=true) (hb:backB 0 all=true)
  (Q:Exit→Act→World→Prop) (hQ:∀ a w,H C.g C.N s2 a w→Q .normal a w):∀ (fuel:Nat) (listed:Array Bool) (a:Act) (w:World),listed.size=all.length→
   Closed all (fun j=>listed.getD j false)→(List.range all.length).countP (fun j=>!listed.getD j false)=fuel→
   H C.g C.N (stOf (fun j=>listed.getD j false) 0 res s0) a w→wpAny C.P .any all.toArray Q fuel listed a w:=by
 have hready:∀ (listed:Array Bool),listed.size=all.length→Closed all (fun j=>listed.getD j false)→Region.ready .any all.toArray listed=[]→∀ j,j<all.length→listed.getD j false=true:=by
  intro listed hsz hC hrd j
  induction j using Nat.strongRecOn with
  | _ j ih=>
   intro hj
   cases hL:listed.getD j false with
   | true=>rfl
   | false=>
    exfalso
    have:j∈Region.ready .any all.toArray listed:=by
     simp only [Region.ready,List.mem_filter,List.mem_range,List.size_toArray]
     refine ⟨hj,?_⟩
     have h1:listed.getD j true=false:=by
      rw [Array.getD_eq_getD_getElem?] at hL ⊢
      have hlt:j<listed.size:=by omega
      rw [Array.getElem?_eq_getElem hlt] at hL ⊢
      simpa using hL
     simp only [h1,Bool.not_false,Bool.true_and,List.getElem?_toArray,List.getElem?_eq_getElem hj,Option.map_some,Option.getD_some]
     rw [Array.all_eq_true_iff_forall_mem]
     intro e he
     by_cases hbe:Region.binds .any e=true
     ·have hlt:=backB_at hb (List.getElem?_eq_getElem hj) (by simpa using he) hbe
      simp [hbe,ih e.on (by omega) (by omega)]
     ·simp [hbe]
    rw [hrd] at this
    cases this
 have hend:∀ (listed:Array Bool) (a:Act) (w:World),listed.size=all.length→Closed all (fun j=>listed.getD j false)→Region.ready .any all.toArray listed=[]→H C.g C.N (stOf (fun j=>listed.getD j false) 0 res s0) a w→Q .normal a w:=by
  intro listed a w hsz hC hrd hH
  have hall:=hready listed hsz hC hrd
  rw [hr.end_ (fun j=>listed.getD j false) (fun j hj=>by rw [Nat.zero_add]; exact hall j (by omega))] at hH
  exact hQ a w hH
 intro fuel
 induction fuel with
 | zero=>
  intro listed a w hsz hC hf hH
  have hall:∀ j,j<all.length→listed.getD j false=true:=by
   intro j hj
   have:=(List.countP_eq_zero.1 hf) j (by simpa using hj)
   simpa using this
  have hrd:Region.ready .any all.toArray listed=[]:=by
   simp only [Region.ready,List.filter_eq_nil_iff,List.mem_range,List.size_toArray]
   intro j hj
   have h1:=hall j hj
   have:listed.getD j true=true:=by
    rw [Array.getD_eq_getD_getElem?] at h1 ⊢
    have hlt:j<listed.size:=by omega
    rw [Array.getElem?_eq_getElem hlt] at h1 ⊢
    simpa using h1
   simp [this]
  exact ⟨hrd,hend listed a w hsz hC hrd hH⟩
 | succ fuel ih=>
  intro listed a w hsz hC hf hH
  refine ⟨fun hrd=>hend listed a w hsz hC hrd hH,fun i hmem=>?_⟩
  simp only [Region.ready,List.mem_filter,List.mem_range,List.size_toArray,Bool.and_eq_true,Bool.not_eq_true'] at hmem
  obtain ⟨hin,hun,hdep⟩:=hmem
  have hLi:listed.getD i false=false:=by
   rw [Array.getD_eq_getD_getElem?] at hun ⊢
   have hlt:i<listed.size:=by omega
   rw [Array.getElem?_eq_getElem hlt] at hun ⊢
   simpa using hun
  have ho:all[i]?=some all[i]:=List.getElem?_eq_getElem hin
  have hd:∀ e∈all[i].after.toList,Region.binds .any e=true→listed.getD e.on false=true:=by
   intro e he hbe
   simp only [List.getElem?_toArray,ho,Option.map_some,Option.getD_some] at hdep
   have:=(Array.all_eq_true_iff_forall_mem.1 hdep) e (by simpa using he)
   simpa [hbe] using this
  have hir:i<res.length:=by omega
  have hre:res[i]?=some res[i]:=List.getElem?_eq_getElem hir
  generalize res[i]=p at hre
  obtain ⟨R,e⟩:=p
  have hv:=hr.at_ hre
  rw [Nat.zero_add] at hv
  have hkey:∀ {j:Nat} {R':List Key} {e':DE},res[j]?=some (R',e')→(keysOf res)[j]?=some (R',DE.writes e'):=fun h=>by simp [keysOf,h]
  have hag:Agree R (stOf (fun m=>decide (m<i)) 0 res s0) (stOf (fun j=>listed.getD j false) 0 res s0):=by
   intro κ hκ
   refine stOf_congr res 0 s0 s0 (same.refl _ _) fun j R' e' hj hw=>?_
   rw [Nat.zero_add]
   rcases Nat.lt_trichotomy j i with hlt | heq | hgt
   ·have hc:clash (R',e'.writes) (R,e.writes)=true:=by simp [clash,hits_of hw hκ]
    have:=indepB_at hi (hkey hj) (hkey hre) hlt hc
    rw [Nat.zero_add,Nat.zero_add] at this
    have:=anc_ready hC ho hd this
    simp only [this,hlt,decide_true]
   ·subst heq; simp only [hLi,Nat.lt_irrefl,decide_false]
   ·have hc:clash (R,e.writes) (R',e'.writes)=true:=by simp [clash,hits_of hw hκ]
    have:=indepB_at hi (hkey hre) (hkey hj) hgt hc
    rw [Nat.zero_add,Nat.zero_add] at this
    have h2:listed.getD j false=false:=by
     cases hLj:listed.getD j false with
     | false=>rfl
     | true=>have:=anc_listed hC _ _ _ this hLj; rw [hLi] at this; cases this
    rw [h2]
    simp; omega
  refine hv _ hag a w hH _ Q fun a' w' hH'=>?_
  have hset:∀ j,(listed.setIfInBounds i true).getD j false=(listed.getD j false||decide (j=i)):=by
   intro j
   simp only [Array.getD_eq_getD_getElem?]
   by_cases hji:j=i
   ·subst hji
    rw [Array.getElem?_setIfInBounds_self_of_lt (by omega)]; simp
   ·rw [Array.getElem?_setIfInBounds_ne (fun e=>hji e.symm)]; simp [hji]
  refine ih _ a' w' (by simpa using hsz) ?_ ?_ ?_
  ·intro j o e' hj hLj he hbe
   simp only [hset,Bool.or_eq_true,decide_eq_true_eq] at hLj ⊢
   rcases hLj with h | h
   ·exact .inl (hC j o e' hj h he hbe)
   ·subst h
    rw [ho] at hj; cases hj
    exact .inl (hd e' he hbe)
  ·have hcnt:(List.range all.length).countP (fun j=>!listed.getD j false)=(List.range all.length).countP (fun j=>!(listed.setIfInBounds i true).getD j false)+1:=by
    have:∀ (l:List Nat),l.Nodup→l.countP (fun j=>!listed.getD j false)=l.countP (fun j=>!(listed.setIfInBounds i true).getD j false)+(if i∈l then 1 else 0):=by
     intro l
     induction l with
     | nil=>intro _; simp
     | cons x l ih=>
      intro hn
      have hn':=List.nodup_cons.1 hn
      have ih:=ih hn'.2
      simp only [List.countP_cons,ih,hset]
      by_cases hx:x=i
      ·subst hx
       have:x∉l:=hn'.1
       simp [this,hLi]
      ·have:i∈x::l↔i∈l:=by simp [Ne.symm hx]
       simp only [this,hx,decide_false,Bool.or_false]
       omega
    rw [this _ List.nodup_range,if_pos (by simpa using hin)]
   omega
  ·refine hH'.eq fun κ=>?_
   have hins:=stOf_insert (L:=fun j=>listed.getD j false) (κ:=κ) res 0 i s0 hre (by rw [Nat.zero_add]; exact hLi) (fun hκ j R' e' hj hlt hw=>by
    rw [Nat.zero_add]
    have hc:clash (R,e.writes) (R',e'.writes)=true:=by simp [clash,hits_of hκ hw]
    have:=indepB_at hi (hkey hre) (hkey hj) hlt hc
    rw [Nat.zero_add,Nat.zero_add] at this
    cases hLj:listed.getD j false with
    | false=>rfl
    | true=>have:=anc_listed hC _ _ _ this hLj; rw [hLi] at this; cases this)
   rw [Nat.zero_add] at hins
   have e1:(fun j=>(listed.setIfInBounds i true).getD j false)=fun j=>listed.getD j false||decide (j=i):=funext hset
   rw [e1]
   exact hins.symm
theorem H.drew {g:Gh} {N:Nat} {s:S} {a:Act} {w:World} (h:H g N s a w):H g N s a { w with drawn:=w.drawn+1 }:=by
 obtain ⟨hd,M,E,hs,hp⟩:=h
 have hM:∀ b j v,M b j=some v→M b j=some v:=fun _ _ _ h=>h
 refine ⟨hd,M,E,{ hs with
  rw:=fun i r hi=>?_
  ar:=fun i r hi=>?_ },hp⟩
 ·obtain ⟨q,h1,h2⟩:=hs.rw i r hi
  exact ⟨q,h1,h2.mono hM (Env.le_refl E) (fun b h=>⟨h,rfl⟩) fun b j h=>⟨h,rfl⟩⟩
 ·obtain ⟨q,h1,h2⟩:=hs.ar i r hi
  exact ⟨q,h1,h2.mono hM (Env.le_refl E) (fun b j h=>⟨h,rfl⟩) fun b j h=>⟨h,rfl⟩⟩
theorem draw_region {all:List Oper} {id:Nat} {res:List (List Key×DE)} {s2:S} (hm:C.P.follows .mixedOrders=true) (hr:DRun C all 0 s res s2) (hl:res.length=all.length) (hi:indepB all 0 (keysOf res)=true) (hb:backB 0 all=true)
  (h:Wk C k s2):Wk C (.code (.region id all.toArray true)::k) s:=by
 intro a w hx
 refine wp_region_any hm ?_
 have hz:∀ j,(Array.replicate all.length false).getD j false=false:=by
  intro j
  simp only [Array.getD_eq_getD_getElem?,Array.getElem?_replicate]
  split <;> rfl
 refine draw_any hr hl hi hb _ (fun a w hH=>h a w hH) _ _ a _ (by simp) ?_ ?_ ?_
 ·intro j o e _ hL
  simp only [List.size_toArray] at hL
  rw [hz] at hL; cases hL
 ·simp only [List.size_toArray,hz]
  simp
 ·have e1:(fun j=>(Array.replicate all.toArray.size false).getD j false)=fun _=>false:=funext fun j=>by simp only [List.size_toArray]; exact hz j
  rw [e1]
  have z:∀ (l:List (List Key×DE)) (k:Nat) (s:S),stOf (fun _=>false) k l s=s:=by
   intro l
   induction l with
   | nil=>intro k s; rfl
   | cons p l ih=>intro k s; obtain ⟨_,_⟩:=p; simp [stOf,ih]
  rw [z]
  exact hx.drew
end Go.Dm
namespace Go.Dm
open Go Go.RowKit
variable {C:Cx} {k:List It} {s s' t:S} {τ:TyTab}
def tmpKeys:List Operand→List Key
 | []=>[]
 | .tmp i::l=>(0,i)::tmpKeys l
 | _::l=>tmpKeys l
def opOpers:Op→List Operand
 | .pick c a b=>[c,a,b]
 | op=>needs op
def gdKeys (all:List Oper) (gd:Option (Nat×Bool)):List Key:=match gd with
 | none=>[]
 | some (j,_)=>match guardSlot all j with
  | some d=>[(0,d)]
  | none=>[]
theorem val_agree {l:List Operand} (h:Agree (tmpKeys l) s s'):∀ x∈l,val s x=val s' x:=by
 induction l with
 | nil=>intro x hx; cases hx
 | cons y l ih=>
  intro x hx
  have h2:Agree (tmpKeys l) s s':=h.sub fun κ hκ=>by cases y <;> simp [tmpKeys,hκ]
  rcases List.mem_cons.1 hx with rfl | hx
  ·cases x with
   | tmp i=>exact (h (0,i) (by simp [tmpKeys])).1 rfl
   | _=>rfl
  ·exact ih h2 x hx
theorem valW_ag {x:Operand} (h:val s x=val s' x):valW s x=valW s' x:=by unfold valW; rw [h]
theorem whenOf_ag {A:List (Nat×Bool)} {x:Operand} (h:val s x=val s' x):whenOf A s x=whenOf A s' x:=by unfold whenOf; rw [h]
theorem vals_ag:∀ {l:List Operand},(∀ x∈l,val s x=val s' x)→vals s l=vals s' l
 | [],_=>rfl
 | x::l,h=>by
  simp only [vals]
  rw [valW_ag (h x (by simp)),vals_ag fun y hy=>h y (by simp [hy])]
theorem obs_ag {A:List (Nat×Bool)}:∀ {l:List Operand},(∀ x∈l,val s x=val s' x)→obs A s l=obs A s' l
 | [],_=>rfl
 | x::l,h=>by
  simp only [obs]
  rw [whenOf_ag (h x (by simp)),obs_ag fun y hy=>h y (by simp [hy])]
theorem bound_ag {o:Option Operand} (h:∀ x,o=some x→val s x=val s' x):bound s o=bound s' o:=by
 cases o with
 | none=>rfl
 | some x=>simp only [bound]; rw [valW_ag (h x rfl)]
theorem fill_ag {st:TypeId}:∀ {l:List (Nat×Operand)} {cs:List AV},(∀ p∈l,val s p.2=val s' p.2)→fill τ s st cs l=fill τ s' st cs l
 | [],cs,_=>rfl
 | (f,x)::l,cs,h=>by
  have e:valW s x=valW s' x:=valW_ag (h (f,x) (by simp))
  have ih:∀ cs',fill τ s st cs' l=fill τ s' st cs' l:=fun cs'=>fill_ag fun p hp=>h p (by simp [hp])
  simp only [fill,e,ih]
theorem fillA_ag {sz:Nat}:∀ {l:List (Nat×Operand)} {cs:List AV},(∀ p∈l,val s p.2=val s' p.2)→fillA s sz cs l=fillA s' sz cs l
 | [],cs,_=>rfl
 | (f,x)::l,cs,h=>by
  have e:valW s x=valW s' x:=valW_ag (h (f,x) (by simp))
  have ih:∀ cs',fillA s sz cs' l=fillA s' sz cs' l:=fun cs'=>fillA_ag fun p hp=>h p (by simp [hp])
  simp only [fillA,e,ih]
theorem load_ag {an:List An} {t:TypeId} {v:AV} {r:Res} (h:evalLoad τ s an t v=some r) (ha:Agree r.rd s s'):evalLoad τ s' an t v=some r:=by
 unfold evalLoad at h ⊢
 split at h
 ·rename_i i o
  split at h
  ·rename_i ti hti
   split at h
   ·rename_i cs hcs
    split at h
    ·rename_i x hx
     cases h
     have:aget s'.bx i=some cs:=by rw [← (ha (1,i) (by simp)).2.1 rfl]; exact hcs
     simp only [hti,this,hx]
    ·cases h
   ·cases h
  ·cases h
 ·exact h
 ·cases h
theorem store_ag {an:List An} {t:TypeId} {v u:AV} {r:Res} (h:evalStore τ s an t v u=some r) (ha:Agree r.rd s s'):evalStore τ s' an t v u=some r:=by
 unfold evalStore at h ⊢
 split at h
 ·rename_i i o
  split at h
  ·rename_i ti hti
   split at h
   ·rename_i cs hcs
    split at h
    ·rename_i h1
     split at h
     ·rename_i h2
      split at h
      ·rename_i cs' h3
       cases h
       have:aget s'.bx i=some cs:=by rw [← (ha (1,i) (by simp)).2.1 rfl]; exact hcs
       simp only [hti,this,h1,h2,h3]
      ·cases h
     ·cases h
    ·cases h
   ·cases h
  ·cases h
 ·cases h
theorem box_ag {d:Option Nat} {an:List An} {cs:List AV} {r:Res} (h:evalBox d s an cs=some r) (ha:Agree r.rd s s'):evalBox d s' an cs=some r:=by
 unfold evalBox at h ⊢
 split at h
 ·rename_i i
  split at h
  ·rename_i hn
   split at h
   ·rename_i hc
    cases h
    have:aget s'.bx i=none:=by rw [← (ha (1,i) (by simp)).2.1 rfl]; exact hn
    simp only [this,hc]
   ·cases h
  ·cases h
 ·cases h
theorem curRow_ag {i v:Nat} (h:same (2,i) s s'):curRow s' i v=curRow s i v:=by unfold curRow; rw [h.2.2.1 rfl]
theorem row_ag {i:Nat} (h:same (2,i) s s'):aget s'.rw i=aget s.rw i:=(h.2.2.1 rfl).symm
theorem rkeys_append (a b:List (Nat×Rw)):rkeys (a++b)=rkeys a++rkeys b:=by
 induction a with
 | nil=>rfl
 | cons p a ih=>obtain ⟨j,x⟩:=p; simp only [List.cons_append,rkeys,ih]
theorem sealC_ag {x y:AV} {e:List (Nat×Rw)} (h:sealC s x=some (y,e)) (ha:Agree (rkeys e) s s'):sealC s' x=some (y,e):=by
 cases x with
 | row i v=>
  simp only [sealC] at h ⊢
  split at h
  ·rename_i r hr
   split at h
   ·rename_i hp
    cases h
    rw [curRow_ag (ha (2,i) (by simp [rkeys])),hr]
    simp only [hp]
   ·cases h
  ·cases h
 | _=>exact h
theorem sealL_ag:∀ {x y:List AV} {e:List (Nat×Rw)},sealL s x=some (y,e)→Agree (rkeys e) s s'→sealL s' x=some (y,e)
 | [],y,e,h,_=>h
 | x::l,y,e,h,ha=>by
  simp only [sealL] at h ⊢
  split at h
  ·rename_i y1 e1 h1
   split at h
   ·rename_i m f h2
    cases h
    rw [rkeys_append] at ha
    rw [sealC_ag h1 (ha.sub fun κ hκ=>by simp [hκ])]
    simp only [sealL_ag h2 (ha.sub fun κ hκ=>by simp [hκ])]
   ·cases h
  ·cases h
theorem sealA_ag {x y:AV} {e:List (Nat×Rw)} (h:sealA s x=some (y,e)) (ha:Agree (rkeys e) s s'):sealA s' x=some (y,e):=by
 cases x with
 | agg cs=>
  simp only [sealA] at h ⊢
  split at h
  ·rename_i ds e1 h1
   cases h
   simp only [sealL_ag h1 ha]
  ·cases h
 | row i v=>exact sealC_ag (x:=.row i v) h ha
 | _=>exact h
theorem sealAL_ag:∀ {x y:List AV} {e:List (Nat×Rw)},sealAL s x=some (y,e)→Agree (rkeys e) s s'→sealAL s' x=some (y,e)
 | [],y,e,h,_=>h
 | x::l,y,e,h,ha=>by
  simp only [sealAL] at h ⊢
  split at h
  ·rename_i y1 e1 h1
   split at h
   ·rename_i m f h2
    cases h
    rw [rkeys_append] at ha
    rw [sealA_ag h1 (ha.sub fun κ hκ=>by simp [hκ])]
    simp only [sealAL_ag h2 (ha.sub fun κ hκ=>by simp [hκ])]
   ·cases h
  ·cases h
theorem sealCx_ag {R:List Nat} {x y:AV} {e:List (Nat×Rw)} (h:sealCx R s x=some (y,e)) (ha:Agree (rkeys e) s s'):sealCx R s' x=some (y,e):=by
 cases x with
 | row i v=>
  simp only [sealCx] at h ⊢
  split at h
  ·exact h
  ·exact sealC_ag h ha
 | _=>exact h
theorem sealLx_ag {R:List Nat}:∀ {x y:List AV} {e:List (Nat×Rw)},sealLx R s x=some (y,e)→Agree (rkeys e) s s'→sealLx R s' x=some (y,e)
 | [],y,e,h,_=>h
 | x::l,y,e,h,ha=>by
  simp only [sealLx] at h ⊢
  split at h
  ·rename_i y1 e1 h1
   split at h
   ·rename_i m f h2
    cases h
    rw [rkeys_append] at ha
    rw [sealCx_ag h1 (ha.sub fun κ hκ=>by simp [hκ])]
    simp only [sealLx_ag h2 (ha.sub fun κ hκ=>by simp [hκ])]
   ·cases h
  ·cases h
theorem sealAx_ag {R:List Nat} {x y:AV} {e:List (Nat×Rw)} (h:sealAx R s x=some (y,e)) (ha:Agree (rkeys e) s s'):sealAx R s' x=some (y,e):=by
 cases x with
 | agg cs=>
  simp only [sealAx] at h ⊢
  split at h
  ·rename_i ds e1 h1
   cases h
   simp only [sealLx_ag h1 ha]
  ·cases h
 | row i v=>exact sealCx_ag (x:=.row i v) h ha
 | _=>exact h
theorem sealALx_ag {R:List Nat}:∀ {x y:List AV} {e:List (Nat×Rw)},sealALx R s x=some (y,e)→Agree (rkeys e) s s'→sealALx R s' x=some (y,e)
 | [],y,e,h,_=>h
 | x::l,y,e,h,ha=>by
  simp only [sealALx] at h ⊢
  split at h
  ·rename_i y1 e1 h1
   split at h
   ·rename_i m f h2
    cases h
    rw [rkeys_append] at ha
    rw [sealAx_ag h1 (ha.sub fun κ hκ=>by simp [hκ])]
    simp only [sealALx_ag h2 (ha.sub fun κ hκ=>by simp [hκ])]
   ·cases h
  ·cases h
theorem len_ag {an:List An} {tk:TK} {v:AV} {r:Res} (h:evalLen s an tk v=some r) (ha:Agree r.rd s s'):evalLen s' an tk v=some r:=by
 unfold evalLen at h ⊢
 split at h
 ·exact h
 ·exact h
 ·exact h
 ·rename_i e i v
  split at h
  ·rename_i q hq
   split at h
   ·cases h
    simp only [curRow_ag (ha (2,i) (by simp)),hq]
   ·cases h
  ·cases h
 ·rename_i e i v o n
  split at h
  ·rename_i q hq
   cases h
   simp only [curRow_ag (ha (2,i) (by simp)),hq]
  ·cases h
 ·rename_i k e i
  split at h
  ·rename_i es hes
   split at h
   ·cases h
    simp only [← (ha (3,i) (by simp)).2.2.2.1 rfl,hes]
   ·cases h
  ·cases h
 ·cases h
theorem indexAddr_ag {an:List An} {t:TypeId} {v u:AV} {r:Res} (h:evalIndexAddr τ s an t v u=some r) (ha:Agree r.rd s s'):evalIndexAddr τ s' an t v u=some r:=by
 unfold evalIndexAddr at h ⊢
 split at h
 ·exact h
 ·rename_i i v kk n
  split at h
  ·rename_i z hz
   split at h
   ·rename_i q hq
    split at h
    ·rename_i h1
     cases h
     simp only [hz,curRow_ag (ha (2,i) (by simp)),hq,h1]
    ·cases h
   ·cases h
  ·cases h
 ·rename_i i v off m kk n
  split at h
  ·rename_i z hz
   split at h
   ·rename_i q hq
    split at h
    ·rename_i h1
     cases h
     simp only [hz,curRow_ag (ha (2,i) (by simp)),hq,h1]
    ·cases h
   ·cases h
  ·cases h
 ·exact h
 ·cases h
theorem loadEp_ag {an:List An} {t:TypeId} {i v k o:Nat} {r:Res} (h:evalLoadEp τ s an t i v k o=some r) (ha:Agree r.rd s s'):evalLoadEp τ s' an t i v k o=some r:=by
 have hk:(2,i)∈r.rd:=by
  unfold evalLoadEp at h
  repeat' split at h
  all_goals first | (cases h; done) | (cases h; simp)
 unfold evalLoadEp at h ⊢
 rw [curRow_ag (ha _ hk)]
 exact h
theorem sealR_ag {t:TypeId} {an:List An} {x y:AV} {e:List (Nat×Rw)} (h:sealR τ t an s x=some (y,e)) (ha:Agree (rkeys e) s s'):sealR τ t an s' x=some (y,e):=by
 unfold sealR at h ⊢
 split at h
 ·exact h
 ·exact sealA_ag h ha
theorem storeEp_ag {an:List An} {t:TypeId} {x:AV} {i v k o:Nat} {r:Res} (h:evalStoreEp τ s an t x i v k o=some r) (ha:Agree r.rd s s'):evalStoreEp τ s' an t x i v k o=some r:=by
 have hk:(2,i)∈r.rd∧∃ y e,sealR τ t an s x=some (y,e)∧∀ κ∈rkeys e,κ∈r.rd:=by
  unfold evalStoreEp at h
  split at h
  ·split at h
   ·split at h
    ·rename_i y e hse
     repeat' split at h
     all_goals first | (cases h; done) | (cases h; exact ⟨by simp,y,e,hse,fun κ hκ=>by simp [hκ]⟩)
    ·cases h
   ·cases h
  ·cases h
 obtain ⟨h1,y,e,h2,h3⟩:=hk
 unfold evalStoreEp at h ⊢
 rw [curRow_ag (ha _ h1),sealR_ag h2 (ha.sub h3)]
 rw [h2] at h
 exact h
theorem ar_ag {A:Nat} (h:same (4,A) s s'):aget s'.ar A=aget s.ar A:=(h.2.2.2.2 rfl).symm
theorem loadAr_ag {an:List An} {t:TypeId} {A k o:Nat} {r:Res} (h:evalLoadAr τ s an t A k o=some r) (ha:Agree r.rd s s'):evalLoadAr τ s' an t A k o=some r:=by
 have hk:(4,A)∈r.rd:=by
  unfold evalLoadAr at h
  repeat' split at h
  all_goals first | (cases h; done) | (cases h; simp)
 unfold evalLoadAr at h ⊢
 rw [ar_ag (ha _ hk)]
 exact h
theorem storeAr_ag {an:List An} {t:TypeId} {x:AV} {A k o:Nat} {r:Res} (h:evalStoreAr τ s an t x A k o=some r) (ha:Agree r.rd s s'):evalStoreAr τ s' an t x A k o=some r:=by
 have hk:(4,A)∈r.rd∧∃ y e,sealA s (norm τ t x)=some (y,e)∧∀ κ∈rkeys e,κ∈r.rd:=by
  unfold evalStoreAr at h
  split at h
  ·split at h
   ·split at h
    ·rename_i y e hse
     repeat' split at h
     all_goals first | (cases h; done) | (cases h; exact ⟨by simp,y,e,hse,fun κ hκ=>by simp [hκ]⟩)
    ·cases h
   ·cases h
  ·cases h
 obtain ⟨h1,y,e,h2,h3⟩:=hk
 unfold evalStoreAr at h ⊢
 rw [ar_ag (ha _ h1),sealA_ag h2 (ha.sub h3)]
 rw [h2] at h
 exact h
theorem boxAr_ag {d:Option Nat} {an:List An} {t:TypeId} {x:AV} {A n:Nat} {l:List Nat} {zs:List AV} {r:Res} (h:evalBoxAr τ d s t A n l zs an x=some r) (ha:Agree r.rd s s'):evalBoxAr τ d s' t A n l zs an x=some r:=by
 have hk:(4,A)∈r.rd∧∃ y e,sealA s (normO l τ t x)=some (y,e)∧∀ κ∈rkeys e,κ∈r.rd:=by
  unfold evalBoxAr at h
  split at h
  ·split at h
   ·split at h
    ·split at h
     ·rename_i y e hse
      repeat' split at h
      all_goals first | (cases h; done) | (cases h; exact ⟨by simp,y,e,hse,fun κ hκ=>by simp [hκ]⟩)
     ·cases h
    ·cases h
   ·cases h
  ·cases h
 obtain ⟨h1,y,e,h2,h3⟩:=hk
 unfold evalBoxAr at h ⊢
 rw [ar_ag (ha _ h1),sealA_ag h2 (ha.sub h3)]
 rw [h2] at h
 exact h
theorem sliceRow_ag {an:List An} {t:TypeId} {lo hi:Option Int} {i v:Nat} {r:Res} (h:evalSliceRow τ s an t lo hi i v=some r) (ha:Agree r.rd s s'):evalSliceRow τ s' an t lo hi i v=some r:=by
 have hk:(2,i)∈r.rd:=by
  unfold evalSliceRow at h
  repeat' split at h
  all_goals first | (cases h; done) | (cases h; simp)
 unfold evalSliceRow at h ⊢
 rw [curRow_ag (ha _ hk)]
 exact h
theorem sliceV_ag {an:List An} {t:TypeId} {lo hi:Option Int} {i v off m:Nat} {r:Res} (h:evalSliceV τ s an t lo hi i v off m=some r) (ha:Agree r.rd s s'):evalSliceV τ s' an t lo hi i v off m=some r:=by
 have hk:(2,i)∈r.rd:=by
  unfold evalSliceV at h
  repeat' split at h
  all_goals first | (cases h; done) | (cases h; simp)
 unfold evalSliceV at h ⊢
 rw [curRow_ag (ha _ hk)]
 exact h
theorem slice3_ag {an:List An} {a b m:Int} {x:AV} {r:Res} (h:evalSlice3 s an a b m x=some r) (ha:Agree r.rd s s'):evalSlice3 s' an a b m x=some r:=by
 unfold evalSlice3 at h ⊢
 split at h
 ·exact h
 ·exact h
 ·rename_i i v
  split at h
  ·rename_i q hq
   cases h
   simp only [curRow_ag (ha (2,i) (by simp)),hq]
  ·cases h
 ·cases h
theorem strRow_ag {an:List An} {src dst:TypeId} {i v:Nat} {r:Res} (h:evalStrRow τ s an src dst i v=some r) (ha:Agree r.rd s s'):evalStrRow τ s' an src dst i v=some r:=by
 have hk:(2,i)∈r.rd:=by
  unfold evalStrRow at h
  repeat' split at h
  all_goals first | (cases h; done) | (cases h; simp)
 unfold evalStrRow at h ⊢
 rw [curRow_ag (ha _ hk)]
 exact h
theorem clear_ag {an:List An} {t:TypeId} {i v off n:Nat} {r:Res} (h:evalClear τ s an t i v off n=some r) (ha:Agree r.rd s s'):evalClear τ s' an t i v off n=some r:=by
 have hk:(2,i)∈r.rd:=by
  unfold evalClear at h
  repeat' split at h
  all_goals first | (cases h; done) | (cases h; simp)
 unfold evalClear at h ⊢
 rw [curRow_ag (ha _ hk)]
 exact h
theorem nilRow_ag {an:List An} {t:TypeId} {i v:Nat} {u:AV} {op:BinOp} {r:Res} (h:evalNilRow τ s an t i v u op=some r) (ha:Agree r.rd s s'):evalNilRow τ s' an t i v u op=some r:=by
 have hk:(2,i)∈r.rd:=by
  unfold evalNilRow at h
  repeat' split at h
  all_goals first | (cases h; done) | (cases h; simp)
 unfold evalNilRow at h ⊢
 rw [curRow_ag (ha _ hk)]
 exact h
theorem aptr_ag {an:List An} {t:TypeId} {A k o B j p:Nat} {op:BinOp} {r:Res} (h:evalAptr τ s an t A k o B j p op=some r) (ha:Agree r.rd s s'):evalAptr τ s' an t A k o B j p op=some r:=by
 have hk:(4,A)∈r.rd:=by
  unfold evalAptr at h
  repeat' split at h
  all_goals first | (cases h; done) | (cases h; simp)
 unfold evalAptr at h ⊢
 rw [ar_ag (ha _ hk)]
 exact h
theorem srcOf_ag {sz:Nat} {u8:Bool} {x:AV} {q:List AV×List Prop×List Key} (h:srcOf s sz u8 x=some q) (ha:Agree q.2.2 s s'):srcOf s' sz u8 x=some q:=by
 unfold srcOf at h ⊢
 split at h
 ·exact h
 ·exact h
 ·exact h
 ·rename_i j v
  have hk:(2,j)∈q.2.2:=by
   repeat' split at h
   all_goals first | (cases h; done) | (cases h; simp)
  simp only [curRow_ag (ha _ hk)]
  exact h
 ·rename_i j v off n
  have hk:(2,j)∈q.2.2:=by
   repeat' split at h
   all_goals first | (cases h; done) | (cases h; simp)
  simp only [curRow_ag (ha _ hk)]
  exact h
 ·cases h
theorem srcA_ag {sz:Nat} {ns:List Nat} {x:AV} {q:List AV×List Prop×List Key} (h:srcA s sz ns x=some q) (ha:Agree q.2.2 s s'):srcA s' sz ns x=some q:=by
 unfold srcA at h ⊢
 split at h
 ·rename_i j v
  have hk:(2,j)∈q.2.2:=by
   repeat' split at h
   all_goals first | (cases h; done) | (cases h; simp)
  simp only [curRow_ag (ha _ hk)]
  exact h
 ·rename_i j v off n
  have hk:(2,j)∈q.2.2:=by
   repeat' split at h
   all_goals first | (cases h; done) | (cases h; simp)
  simp only [curRow_ag (ha _ hk)]
  exact h
 ·cases h
theorem srcX_ag {sz:Nat} {x:AV} {q:List AV×List Prop×List Key} (h:srcX s sz x=some q) (ha:Agree q.2.2 s s'):srcX s' sz x=some q:=by
 unfold srcX at h ⊢
 split at h
 ·rename_i j v
  have hk:(2,j)∈q.2.2:=by
   repeat' split at h
   all_goals first | (cases h; done) | (cases h; simp)
  simp only [curRow_ag (ha _ hk)]
  exact h
 ·cases h
theorem srcOf_noneX {sz:Nat} {u8:Bool} {x:AV} {q:List AV×List Prop×List Key} (h:srcOf s sz u8 x=none) (hq:srcX s sz x=some q) (ha:Agree q.2.2 s s'):srcOf s' sz u8 x=none:=by
 unfold srcX at hq
 split at hq
 ·rename_i j v
  have hk:(2,j)∈q.2.2:=by
   repeat' split at hq
   all_goals first | (cases hq; done) | (cases hq; simp)
  unfold srcOf at h ⊢
  simp only [curRow_ag (ha _ hk)]
  exact h
 ·cases hq
theorem srcOf_none {sz:Nat} {u8:Bool} {pu:Nat} {ns:List Nat} {x:AV} {q:List AV×List Prop×List Key} (h:srcOf s sz u8 x=none) (hq:srcA s sz ns x=some q) (ha:Agree q.2.2 s s'):srcOf s' sz u8 x=none:=by
 unfold srcA at hq
 split at hq
 ·rename_i j v
  have hk:(2,j)∈q.2.2:=by
   repeat' split at hq
   all_goals first | (cases hq; done) | (cases hq; simp)
  unfold srcOf at h ⊢
  simp only [curRow_ag (ha _ hk)]
  exact h
 ·rename_i j v off n
  have hk:(2,j)∈q.2.2:=by
   repeat' split at hq
   all_goals first | (cases hq; done) | (cases hq; simp)
  unfold srcOf at h ⊢
  simp only [curRow_ag (ha _ hk)]
  exact h
 ·cases hq
theorem srcAny_ag {sz:Nat} {u8:Bool} {pu:Nat} {ns:List Nat} {x:AV} {q:List AV×List Prop×List Key} (h:srcAny s sz u8 pu ns x=some q) (ha:Agree q.2.2 s s'):srcAny s' sz u8 pu ns x=some q:=by
 unfold srcAny at h ⊢
 split at h
 ·rename_i q' hq
  cases h
  rw [srcOf_ag hq ha]
 ·rename_i hn
  split at h
  ·cases h
  ·split at h
   ·rw [srcOf_noneX (u8:=u8) hn h ha]
    exact srcX_ag h ha
   ·rw [srcOf_none (pu:=1) (u8:=u8) hn h ha]
    exact srcA_ag h ha
theorem appendTo_ag {an:List An} {bytes i:Nat} {row:Rw} {full:Bool} {n0:Nat} {u8:Bool} {x2:AV} {rd:List Key} {r:Res} (h:appendTo s an bytes i row full n0 u8 x2 rd=some r) (ha:Agree r.rd s s') :
  appendTo s' an bytes i row full n0 u8 x2 rd=some r∧(2,i)∈r.rd:=by
 unfold appendTo at h ⊢
 split at h
 ·rename_i ys gs ks hsrc
  split at h
  ·rename_i zs an'
   split at h
   ·rename_i h1
    split at h
    ·rename_i h2
     cases h
     rw [srcAny_ag hsrc (ha.sub fun κ hκ=>by simp at hκ ⊢; exact .inr (.inl hκ))]
     exact ⟨by simp only [h1,h2],by simp⟩
    ·cases h
   ·cases h
  ·cases h
 ·cases h
theorem append_ag {an:List An} {d:Option Nat} {t t2:TypeId} {x1 x2:AV} {r:Res} (h:evalAppend τ s an d t t2 x1 x2=some r) (ha:Agree r.rd s s'):evalAppend τ s' an d t t2 x1 x2=some r:=by
 unfold evalAppend at h ⊢
 split at h
 ·rename_i e x y z u hτ
  try simp only [hτ]
  split at h
  ·rename_i ie hie
   try simp only [hie]
   split at h
   ·rename_i hb
    try simp only [hb]
    split at h
    ·rename_i i v
     split at h
     ·rename_i row hrow
      split at h
      ·rename_i h1
       split at h
       ·rename_i h2
        obtain ⟨g1,g2⟩:=appendTo_ag h ha
        simp only [curRow_ag (ha _ g2),hrow,h1,h2,g1]
       ·cases h
      ·cases h
     ·cases h
    ·rename_i i v n
     split at h
     ·rename_i row hrow
      split at h
      ·rename_i h1
       split at h
       ·rename_i h2
        split at h
        ·rename_i h3
         obtain ⟨g1,g2⟩:=appendTo_ag h ha
         simp only [curRow_ag (ha _ g2),hrow,h1,h2,h3,g1]
        ·cases h
       ·cases h
      ·cases h
     ·cases h
    ·split at h
     ·rename_i i
      split at h
      ·rename_i hn
       split at h
       ·rename_i hlt
        obtain ⟨g1,g2⟩:=appendTo_ag h ha
        simp only [row_ag (ha _ g2),hn,hlt,g1]
       ·cases h
      ·cases h
     ·cases h
    ·cases h
   ·cases h
  ·cases h
 ·cases h
theorem sealB_ag {e:TypeId} {an:List An} {xs ys:List AV} {ef:List (Nat×Rw)} (h:sealB τ e an s xs=some (ys,ef)) (ha:Agree (rkeys ef) s s'):sealB τ e an s' xs=some (ys,ef):=by
 unfold sealB at h ⊢
 split at h
 ·exact h
 ·exact sealAL_ag h ha
theorem buildSlice_ag {an:List An} {d:Option Nat} {t:TypeId} {len:Nat} {parts:List (Nat×Operand)} {r:Res} (h:evalBuildSlice τ s an d t len parts=some r) (hv:∀ l,litParts 0 parts=some l→vals s' l=vals s l) (ha:Agree r.rd s s'):evalBuildSlice τ s' an d t len parts=some r:=by
 unfold evalBuildSlice at h ⊢
 split at h
 ·rename_i e x y z u hτ
  try simp only [hτ]
  split at h
  ·rename_i ie hie
   try simp only [hie]
   split at h
   ·rename_i ops hops
    have hvv:=hv ops hops
    try simp only [hops]
    split at h
    ·rename_i h1
     try simp only [h1]
     split at h
     ·rename_i h2
      try simp only [h2]
      split at h
      ·rename_i vs hvs
       simp only [hvv,hvs]
       split at h
       ·rename_i ws ef hse
        have hk:(∀ κ∈rkeys ef,κ∈r.rd)∧((∀ l,an = .sealed::l→False)→∀ i,d=some i→(2,i)∈r.rd):=by
         clear ha hvv hv
         repeat' split at h
         all_goals first | (cases h; done) | (cases h; exact ⟨fun κ hκ=>by simp [hκ],fun hne i hi=>by first | (exact (hne _ rfl).elim) | (cases hi; simp; done) | simp_all⟩)
        simp only [sealB_ag hse (ha.sub hk.1)]
        split at h
        ·rename_i h3
         try simp only [h3]
         split at h
         ·rename_i h4
          try simp only [h4]
          split at h
          ·exact h
          ·rename_i an'
           cases d with
           | none=>exact h
           | some i=>
            have:(2,i)∈r.rd:=hk.2 (fun l e=>by cases e) i rfl
            simp only [row_ag (ha _ this)]
            exact h
          ·rename_i an' hna _
           cases d with
           | none=>exact h
           | some i=>
            have:(2,i)∈r.rd:=hk.2 (fun l e=>hna l e) i rfl
            simp only [row_ag (ha _ this)]
            exact h
         ·cases h
        ·cases h
       ·cases h
      ·cases h
     ·cases h
    ·cases h
   ·cases h
  ·cases h
 ·cases h
theorem makeSlice_ag {an:List An} {d:Option Nat} {t:TypeId} {n c:Int} {r:Res} (h:evalMakeSlice τ s an d t n c=some r) (ha:Agree r.rd s s'):evalMakeSlice τ s' an d t n c=some r:=by
 unfold evalMakeSlice at h ⊢
 split at h
 ·rename_i e x y z u hτ
  try simp only [hτ]
  split at h
  ·rename_i ie hie
   try simp only [hie]
   split at h
   ·rename_i z' hz
    try simp only [hz]
    cases d with
    | none=>exact h
    | some i=>
     have:(2,i)∈r.rd:=by
      repeat' split at h
      all_goals first | (cases h; done) | (cases h; simp_all)
     simp only [row_ag (ha _ this)]
     exact h
   ·cases h
  ·cases h
 ·cases h
theorem appZ_ag {an:List An} {d:Option Nat} {t:TypeId} {x1 x2:AV} {r:Res} (h:evalAppZ τ s an d t x1 x2=some r) (ha:Agree r.rd s s'):evalAppZ τ s' an d t x1 x2=some r:=by
 unfold evalAppZ at h ⊢
 split at h
 ·split at h
  ·split at h
   ·rename_i e x y z u hτ
    try simp only [hτ]
    split at h
    ·rename_i ie hie
     try simp only [hie]
     split at h
     ·rename_i z' hz
      try simp only [hz]
      cases d with
      | none=>exact h
      | some i=>
       have:(2,i)∈r.rd:=by
        repeat' split at h
        all_goals first | (cases h; done) | (cases h; simp_all)
       simp only [row_ag (ha _ this)]
       exact h
     ·cases h
    ·cases h
   ·cases h
  ·cases h
 ·cases h
theorem app2_ag {an:List An} {d:Option Nat} {t t2:TypeId} {x1 x2:AV} {r:Res} (h:evalApp2 τ s an d t t2 x1 x2=some r) (ha:Agree r.rd s s'):evalApp2 τ s' an d t t2 x1 x2=some r:=by
 unfold evalApp2 at h ⊢
 cases hb:isI64T τ t2 with
 | true=>
  rw [hb] at h
  exact appZ_ag h ha
 | false=>
  rw [hb] at h
  exact append_ag h ha
theorem map_ag {i:Nat} (h:same (3,i) s s'):aget s'.mp i=aget s.mp i:=(h.2.2.2.1 rfl).symm
theorem makeMap_ag {an:List An} {d:Option Nat} {t:TypeId} {r:Res} (h:evalMakeMap τ s an d t=some r) (ha:Agree r.rd s s'):evalMakeMap τ s' an d t=some r:=by
 unfold evalMakeMap at h ⊢
 split at h
 ·split at h
  ·rename_i d0
   cases hm:mkN an d0 with
   | mk i an2=>
    rw [hm] at h
    have:(3,i)∈r.rd:=by
     dsimp only at h
     repeat' split at h
     all_goals first | (cases h; done) | (cases h; simp)
    simp only [map_ag (ha _ this)]
    exact h
  ·cases h
 ·cases h
theorem lookup_ag {an:List An} {t:TypeId} {ok:Bool} {x key:AV} {r:Res} (h:evalLookup τ s an t ok x key=some r) (ha:Agree r.rd s s'):evalLookup τ s' an t ok x key=some r:=by
 have hk:∀ i,x = .mp i→(3,i)∈r.rd:=by
  intro i hx
  subst hx
  unfold evalLookup at h
  repeat' split at h
  all_goals first | (cases h; done) | (cases h; simp_all)
 unfold evalLookup at h ⊢
 cases x with
 | mp i=>simp only [map_ag (ha _ (hk i rfl))]; exact h
 | _=>exact h
theorem mapUpdate_ag {an:List An} {d:Option Nat} {t:TypeId} {x key v:AV} {r:Res} (h:evalMapUpdate τ s an d t x key v=some r) (ha:Agree r.rd s s'):evalMapUpdate τ s' an d t x key v=some r:=by
 cases d with
 | some d=>cases h
 | none=>
  unfold evalMapUpdate at h ⊢
  split at h
  ·rename_i hd; cases hd
  ·split at h
   ·rename_i kt et szt bt zt czt ht
    try simp only [ht]
    split at h
    ·rename_i ik hik
     try simp only [hik]
     split at h
     ·rename_i hkey
      try simp only [hkey]
      split at h
      ·rename_i i
       split at h
       ·rename_i es hes
        split at h
        ·rename_i y e hse
         split at h
         ·cases h
         ·rename_i hpure
          split at h
          ·cases h
           simp only [map_ag (ha (3,i) (by simp)),hes,sealA_ag hse (ha.sub fun κ hκ=>by simp [hκ]),hpure]
          ·cases h
        ·cases h
       ·cases h
      ·cases h
     ·cases h
    ·cases h
   ·cases h
end Go.Dm
namespace Go.Dm
open Go Go.RowKit
variable {C:Cx} {k:List It} {s s' t:S} {τ:TyTab}
theorem evalOp_agree {A:List (Nat×Bool)} {d:Option Nat} {an:List An} {op:Op} {r:Res} (h:evalOp τ A d s an op=some r) (hv:∀ x∈opOpers op,val s x=val s' x) (ha:Agree r.rd s s'):evalOp τ A d s' an op=some r:=by
 have w:∀ x,x∈opOpers op→valW s' x=valW s x:=fun x hx=>(valW_ag (hv x hx)).symm
 cases op <;> simp only [evalOp] at h ⊢ <;> try (cases h; done)
 case move x=>rw [w x (by simp [opOpers,needs,Op.operands])]; exact h
 case assign x=>rw [w x (by simp [opOpers,needs,Op.operands])]; exact h
 case pick c a b=>
  cases c with
  | tmp d=>
   simp only [evalOp] at h ⊢
   rw [w (.tmp d) (by simp [opOpers]),← hv a (by simp [opOpers]),← hv b (by simp [opOpers])]; exact h
  | _=>cases h
 case alloc t=>
  split at h
  ·rename_i ti hti; first | exact box_ag h ha | (simp only [hti]; exact box_ag h ha)
  ·cases h
 case box t x=>
  rw [w x (by simp [opOpers,needs,Op.operands])]
  split at h
  ·rename_i v hv'
   try simp only [hv']
   split at h
   ·exact boxAr_ag h ha
   ·first | exact box_ag h ha | (split <;> first | exact absurd ‹_› (by assumption) | exact box_ag h ha)
  ·cases h
 case build t parts=>
  unfold evalBuild at h ⊢
  have e:∀ z,fill τ s' t z parts.toList=fill τ s t z parts.toList:=fun z=>(fill_ag fun p hp=>hv p.2 (by simp [opOpers,needs,Op.operands]; exact ⟨p.1,by simpa using hp⟩)).symm
  have e2:∀ m z,fillA s' m z parts.toList=fillA s m z parts.toList:=fun m z=>(fillA_ag fun p hp=>hv p.2 (by simp [opOpers,needs,Op.operands]; exact ⟨p.1,by simpa using hp⟩)).symm
  first | (simp only [e,e2]; exact h) | (simp only [e]; exact h) | exact h
 case load t a=>
  rw [w a (by simp [opOpers,needs,Op.operands])]
  split at h
  ·rename_i v hv'
   try simp only [hv']
   split at h
   ·rename_i hu; try simp only [hu]
    exact loadEp_ag h ha
   ·rename_i hu; try simp only [hu]
    exact loadAr_ag h ha
   ·first | exact load_ag h ha | (split <;> first | exact absurd ‹_› (by assumption) | exact load_ag h ha)
  ·cases h
 case store t a x=>
  rw [w x (by simp [opOpers,needs,Op.operands]),w a (by simp [opOpers,needs,Op.operands])]
  split at h
  ·split at h
   ·rename_i v hv'
    try simp only [hv']
    split at h
    ·rename_i u hu
     try simp only [hu]
     split at h
     ·rename_i hu; try simp only [hu]
      exact storeEp_ag h ha
     ·rename_i hu; try simp only [hu]
      exact storeAr_ag h ha
     ·exact store_ag h ha
    ·cases h
   ·cases h
  ·cases h
 case nilCheck x=>rw [w x (by simp [opOpers,needs,Op.operands])]; exact h
 case binOp op t x y t'=>
  rw [w x (by simp [opOpers,needs,Op.operands]),w y (by simp [opOpers,needs,Op.operands])]
  split at h
  ·split at h
   ·split at h
    ·exact nilRow_ag h ha
    ·exact h
    ·exact h
    ·split at h
     ·exact aptr_ag h ha
     ·exact h
    ·exact h
   ·cases h
  ·cases h
 case unOp op t x=>rw [w x (by simp [opOpers,needs,Op.operands])]; exact h
 case convert src dst x=>
  rw [w x (by simp [opOpers,needs,Op.operands])]
  split at h
  ·split at h
   ·exact strRow_ag h ha
   ·exact h
   ·exact h
   ·cases h
  ·cases h
 case fieldAddr t x f=>rw [w x (by simp [opOpers,needs,Op.operands])]; exact h
 case field t x f=>rw [w x (by simp [opOpers,needs,Op.operands])]; exact h
 case extract x i=>rw [w x (by simp [opOpers,needs,Op.operands])]; exact h
 case makeFunc fn first caps=>
  cases fn with
  | func f=>
   simp only [evalOp] at h ⊢
   have e:vals s' caps.toList=vals s caps.toList:=(vals_ag fun x hx=>hv x (by simp [opOpers,needs,Op.operands]; right; simpa using hx)).symm
   rw [e]; exact h
  | _=>cases h
 case indexAddr t x i=>
  rw [w x (by simp [opOpers,needs,Op.operands]),w i (by simp [opOpers,needs,Op.operands])]
  split at h
  ·rename_i v hv'
   split at h
   ·rename_i u hu; first | exact indexAddr_ag h ha | (simp only [hv',hu]; exact indexAddr_ag h ha)
   ·cases h
  ·cases h
 case index t x i=>rw [w x (by simp [opOpers,needs,Op.operands]),w i (by simp [opOpers,needs,Op.operands])]; exact h
 case slice t x lo hi mx=>
  cases mx with
  | none=>
   simp only [evalOp] at h ⊢
   have e1:bound s' lo=bound s lo:=(bound_ag fun y hy=>hv y (by subst hy; simp [opOpers,needs,Op.operands])).symm
   have e2:bound s' hi=bound s hi:=(bound_ag fun y hy=>hv y (by subst hy; simp [opOpers,needs,Op.operands])).symm
   rw [w x (by simp [opOpers,needs,Op.operands]),e1,e2]
   split at h
   ·split at h
    ·split at h
     ·split at h
      ·exact sliceRow_ag h ha
      ·exact sliceV_ag h ha
      ·exact h
     ·cases h
    ·cases h
   ·cases h
  | some m=>
   cases lo with
   | none=>cases h
   | some lo=>
    cases hi with
    | none=>cases h
    | some hi=>
     simp only [evalOp] at h ⊢
     have e1:bound s' (some lo)=bound s (some lo):=(bound_ag fun y hy=>hv y (by cases hy; simp [opOpers,needs,Op.operands])).symm
     have e2:bound s' (some hi)=bound s (some hi):=(bound_ag fun y hy=>hv y (by cases hy; simp [opOpers,needs,Op.operands])).symm
     have e3:bound s' (some m)=bound s (some m):=(bound_ag fun y hy=>hv y (by cases hy; simp [opOpers,needs,Op.operands])).symm
     rw [w x (by simp [opOpers,needs,Op.operands]),e1,e2,e3]
     split at h
     ·split at h
      ·split at h
       ·split at h
        ·split at h
         ·exact slice3_ag h ha
         ·cases h
        ·cases h
       ·cases h
      ·cases h
     ·cases h
 case buildSlice t len parts=>
  refine buildSlice_ag h (fun l hl=>(vals_ag fun x hx=>hv x ?_).symm) ha
  have:∀ (l:List (Nat×Operand)) (k:Nat) (m:List Operand),litParts k l=some m→∀ x∈m,∃ p∈l,p.2=x:=by
   intro l
   induction l with
   | nil=>intro k m hm; simp only [litParts] at hm; cases hm; intro x hx; cases hx
   | cons p l ih=>
    obtain ⟨i,y⟩:=p
    intro k m hm
    simp only [litParts] at hm
    split at hm
    ·split at hm
     ·rename_i r hr
      cases hm
      intro x hx
      rcases List.mem_cons.1 hx with rfl | hx
      ·exact ⟨(i,_),List.mem_cons_self ..,rfl⟩
      ·obtain ⟨p,hp,e⟩:=ih _ _ hr x hx
       exact ⟨p,by simp [hp],e⟩
     ·cases hm
    ·cases hm
  obtain ⟨p,hp,rfl⟩:=this _ _ _ hl x hx
  simp [opOpers,needs,Op.operands]; exact ⟨p.1,by simpa using hp⟩
 case makeSlice t n c=>
  rw [w n (by simp [opOpers,needs,Op.operands]),w c (by simp [opOpers,needs,Op.operands])]
  split at h
  ·split at h
   ·exact makeSlice_ag h ha
   ·cases h
  ·cases h
 case makeMap t r=>
  cases r with
  | some h'=>cases h
  | none=>exact makeMap_ag h ha
 case lookup t x y ok=>
  rw [w x (by simp [opOpers,needs,Op.operands]),w y (by simp [opOpers,needs,Op.operands])]
  split at h
  ·split at h
   ·exact lookup_ag h ha
   ·cases h
  ·cases h
 case mapUpdate t m y x=>
  rw [w x (by simp [opOpers,needs,Op.operands]),w y (by simp [opOpers,needs,Op.operands]),w m (by simp [opOpers,needs,Op.operands])]
  split at h
  ·split at h
   ·split at h
    ·exact mapUpdate_ag h ha
    ·cases h
   ·cases h
  ·cases h
 case call c=>
  have hvals:vals s' c.args.toList=vals s c.args.toList:=(vals_ag fun x hx=>hv x (by simp [opOpers,needs]; right; simpa using hx)).symm
  cases hb:c.callee with
  | builtin b=>
   simp only [hb] at h ⊢
   cases b <;> simp only [evalBuiltin] at h ⊢ <;> try (cases h; done)
   case append=>
    split at h
    ·rename_i x y t u hx ht
     have hxx:valW s' x=valW s x:=w x (by simp [opOpers,needs,hx])
     have hyy:valW s' y=valW s y:=w y (by simp [opOpers,needs,hx])
     split at h
     ·rename_i v hv'
      split at h
      ·rename_i u hu
       simp only [hxx,hv',hyy,hu]
       exact app2_ag h ha
      ·cases h
     ·cases h
    ·cases h
   case clear=>
    split at h
    ·rename_i x t hx ht
     have hxx:valW s' x=valW s x:=w x (by simp [opOpers,needs,hx])
     split at h
     ·rename_i i v off n hv'
      simp only [hxx,hv']
      exact clear_ag h ha
     ·cases h
    ·cases h
   case len=>
    split at h
    ·rename_i x t hx ht
     split at h
     ·rename_i ti hti
      have hxx:valW s' x=valW s x:=w x (by simp [opOpers,needs,hx])
      split at h
      ·rename_i v hv'
       simp only [hxx,hv']
       exact len_ag h ha
      ·cases h
     ·cases h
    ·cases h
   case cap=>
    split at h
    ·rename_i x t hx ht
     split at h
     ·rename_i ti hti
      have hxx:valW s' x=valW s x:=w x (by simp [opOpers,needs,hx])
      split at h
      ·rename_i v hv'
       simp only [hxx,hv']
       exact h
      ·cases h
     ·cases h
    ·cases h
   case min=>rw [hvals]; exact h
   case max=>rw [hvals]; exact h
  | _=>simp only [hb] at h; cases h
theorem selF_ag {α:Type}:∀ {l:List Nat} {m m' r:List (Nat×α)},selF l m=some r→(∀ i v,aget r i=some v→aget m i=aget m' i)→selF l m'=some r
 | [],m,m',r,h,_=>h
 | i::l,m,m',r,h,ha=>by
  simp only [selF] at h ⊢
  split at h
  ·rename_i v hv
   split at h
   ·rename_i r' hr'
    cases h
    have e:aget m' i=some v:=by rw [← ha i v (by rw [aget_cons,if_pos rfl])]; exact hv
    simp only [e]
    rw [selF_ag hr' fun j u hu=>?_]
    by_cases hj:j=i
    ·subst hj; exact ha j v (by rw [aget_cons,if_pos rfl])
    ·exact ha j u (by rw [aget_cons,if_neg hj]; exact hu)
   ·cases h
  ·cases h
theorem mem_okeys {α:Type} {c:Nat}:∀ {l:List (Nat×α)} {i:Nat} {v:α},aget l i=some v→(c,i)∈okeys c l
 | (j,x)::l,i,v,h=>by
  rw [aget_cons] at h
  simp only [okeys,List.mem_cons]
  split at h
  ·rename_i e; exact .inl (by rw [e])
  ·exact .inr (mem_okeys h)
theorem mem_okeys' {α:Type} {c:Nat}:∀ {l:List (Nat×α)} {p:Nat×α},p∈l→(c,p.1)∈okeys c l
 | (j,x)::l,p,h=>by
  simp only [okeys,List.mem_cons]
  rcases List.mem_cons.1 h with e | h
  ·subst e; exact .inl rfl
  ·exact .inr (mem_okeys' h)
theorem subS_ag {bs rs ms as:List Nat} {s0:S} (h:subS s bs rs ms as=some s0) (ha:Agree s0.keys s s'):subS s' bs rs ms as=some s0:=by
 unfold subS at h ⊢
 split at h
 ·rename_i b hb
  split at h
  ·rename_i r hr
   split at h
   ·rename_i m hm
    split at h
    ·rename_i a haa
     cases h
     rw [selF_ag hb fun i v hv=>(ha (1,i) (by simp only [S.keys,List.mem_append]; exact .inl (mem_okeys hv))).2.1 rfl,
      selF_ag hr fun i v hv=>(ha (2,i) (by simp only [S.keys,List.mem_append]; exact .inr (.inl (mem_okeys hv)))).2.2.1 rfl,
      selF_ag hm fun i v hv=>(ha (3,i) (by simp only [S.keys,List.mem_append]; exact .inr (.inr (.inl (mem_okeys hv))))).2.2.2.1 rfl,
      selF_ag haa fun i v hv=>(ha (4,i) (by simp only [S.keys,List.mem_append]; exact .inr (.inr (.inr (mem_okeys hv))))).2.2.2.2 rfl]
    ·cases h
   ·cases h
  ·cases h
 ·cases h
theorem keysNew_ag {α β γ:Type} {m:List (Nat×β)} {o o':List (Nat×γ)}:∀ {l:List (Nat×α)},(∀ p∈l,hasKey o p.1=hasKey o' p.1)→keysNew l m o'=keysNew l m o
 | [],_=>rfl
 | (i,x)::l,h=>by
  simp only [keysNew]
  rw [keysNew_ag (l:=l) fun p hp=>h p (by simp [hp]),← h (i,x) (by simp)]
theorem callE_agree {P:Program} {f:FuncId} {xs:List AV} {ro:Bool} {bs rs ms as:List Nat} {r:AV} {s1':S} {an:List An} {res:Res} (h:callE P s f xs ro bs rs ms as r s1' an=some res) (ha:Agree res.rd s s'):callE P s' f xs ro bs rs ms as r s1' an=some res:=by
 unfold callE at h ⊢
 split at h
 ·rename_i s0 hs0
  split at h
  ·rename_i hcl
   split at h
   ·rename_i ys ef hse
    split at h
    ·rename_i hap
     split at h
     ·rename_i hok
      split at h
      ·split at h
       ·rename_i hro
        cases h
        rw [subS_ag hs0 (ha.sub fun κ hκ=>by simp [hκ])]
        simp only [hcl]
        rw [sealALx_ag hse (ha.sub fun κ hκ=>by simp [hκ])]
        simp only [hap,hok,hro]
       ·cases h
      ·split at h
       ·rename_i hk1
        split at h
        ·rename_i hk2
         cases h
         rw [subS_ag hs0 (ha.sub fun κ hκ=>by simp [hκ])]
         simp only [hcl]
         rw [sealALx_ag hse (ha.sub fun κ hκ=>by simp [hκ])]
         have hk:∀ {α:Type} {l l':List (Nat×α)} {i:Nat},aget l i=aget l' i→hasKey l i=hasKey l' i:=fun e=>by rw [hasKey_aget,hasKey_aget,e]
         rw [keysNew_ag (o:=s.bx) (o':=s'.bx) fun p hp=>hk ((ha (1,p.1) (by simp only [S.keys,List.mem_append]; exact .inr (.inl (.inl (mem_okeys' hp))))).2.1 rfl),
          keysNew_ag (o:=s.rw) (o':=s'.rw) fun p hp=>hk ((ha (2,p.1) (by simp only [S.keys,List.mem_append]; exact .inr (.inl (.inr (.inl (mem_okeys' hp)))))).2.2.1 rfl),
          keysNew_ag (o:=s.mp) (o':=s'.mp) fun p hp=>hk ((ha (3,p.1) (by simp only [S.keys,List.mem_append]; exact .inr (.inl (.inr (.inr (.inl (mem_okeys' hp))))))).2.2.2.1 rfl),
          keysNew_ag (o:=s.ar) (o':=s'.ar) fun p hp=>hk ((ha (4,p.1) (by simp only [S.keys,List.mem_append]; exact .inr (.inl (.inr (.inr (.inr (mem_okeys' hp))))))).2.2.2.2 rfl)]
         simp only [hap,hok,hk1,hk2]
        ·cases h
       ·cases h
     ·cases h
    ·cases h
   ·cases h
  ·cases h
 ·cases h
theorem evalLent_agree {P:Program} {f:FuncId} {bs:List Nat} {zs:List AV} {r:AV} {an:List An} {xs:List AV} {res:Res} (h:evalLent P s f bs zs r an xs=some res) (ha:Agree res.rd s s'):evalLent P s' f bs zs r an xs=some res:=by
 unfold evalLent at h ⊢
 split at h
 ·rename_i i v xs'
  split at h
  ·rename_i q hq
   split at h
   ·rename_i s0 hs0
    have hk:(2,i)∈res.rd∧∀ κ∈s0.keys,κ∈res.rd:=by
     clear ha
     repeat' split at h
     all_goals first | (cases h; done) | (cases h; exact ⟨by simp,fun κ hκ=>by simp [hκ]⟩)
    simp only [curRow_ag (ha _ hk.1),hq,subS_ag hs0 (ha.sub hk.2)]
    exact h
   ·cases h
  ·cases h
 ·cases h
theorem evalCall_agree {P:Program} {f:FuncId} {xs:List AV} {an:List An} {r:Res} (h:evalCall P s an f xs=some r) (ha:Agree r.rd s s'):evalCall P s' an f xs=some r:=by
 unfold evalCall at h ⊢
 split at h
 ·split at h
  ·rename_i ys ef hse
   split at h
   ·rename_i hp
    split at h
    ·rename_i hpr
     cases h
     rw [sealAL_ag hse ha]
     simp only [hp,hpr]
    ·cases h
   ·cases h
  ·cases h
 ·split at h
  ·rename_i ys ef hse
   split at h
   ·rename_i hp
    split at h
    ·rename_i hpr
     cases h
     rw [sealAL_ag hse ha]
     simp only [hp,hpr]
    ·cases h
   ·cases h
  ·cases h
 ·exact evalLent_agree h ha
 ·exact callE_agree h ha
 ·exact callE_agree h ha
 ·cases h
theorem evalAny_agree {P:Program} {A:List (Nat×Bool)} {d:Option Nat} {an:List An} {op:Op} {r:Res} (h:evalAny τ P A s an d op=some r) (hv:∀ x∈opOpers op,val s x=val s' x) (ha:Agree r.rd s s'):evalAny τ P A s' an d op=some r:=by
 unfold evalAny at h ⊢
 split at h
 ·rename_i f ops tys
  have e:vals s ops.toList=vals s' ops.toList:=vals_ag fun x hx=>hv x (by simp [opOpers,needs]; right; simpa using hx)
  rw [← e]
  split at h
  ·exact evalCall_agree h ha
  ·cases h
 ·rename_i t ops tys
  have e:vals s ops.toList=vals s' ops.toList:=vals_ag fun x hx=>hv x (by simp [opOpers,needs]; right; simpa using hx)
  have e2:valW s (.tmp t)=valW s' (.tmp t):=valW_ag (hv _ (by simp [opOpers,needs]))
  rw [← e,← e2]
  split at h
  ·split at h
   ·exact evalCall_agree h ha
   ·cases h
  ·cases h
 ·exact evalOp_agree h hv ha
theorem needs_sub {op:Op} {x:Operand} (h:x∈needs op):x∈opOpers op:=by
 cases op <;> first | exact h | (simp [needs] at h; simp [opOpers,h])
theorem evalG_agree {P:Program} {A:List (Nat×Bool)} {o:Oper} {an:List An} {r:Res} (h:evalG τ P A s an o=some r) (hv:∀ x∈opOpers o.op,val s x=val s' x) (ha:Agree r.rd s s'):evalG τ P A s' an o=some r:=by
 unfold evalG at h ⊢
 have e:obs A s' (needs o.op)=obs A s (needs o.op):=(obs_ag fun x hx=>hv x (needs_sub hx)).symm
 rw [e]
 split at h
 ·rename_i es hes
  split at h
  ·rename_i r0 hr0
   have hrd:r.rd=r0.rd:=by
    split at h
    ·cases h; rfl
    ·split at h
     ·cases h; rfl
     ·cases h
   rw [hrd] at ha
   rw [evalAny_agree hr0 hv ha]
   exact h
  ·cases h
 ·cases h
theorem gcond_agree {all:List Oper} {gd:Option (Nat×Bool)} (h:Agree (gdKeys all gd) s s'):gcond all s gd=gcond all s' gd:=by
 unfold gcond
 cases gd with
 | none=>rfl
 | some p=>
  obtain ⟨j,want⟩:=p
  simp only
  cases hg:guardSlot all j with
  | none=>rfl
  | some d=>
   have:=(h (0,d) (by simp [gdKeys,hg])).1 rfl
   simp only [this]
def runK (τ:TyTab) (P:Program) (all:List Oper):List Oper→S→List An→Option (List Prop×List (Bool×Bool)×S×List (List Key×List Key))
 | [],s,an=>match an with
  | []=>some ([],[],s,[])
  | _::_=>none
 | o::os,s,an=>match gcond all s o.guard with
  | some c=>match evalG τ P c s an o with
   | some r=>match runK τ P all os (r.e.app o.dst s) r.an with
    | some (gs,es,s',ks)=>some (r.gs++gs,r.eq++es,s',(tmpKeys (opOpers o.op)++(gdKeys all o.guard++r.rd),DE.writes ⟨o.dst,r.e⟩)::ks)
    | none=>none
   | none=>none
  | none=>none
def dstB (N:Nat):List Oper→Bool
 | []=>true
 | o::l=>match o.dst with
  | none=>dstB N l
  | some d=>match Nat.blt d N with
   | true=>dstB N l
   | false=>false
theorem dstB_get {N:Nat}:∀ {l:List Oper} {o:Oper},dstB N l=true→o∈l→∀ d,o.dst=some d→d<N
 | [],_,_,h=>by cases h
 | p::l,o,h,ho=>by
  simp only [dstB] at h
  split at h
  ·rename_i hp
   rcases List.mem_cons.1 ho with e | ho
   ·subst e; intro d hd; rw [hp] at hd; cases hd
   ·exact dstB_get h ho
  ·rename_i e hp
   split at h
   ·rename_i hlt
    rcases List.mem_cons.1 ho with e' | ho
    ·subst e'; intro d hd; rw [hp] at hd; cases hd; exact Nat.le_of_ble_eq_true hlt
    ·exact dstB_get h ho
   ·cases h
theorem runK_text (hτ:TyOk C.P τ) {all:List Oper}:∀ {os:List Oper} {s s2:S} {an:List An} {gs:List Prop} {es:List (Bool×Bool)} {ks:List (List Key×List Key)},dstB C.N os=true→runK τ C.P all os s an=some (gs,es,s2,ks)→AllP gs→AllE es→
  Wk C k s2→∀ a w,H C.g C.N s a w→wpList C.P all.toArray (mean C k) os a w
 | [],s,s2,an,gs,es,ks,_,h,_,_,hk,a,w,hx=>by
  simp only [runK] at h
  split at h
  ·cases h; exact wpList_nil (hk a w hx)
  ·cases h
 | o::os,s,s2,an,gs,es,ks,hd,h,hg,he,hk,a,w,hx=>by
  simp only [runK] at h
  split at h
  ·rename_i c hc
   split at h
   ·rename_i r hr
    split at h
    ·rename_i gs' es' s' ks' hrest
     cases h
     obtain ⟨g1,g2⟩:=AllP_append.1 hg
     obtain ⟨e1,e2⟩:=AllE_append.1 he
     refine wpList_step fun K hK=>?_
     have hd':dstB C.N os=true:=by
      simp only [dstB] at hd
      split at hd
      ·exact hd
      ·split at hd
       ·exact hd
       ·cases hd
     exact evalG_sound hτ (dstB_get hd (by simp)) hc hr g1 e1 a w hx K _ fun a' w' hH=>hK _ _ (runK_text hτ hd' hrest g2 e2 hk a' w' hH)
    ·cases h
   ·cases h
  ·cases h
theorem runK_draw (hτ:TyOk C.P τ) {all:List Oper}:∀ {os:List Oper} {s s2:S} {an:List An} {gs:List Prop} {es:List (Bool×Bool)} {ks:List (List Key×List Key)} {n:Nat},os=all.drop n→dstB C.N os=true→runK τ C.P all os s an=some (gs,es,s2,ks)→AllP gs→AllE es→
  ∃ res,DRun C all n s res s2∧res.length=os.length∧keysOf res=ks
 | [],s,s2,an,gs,es,ks,n,_,_,h,_,_=>by
  simp only [runK] at h
  split at h
  ·cases h; exact ⟨[],.nil _ _,rfl,rfl⟩
  ·cases h
 | o::os,s,s2,an,gs,es,ks,n,hdrop,hd,h,hg,he=>by
  have hlt:n<all.length:=by
   rcases Nat.lt_or_ge n all.length with h' | h'
   ·exact h'
   ·rw [List.drop_eq_nil_of_le h'] at hdrop; cases hdrop
  rw [List.drop_eq_getElem_cons hlt] at hdrop
  simp only [List.cons.injEq] at hdrop
  obtain ⟨ho,hos⟩:=hdrop
  have hno:all[n]?=some o:=by rw [ho]; exact List.getElem?_eq_getElem hlt
  simp only [runK] at h
  split at h
  ·rename_i c hc
   split at h
   ·rename_i r hr
    split at h
    ·rename_i gs' es' s' ks' hrest
     cases h
     obtain ⟨g1,g2⟩:=AllP_append.1 hg
     obtain ⟨e1,e2⟩:=AllE_append.1 he
     have hd':dstB C.N os=true:=by
      simp only [dstB] at hd
      split at hd
      ·exact hd
      ·split at hd
       ·exact hd
       ·cases hd
     obtain ⟨res,h1,h2,h3⟩:=runK_draw hτ hos hd' hrest g2 e2
     refine ⟨(tmpKeys (opOpers o.op)++(gdKeys all o.guard++r.rd),⟨o.dst,r.e⟩)::res,.cons ?_ h1,by simp [h2],by simp only [keysOf,List.map_cons] at h3 ⊢; rw [h3]⟩
     intro s' hag a w hx K Q hK
     have hag1:Agree (tmpKeys (opOpers o.op)) s s':=hag.sub fun κ hκ=>by simp [hκ]
     have hag2:Agree (gdKeys all o.guard) s s':=hag.sub fun κ hκ=>by simp [hκ]
     have hag3:Agree r.rd s s':=hag.sub fun κ hκ=>by simp [hκ]
     have hr':=evalG_agree hr (val_agree hag1) hag3
     have hc':gcond all s' o.guard=some c:=by rw [← gcond_agree hag2]; exact hc
     have hst:=evalG_sound hτ (dstB_get hd (by simp)) hc' hr' g1 e1 a w hx K Q hK
     have hoo:all.toArray[n]?=some o:=by simpa using hno
     simp only [wpOp,hoo]
     split
     ·rename_i hw; rw [if_pos hw] at hst; exact .inl hst
     ·rename_i hw; rw [if_neg hw] at hst; exact hst
    ·cases h
   ·cases h
  ·cases h
end Go.Dm
namespace Go.Dm
open Go Go.RowKit
variable {C:Cx} {k:List It} {s s' t:S} {τ:TyTab}
structure NvE where
 v:Nat
 c:Bool
 n:Bool
 e:Bool
abbrev NV:=List (Nat×NvE)
def vmI (nv:NV) (rw:List (Nat×Rw)) (i vr:Nat):Option Nat:=
 match aget nv i with
 | none=>some vr
 | some n=>match aget rw i with
  | some r=>match Nat.beq vr r.ver with
   | true=>some n.v
   | false=>none
  | none=>none
mutual
def AV.vm (nv:NV) (rw:List (Nat×Rw)):AV→Option AV
 | .row i v=>match vmI nv rw i v with
  | some v'=>some (.row i v')
  | none=>none
 | .rowv i v o n=>match vmI nv rw i v with
  | some v'=>some (.rowv i v' o n)
  | none=>none
 | .ep i v o n=>match vmI nv rw i v with
  | some v'=>some (.ep i v' o n)
  | none=>none
 | .fn f caps=>match AV.vmL nv rw caps with
  | some l=>some (.fn f l)
  | none=>none
 | .popt b x=>match AV.vm nv rw x with
  | some y=>some (.popt b y)
  | none=>none
 | .agg cs=>match AV.vmL nv rw cs with
  | some l=>some (.agg l)
  | none=>none
 | .tup cs=>match AV.vmL nv rw cs with
  | some l=>some (.tup l)
  | none=>none
 | .when c x=>match AV.vm nv rw x with
  | some y=>some (.when c y)
  | none=>none
 | x=>some x
def AV.vmL (nv:NV) (rw:List (Nat×Rw)):List AV→Option (List AV)
 | []=>some []
 | x::l=>match AV.vm nv rw x with
  | some y=>match AV.vmL nv rw l with
   | some m=>some (y::m)
   | none=>none
  | none=>none
end
theorem vmL_get {nv:NV} {rw:List (Nat×Rw)}:∀ {l m:List AV},AV.vmL nv rw l=some m→m.length=l.length∧∀ (j:Nat) (x:AV),l[j]?=some x→∃ y,m[j]?=some y∧x.vm nv rw=some y
 | [],m,h=>by simp only [AV.vmL] at h; cases h; exact ⟨rfl,fun j x hx=>by simp at hx⟩
 | x::l,m,h=>by
  simp only [AV.vmL] at h
  split at h
  ·rename_i y hy
   split at h
   ·rename_i m' hm
    cases h
    obtain ⟨h1,h2⟩:=vmL_get hm
    refine ⟨by simp [h1],fun j u hu=>?_⟩
    cases j with
    | zero=>simp at hu; subst hu; exact ⟨y,rfl,hy⟩
    | succ j=>simp only [List.getElem?_cons_succ] at hu ⊢; exact h2 j u hu
   ·cases h
  ·cases h
def vmF (nv:NV) (rw:List (Nat×Rw)):List (Nat×AV)→Option (List (Nat×AV))
 | []=>some []
 | (i,x)::l=>match AV.vm nv rw x with
  | some y=>match vmF nv rw l with
   | some m=>some ((i,y)::m)
   | none=>none
  | none=>none
def vmB (nv:NV) (rw:List (Nat×Rw)):List (Nat×List AV)→Option (List (Nat×List AV))
 | []=>some []
 | (i,x)::l=>match AV.vmL nv rw x with
  | some y=>match vmB nv rw l with
   | some m=>some ((i,y)::m)
   | none=>none
  | none=>none
def nvRw (nv:NV) (i:Nat) (r:Rw):Rw:=match aget nv i with
 | some n=>{ r with ver:=n.v,cm:=bif n.c then r.cm else 0,nl:=bif n.n then r.nl else false,k:=bif n.e then r.xs.length else r.k }
 | none=>r
def nvR (nv:NV):List (Nat×Rw)→List (Nat×Rw)
 | []=>[]
 | (i,r)::l=>(i,nvRw nv i r)::nvR nv l
def nvOk (rw:List (Nat×Rw)):NV→Bool
 | []=>true
 | (i,n)::l=>match aget rw i with
  | some r=>match Nat.blt i nB||(Nat.blt 0 n.v||Nat.beq r.ver 0) with
   | true=>nvOk rw l
   | false=>false
  | none=>false
def normV (nv:NV) (s:S):Option S:=
 match nvOk s.rw nv with
 | true=>match vmF nv s.rw s.fr with
  | some f=>match vmB nv s.rw s.bx with
   | some b=>some ⟨f,b,nvR nv s.rw,s.mp,s.ar⟩
   | none=>none
  | none=>none
 | false=>none
theorem vmF_get {nv:NV} {rw:List (Nat×Rw)}:∀ {l m:List (Nat×AV)},vmF nv rw l=some m→∀ {i:Nat} {y:AV},aget m i=some y→∃ x,aget l i=some x∧x.vm nv rw=some y
 | [],m,h,i,y,hi=>by simp only [vmF] at h; cases h; cases hi
 | (j,x)::l,m,h,i,y,hi=>by
  simp only [vmF] at h
  split at h
  ·rename_i z hz
   split at h
   ·rename_i m' hm
    cases h
    rw [aget_cons] at hi ⊢
    split at hi
    ·rename_i e; cases hi; rw [if_pos e]; exact ⟨x,rfl,hz⟩
    ·rename_i e; rw [if_neg e]; exact vmF_get hm hi
   ·cases h
  ·cases h
theorem vmB_get {nv:NV} {rw:List (Nat×Rw)}:∀ {l m:List (Nat×List AV)},vmB nv rw l=some m→∀ (i:Nat),(∀ y,aget m i=some y→∃ x,aget l i=some x∧AV.vmL nv rw x=some y)∧(aget m i=none→aget l i=none)
 | [],m,h,i=>by simp only [vmB] at h; cases h; exact ⟨fun y hy=>(by cases hy),fun _=>rfl⟩
 | (j,x)::l,m,h,i=>by
  simp only [vmB] at h
  split at h
  ·rename_i z hz
   split at h
   ·rename_i m' hm
    cases h
    simp only [aget_cons]
    split
    ·exact ⟨fun y hy=>(by cases hy; exact ⟨x,rfl,hz⟩),fun h=>by cases h⟩
    ·exact vmB_get hm i
   ·cases h
  ·cases h
theorem nvR_get {nv:NV}:∀ (l:List (Nat×Rw)) (i:Nat),aget (nvR nv l) i=(aget l i).map (nvRw nv i)
 | [],i=>rfl
 | (j,r)::l,i=>by
  simp only [nvR,aget_cons]
  split
  ·rename_i e; subst e; rfl
  ·exact nvR_get l i
theorem nvOk_get {rw:List (Nat×Rw)}:∀ {nv:NV},nvOk rw nv=true→∀ {i:Nat} {n:NvE},aget nv i=some n→∃ r,aget rw i=some r∧(nB≤i→n.v=0→r.ver=0)
 | [],_,i,n,hi=>by cases hi
 | (j,m)::l,h,i,n,hi=>by
  simp only [nvOk] at h
  split at h
  ·rename_i r hr
   split at h
   ·rename_i hc
    rw [aget_cons] at hi
    split at hi
    ·rename_i e
     cases hi
     subst e
     refine ⟨r,hr,fun h1 h2=>?_⟩
     rw [Bool.or_eq_true,Bool.or_eq_true] at hc
     rcases hc with hc | hc | hc
     ·have:=Nat.le_of_ble_eq_true hc; omega
     ·have:=Nat.le_of_ble_eq_true hc; omega
     ·exact beq_true hc
    ·exact nvOk_get h hi
   ·cases h
  ·cases h
def Env.nv (E:Env) (nv:NV):Env:={ E with rw:=fun i=>match aget nv i with
 | some n=>(E.rw i).map fun q=>{ q with ver:=n.v }
 | none=>E.rw i }
section
variable {M:Mem} {E:Env} {nv:NV} {rw:List (Nat×Rw)}
theorem vmI_ok (hv:∀ i r q,aget rw i=some r→E.rw i=some q→q.ver=r.ver) {i vr vr':Nat} (h:vmI nv rw i vr=some vr') {q:RwE} (hq:E.rw i=some q) :
  ∃ q',(E.nv nv).rw i=some q'∧(vr≤q.ver→vr'≤q'.ver)∧(vr'=q'.ver→vr=q.ver)∧q'.a=q.a∧q'.n=q.n∧q'.c=q.c∧q'.sz=q.sz:=by
 unfold vmI at h
 split at h
 ·rename_i hn
  cases h
  exact ⟨q,by simp only [Env.nv,hn]; exact hq,fun h=>h,fun h=>h,rfl,rfl,rfl,rfl⟩
 ·rename_i n hn
  split at h
  ·rename_i r hr
   split at h
   ·rename_i hb
    cases h
    refine ⟨{ q with ver:=n.v },by simp only [Env.nv,hn,hq,Option.map_some],fun _=>Nat.le_refl _,fun _=>?_,rfl,rfl,rfl,rfl⟩
    rw [beq_true hb]; exact (hv i r q hr hq).symm
   ·cases h
  ·cases h
theorem RelS.vm (hv:∀ i r q,aget rw i=some r→E.rw i=some q→q.ver=r.ver) {v:Value} {x:AV} (h:RelS M E v x):∀ {y:AV},x.vm nv rw=some y→RelS M (E.nv nv) v y:=by
 induction h with
 | pure h=>intro y hy; cases h <;> (simp only [AV.vm] at hy; cases hy; exact .pure (by constructor <;> assumption))
 | any h=>intro y hy; simp only [AV.vm] at hy; cases hy; exact .any h
 | ptr i off b h=>intro y hy; simp only [AV.vm] at hy; cases hy; exact .ptr i off b h
 | row i vr n c a q hq hver hh=>
  intro y hy
  simp only [AV.vm] at hy
  split at hy
  ·rename_i v' hv'
   cases hy
   obtain ⟨q',h1,h2,h3,e1,e2,e3,e4⟩:=vmI_ok hv hv' hq
   refine .row i v' n c a q' h1 (h2 hver) fun e=>?_
   obtain ⟨f1,f2,f3⟩:=hh (h3 e)
   exact ⟨by rw [e1]; exact f1,by rw [e2]; exact f2,by rw [e3]; exact f3⟩
  ·cases hy
 | rowv i vr off m n c a q hq hver hh=>
  intro y hy
  simp only [AV.vm] at hy
  split at hy
  ·rename_i v' hv'
   cases hy
   obtain ⟨q',h1,h2,h3,e1,e2,e3,e4⟩:=vmI_ok hv hv' hq
   refine .rowv i v' off m n c a q' h1 (h2 hver) fun e=>?_
   have:=hh (h3 e)
   unfold viewA at this ⊢
   rw [e1,e3,e4]
   exact this
  ·cases hy
 | ep i vr kk off ad q hq hver hh=>
  intro y hy
  simp only [AV.vm] at hy
  split at hy
  ·rename_i v' hv'
   cases hy
   obtain ⟨q',h1,h2,h3,e1,e2,e3,e4⟩:=vmI_ok hv hv' hq
   refine .ep i v' kk off ad q' h1 (h2 hver) fun e=>?_
   have:=hh (h3 e)
   rw [e1,e4]
   exact this
  ·cases hy
 | aptr i kk off bs b h hk=>intro y hy; simp only [AV.vm] at hy; cases hy; exact .aptr i kk off bs b h hk
 | mp i r h=>intro y hy; simp only [AV.vm] at hy; cases hy; exact .mp i r h
 | popt b x ht hf ih=>
  intro y hy
  simp only [AV.vm] at hy
  split at hy
  ·rename_i z hz
   cases hy
   exact .popt b z (fun hb=>ih hb hz) hf
  ·cases hy
 | fn f vs cs hl h ih=>
  intro y hy
  simp only [AV.vm] at hy
  split at hy
  ·rename_i l hl'
   cases hy
   obtain ⟨h1,h2⟩:=vmL_get hl'
   refine .fn f vs l (hl.trans h1.symm) fun j v c hv' hc=>?_
   have hj:=(List.getElem?_eq_some_iff.1 hv').1
   have hcs:cs[j]?=some cs[j]:=List.getElem?_eq_getElem (by omega)
   obtain ⟨y,hy,hvm⟩:=h2 j _ hcs
   rw [hc] at hy; cases hy
   exact ih j v _ hv' hcs hvm
  ·cases hy
theorem Rel.vm (hv:∀ i r q,aget rw i=some r→E.rw i=some q→q.ver=r.ver) {v:Value} {x:AV} (h:Rel M E v x):∀ {y:AV},x.vm nv rw=some y→Rel M (E.nv nv) v y:=by
 induction h with
 | cell h=>intro y hy; exact .cell (h.vm hv hy)
 | agg vs cs hl h=>
  intro y hy
  simp only [AV.vm] at hy
  split at hy
  ·rename_i l hl'
   cases hy
   obtain ⟨h1,h2⟩:=vmL_get hl'
   refine .agg vs l (hl.trans h1.symm) fun j v c hv' hc=>?_
   have hj:=(List.getElem?_eq_some_iff.1 hv').1
   have hcs:cs[j]?=some cs[j]:=List.getElem?_eq_getElem (by omega)
   obtain ⟨y,hy,hvm⟩:=h2 j _ hcs
   rw [hc] at hy; cases hy
   exact (h j v _ hv' hcs).vm hv hvm
  ·cases hy
 | tup vs cs hl h ih=>
  intro y hy
  simp only [AV.vm] at hy
  split at hy
  ·rename_i l hl'
   cases hy
   obtain ⟨h1,h2⟩:=vmL_get hl'
   refine .tup vs l (hl.trans h1.symm) fun j v c hv' hc=>?_
   have hj:=(List.getElem?_eq_some_iff.1 hv').1
   have hcs:cs[j]?=some cs[j]:=List.getElem?_eq_getElem (by omega)
   obtain ⟨y,hy,hvm⟩:=h2 j _ hcs
   rw [hc] at hy; cases hy
   exact ih j v _ hv' hcs hvm
  ·cases hy
 | any v=>intro y hy; simp only [AV.vm] at hy; cases hy; exact .any v
 | when v c x h hu ih=>
  intro y hy
  simp only [AV.vm] at hy
  split at hy
  ·rename_i z hz
   cases hy
   exact .when v c z (fun hc=>ih hc hz) hu
  ·cases hy
end
theorem normV_St {nv:NV} (h:normV nv s=some t) (h2:p2R s.rw=true) {g:Gh} {N:Nat} {M:Mem} {E:Env} {tmps:Array Value} {w:World} (hs:St g N M E s tmps w) :
  St g N M (E.nv nv) t tmps w∧∀ E0,Env.p0 E0 E→Env.p0 E0 (E.nv nv):=by
 unfold normV at h
 split at h
 ·rename_i hok
  split at h
  ·rename_i f hf
   split at h
   ·rename_i b hb
    ·cases h
     have hv:∀ i r q,aget s.rw i=some r→E.rw i=some q→q.ver=r.ver:=fun i r q h1 h2=>by
      obtain ⟨q',hq',ho⟩:=hs.rw i r h1
      rw [h2] at hq'; cases hq'
      exact ho.ver
     refine ⟨?_,fun E0 hp=>⟨hp.bx,fun i q hi he h0=>?_,hp.mp,hp.ar⟩⟩
     ·refine hs.weak (fun i y hi=>?_) (fun i cs hi=>?_) (fun i hi=>?_) (fun i r hi=>?_) (fun i hi=>?_) (fun i es hi=>?_) (fun i hi=>?_)
       (fun i r hi=>⟨hi,rfl,fun b p h=>h,fun b p h=>h,arO_le_of (E:=E) (E':=E.nv nv) rfl _,fun _ _ _ h=>h⟩) hs.arn (fun b o ho=>⟨o,ho,fun j hj=>?_⟩)
      ·obtain ⟨x,h1,h2⟩:=vmF_get hf hi
       exact ⟨x,h1,fun v hr=>hr.vm hv h2⟩
      ·obtain ⟨x,h1,h2⟩:=(vmB_get hb i).1 cs hi
       obtain ⟨h3,h4⟩:=vmL_get h2
       refine ⟨i,x,h1,fun b h=>h,fun b h=>h,h3,fun j c c' v hc hc' hr=>?_⟩
       obtain ⟨y,hy,hvm⟩:=h4 j c hc
       rw [hc'] at hy; cases hy
       exact hr.vm hv hvm
      ·exact hs.bxn i ((vmB_get hb i).2 hi)
      ·have hi:aget (nvR nv s.rw) i=some r:=hi
       rw [nvR_get] at hi
       obtain ⟨r0,hr0,rfl⟩:=Option.map_eq_some_iff.1 hi
       refine ⟨i,r0,hr0,fun q hq=>?_,fun b h=>h,fun b p h=>h,?_,?_,?_,?_,?_,?_,?_,?_,fun _=>Env.arP_of (p2R_get h2 hr0) (arO_le_of (E:=E) (E':=E.nv nv) rfl _)⟩
       ·have:=hv i r0 q hr0 hq
        unfold nvRw
        simp only [Env.nv]
        cases hn:aget nv i with
        | none=>simp only [← this]; exact hq
        | some n=>simp only [hq,Option.map_some]
       all_goals unfold nvRw
       all_goals cases hn:aget nv i with
        | none=>simp
        | some n=>first | rfl | (obtain ⟨v,c,n,e⟩:=n; cases c <;> cases n <;> cases e <;> simp)
      ·have hi:aget (nvR nv s.rw) i=none:=hi
       rw [nvR_get,Option.map_eq_none_iff] at hi
       have:=hs.rwn i hi
       simp only [Env.nv,this]
       cases aget nv i <;> rfl
      ·refine ⟨i,es,hi,fun b h=>h,fun b h=>h,rfl,fun j c c' hc hc'=>?_⟩
       rw [hc] at hc'; cases hc'
       exact ⟨rfl,fun v hr=>hr.monoE (arO_le_of (E:=E) (E':=E.nv nv) rfl _)⟩
      ·exact hs.mpn i hi
      ·obtain ⟨kd,i,p⟩:=o
       simp only [sealN,nvR_get] at hj ⊢
       split
       ·rename_i hc
        rw [if_pos hc] at hj
        cases hr:aget s.rw i with
        | none=>rw [hr] at hj; exact hj
        | some r=>
         rw [hr] at hj
         simp only [Option.map_some] at hj ⊢
         obtain ⟨q,_,hrok⟩:=hs.rw i r hr
         refine Nat.lt_of_lt_of_le hj ?_
         unfold nvRw
         cases hn:aget nv i with
         | none=>exact Nat.le_refl _
         | some n=>
          simp only
          refine Nat.mul_le_mul_right _ ?_
          cases n.e
          ·exact Nat.le_refl _
          ·exact hrok.k
       ·rename_i hc
        rw [if_neg hc] at hj
        split
        ·rename_i hc5
         rw [if_pos hc5] at hj
         cases hr:aget s.rw i with
         | none=>rw [hr] at hj; exact hj
         | some r=>
          rw [hr] at hj
          simp only [Option.map_some] at hj ⊢
          have:(nvRw nv i r).xs=r.xs:=by
           unfold nvRw
           cases aget nv i <;> rfl
          rw [this]; exact hj
        ·rename_i hc5
         rw [if_neg hc5] at hj
         exact hj
     ·simp only [Env.nv] at he
      split at he
      ·rename_i n hn
       obtain ⟨q0,hq0,rfl⟩:=Option.map_eq_some_iff.1 he
       obtain ⟨r,hr,hz⟩:=nvOk_get hok hn
       have h1:=hv i r q0 hr hq0
       have h2:=hz hi h0
       have:({ q0 with ver:=n.v }:RwE)=q0:=by
        have e:n.v=q0.ver:=by rw [h1,h2]; exact h0
        rw [e]
       rw [this]
       exact hp.rw i q0 hi hq0 (by rw [h1,h2])
      ·exact hp.rw i q hi he h0
   ·cases h
  ·cases h
 ·cases h
def trimS (fs bs rs ms aa:List Nat) (nv:NV) (s:S):Option S:=
 match selF fs s.fr with
 | some f=>match selF bs s.bx with
  | some b=>match selF rs s.rw with
   | some r=>match selF ms s.mp with
    | some m=>match selF aa s.ar with
     | some a=>match closedB ⟨f,b,r,m,a⟩ with
      | true=>match nv with
       | []=>some ⟨f,b,r,m,a⟩
       | _::_=>normV nv ⟨f,b,r,m,a⟩
      | false=>none
     | none=>none
    | none=>none
   | none=>none
  | none=>none
 | none=>none
theorem trimS_St {fs bs rs ms aa:List Nat} {nv:NV} (h:trimS fs bs rs ms aa nv s=some t) {g:Gh} {N:Nat} {M:Mem} {E:Env} {tmps:Array Value} {w:World} (hs:St g N M E s tmps w) :
  ∃ E',St g N M E' t tmps w∧∀ E0,Env.p0 E0 E→Env.p0 E0 E':=by
 unfold trimS at h
 split at h
 ·rename_i f hf
  split at h
  ·rename_i b hb
   split at h
   ·rename_i r hr
    split at h
    ·rename_i m hm
     split at h
     ·rename_i a haa
      split at h
      ·rename_i hc
       have h1:=hs.sub (t:=⟨f,b,r,m,a⟩) (fun i v=>selF_get hf) (fun i v=>selF_get hb) (fun i v=>selF_get hr) (fun i v=>selF_get hm) (fun i v=>selF_get haa) hc
       split at h
       ·cases h
        exact ⟨_,h1,fun E0 hp=>Env.keep_p0 hp _ _ _ _⟩
       ·obtain ⟨h2,h3⟩:=normV_St h (okR_p2 (closedB_ok hc).2.2.1) h1
        exact ⟨_,h2,fun E0 hp=>h3 E0 (Env.keep_p0 hp _ _ _ _)⟩
      ·cases h
     ·cases h
    ·cases h
   ·cases h
  ·cases h
 ·cases h
theorem trimS_H {fs bs rs ms aa:List Nat} {nv:NV} (h:trimS fs bs rs ms aa nv s=some t) {g:Gh} {N:Nat} {a:Act} {w:World} (hx:H g N s a w):H g N t a w:=by
 obtain ⟨hd,M,E,hs,hp⟩:=hx
 obtain ⟨E',h1,h2⟩:=trimS_St h hs
 exact ⟨hd,M,E',h1,h2 _ hp⟩
theorem Wk_trim {fs bs rs ms aa:List Nat} {nv:NV} (h:trimS fs bs rs ms aa nv s=some t) (hw:Wk C k t):Wk C k s:=fun a w hx=>hw a w (trimS_H h hx)
theorem Wk_met {fs bs rs ms aa:List Nat} {nv:NV} (h:trimS fs bs rs ms aa nv s=some t):Wk C (.cut (fun s'=>s'=t)::k) s:=Wk_cut (fun a w hx=>trimS_H h hx) rfl
def fsts:List (Bool×Bool)→List Bool
 | []=>[]
 | (a,_)::l=>a::fsts l
def snds:List (Bool×Bool)→List Bool
 | []=>[]
 | (_,a)::l=>a::snds l
theorem AllE_of:∀ {l:List (Bool×Bool)},fsts l=snds l→AllE l
 | [],_=>trivial
 | (a,b)::l,h=>by
  simp only [fsts,snds,List.cons.injEq] at h
  exact ⟨h.1,AllE_of h.2⟩
def runT (τ:TyTab) (P:Program) (N:Nat) (drw:Bool) (ops:List Oper) (an:List An) (fs bs rs ms aa:List Nat) (nv:NV) (s:S):Option (List Prop×List (Bool×Bool)×S):=
 match dstB N ops with
 | true=>match runK τ P ops ops s an with
  | some (gs,es,s1,ks)=>match (match drw with | true=>indepB ops 0 ks&&backB 0 ops | false=>true) with
   | true=>match trimS fs bs rs ms aa nv s1 with
    | some t=>some (gs,es,t)
    | none=>none
   | false=>none
  | none=>none
 | false=>none
def outL:Option (List Prop×List (Bool×Bool)×S)→Option (List Prop×S×List Bool)
 | some (gs,es,t)=>some (gs,t,fsts es)
 | none=>none
def outR:Option (List Prop×List (Bool×Bool)×S)→List Bool
 | some (_,es,_)=>snds es
 | none=>[]
theorem Wk_run (hτ:TyOk C.P τ) {id:Nat} {ops:List Oper} {an:List An} {fs bs rs ms aa:List Nat} {nv:NV} {gs:List Prop} (h:outL (runT τ C.P C.N false ops an fs bs rs ms aa nv s)=some (gs,t,outR (runT τ C.P C.N false ops an fs bs rs ms aa nv s))) (hg:AllP gs) (hk:Wk C k t):Wk C (.code (.region id ops.toArray false)::k) s:=by
 cases hr:runT τ C.P C.N false ops an fs bs rs ms aa nv s with
 | none=>rw [hr] at h; cases h
 | some p=>
  obtain ⟨gs',es,t'⟩:=p
  rw [hr] at h
  simp only [outL,outR,Option.some.injEq,Prod.mk.injEq] at h
  obtain ⟨rfl,rfl,he⟩:=h
  unfold runT at hr
  split at hr
  ·rename_i hd
   split at hr
   ·rename_i gs1 es1 s1 ks hrk
    split at hr
    ·split at hr
     ·rename_i t1 ht
      cases hr
      exact fun a w hx=>wp_region_lit (runK_text hτ hd hrk hg (AllE_of he) (Wk_trim ht hk) a w hx)
     ·cases hr
    ·cases hr
   ·cases hr
  ·cases hr
theorem Wk_runD (hτ:TyOk C.P τ) (hm:C.P.follows .mixedOrders=true) {id:Nat} {ops:List Oper} {an:List An} {fs bs rs ms aa:List Nat} {nv:NV} {gs:List Prop} (h:outL (runT τ C.P C.N true ops an fs bs rs ms aa nv s)=some (gs,t,outR (runT τ C.P C.N true ops an fs bs rs ms aa nv s))) (hg:AllP gs) (hk:Wk C k t):Wk C (.code (.region id ops.toArray true)::k) s:=by
 cases hr:runT τ C.P C.N true ops an fs bs rs ms aa nv s with
 | none=>rw [hr] at h; cases h
 | some p=>
  obtain ⟨gs',es,t'⟩:=p
  rw [hr] at h
  simp only [outL,outR,Option.some.injEq,Prod.mk.injEq] at h
  obtain ⟨rfl,rfl,he⟩:=h
  unfold runT at hr
  split at hr
  ·rename_i hd
   split at hr
   ·rename_i gs1 es1 s1 ks hrk
    split at hr
    ·rename_i hib
     split at hr
     ·rename_i t1 ht
      cases hr
      simp only [Bool.and_eq_true] at hib
      obtain ⟨res,h1,h2,h3⟩:=runK_draw hτ (n:=0) rfl hd hrk hg (AllE_of he)
      exact draw_region hm h1 h2 (by rw [h3]; exact hib.1) hib.2 (Wk_trim ht hk)
     ·cases hr
    ·cases hr
   ·cases hr
  ·cases hr
end Go.Dm
