/- The machine over the model's code, part EmQ. -/
import Derived.Test.YtnibbgjoanbnmaaEmD
import Derived.Maps.RangeRun
set_option linter.unusedVariables false
set_option linter.unusedSimpArgs false
set_option linter.unusedSectionVars false
namespace Go.Dm
open Go Go.RowKit Go.MapKept
section
variable {g:Gh} {N:Nat} {M:Mem} {E:Env} {s:S} {tmps:Array Value} {w:World}
theorem St.swap (hs:St g N M E s tmps w) {w':World} (hk:∀ b o,E.own b=some o→w'.heap[b]?=w.heap[b]?) (hF:∀ b,g.F b→w'.heap[b]?=w.heap[b]?) (hm:∀ b j v,M b j=some v→w'.cell? ⟨b,j,none⟩=some v)
  (hsz:w.heap.size≤w'.heap.size) (h1:w'.os=w.os) (h2:w'.tape=w.tape) (h3:w'.output=w.output):St g N M E s tmps w':=by
 refine ⟨hs.size,hs.fr,fun b j v h=>⟨hm b j v h,(hs.mem b j v h).2⟩,fun i cs h=>?_,hs.bxn,fun i r h=>?_,hs.rwn,fun i es h=>?_,hs.mpn,fun i r h=>?_,hs.arn,fun b q h=>Nat.lt_of_lt_of_le (hs.live b q h) hsz,fun b h=>?_,hs.m0,hs.mf,h1.trans hs.os,h2.trans hs.tape,h3.trans hs.output,Nat.le_trans hs.grow hsz⟩
 ·obtain ⟨b,h1,h2,t,vs,h3,h4⟩:=hs.bx i cs h
  exact ⟨b,h1,h2,t,vs,by rw [hk b _ h2]; exact h3,h4⟩
 ·obtain ⟨q,h1,h2⟩:=hs.rw i r h
  exact ⟨q,h1,h2.mono (fun _ _ _ h=>h) (Env.le_refl _) (fun b hb=>⟨hb,hk b _ hb⟩) (fun b j hb=>⟨hb,hk b _ hb⟩)⟩
 ·obtain ⟨r,h1,h2,ents,clock,h3,h4⟩:=hs.mp i es h
  exact ⟨r,h1,h2,ents,clock,by rw [hk r _ h2]; exact h3,h4⟩
 ·obtain ⟨bs,h1,h2⟩:=hs.ar i r h
  exact ⟨bs,h1,h2.mono (fun _ _ _ h=>h) (Env.le_refl _) (fun b j hb=>⟨hb,hk b _ hb⟩) (fun b j hb=>⟨hb,hk b _ hb⟩)⟩
 ·obtain ⟨g1,g2,g3⟩:=hs.foreign b h
  exact ⟨Nat.lt_of_lt_of_le g1 hsz,by rw [hF b h,g2],g3⟩
theorem St.putN {a:Act} (hs:St g N M E s a.tmps w) {d:Nat} (hd:aget s.fr d=none) (v:Value):St g N M E s (a.put (some d) v).tmps w:=by
 refine { hs with size:=by simpa [Act.put] using hs.size,fr:=fun i av hi=>?_ }
 have hne:i≠d:=by rintro rfl; rw [hd] at hi; cases hi
 obtain ⟨h1,h2⟩:=hs.fr i av hi
 simp only [Act.put,Array.getD_eq_getD_getElem?]
 rw [Array.getElem?_setIfInBounds_ne (fun e=>hne e.symm)]
 rw [Array.getD_eq_getD_getElem?] at h2
 exact ⟨h1,h2⟩
end
structure Itr (M:Mem) (E:Env) (w:World) (r r0:Nat) (es:List (AV×AV)) (ents:Array MapEntry) (seen:Array Nat):Prop where
 ri:∃ c0,es.length≤c0∧w.heap[r]?=some (.mapIter (some r0) es.length seen c0)
 rm:w.heap[r0]?=some (.map ents es.length)
 sz:ents.size=es.length
 bn:∀ (j:Nat) (e:MapEntry),ents[j]?=some e→e.born=j
 rl:∀ (j:Nat) (e:MapEntry) (p:AV×AV),ents[j]?=some e→es[j]?=some p→RelP M e.key p.1∧Rel M Env.none e.val p.2
 o1:E.own r=none
 o0:E.own r0=none
theorem born_nodup {ents:Array MapEntry} (h:∀ (j:Nat) (e:MapEntry),ents[j]?=some e→e.born=j):(ents.toList.map (·.born)).Nodup:=by
 have:ents.toList.map (·.born)=List.range ents.size:=by
  apply List.ext_getElem?
  intro i
  rw [List.getElem?_map,Array.getElem?_toList]
  by_cases c:i<ents.size
  ·rw [Array.getElem?_eq_getElem c,List.getElem?_range c,Option.map_some,h i _ (Array.getElem?_eq_getElem c)]
  ·rw [Array.getElem?_eq_none (by omega),List.getElem?_eq_none (by simp; omega)]; rfl
 rw [this]; exact List.nodup_range
section
variable {C:Cx} {k:List It}
theorem step_value {P:Program} {ops:Array Oper} {rest:List Oper} {o:Oper} {a:Act} {w w':World} {Q:Exit→Act→World→Prop} {v:Value} (hg:o.guard=none) (h:(execOp a.eval o).run P w = .ok (.value v) w') (hk:wpList P ops Q rest (a.put o.dst v) w'):wpList P ops Q (o::rest) a w:=
 wpList_plain hg fun K hK=>by
  refine (?_:o.wp P a w _ _)
  unfold Oper.wp
  rw [h]
  exact hK _ _ hk
theorem put_get {a:Act} {d:Nat} {v:Value} (h:d<a.tmps.size):(a.put (some d) v).eval (.tmp d)=v:=by
 simp [Act.eval,Act.put,h]
def noK (s:S) (l:List Nat):Bool:=l.all fun d=>!hasKey s.fr d
theorem noK_get {s:S} {l:List Nat} (h:noK s l=true) {d:Nat} (hd:d∈l):aget s.fr d=none:=by
 unfold noK at h
 have:=List.all_eq_true.1 h d hd
 cases hh:aget s.fr d with
 | none=>rfl
 | some v=>rw [hasKey_some hh] at this; cases this
theorem flt_pt (C:Cx):∀ (n:Nat) (k:List It) (a:Act) (w:World),mean C (flt n k) .normal a w→mean C k .normal a w
 | 0,k,a,w,h=>h
 | n+1,k,a,w,h=>by
  unfold flt at h
  split at h
  ·exact wp_seq (flt_pt C n _ a w h)
  ·exact wp_skip (flt_pt C n _ a w h)
  ·rename_i k
   have h2:=flt_pt C n k a w h
   exact h2
  ·exact h
end
end Go.Dm
