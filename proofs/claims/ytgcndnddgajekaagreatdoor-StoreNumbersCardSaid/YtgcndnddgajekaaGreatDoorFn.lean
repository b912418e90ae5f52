/- The functions of this seat have bodies. Written by a program (mk.py). -/
import Derived.Test.YtgcndnddgajekaaGreatDoorTy
namespace Go.Proofs.YtgcndnddgajekaaGreatDoor
open Go Go.Dm
namespace Fn
theorem b3:Bodied Tryz.prog 3:=znh Tryz.func3 rfl (by kernel_rfl)
theorem b4:Bodied Tryz.prog 4:=znh Tryz.func4 rfl (by kernel_rfl)
theorem b5:Bodied Tryz.prog 5:=znh Tryz.func5 rfl (by kernel_rfl)
theorem b15:Bodied Tryz.prog 15:=znh Tryz.func15 rfl (by kernel_rfl)
theorem b16:Bodied Tryz.prog 16:=znh Tryz.func16 rfl (by kernel_rfl)
end Fn
section
variable {Q:Exit->Act->World->Prop}{g:Gh}{N:Nat}{k:List It}{s:S}{id:Nat}{ops:List Oper}
theorem NRL {α:Type}(e:α)(f:α->List (Nat×AV)×List (Nat×List AV)×List (Nat×Rw)×List (Nat×List (AV×AV)))(an:List An)(fs bs rs ms:List Nat){gs:List Prop}(hg:HL gs)(hk:∀ x,x=e->Wk ⟨Tryz.prog,Q,g,N⟩ (flt 99 k) (s.upT fs bs rs ms (f x)))(h:Dm.outL (Dm.runT Ty.τ Tryz.prog N false ops an fs bs rs ms [] [] s)=some (gs,s.upT fs bs rs ms (f e),Dm.outR (Dm.runT Ty.τ Tryz.prog N false ops an fs bs rs ms [] [] s)):=by kernel_rfl):Wk ⟨Tryz.prog,Q,g,N⟩ (.code (.region id ops.toArray false)::k) s:=W_R (C:=⟨Tryz.prog,Q,g,N⟩) Ty.ok an fs bs rs ms [] [] (s.upT fs bs rs ms (f e)) hg h (zgx 99 _ (hk e rfl))
theorem NDL {α:Type}(e:α)(f:α->List (Nat×AV)×List (Nat×List AV)×List (Nat×Rw)×List (Nat×List (AV×AV)))(an:List An)(fs bs rs ms:List Nat){gs:List Prop}(hg:HL gs)(hk:∀ x,x=e->Wk ⟨Tryz.prog,Q,g,N⟩ (flt 99 k) (s.upT fs bs rs ms (f x)))(h:Dm.outL (Dm.runT Ty.τ Tryz.prog N true ops an fs bs rs ms [] [] s)=some (gs,s.upT fs bs rs ms (f e),Dm.outR (Dm.runT Ty.τ Tryz.prog N true ops an fs bs rs ms [] [] s)):=by kernel_rfl):Wk ⟨Tryz.prog,Q,g,N⟩ (.code (.region id ops.toArray true)::k) s:=W_D (C:=⟨Tryz.prog,Q,g,N⟩) Ty.ok Ty.mixed an fs bs rs ms [] [] (s.upT fs bs rs ms (f e)) hg h (zgx 99 _ (hk e rfl))
theorem VR (an:List An)(fs bs rs ms:List Nat)(fr:List (Nat×AV))(bx:List (Nat×List AV))(rw:List (Nat×Rw))(mp:List (Nat×List (AV×AV))){gs:List Prop}(hg:HL gs)(hk:Wk ⟨Tryz.prog,Q,g,N⟩ (flt 99 k) (s.up fs bs rs ms fr bx rw mp))(h:Dm.outL (Dm.runT Ty.τ Tryz.prog N false ops an fs bs rs ms [] [] s)=some (gs,s.up fs bs rs ms fr bx rw mp,Dm.outR (Dm.runT Ty.τ Tryz.prog N false ops an fs bs rs ms [] [] s)):=by kernel_rfl):Wk ⟨Tryz.prog,Q,g,N⟩ (.code (.region id ops.toArray false)::k) s:=W_R (C:=⟨Tryz.prog,Q,g,N⟩) Ty.ok an fs bs rs ms [] [] (s.up fs bs rs ms fr bx rw mp) hg h (zgx 99 _ hk)
theorem VD (an:List An)(fs bs rs ms:List Nat)(fr:List (Nat×AV))(bx:List (Nat×List AV))(rw:List (Nat×Rw))(mp:List (Nat×List (AV×AV))){gs:List Prop}(hg:HL gs)(hk:Wk ⟨Tryz.prog,Q,g,N⟩ (flt 99 k) (s.up fs bs rs ms fr bx rw mp))(h:Dm.outL (Dm.runT Ty.τ Tryz.prog N true ops an fs bs rs ms [] [] s)=some (gs,s.up fs bs rs ms fr bx rw mp,Dm.outR (Dm.runT Ty.τ Tryz.prog N true ops an fs bs rs ms [] [] s)):=by kernel_rfl):Wk ⟨Tryz.prog,Q,g,N⟩ (.code (.region id ops.toArray true)::k) s:=W_D (C:=⟨Tryz.prog,Q,g,N⟩) Ty.ok Ty.mixed an fs bs rs ms [] [] (s.up fs bs rs ms fr bx rw mp) hg h (zgx 99 _ hk)
theorem NR (an:List An)(fs bs rs:List Nat)(fr:List (Nat×AV)){gs:List Prop}(hg:HL gs)(hk:Wk ⟨Tryz.prog,Q,g,N⟩ (flt 99 k) (s.uf fs bs rs fr))(h:Dm.outL (Dm.runT Ty.τ Tryz.prog N false ops an fs bs rs [] [] [] s)=some (gs,s.uf fs bs rs fr,Dm.outR (Dm.runT Ty.τ Tryz.prog N false ops an fs bs rs [] [] [] s)):=by kernel_rfl):Wk ⟨Tryz.prog,Q,g,N⟩ (.code (.region id ops.toArray false)::k) s:=VR an fs bs rs [] fr [] [] [] hg hk h
theorem LR (an:List An){gs:List Prop}(hg:HL gs)(hk:Wk ⟨Tryz.prog,Q,g,N⟩ (flt 99 k) (nxt (runU Ty.τ Tryz.prog N false ops an s)))(h:outG (runU Ty.τ Tryz.prog N false ops an s)=some (gs,Dm.outR (runU Ty.τ Tryz.prog N false ops an s)):=by kernel_rfl):Wk ⟨Tryz.prog,Q,g,N⟩ (.code (.region id ops.toArray false)::k) s:=L_R (C:=⟨Tryz.prog,Q,g,N⟩) Ty.ok an hg h (zgx 99 _ hk)
theorem LD (an:List An){gs:List Prop}(hg:HL gs)(hk:Wk ⟨Tryz.prog,Q,g,N⟩ (flt 99 k) (nxt (runU Ty.τ Tryz.prog N true ops an s)))(h:outG (runU Ty.τ Tryz.prog N true ops an s)=some (gs,Dm.outR (runU Ty.τ Tryz.prog N true ops an s)):=by kernel_rfl):Wk ⟨Tryz.prog,Q,g,N⟩ (.code (.region id ops.toArray true)::k) s:=L_D (C:=⟨Tryz.prog,Q,g,N⟩) Ty.ok Ty.mixed an hg h (zgx 99 _ hk)
theorem RJ {an:List An}{gs:List Prop}(j:J an gs)(hk:Wk ⟨Tryz.prog,Q,g,N⟩ (flt 99 k) (nxt (runU Ty.τ Tryz.prog N false ops an s)))(h:outG (runU Ty.τ Tryz.prog N false ops an s)=some (gs,Dm.outR (runU Ty.τ Tryz.prog N false ops an s)):=by kernel_rfl):Wk ⟨Tryz.prog,Q,g,N⟩ (.code (.region id ops.toArray false)::k) s:=LR an j hk h
theorem DJ {an:List An}{gs:List Prop}(j:J an gs)(hk:Wk ⟨Tryz.prog,Q,g,N⟩ (flt 99 k) (nxt (runU Ty.τ Tryz.prog N true ops an s)))(h:outG (runU Ty.τ Tryz.prog N true ops an s)=some (gs,Dm.outR (runU Ty.τ Tryz.prog N true ops an s)):=by kernel_rfl):Wk ⟨Tryz.prog,Q,g,N⟩ (.code (.region id ops.toArray true)::k) s:=LD an j hk h
theorem LR0 (hk:Wk ⟨Tryz.prog,Q,g,N⟩ (flt 99 k) (nxt (runU Ty.τ Tryz.prog N false ops [] s)))(h:outG (runU Ty.τ Tryz.prog N false ops [] s)=some ([],Dm.outR (runU Ty.τ Tryz.prog N false ops [] s)):=by kernel_rfl):Wk ⟨Tryz.prog,Q,g,N⟩ (.code (.region id ops.toArray false)::k) s:=LR [] .nil hk h
theorem LD0 (hk:Wk ⟨Tryz.prog,Q,g,N⟩ (flt 99 k) (nxt (runU Ty.τ Tryz.prog N true ops [] s)))(h:outG (runU Ty.τ Tryz.prog N true ops [] s)=some ([],Dm.outR (runU Ty.τ Tryz.prog N true ops [] s)):=by kernel_rfl):Wk ⟨Tryz.prog,Q,g,N⟩ (.code (.region id ops.toArray true)::k) s:=LD [] .nil hk h
theorem PT {f:FuncId}{fn:Func}{c:Code}(N:Nat)(res:List ResultVar)(ts:List TypeId)(hfn:Tryz.prog.funcs[f]?=some fn){s0 s1:S}{args:List AV}{r:AV} 
    (h:∀ (Q:Exit->Act->World->Prop) (g:Gh),(∀ s,Dm.Ends Ty.τ res ts r s1 s->Fin ⟨Tryz.prog,Q,g,N⟩ s)->Wk ⟨Tryz.prog,Q,g,N⟩ (flt 99 [.code c]) ⟨zok 0 args,s0.bx,s0.rw,s0.mp,s0.ar⟩)
    (hbody:fn.body=some c:=by rfl)(hN:fn.ntmps=N:=by rfl)(hres:fn.results.toList=res:=by rfl)(hlen:Nat.ble args.length N=true:=by rfl)(h0:hiS s0=true:=by rfl)(hf1:s1.fr=[]:=by rfl)
    (hname:(fn.name == "runtime.NumGoroutine")=false:=by kernel_rfl):Pe Tryz.prog f s0 args r s1:=PeM N res ts Ty.ok hfn h hbody hN hres hlen h0 hf1 hname
end
def sm {α β γ:Type}(x:α⊕β)(f:α->γ)(g:β->γ):γ:=match x with
  | .inl y=>f y
  | .inr y=>g y
theorem sm_l {α β γ:Type}{y:α}{f:α->γ}{g:β->γ}{r:γ}(h:sm (.inl y) f g=r):f y=r:=h
theorem sm_r {α β γ:Type}{y:β}{f:α->γ}{g:β->γ}{r:γ}(h:sm (.inr y) f g=r):g y=r:=h
end Go.Proofs.YtgcndnddgajekaaGreatDoor
