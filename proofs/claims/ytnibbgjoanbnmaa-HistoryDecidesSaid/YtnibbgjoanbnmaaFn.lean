/- The functions of this seat have bodies. Written by a program (mk.py). -/
import Derived.Test.YtnibbgjoanbnmaaTy
namespace Go.Proofs.Ytnibbgjoanbnmaa
open Go Go.Dm
namespace Fn
theorem b3 : Bodied Try.prog 3 := Bodied_of Try.func3 rfl (by kernel_rfl)
theorem b4 : Bodied Try.prog 4 := Bodied_of Try.func4 rfl (by kernel_rfl)
theorem b5 : Bodied Try.prog 5 := Bodied_of Try.func5 rfl (by kernel_rfl)
theorem b6 : Bodied Try.prog 6 := Bodied_of Try.func6 rfl (by kernel_rfl)
theorem b7 : Bodied Try.prog 7 := Bodied_of Try.func7 rfl (by kernel_rfl)
theorem b8 : Bodied Try.prog 8 := Bodied_of Try.func8 rfl (by kernel_rfl)
theorem b9 : Bodied Try.prog 9 := Bodied_of Try.func9 rfl (by kernel_rfl)
theorem b10 : Bodied Try.prog 10 := Bodied_of Try.func10 rfl (by kernel_rfl)
theorem b11 : Bodied Try.prog 11 := Bodied_of Try.func11 rfl (by kernel_rfl)
theorem b12 : Bodied Try.prog 12 := Bodied_of Try.func12 rfl (by kernel_rfl)
theorem b13 : Bodied Try.prog 13 := Bodied_of Try.func13 rfl (by kernel_rfl)
theorem b14 : Bodied Try.prog 14 := Bodied_of Try.func14 rfl (by kernel_rfl)
theorem b15 : Bodied Try.prog 15 := Bodied_of Try.func15 rfl (by kernel_rfl)
theorem b16 : Bodied Try.prog 16 := Bodied_of Try.func16 rfl (by kernel_rfl)
theorem b17 : Bodied Try.prog 17 := Bodied_of Try.func17 rfl (by kernel_rfl)
theorem b18 : Bodied Try.prog 18 := Bodied_of Try.func18 rfl (by kernel_rfl)
theorem b19 : Bodied Try.prog 19 := Bodied_of Try.func19 rfl (by kernel_rfl)
theorem b20 : Bodied Try.prog 20 := Bodied_of Try.func20 rfl (by kernel_rfl)
theorem b21 : Bodied Try.prog 21 := Bodied_of Try.func21 rfl (by kernel_rfl)
theorem b22 : Bodied Try.prog 22 := Bodied_of Try.func22 rfl (by kernel_rfl)
theorem b23 : Bodied Try.prog 23 := Bodied_of Try.func23 rfl (by kernel_rfl)
theorem b24 : Bodied Try.prog 24 := Bodied_of Try.func24 rfl (by kernel_rfl)
theorem b25 : Bodied Try.prog 25 := Bodied_of Try.func25 rfl (by kernel_rfl)
theorem b26 : Bodied Try.prog 26 := Bodied_of Try.func26 rfl (by kernel_rfl)
theorem b27 : Bodied Try.prog 27 := Bodied_of Try.func27 rfl (by kernel_rfl)
theorem b28 : Bodied Try.prog 28 := Bodied_of Try.func28 rfl (by kernel_rfl)
theorem b29 : Bodied Try.prog 29 := Bodied_of Try.func29 rfl (by kernel_rfl)
theorem b30 : Bodied Try.prog 30 := Bodied_of Try.func30 rfl (by kernel_rfl)
theorem b31 : Bodied Try.prog 31 := Bodied_of Try.func31 rfl (by kernel_rfl)
theorem b32 : Bodied Try.prog 32 := Bodied_of Try.func32 rfl (by kernel_rfl)
theorem b33 : Bodied Try.prog 33 := Bodied_of Try.func33 rfl (by kernel_rfl)
theorem b34 : Bodied Try.prog 34 := Bodied_of Try.func34 rfl (by kernel_rfl)
theorem b35 : Bodied Try.prog 35 := Bodied_of Try.func35 rfl (by kernel_rfl)
theorem b36 : Bodied Try.prog 36 := Bodied_of Try.func36 rfl (by kernel_rfl)
theorem b37 : Bodied Try.prog 37 := Bodied_of Try.func37 rfl (by kernel_rfl)
theorem b38 : Bodied Try.prog 38 := Bodied_of Try.func38 rfl (by kernel_rfl)
theorem b39 : Bodied Try.prog 39 := Bodied_of Try.func39 rfl (by kernel_rfl)
theorem b40 : Bodied Try.prog 40 := Bodied_of Try.func40 rfl (by kernel_rfl)
theorem b41 : Bodied Try.prog 41 := Bodied_of Try.func41 rfl (by kernel_rfl)
theorem b42 : Bodied Try.prog 42 := Bodied_of Try.func42 rfl (by kernel_rfl)
theorem b43 : Bodied Try.prog 43 := Bodied_of Try.func43 rfl (by kernel_rfl)
theorem b44 : Bodied Try.prog 44 := Bodied_of Try.func44 rfl (by kernel_rfl)
theorem b45 : Bodied Try.prog 45 := Bodied_of Try.func45 rfl (by kernel_rfl)
theorem b46 : Bodied Try.prog 46 := Bodied_of Try.func46 rfl (by kernel_rfl)
theorem b47 : Bodied Try.prog 47 := Bodied_of Try.func47 rfl (by kernel_rfl)
theorem b48 : Bodied Try.prog 48 := Bodied_of Try.func48 rfl (by kernel_rfl)
theorem b49 : Bodied Try.prog 49 := Bodied_of Try.func49 rfl (by kernel_rfl)
theorem b50 : Bodied Try.prog 50 := Bodied_of Try.func50 rfl (by kernel_rfl)
theorem b51 : Bodied Try.prog 51 := Bodied_of Try.func51 rfl (by kernel_rfl)
theorem b52 : Bodied Try.prog 52 := Bodied_of Try.func52 rfl (by kernel_rfl)
theorem b53 : Bodied Try.prog 53 := Bodied_of Try.func53 rfl (by kernel_rfl)
theorem b54 : Bodied Try.prog 54 := Bodied_of Try.func54 rfl (by kernel_rfl)
theorem b55 : Bodied Try.prog 55 := Bodied_of Try.func55 rfl (by kernel_rfl)
theorem b56 : Bodied Try.prog 56 := Bodied_of Try.func56 rfl (by kernel_rfl)
theorem b57 : Bodied Try.prog 57 := Bodied_of Try.func57 rfl (by kernel_rfl)
theorem b58 : Bodied Try.prog 58 := Bodied_of Try.func58 rfl (by kernel_rfl)
theorem b59 : Bodied Try.prog 59 := Bodied_of Try.func59 rfl (by kernel_rfl)
theorem b60 : Bodied Try.prog 60 := Bodied_of Try.func60 rfl (by kernel_rfl)
theorem b61 : Bodied Try.prog 61 := Bodied_of Try.func61 rfl (by kernel_rfl)
theorem b62 : Bodied Try.prog 62 := Bodied_of Try.func62 rfl (by kernel_rfl)
theorem b63 : Bodied Try.prog 63 := Bodied_of Try.func63 rfl (by kernel_rfl)
theorem b64 : Bodied Try.prog 64 := Bodied_of Try.func64 rfl (by kernel_rfl)
theorem b65 : Bodied Try.prog 65 := Bodied_of Try.func65 rfl (by kernel_rfl)
theorem b66 : Bodied Try.prog 66 := Bodied_of Try.func66 rfl (by kernel_rfl)
theorem b67 : Bodied Try.prog 67 := Bodied_of Try.func67 rfl (by kernel_rfl)
theorem b68 : Bodied Try.prog 68 := Bodied_of Try.func68 rfl (by kernel_rfl)
theorem b69 : Bodied Try.prog 69 := Bodied_of Try.func69 rfl (by kernel_rfl)
theorem b70 : Bodied Try.prog 70 := Bodied_of Try.func70 rfl (by kernel_rfl)
theorem b71 : Bodied Try.prog 71 := Bodied_of Try.func71 rfl (by kernel_rfl)
end Fn
section
variable {Q : Exit → Act → World → Prop} {g : Gh} {N : Nat} {k : List It} {s : S} {id : Nat} {ops : List Oper}
theorem NRL {α : Type} (e : α) (f : α → List (Nat × AV) × List (Nat × List AV) × List (Nat × Rw) × List (Nat × List (AV × AV))) (an : List An) (fs bs rs ms : List Nat) {gs : List Prop} (hg : HL gs) (hk : ∀ x, x = e → Wk ⟨Try.prog, Q, g, N⟩ (flt 99 k) (s.upT fs bs rs ms (f x))) (h : Dm.outL (Dm.runT Ty.τ Try.prog N false ops an fs bs rs ms [] [] s) = some (gs, s.upT fs bs rs ms (f e), Dm.outR (Dm.runT Ty.τ Try.prog N false ops an fs bs rs ms [] [] s)) := by kernel_rfl) : Wk ⟨Try.prog, Q, g, N⟩ (.code (.region id ops.toArray false) :: k) s := W_R (C := ⟨Try.prog, Q, g, N⟩) Ty.ok an fs bs rs ms [] [] (s.upT fs bs rs ms (f e)) hg h (flt_ok 99 _ (hk e rfl))
theorem NDL {α : Type} (e : α) (f : α → List (Nat × AV) × List (Nat × List AV) × List (Nat × Rw) × List (Nat × List (AV × AV))) (an : List An) (fs bs rs ms : List Nat) {gs : List Prop} (hg : HL gs) (hk : ∀ x, x = e → Wk ⟨Try.prog, Q, g, N⟩ (flt 99 k) (s.upT fs bs rs ms (f x))) (h : Dm.outL (Dm.runT Ty.τ Try.prog N true ops an fs bs rs ms [] [] s) = some (gs, s.upT fs bs rs ms (f e), Dm.outR (Dm.runT Ty.τ Try.prog N true ops an fs bs rs ms [] [] s)) := by kernel_rfl) : Wk ⟨Try.prog, Q, g, N⟩ (.code (.region id ops.toArray true) :: k) s := W_D (C := ⟨Try.prog, Q, g, N⟩) Ty.ok Ty.mixed an fs bs rs ms [] [] (s.upT fs bs rs ms (f e)) hg h (flt_ok 99 _ (hk e rfl))
theorem VR (an : List An) (fs bs rs ms : List Nat) (fr : List (Nat × AV)) (bx : List (Nat × List AV)) (rw : List (Nat × Rw)) (mp : List (Nat × List (AV × AV))) {gs : List Prop} (hg : HL gs) (hk : Wk ⟨Try.prog, Q, g, N⟩ (flt 99 k) (s.up fs bs rs ms fr bx rw mp)) (h : Dm.outL (Dm.runT Ty.τ Try.prog N false ops an fs bs rs ms [] [] s) = some (gs, s.up fs bs rs ms fr bx rw mp, Dm.outR (Dm.runT Ty.τ Try.prog N false ops an fs bs rs ms [] [] s)) := by kernel_rfl) : Wk ⟨Try.prog, Q, g, N⟩ (.code (.region id ops.toArray false) :: k) s := W_R (C := ⟨Try.prog, Q, g, N⟩) Ty.ok an fs bs rs ms [] [] (s.up fs bs rs ms fr bx rw mp) hg h (flt_ok 99 _ hk)
theorem VD (an : List An) (fs bs rs ms : List Nat) (fr : List (Nat × AV)) (bx : List (Nat × List AV)) (rw : List (Nat × Rw)) (mp : List (Nat × List (AV × AV))) {gs : List Prop} (hg : HL gs) (hk : Wk ⟨Try.prog, Q, g, N⟩ (flt 99 k) (s.up fs bs rs ms fr bx rw mp)) (h : Dm.outL (Dm.runT Ty.τ Try.prog N true ops an fs bs rs ms [] [] s) = some (gs, s.up fs bs rs ms fr bx rw mp, Dm.outR (Dm.runT Ty.τ Try.prog N true ops an fs bs rs ms [] [] s)) := by kernel_rfl) : Wk ⟨Try.prog, Q, g, N⟩ (.code (.region id ops.toArray true) :: k) s := W_D (C := ⟨Try.prog, Q, g, N⟩) Ty.ok Ty.mixed an fs bs rs ms [] [] (s.up fs bs rs ms fr bx rw mp) hg h (flt_ok 99 _ hk)
theorem NR (an : List An) (fs bs rs : List Nat) (fr : List (Nat × AV)) {gs : List Prop} (hg : HL gs) (hk : Wk ⟨Try.prog, Q, g, N⟩ (flt 99 k) (s.uf fs bs rs fr)) (h : Dm.outL (Dm.runT Ty.τ Try.prog N false ops an fs bs rs [] [] [] s) = some (gs, s.uf fs bs rs fr, Dm.outR (Dm.runT Ty.τ Try.prog N false ops an fs bs rs [] [] [] s)) := by kernel_rfl) : Wk ⟨Try.prog, Q, g, N⟩ (.code (.region id ops.toArray false) :: k) s := VR an fs bs rs [] fr [] [] [] hg hk h
theorem ND (an : List An) (fs bs rs : List Nat) (fr : List (Nat × AV)) {gs : List Prop} (hg : HL gs) (hk : Wk ⟨Try.prog, Q, g, N⟩ (flt 99 k) (s.uf fs bs rs fr)) (h : Dm.outL (Dm.runT Ty.τ Try.prog N true ops an fs bs rs [] [] [] s) = some (gs, s.uf fs bs rs fr, Dm.outR (Dm.runT Ty.τ Try.prog N true ops an fs bs rs [] [] [] s)) := by kernel_rfl) : Wk ⟨Try.prog, Q, g, N⟩ (.code (.region id ops.toArray true) :: k) s := VD an fs bs rs [] fr [] [] [] hg hk h
theorem NAR (an : List An) (fs bs rs ms aa : List Nat) (t : S) {gs : List Prop} (hg : HL gs) (hk : Wk ⟨Try.prog, Q, g, N⟩ (flt 99 k) t) (h : Dm.outL (Dm.runT Ty.τ Try.prog N false ops an fs bs rs ms aa [] s) = some (gs, t, Dm.outR (Dm.runT Ty.τ Try.prog N false ops an fs bs rs ms aa [] s)) := by kernel_rfl) : Wk ⟨Try.prog, Q, g, N⟩ (.code (.region id ops.toArray false) :: k) s := W_R (C := ⟨Try.prog, Q, g, N⟩) Ty.ok an fs bs rs ms aa [] t hg h (flt_ok 99 _ hk)
theorem NARL {α : Type} (e : α) (f : α → S) (an : List An) (fs bs rs ms aa : List Nat) {gs : List Prop} (hg : HL gs) (hk : ∀ x, x = e → Wk ⟨Try.prog, Q, g, N⟩ (flt 99 k) (f x)) (h : Dm.outL (Dm.runT Ty.τ Try.prog N false ops an fs bs rs ms aa [] s) = some (gs, f e, Dm.outR (Dm.runT Ty.τ Try.prog N false ops an fs bs rs ms aa [] s)) := by kernel_rfl) : Wk ⟨Try.prog, Q, g, N⟩ (.code (.region id ops.toArray false) :: k) s := W_R (C := ⟨Try.prog, Q, g, N⟩) Ty.ok an fs bs rs ms aa [] (f e) hg h (flt_ok 99 _ (hk e rfl))
theorem NAD (an : List An) (fs bs rs ms aa : List Nat) (t : S) {gs : List Prop} (hg : HL gs) (hk : Wk ⟨Try.prog, Q, g, N⟩ (flt 99 k) t) (h : Dm.outL (Dm.runT Ty.τ Try.prog N true ops an fs bs rs ms aa [] s) = some (gs, t, Dm.outR (Dm.runT Ty.τ Try.prog N true ops an fs bs rs ms aa [] s)) := by kernel_rfl) : Wk ⟨Try.prog, Q, g, N⟩ (.code (.region id ops.toArray true) :: k) s := W_D (C := ⟨Try.prog, Q, g, N⟩) Ty.ok Ty.mixed an fs bs rs ms aa [] t hg h (flt_ok 99 _ hk)
theorem NADL {α : Type} (e : α) (f : α → S) (an : List An) (fs bs rs ms aa : List Nat) {gs : List Prop} (hg : HL gs) (hk : ∀ x, x = e → Wk ⟨Try.prog, Q, g, N⟩ (flt 99 k) (f x)) (h : Dm.outL (Dm.runT Ty.τ Try.prog N true ops an fs bs rs ms aa [] s) = some (gs, f e, Dm.outR (Dm.runT Ty.τ Try.prog N true ops an fs bs rs ms aa [] s)) := by kernel_rfl) : Wk ⟨Try.prog, Q, g, N⟩ (.code (.region id ops.toArray true) :: k) s := W_D (C := ⟨Try.prog, Q, g, N⟩) Ty.ok Ty.mixed an fs bs rs ms aa [] (f e) hg h (flt_ok 99 _ (hk e rfl))
theorem NK {drw : Bool} (K : List (Nat × Bool)) (an : List An) (fs bs rs ms : List Nat) (t : S) {gs : List Prop} (hg : HL gs) (hk : Wk ⟨Try.prog, Q, g, N⟩ (flt 99 k) t) (h : Dm.outL (Dm.runTK Ty.τ Try.prog N K drw ops an fs bs rs ms [] [] s) = some (gs, t, Dm.outR (Dm.runTK Ty.τ Try.prog N K drw ops an fs bs rs ms [] [] s)) := by kernel_rfl) : Wk ⟨Try.prog, Q, g, N⟩ (.code (.region id ops.toArray drw) :: k) s := Wk_runK (C := ⟨Try.prog, Q, g, N⟩) Ty.ok Ty.mixed h hg.all (flt_ok 99 _ hk)
theorem LR (an : List An) {gs : List Prop} (hg : HL gs) (hk : Wk ⟨Try.prog, Q, g, N⟩ (flt 99 k) (nxt (runU Ty.τ Try.prog N false ops an s))) (h : outG (runU Ty.τ Try.prog N false ops an s) = some (gs, Dm.outR (runU Ty.τ Try.prog N false ops an s)) := by kernel_rfl) : Wk ⟨Try.prog, Q, g, N⟩ (.code (.region id ops.toArray false) :: k) s := L_R (C := ⟨Try.prog, Q, g, N⟩) Ty.ok an hg h (flt_ok 99 _ hk)
theorem LD (an : List An) {gs : List Prop} (hg : HL gs) (hk : Wk ⟨Try.prog, Q, g, N⟩ (flt 99 k) (nxt (runU Ty.τ Try.prog N true ops an s))) (h : outG (runU Ty.τ Try.prog N true ops an s) = some (gs, Dm.outR (runU Ty.τ Try.prog N true ops an s)) := by kernel_rfl) : Wk ⟨Try.prog, Q, g, N⟩ (.code (.region id ops.toArray true) :: k) s := L_D (C := ⟨Try.prog, Q, g, N⟩) Ty.ok Ty.mixed an hg h (flt_ok 99 _ hk)
theorem RJ {an : List An} {gs : List Prop} (j : J an gs) (hk : Wk ⟨Try.prog, Q, g, N⟩ (flt 99 k) (nxt (runU Ty.τ Try.prog N false ops an s))) (h : outG (runU Ty.τ Try.prog N false ops an s) = some (gs, Dm.outR (runU Ty.τ Try.prog N false ops an s)) := by kernel_rfl) : Wk ⟨Try.prog, Q, g, N⟩ (.code (.region id ops.toArray false) :: k) s := LR an j hk h
theorem DJ {an : List An} {gs : List Prop} (j : J an gs) (hk : Wk ⟨Try.prog, Q, g, N⟩ (flt 99 k) (nxt (runU Ty.τ Try.prog N true ops an s))) (h : outG (runU Ty.τ Try.prog N true ops an s) = some (gs, Dm.outR (runU Ty.τ Try.prog N true ops an s)) := by kernel_rfl) : Wk ⟨Try.prog, Q, g, N⟩ (.code (.region id ops.toArray true) :: k) s := LD an j hk h
theorem LR0 (hk : Wk ⟨Try.prog, Q, g, N⟩ (flt 99 k) (nxt (runU Ty.τ Try.prog N false ops [] s))) (h : outG (runU Ty.τ Try.prog N false ops [] s) = some ([], Dm.outR (runU Ty.τ Try.prog N false ops [] s)) := by kernel_rfl) : Wk ⟨Try.prog, Q, g, N⟩ (.code (.region id ops.toArray false) :: k) s := LR [] .nil hk h
theorem LD0 (hk : Wk ⟨Try.prog, Q, g, N⟩ (flt 99 k) (nxt (runU Ty.τ Try.prog N true ops [] s))) (h : outG (runU Ty.τ Try.prog N true ops [] s) = some ([], Dm.outR (runU Ty.τ Try.prog N true ops [] s)) := by kernel_rfl) : Wk ⟨Try.prog, Q, g, N⟩ (.code (.region id ops.toArray true) :: k) s := LD [] .nil hk h
theorem PT {f : FuncId} {fn : Func} {c : Code} (N : Nat) (res : List ResultVar) (ts : List TypeId) (hfn : Try.prog.funcs[f]? = some fn) {s0 s1 : S} {args : List AV} {r : AV} 
    (h : ∀ (Q : Exit → Act → World → Prop) (g : Gh), (∀ s, Dm.Ends Ty.τ res ts r s1 s → Fin ⟨Try.prog, Q, g, N⟩ s) → Wk ⟨Try.prog, Q, g, N⟩ (flt 99 [.code c]) ⟨argSlots 0 args, s0.bx, s0.rw, s0.mp, s0.ar⟩)
    (hbody : fn.body = some c := by rfl) (hN : fn.ntmps = N := by rfl) (hres : fn.results.toList = res := by rfl) (hlen : Nat.ble args.length N = true := by rfl) (h0 : hiS s0 = true := by rfl) (hf1 : s1.fr = [] := by rfl)
    (hname : (fn.name == "runtime.NumGoroutine") = false := by kernel_rfl) : Pe Try.prog f s0 args r s1 := PeM N res ts Ty.ok hfn h hbody hN hres hlen h0 hf1 hname
end
def sm {α β γ : Type} (x : α ⊕ β) (f : α → γ) (g : β → γ) : γ := match x with
  | .inl y => f y
  | .inr y => g y
theorem sm_l {α β γ : Type} {y : α} {f : α → γ} {g : β → γ} {r : γ} (h : sm (.inl y) f g = r) : f y = r := h
theorem sm_r {α β γ : Type} {y : β} {f : α → γ} {g : β → γ} {r : γ} (h : sm (.inr y) f g = r) : g y = r := h
end Go.Proofs.Ytnibbgjoanbnmaa
