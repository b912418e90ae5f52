/- The machine over the model's code, part EmI. -/
import Derived.Shelf.Spec.SlicesInsertGrow
import Derived.Test.YtdjlninhfndjfaaEmD
set_option linter.unusedVariables false
set_option linter.unusedSimpArgs false
set_option linter.unusedSectionVars false
namespace Go.Dm
open Go
theorem copy_row {P : Program} (w : World) (dT sT ty elem : TypeId) (g o dLen dCap : Nat) (a : Addr) (sLen sCap : Nat) (cur : Array Value) (t : TypeId) (cs : List Value) (sz : Nat)
  (hu : P.underlying dT = some (.slice elem)) (hs : (P.info? elem).map (·.size) = some sz)
  (hg : w.heap[g]? = some (.cells cur t (0, 0))) (hn : cs.length = Nat.min sLen dLen * sz)
  (hsrc : ∀ j v, cs[j]? = some v → w.cell? (a.add j) = some v) (hfit : o + cs.length ≤ cur.size) (h1 : ∀ v ∈ cs, v.oneCell' = true) :
  (Builtin.copy_ #[dT, sT] ty #[.slice (some ⟨g, o, none⟩) dLen dCap, .slice (some a) sLen sCap]).run P w =
   .ok (goInt (Nat.min sLen dLen)) (w.setRow g (cur.toList.take o ++ cs ++ cur.toList.drop (o + cs.length)).toArray) := by
 have hl := run_loadCells_list (P := P) w a cs hsrc
 have hst := run_storeCells_at P g o t cs 0 cur w hg (by simpa using hfit) h1
 cases hq : P.info? elem with
 | none => simp [hq] at hs
 | some i =>
  have hi : i.size = sz := by simpa [hq] using hs
  simp [Builtin.copy_, run_underlying hu, Builtin.lenOf, Builtin.firstCells, sizeOf, typeInfo, hq, hi, ← hn, hl, hst]
structure InsW (P : Program) (f fo t : Nat) (sz : Nat) : Prop where
 shift : ∀ (b n c i : Nat) (va : Option Addr) (m vc : Nat) (w W1 W2 : World), i < n → 0 < m → n + m ≤ c → c ≤ 9223372036854775807 →
  (∀ lb cb, (callFunc fo #[.slice va m vc, .slice (some ⟨b, (i + m) * sz, none⟩) lb cb]).run P w = .ok (.value (.bool false)) w) →
  (∀ ty dc sc, (Builtin.copy_ #[t, t] ty #[.slice (some ⟨b, (i + m) * sz, none⟩) (n + m - (i + m)) dc, .slice (some ⟨b, i * sz, none⟩) (n + m - i) sc]).run P w.drew = .ok (goInt ((n : Int) - i)) W1) →
  (∀ ty dc, (Builtin.copy_ #[t, t] ty #[.slice (some ⟨b, i * sz, none⟩) (n + m - i) dc, .slice va m vc]).run P W1 = .ok (goInt m) W2) →
  Calls P f #[.slice (some ⟨b, 0, none⟩) n c, .int .i64 i, .slice va m vc] w fun e w' => e = .returned (.slice (some ⟨b, 0, none⟩) (n + m) c) ∧ w' = W2
 fin : ∀ (a : Option Addr) (n c : Nat) (va : Option Addr) (m vc : Nat) (w W1 : World) (v1 : Value), 0 < m →
  (∀ ty, (Builtin.append_ #[t, t] ty #[.slice a n c, .slice va m vc]).run P w = .ok v1 W1) → (∃ b k l, v1 = .slice b k l) →
  Calls P f #[.slice a n c, .int .i64 n, .slice va m vc] w fun e w' => e = .returned v1 ∧ w' = W1
 grow : ∀ (b n c i g G : Nat) (va : Option Addr) (m vc : Nat) (w W1 W2 W3 : World), i < n → 0 < m → c < n + m → n ≤ c → n + m ≤ 140737488351232 → n + m ≤ G → G ≤ 9223372036854775807 →
  (∀ ty, (Builtin.append_ #[t, 3] ty #[.slice (some ⟨b, 0, none⟩) i c, .int .i64 ((n : Int) + (m : Int) - (i : Int))]).run P w = .ok (.slice (some ⟨g, 0, none⟩) (n + m) G) W1) →
  (∀ ty dc, (Builtin.copy_ #[t, t] ty #[.slice (some ⟨g, i * sz, none⟩) (n + m - i) dc, .slice va m vc]).run P W1 = .ok (goInt m) W2) →
  (∀ ty dc sc, (Builtin.copy_ #[t, t] ty #[.slice (some ⟨g, (i + m) * sz, none⟩) (n + m - (i + m)) dc, .slice (some ⟨b, i * sz, none⟩) (n - i) sc]).run P W2.drew = .ok (goInt ((n : Int) - i)) W3) →
  Calls P f #[.slice (some ⟨b, 0, none⟩) n c, .int .i64 i, .slice va m vc] w fun e w' => e = .returned (.slice (some ⟨g, 0, none⟩) (n + m) G) ∧ w' = W3
def LR (M : Mem) (vs : List Value) (us : List AV) : Prop := vs.length = us.length ∧ ∀ (j : Nat) (u : AV), us[j]? = some u → ∃ v, vs[j]? = some v ∧ RelP M v u
theorem LR.append {M : Mem} {a b : List Value} {x y : List AV} (h : LR M a x) (h' : LR M b y) : LR M (a ++ b) (x ++ y) := by
 refine ⟨by rw [List.length_append, List.length_append, h.1, h'.1], fun j u hj => ?_⟩
 rw [List.getElem?_append] at hj
 split at hj
 ·rename_i hlt
  obtain ⟨v, hv, hr⟩ := h.2 j u hj
  exact ⟨v, by rw [List.getElem?_append_left (by rw [h.1]; exact hlt)]; exact hv, hr⟩
 ·rename_i hge
  obtain ⟨v, hv, hr⟩ := h'.2 _ u hj
  exact ⟨v, by rw [List.getElem?_append_right (by rw [h.1]; omega), h.1]; exact hv, hr⟩
theorem LR.take {M : Mem} {a : List Value} {x : List AV} (h : LR M a x) (n : Nat) : LR M (a.take n) (x.take n) := by
 refine ⟨by simp [h.1], fun j u hj => ?_⟩
 rw [List.getElem?_take] at hj
 split at hj
 ·rename_i hlt
  obtain ⟨v, hv, hr⟩ := h.2 j u hj
  exact ⟨v, by rw [List.getElem?_take, if_pos hlt]; exact hv, hr⟩
 ·cases hj
theorem LR.drop {M : Mem} {a : List Value} {x : List AV} (h : LR M a x) (n : Nat) : LR M (a.drop n) (x.drop n) := by
 refine ⟨by simp [h.1], fun j u hj => ?_⟩
 rw [List.getElem?_drop] at hj
 obtain ⟨v, hv, hr⟩ := h.2 _ u hj
 exact ⟨v, by rw [List.getElem?_drop]; exact hv, hr⟩
theorem LR.one {M : Mem} {a : List Value} {x : List AV} (h : LR M a x) : ∀ v ∈ a, v.oneCell' = true := by
 intro v hv
 obtain ⟨j, hj⟩ := List.getElem?_of_mem hv
 have hlt : j < x.length := by rw [← h.1]; exact (List.getElem?_eq_some_iff.1 hj).1
 obtain ⟨v', hv', hr⟩ := h.2 j _ (List.getElem?_eq_getElem hlt)
 rw [hj] at hv'; cases hv'
 exact hr.one.1
theorem LR.of {M : Mem} {cur : List Value} {x : List AV} (hl : x.length ≤ cur.length) (h : ∀ (j : Nat) (u : AV), x[j]? = some u → ∃ v, cur[j]? = some v ∧ RelP M v u) : LR M (cur.take x.length) x := by
 refine ⟨by rw [List.length_take]; omega, fun j u hj => ?_⟩
 obtain ⟨v, hv, hr⟩ := h j u hj
 have : j < x.length := (List.getElem?_eq_some_iff.1 hj).1
 exact ⟨v, by rw [List.getElem?_take, if_pos this]; exact hv, hr⟩
variable {g : Gh} {N : Nat} {M : Mem} {E : Env} {s : S} {tmps : Array Value} {w : World}
theorem shape_of {w : World} {b : Nat} {vs : Array Value} {e : TypeId} {fr : Nat × Nat} (h : w.heap[b]? = some (.cells vs e fr)) : w.shape? b = some (e, vs.size) := by
 simp [World.shape?, h]
theorem frozen_of {w : World} {b j : Nat} {vs : Array Value} {e : TypeId} (h : w.heap[b]? = some (.cells vs e (0, 0))) : w.frozen? ⟨b, j, none⟩ = false := by
 simp [World.frozen?, h]
theorem setRow_get {w : World} {b : Nat} {vs ws : Array Value} {e : TypeId} {fr : Nat × Nat} (h : w.heap[b]? = some (.cells vs e fr)) : (w.setRow b ws).heap[b]? = some (.cells ws e fr) := by
 have hlt : b < w.heap.size := (Array.getElem?_eq_some_iff.1 h).1
 have hv : w.heap[b] = .cells vs e fr := (Array.getElem?_eq_some_iff.1 h).2
 simp only [World.setRow]
 rw [Array.getElem?_eq_getElem (by simpa using hlt)]
 simp [Array.getElem_modify, hv]
theorem Env.lw_of {E E' : Env} (h : E.up E') (kb kr km ka : Nat → Bool) : E.lw (E'.keep kb kr km ka) := by
 have hk := Env.keep_le E' kb kr km ka
 refine ⟨fun i b b' h1 h2 => ?_, fun i q q' h1 h2 => ?_, fun i r r' h1 h2 => ?_, fun i bs bs' h1 h2 => ?_⟩
 ·have a := h.le.bx i b h1
  have c := hk.bx i b' h2
  rw [a] at c; cases c; rfl
 ·obtain ⟨q1, a1, a2, a3⟩ := h.le.rw i q h1
  have c : E'.rw i = some q' := by
   simp only [Env.keep] at h2
   split at h2
   ·exact h2
   ·cases h2
  rw [a1] at c; cases c
  exact ⟨a2, a3⟩
 ·have a := h.le.mp i r h1
  have c := hk.mp i r' h2
  rw [a] at c; cases c; rfl
 ·obtain ⟨l, a⟩ := h.le.ar i bs h1
  have c : E'.ar i = some bs' := by
   simp only [Env.keep] at h2
   split at h2
   ·exact h2
   ·cases h2
  rw [a] at c; cases c
  exact ⟨l, rfl⟩
variable {τ : TyTab}
end Go.Dm
