/- The machine over the model's code, part EmR. -/
import Derived.Test.YtdjlninhfndjfaaEmI
set_option linter.unusedVariables false
set_option linter.unusedSimpArgs false
set_option linter.unusedSectionVars false
namespace Go.Dm
open Go
structure RplW (P : Program) (f fo t : Nat) (sz : Nat) : Prop where
 cut : ∀ (b n c i : Nat) (va : Option Addr) (m vc : Nat) (w W1 W2 : World), i < n → 0 < m → i + m < n → n ≤ c → c ≤ 9223372036854775807 →
  (∀ ty, (Builtin.append_ #[t, t] ty #[.slice (some ⟨b, 0, none⟩) i c, .slice va m vc]).run P w = .ok (.slice (some ⟨b, 0, none⟩) (i + m) c) W1) →
  (∀ ty, (Builtin.clear_ #[t] ty #[.slice (some ⟨b, (i + m) * sz, none⟩) (n - (i + m)) (c - (i + m))]).run P W1 = .ok (.tuple #[]) W2) →
  Calls P f #[.slice (some ⟨b, 0, none⟩) n c, .int .i64 i, .int .i64 n, .slice va m vc] w fun e w' => e = .returned (.slice (some ⟨b, 0, none⟩) (i + m) c) ∧ w' = W2
 fin : ∀ (b n c i : Nat) (va : Option Addr) (m vc : Nat) (w W1 : World) (b1 : Option Addr) (l1 : Nat), i < n → 0 < m → n ≤ i + m → n ≤ c →
  (∀ ty, (Builtin.append_ #[t, t] ty #[.slice (some ⟨b, 0, none⟩) i c, .slice va m vc]).run P w = .ok (.slice b1 (i + m) l1) W1) →
  Calls P f #[.slice (some ⟨b, 0, none⟩) n c, .int .i64 i, .int .i64 n, .slice va m vc] w fun e w' => e = .returned (.slice b1 (i + m) l1) ∧ w' = W1
 grow : ∀ (b n c i j g G : Nat) (va : Option Addr) (m vc : Nat) (w W1 W2 W3 : World), i < j → j < n → 0 < m → c < i + m + (n - j) → n ≤ c → i + m + (n - j) ≤ 140737488351232 → i + m + (n - j) ≤ G → G ≤ 9223372036854775807 →
  (∀ ty, (Builtin.append_ #[t, 3] ty #[.slice (some ⟨b, 0, none⟩) i c, .int .i64 ((i : Int) + (m : Int) + ((n : Int) - (j : Int)) - (i : Int))]).run P w.drew = .ok (.slice (some ⟨g, 0, none⟩) (i + m + (n - j)) G) W1) →
  (∀ ty dc, (Builtin.copy_ #[t, t] ty #[.slice (some ⟨g, i * sz, none⟩) (i + m + (n - j) - i) dc, .slice va m vc]).run P W1 = .ok (goInt m) W2) →
  (∀ ty dc sc, (Builtin.copy_ #[t, t] ty #[.slice (some ⟨g, (i + m) * sz, none⟩) (i + m + (n - j) - (i + m)) dc, .slice (some ⟨b, j * sz, none⟩) (n - j) sc]).run P W2.drew = .ok (goInt ((n : Int) - j)) W3) →
  Calls P f #[.slice (some ⟨b, 0, none⟩) n c, .int .i64 i, .int .i64 j, .slice va m vc] w fun e w' => e = .returned (.slice (some ⟨g, 0, none⟩) (i + m + (n - j)) G) ∧ w' = W3
 fits : ∀ (b n c i j : Nat) (va : Option Addr) (m vc : Nat) (w W1 W2 W3 : World), i < j → j < n → 0 < m → i + m < j → n ≤ c → c ≤ 9223372036854775807 →
  (∀ ty dc, (Builtin.copy_ #[t, t] ty #[.slice (some ⟨b, i * sz, none⟩) (i + m + (n - j) - i) dc, .slice va m vc]).run P w.drew = .ok (goInt m) W1) →
  (∀ ty dc sc, (Builtin.copy_ #[t, t] ty #[.slice (some ⟨b, (i + m) * sz, none⟩) (i + m + (n - j) - (i + m)) dc, .slice (some ⟨b, j * sz, none⟩) (n - j) sc]).run P W1.drew = .ok (goInt ((n : Int) - j)) W2) →
  (∀ ty, (Builtin.clear_ #[t] ty #[.slice (some ⟨b, (i + m + (n - j)) * sz, none⟩) (n - (i + m + (n - j))) (c - (i + m + (n - j)))]).run P W2 = .ok (.tuple #[]) W3) →
  Calls P f #[.slice (some ⟨b, 0, none⟩) n c, .int .i64 i, .int .i64 j, .slice va m vc] w fun e w' => e = .returned (.slice (some ⟨b, 0, none⟩) (i + m + (n - j)) c) ∧ w' = W3
 expand : ∀ (b n c i j : Nat) (va : Option Addr) (m vc : Nat) (w W1 W2 : World), i < j → j < n → 0 < m → j < i + m → i + m + (n - j) ≤ c → c ≤ 9223372036854775807 →
  (∀ lb cb, (callFunc fo #[.slice (some ⟨b, (i + m) * sz, none⟩) lb cb, .slice va m vc]).run P w.drew = .ok (.value (.bool false)) w.drew) →
  (∀ ty dc sc, (Builtin.copy_ #[t, t] ty #[.slice (some ⟨b, (i + m) * sz, none⟩) (i + m + (n - j) - (i + m)) dc, .slice (some ⟨b, j * sz, none⟩) (n - j) sc]).run P w.drew.drew = .ok (goInt ((n : Int) - j)) W1) →
  (∀ ty dc, (Builtin.copy_ #[t, t] ty #[.slice (some ⟨b, i * sz, none⟩) (i + m + (n - j) - i) dc, .slice va m vc]).run P W1 = .ok (goInt m) W2) →
  Calls P f #[.slice (some ⟨b, 0, none⟩) n c, .int .i64 i, .int .i64 j, .slice va m vc] w fun e w' => e = .returned (.slice (some ⟨b, 0, none⟩) (i + m + (n - j)) c) ∧ w' = W2
theorem wpList_clear_run {P : Program} (w : World) {ops : Array Oper} {rest : List Oper} {o : Oper} {a : Act} {Q : Exit → Act → World → Prop} (hgd : o.guard = none) (d : Operand) (t : TypeId)
  (ho : o.op = .call { callee := .builtin .clear, args := #[d], argTypes := #[t] }) (v : Value) (hd : a.eval d = v) {v' : Value} {w' : World}
  (hr : (Builtin.clear_ #[t] o.type #[v]).run P w = .ok v' w') (h : wpList P ops Q rest (a.put o.dst v') w') : wpList P ops Q (o :: rest) a w :=
 wpList_plain hgd fun K hK => by
  refine (?_ : o.wp P a w _ _)
  unfold Oper.wp execOp
  simp only [ho, resolve, invoke, builtin, Sem.run_bind, Sem.run_pure, Result.andThen_ok, List.map_toArray, List.map_cons, List.map_nil, hd, hr]
  exact hK _ _ h
theorem clear_row {P : Program} (w : World) (t ty e : TypeId) (b o n k : Nat) (cur : Array Value) {inf : TypeInfo} {z : Value} (ht : P.underlying t = some (.slice e)) (hi : P.info? e = some inf) (hz : inf.zero = some z) (h1 : ∀ v ∈ z.cells, v.oneCell' = true)
  (hb : w.heap[b]? = some (.cells cur e (0, 0))) (hfit : o + n * z.cells.size ≤ cur.size) :
  ∃ R : Array Value, (Builtin.clear_ #[t] ty #[.slice (some ⟨b, o, none⟩) n k]).run P w = .ok (.tuple #[]) (w.setRow b R) ∧ R.size = cur.size ∧ R.toList.take o = cur.toList.take o := by
 by_cases hn : n = 0
 ·subst hn
  exact ⟨cur, by rw [setRow_self w b cur e (0, 0) hb]; simp [Builtin.clear_, run_underlying ht], rfl, rfl⟩
 ·obtain ⟨m, rfl⟩ : ∃ m, n = m + 1 := ⟨n - 1, by omega⟩
  have hzl : ((Builtin.zeroCells z.cells (m + 1)).toList).length = (m + 1) * z.cells.size := by simp [size_zeroCells]
  have hone : ∀ v ∈ (Builtin.zeroCells z.cells (m + 1)).toList, v.oneCell' = true := by
   intro v hv
   simp only [Builtin.zeroCells, Array.toList_map, List.mem_map] at hv
   obtain ⟨i, hi2, rfl⟩ := hv
   have hlt : i < (m + 1) * z.cells.size := by simpa using hi2
   have hpos : 0 < z.cells.size := by
    rcases Nat.eq_zero_or_pos z.cells.size with h | h
    ·rw [h] at hlt; omega
    ·exact h
   have hm := Nat.mod_lt i hpos
   rw [getElem!_pos z.cells _ hm]
   exact h1 _ (Array.getElem_mem hm)
  have hst := run_storeCells_at P b o e (Builtin.zeroCells z.cells (m + 1)).toList 0 cur w hb (by rw [hzl]; simpa using hfit) hone
  refine ⟨(cur.toList.take o ++ (Builtin.zeroCells z.cells (m + 1)).toList ++ cur.toList.drop (o + (Builtin.zeroCells z.cells (m + 1)).toList.length)).toArray, ?_, ?_, ?_⟩
  ·simp only [Nat.add_zero] at hst
   simp [Builtin.clear_, run_underlying ht, zeroValue, typeInfo, hi, hz, hst]
  ·have hcl : cur.size = cur.toList.length := by simp
   simp only [List.size_toArray, List.length_append, hzl, List.length_take, List.length_drop]
   omega
  ·have hcl : cur.size = cur.toList.length := by simp
   simp only [List.append_assoc]
   rw [List.take_left' (by rw [List.length_take]; omega)]
theorem overlaps_apart2 {P : Program} (w : World) (tS tR e : TypeId) (ht : P.underlying tS = some (.slice e)) (size : Nat) (hz : ∀ w, (Go.sizeOf e).run P w = .ok size w)
  (b : Addr) (a : Option Addr) (lb cb la ca : Nat) (h : la ≠ 0 → size ≠ 0 → ∃ a', a = some a' ∧ a'.block ≠ b.block ∧ ∃ tA kA, w.shape? a'.block = some (tA, kA + 1)) (tB : TypeId) (kB : Nat)
  (hsb : w.shape? b.block = some (tB, kB)) (hkB : kB ≠ 0) (hfb : w.frozen? b = false) (hfe : w.frozen? { block := b.block, off := kB } = false) :
  (Extern.SlicesOverlaps.overlaps #[tS, tS] #[tR] #[.slice (some b) lb cb, .slice a la ca]).run P w = .ok (.bool false) w := by
 cases a with
 | none =>
  change Sem.run P (_ >>= _) w = _
  simp [run_underlying ht, hz]
 | some a =>
  change Sem.run P (_ >>= _) w = _
  by_cases h0 : lb = 0 ∨ la = 0 ∨ size = 0
  ·simp [run_underlying ht, hz, h0]
  ·obtain ⟨a', e1, hne, tA, kA, hsa⟩ := h (fun e => h0 (.inr (.inl e))) (fun e => h0 (.inr (.inr e)))
   cases e1
   have hnb : (b.block != a.block) = true := by simpa using fun e : b.block = a.block => hne e.symm
   have hnb' : (b.block == a.block) = false := by simpa using fun e : b.block = a.block => hne e.symm
   cases kB with
   | zero => exact absurd rfl hkB
   | succ kB =>
    cases hfa : w.frozen? a <;> cases hfa2 : w.frozen? { block := a.block, off := kA + 1 } <;>
    simp [run_underlying ht, hz, h0, hnb, hnb', frozen, noView, viewAt, mayBeOne, stringish, shape, Sem.run, hsa, hsb, hfa, hfa2, hfe, hfb]
variable {g : Gh} {N : Nat} {M : Mem} {E : Env} {s : S} {tmps : Array Value} {w : World}
theorem St.rowCells (hs : St g N M E s tmps w) {i : Nat} {r : Rw} {q : RwE} (hr : aget s.rw i = some r) (hq : E.rw i = some q) (hpu : r.pu = 0) (hk : r.k = 0) {blk : Nat} {cur : Array Value} (hqa : q.a = some ⟨blk, 0, none⟩) (hheap : w.heap[blk]? = some (.cells cur r.ty (0, 0)))
  {W : World} (hg : Grow w W (fun b => b = blk)) (hown : E.own blk = some (1, i, 0)) {R : Array Value} (hW : W.heap[blk]? = some (.cells R r.ty (0, 0))) (hRs : R.size = cur.size) {xs : List AV} {n' : Nat} (hn : n' = xs.length) (hnc : n' ≤ q.c) (hes : ∀ x ∈ xs, x.cells.length = r.sz)
  {L tl : List Value} (hall : LR M L (flat xs)) (hR : R.toList = L ++ tl) :
  ∃ E', E.up E' ∧ RelS M E' (.slice (some ⟨blk, 0, none⟩) n' q.c) (.row i (r.ver + 1)) ∧ St g N M E' { s with rw := (i, { r with ver := r.ver + 1, cm := 0, nl := false, xs := xs }) :: s.rw } tmps W := by
 obtain ⟨q', hq', hok⟩ := hs.rw i r hr
 rw [hq] at hq'; cases hq'
 obtain ⟨E', hup, hE', hst⟩ := hs.rowPut (w' := W) hr hq (r' := { r with ver := r.ver + 1, cm := 0, nl := false, xs := xs }) (n' := n') (.inr (Nat.lt_succ_self _)) (hg.mono fun b e => by rw [e]; exact hown) rfl hn hnc hes
  (by show r.k ≤ _; omega) (Nat.zero_le _) (fun h => by cases h) (Nat.le_refl _) (fun p => by
   have e : sealN s (5, i, p) = ownK (flat r.xs)[p]? := by simp [sealN, hr]
   rw [e, hok.own0 hpu]; exact Nat.zero_le _)
  (fun b j v hb hM => by
   have := (hs.mem _ _ _ hM).2 _ hb
   simp [sealN, hr, hk] at this)
  (fun blk' vs' hq1 _ hh _ _ => by
   rw [hqa] at hq1
   cases hq1
   rw [hheap] at hh
   cases hh
   refine ⟨R, hW, hRs, fun j u hj => ?_⟩
   obtain ⟨v, hv, hrr⟩ := hall.2 j u hj
   refine ⟨v, ?_, ?_⟩
   ·rw [← Array.getElem?_toList, hR, List.getElem?_append_left (List.getElem?_eq_some_iff.1 hv).1]; exact hv
   ·show cR _ _ _ r.pu _ _ _ _ _ _
    rw [hpu]; exact hrr)
 refine ⟨E', hup, ?_, hst⟩
 have : RelS M E' (.slice q.a n' q.c) (.row i (r.ver + 1)) := .row i _ _ _ _ _ hE' (Nat.le_refl _) fun _ => ⟨rfl, rfl, rfl⟩
 rwa [hqa] at this
theorem St.rowFresh (hs : St g N M E s tmps w) {i : Nat} {r : Rw} {q : RwE} (hr : aget s.rw i = some r) (hq : E.rw i = some q) (hpu : r.pu = 0) (hk : r.k = 0) {w1 : World} (hg : Grow w w1 (fun _ => False)) {R : Array Value} {G n' : Nat} {xs : List AV}
  (hn : n' = xs.length) (hG : n' ≤ G) (hGm : G ≤ maxLen) (hRs : R.size = G * r.sz) (hes : ∀ x ∈ xs, x.cells.length = r.sz) {L tl : List Value} (hall : LR M L (flat xs)) (hR : R.toList = L ++ tl) :
  ∃ E', E.up E' ∧ RelS M E' (.slice (some ⟨w1.heap.size, 0, none⟩) n' G) (.row i (r.ver + 1)) ∧ St g N M E' { s with rw := (i, { r with ver := r.ver + 1, cm := 0, nl := false, xs := xs }) :: s.rw } tmps (w1.alloc (.cells R r.ty)) := by
 obtain ⟨q', hq', hok⟩ := hs.rw i r hr
 rw [hq] at hq'; cases hq'
 obtain ⟨E', hup, hE', hst⟩ := hs.rowNew (i := i) (vr := r.ver + 1) (.inr ⟨r, hr, Nat.lt_succ_self _⟩) (w1 := w1) hg
  (vs := R) (e := r.ty) (sz := r.sz) (n := n') (c := G) (k := r.k) (cm := 0) (nl := false) (pu := r.pu) (ns := r.ns) (xs := xs) (by omega) hn hG hGm hes (Nat.zero_le _)
  (fun e => by cases e) hRs (fun p => by
   have e : sealN s (5, i, p) = ownK (flat r.xs)[p]? := by simp [sealN, hr]
   rw [e, hok.own0 hpu]; exact Nat.zero_le _)
  (fun j u hj => by
   obtain ⟨v, hv, hrr⟩ := hall.2 j u hj
   refine ⟨v, ?_, ?_⟩
   ·rw [← Array.getElem?_toList, hR, List.getElem?_append_left (List.getElem?_eq_some_iff.1 hv).1]; exact hv
   ·show cR _ _ _ r.pu _ _ _ _ _ _
    rw [hpu]; exact hrr)
 exact ⟨E', hup, .row i _ _ _ _ _ hE' (Nat.le_refl _) fun _ => ⟨rfl, rfl, rfl⟩, hst⟩
theorem St.replaceRow (hs : St g N M E s tmps w) {i : Nat} {r : Rw} {q : RwE} (hr : aget s.rw i = some r) (hq : E.rw i = some q) (hpu : r.pu = 0) (hk : r.k = 0)
  {P : Program} {f fo t : Nat} {inf : TypeInfo} {z : Value} (hW : RplW P f fo t r.sz) (ht : P.underlying t = some (.slice r.ty)) (h3 : P.underlying 3 = some (.int .i64)) (hi : P.info? r.ty = some inf) (hz : inf.zero = some z)
  (hsize : inf.size = r.sz) (hzs : z.cells.size = r.sz) (hz1 : ∀ v ∈ z.cells, v.oneCell' = true) (hpos : 0 < r.sz)
  (hov : ∀ args w, (callFunc fo args).run P w = ((Extern.SlicesOverlaps.overlaps #[t, t] #[4] args).run P w).andThen fun v w' => .ok (.value v) w')
  {p j m : Nat} (hpj : p < j) (hj : j ≤ r.xs.length) {va : Option Addr} {vc : Nat} {ys : List AV} (hm : m = ys.length) (hm0 : 0 < m) (hmj : m ≠ j - p) (hy : RelP M (.slice va m vc) (.sl r.sz ys))
  (hbytes : (r.xs.length + m) * inf.bytes ≤ 140737488355328) (h63 : r.xs.length + m ≤ 140737488351232) :
  Calls P f #[.slice q.a r.xs.length q.c, .int .i64 p, .int .i64 j, .slice va m vc] w fun e w' => ∃ v E', e = .returned v ∧ E.up E' ∧ RelS M E' v (.row i (r.ver + 1)) ∧
   St g N M E' { s with rw := (i, { r with ver := r.ver + 1, cm := 0, nl := false, xs := r.xs.take p ++ ys ++ r.xs.drop j }) :: s.rw } tmps w' := by
 obtain ⟨q', hq', hok⟩ := hs.rw i r hr
 rw [hq] at hq'; cases hq'
 have hqn := hok.n
 have hnc := hok.nc
 have hcap := hok.cap
 have hmx : maxLen = 9223372036854775807 := rfl
 cases hy with
 | sl _ _ _ _ _ fv hn hc hb hzy ha hf =>
 have hyne : ys ≠ [] := by intro e; rw [e] at hm; simp at hm; omega
 obtain ⟨vb, voff, rfl, hva⟩ := ha hyne
 have hfl : (flat ys).length = m * r.sz := by rw [flat_len hzy, hm]
 have hfx : (flat r.xs).length = r.xs.length * r.sz := flat_len hok.es
 have hLn : LR M (newsOf fv (m * r.sz)) (flat ys) := by
  refine ⟨by rw [newsOf_len, hfl], fun j u hj => ⟨fv j, newsOf_get ?_, hf j u hj⟩⟩
  rw [← hfl]; exact (List.getElem?_eq_some_iff.1 hj).1
 have hsrc : ∀ j v, (newsOf fv (m * r.sz))[j]? = some v → w.cell? ⟨vb, voff + j, none⟩ = some v := fun j v hj => by
  obtain ⟨h1, rfl⟩ := newsOf_get' hj
  exact (hs.mem _ _ _ (hva j (by rw [hfl]; exact h1))).1
 have hflp : 0 < (flat ys).length := by rw [hfl]; exact Nat.mul_pos hm0 hpos
 have hvb : E.own vb ≠ some (1, i, 0) := fun e => by
  have := (hs.mem _ _ _ (hva 0 hflp)).2 _ e
  simp [sealN, hr, hk] at this
 rcases hok.blk with h0 | ⟨blk, cur, hqa, hown, hheap, hcur, hcs⟩
 ·omega
 have hne : vb ≠ blk := fun e => hvb (by rw [e]; exact hown)
 rw [hok.sz] at hcur
 have hcl : cur.size = cur.toList.length := by simp
 have hLc : LR M (cur.toList.take (flat r.xs).length) (flat r.xs) := LR.of (by rw [hfx, ← hcl, hcur]; exact Nat.mul_le_mul_right _ (by omega)) (fun j u hj => by
  obtain ⟨v, hv, hr2⟩ := hcs j u hj
  rw [hpu] at hr2
  exact ⟨v, by simpa using hv, hr2⟩)
 have hpn : p ≤ r.xs.length := by omega
 have hpm : p * r.sz ≤ r.xs.length * r.sz := Nat.mul_le_mul_right _ hpn
 have hjm : j * r.sz ≤ r.xs.length * r.sz := Nat.mul_le_mul_right _ hj
 have hA : (cur.toList.take (r.xs.length * r.sz)).take (p * r.sz) = cur.toList.take (p * r.sz) := by rw [List.take_take, Nat.min_eq_left hpm]
 obtain ⟨cs, hcsd⟩ : ∃ cs, cs = (cur.toList.take (r.xs.length * r.sz)).drop (j * r.sz) := ⟨_, rfl⟩
 have hnl : r.xs.length * r.sz ≤ cur.toList.length := by rw [← hcl, hcur]; exact Nat.mul_le_mul_right _ (by omega)
 have hcsl : cs.length = (r.xs.length - j) * r.sz := by rw [hcsd, List.length_drop, List.length_take, Nat.min_eq_left hnl, Nat.sub_mul]
 have hLA : LR M (cur.toList.take (p * r.sz)) ((flat r.xs).take (p * r.sz)) := by have := hLc.take (p * r.sz); rw [hfx, hA] at this; exact this
 have hLC : LR M cs ((flat r.xs).drop (j * r.sz)) := by have := hLc.drop (j * r.sz); rw [hfx, ← hcsd] at this; exact this
 have hall : LR M (cur.toList.take (p * r.sz) ++ newsOf fv (m * r.sz) ++ cs) (flat (r.xs.take p ++ ys ++ r.xs.drop j)) := by
  rw [flat_append, flat_append, flat_take p hok.es, flat_drop j hok.es]; exact (hLA.append hLn).append hLC
 have hlen' : (r.xs.take p ++ ys ++ r.xs.drop j).length = p + m + (r.xs.length - j) := by simp [hm]; omega
 have hes' : ∀ x ∈ r.xs.take p ++ ys ++ r.xs.drop j, x.cells.length = r.sz := fun x hx => by
  rw [List.append_assoc] at hx
  rcases List.mem_append.1 hx with h | h
  ·exact hok.es x (List.mem_of_mem_take h)
  ·rcases List.mem_append.1 h with h | h
   ·exact hzy x h
   ·exact hok.es x (List.mem_of_mem_drop h)
 have hdrc : ∀ k v, cs[k]? = some v → cur[j * r.sz + k]? = some v := fun k v hj => by
  rw [hcsd, List.getElem?_drop, List.getElem?_take] at hj
  split at hj
  ·simpa using hj
  ·cases hj
 have hshA : ∃ tA kA, w.shape? vb = some (tA, kA + 1) := by
  obtain ⟨e, n, h1, h2, _⟩ := World.shape?_of_cell? (hs.mem _ _ _ (hva 0 hflp)).1
  exact ⟨e, n - 1, by rw [h1]; congr 2; simp only at h2; omega⟩
 have hns : (newsOf fv (m * r.sz)).length = m * r.sz := newsOf_len _ _
 have hszi : (P.info? r.ty).map (·.size) = some r.sz := by rw [hi]; simp [hsize]
 have hszr : ∀ w, (Go.sizeOf r.ty).run P w = .ok r.sz w := fun w => by simp [sizeOf, typeInfo, hi, hsize]
 have hl0 : (cur.toList.take (p * r.sz)).length = p * r.sz := by rw [List.length_take]; omega
 have hxv : ∀ ww, (∀ j v, (newsOf fv (m * r.sz))[j]? = some v → ww.cell? ⟨vb, voff + j, none⟩ = some v) → SrcV P ww t (.slice (some ⟨vb, voff, none⟩) m vc) r.sz m (newsOf fv (m * r.sz)) := fun ww h =>
  srcV_slice (.inl ⟨_, ht⟩) (newsOf_len _ _) hLn.one (fun _ => ⟨vb, voff, rfl, h⟩)
 rw [hqa]
 by_cases hje : j = r.xs.length
 ·
  subst hje
  have hdn : r.xs.drop r.xs.length = [] := List.drop_length
  have hcs0 : cs = [] := List.eq_nil_of_length_eq_zero (by rw [hcsl]; simp)
  by_cases him : p + m < r.xs.length
  ·have hfit : p * r.sz + m * r.sz ≤ cur.size := by rw [hcur, ← Nat.add_mul]; exact Nat.mul_le_mul_right _ (by omega)
   have hrun : ∀ ty, _ := fun ty => append_room (P := P) (w := w) (t := t) (t2 := t) (ty := ty) (e := r.ty) (inf := inf) (m := m) (news := newsOf fv (m * r.sz)) ht hi (by rw [hsize]; exact hxv w hsrc) (blk := blk) (n0 := p) (c := q.c) hheap (by omega) (by rw [hsize, hns]; exact hfit)
   rw [hsize] at hrun
   obtain ⟨R1, hR1⟩ : ∃ R1, R1 = (cur.toList.take (p * r.sz) ++ newsOf fv (m * r.sz) ++ cur.toList.drop (p * r.sz + (newsOf fv (m * r.sz)).length)).toArray := ⟨_, rfl⟩
   rw [← hR1] at hrun
   have hR1s : R1.size = cur.size := by rw [hR1]; simp only [List.size_toArray, List.length_append, hl0, hns, List.length_drop]; omega
   have hh1 : (w.setRow blk R1).heap[blk]? = some (.cells R1 r.ty (0, 0)) := setRow_get hheap
   have hclr : ∀ ty, ∃ R2, (Builtin.clear_ #[t] ty #[.slice (some ⟨blk, (p + m) * r.sz, none⟩) (r.xs.length - (p + m)) (q.c - (p + m))]).run P (w.setRow blk R1) = .ok (.tuple #[]) ((w.setRow blk R1).setRow blk R2) ∧ R2.size = R1.size ∧ R2.toList.take ((p + m) * r.sz) = R1.toList.take ((p + m) * r.sz) := fun ty =>
    clear_row (P := P) (w.setRow blk R1) t ty r.ty blk ((p + m) * r.sz) (r.xs.length - (p + m)) (q.c - (p + m)) R1 ht hi hz hz1 hh1 (by
     rw [hzs, hR1s, hcur, ← Nat.add_mul]; exact Nat.mul_le_mul_right _ (by omega))
   obtain ⟨R2, c1, c2, c3⟩ := hclr 0
   have hcall := hW.cut blk r.xs.length q.c p (some ⟨vb, voff, none⟩) m vc w (w.setRow blk R1) ((w.setRow blk R1).setRow blk R2) (by omega) hm0 him (by omega) (by omega) hrun (fun ty => c1)
   refine hcall.mono ?_
   rintro e w' ⟨rfl, rfl⟩
   rw [setRow_setRow]
   have hR2 : R2.toList = (cur.toList.take (p * r.sz) ++ newsOf fv (m * r.sz) ++ cs) ++ R2.toList.drop ((p + m) * r.sz) := by
    have : R1.toList.take ((p + m) * r.sz) = cur.toList.take (p * r.sz) ++ newsOf fv (m * r.sz) := by
     rw [hR1]
     simp only []
     rw [List.take_left' (by rw [List.length_append, hl0, hns, Nat.add_mul])]
    rw [hcs0, List.append_nil, ← this, ← c3, List.take_append_drop]
   obtain ⟨E', hup, hrow, hst⟩ := hs.rowCells hr hq hpu hk hqa hheap (Grow.setRow w blk R2) hown (setRow_get hheap) (c2.trans hR1s) (n' := p + m) (by rw [hlen']; omega) (by omega) hes' hall hR2
   exact ⟨_, E', rfl, hup, hrow, hst⟩
  ·obtain ⟨v', w', E', hrun, hup, hrow, hst⟩ := hs.appendRow (ty := 0) hr hq ht hi hz hsize hzs hpos (n0 := p) hpn (by omega) (.inl hpu) (hxv w hsrc) hm hzy
    (fun j u hj => by
     obtain ⟨v, hv, hrr⟩ := hLn.2 j u hj
     refine ⟨v, hv, ?_⟩
     rw [hpu]; exact hrr) (cm' := 0) (nl' := false) (.inl (Nat.zero_le _)) (fun h => by cases h) (by omega) (by
      have : (p + m) * inf.bytes ≤ (r.xs.length + m) * inf.bytes := Nat.mul_le_mul_right _ (by omega)
      omega)
   obtain ⟨n1, c1, a1, q1, e1, hq1, hv1, hh1⟩ := Rel.row_inv (.cell hrow)
   obtain ⟨q2, hq2, hok2⟩ := hst.rw i _ (by rw [aget_cons, if_pos rfl])
   rw [hq1] at hq2; cases hq2
   have hn1 : n1 = p + m := by
    obtain ⟨_, e, _⟩ := hh1 hok2.ver.symm
    rw [e, hok2.n]
    simp [hm]; omega
   rw [e1, hn1] at hrun
   have hrun' : (Builtin.append_ #[t, t] 0 #[.slice (some ⟨blk, 0, none⟩) p q.c, .slice (some ⟨vb, voff, none⟩) m vc]).run P w = .ok (.slice a1 (p + m) c1) w' := by rw [← hqa]; exact hrun
   have hcall := hW.fin blk r.xs.length q.c p (some ⟨vb, voff, none⟩) m vc w w' a1 c1 (by omega) hm0 (by omega) (by omega) (fun ty => hrun')
   refine hcall.mono ?_
   rintro e w'' ⟨rfl, rfl⟩
   refine ⟨_, E', rfl, hup, ?_, ?_⟩
   ·rw [e1, hn1] at hrow; exact hrow
   ·rw [hdn, List.append_nil]; exact hst
 ·have hjl : j < r.xs.length := by omega
  have htot : p + m + (r.xs.length - j) ≤ r.xs.length + m := by omega
  by_cases hroom : p + m + (r.xs.length - j) ≤ q.c
  ·by_cases him : p + m < j
   ·
    have hfit1 : p * r.sz + m * r.sz ≤ cur.size := by rw [hcur, ← Nat.add_mul]; exact Nat.mul_le_mul_right _ (by omega)
    have hfit2 : (p + m) * r.sz + cs.length ≤ cur.size := by rw [hcsl, hcur, ← Nat.add_mul]; exact Nat.mul_le_mul_right _ (by omega)
    have hpmj : (p + m) * r.sz ≤ j * r.sz := Nat.mul_le_mul_right _ (by omega)
    have hpm3 : (p + m) * r.sz = p * r.sz + m * r.sz := Nat.add_mul _ _ _
    obtain ⟨R1, hR1⟩ : ∃ R1, R1 = (cur.toList.take (p * r.sz) ++ newsOf fv (m * r.sz) ++ cur.toList.drop (p * r.sz + (newsOf fv (m * r.sz)).length)).toArray := ⟨_, rfl⟩
    have hR1s : R1.size = cur.size := by rw [hR1]; simp only [List.size_toArray, List.length_append, hl0, hns, List.length_drop]; omega
    have hR1l : R1.toList.length = cur.size := by simpa using hR1s
    obtain ⟨R2, hR2⟩ : ∃ R2, R2 = (R1.toList.take ((p + m) * r.sz) ++ cs ++ R1.toList.drop ((p + m) * r.sz + cs.length)).toArray := ⟨_, rfl⟩
    have hR2s : R2.size = cur.size := by rw [hR2]; simp only [List.size_toArray, List.length_append, List.length_take, List.length_drop, hR1l]; omega
    have hh1 : (w.drew.setRow blk R1).heap[blk]? = some (.cells R1 r.ty (0, 0)) := setRow_get (w := w.drew) hheap
    have hh2 : ((w.drew.setRow blk R1).drew.setRow blk R2).heap[blk]? = some (.cells R2 r.ty (0, 0)) := setRow_get (w := (w.drew.setRow blk R1).drew) hh1
    have hmn1 : Nat.min m (p + m + (r.xs.length - j) - p) = m := by simp only [Nat.min_def]; split <;> omega
    have hmn2 : Nat.min (r.xs.length - j) (p + m + (r.xs.length - j) - (p + m)) = r.xs.length - j := by simp only [Nat.min_def]; split <;> omega
    have htz : (p + m + (r.xs.length - j)) * r.sz = (p + m) * r.sz + cs.length := by rw [hcsl, Nat.add_mul]
    obtain ⟨R3, c1, c2, c3⟩ := clear_row (P := P) ((w.drew.setRow blk R1).drew.setRow blk R2) t 0 r.ty blk ((p + m + (r.xs.length - j)) * r.sz) (r.xs.length - (p + m + (r.xs.length - j))) (q.c - (p + m + (r.xs.length - j))) R2 ht hi hz hz1 hh2 (by
     rw [hzs, hR2s, hcur, ← Nat.add_mul]; exact Nat.mul_le_mul_right _ (by omega))
    have hcall := hW.fits blk r.xs.length q.c p j (some ⟨vb, voff, none⟩) m vc w (w.drew.setRow blk R1) ((w.drew.setRow blk R1).drew.setRow blk R2) (((w.drew.setRow blk R1).drew.setRow blk R2).setRow blk R3) hpj hjl hm0 him (by omega) (by omega)
     (fun ty dc => by
      have := copy_row (P := P) w.drew t t ty r.ty blk (p * r.sz) (p + m + (r.xs.length - j) - p) dc ⟨vb, voff, none⟩ m vc cur r.ty (newsOf fv (m * r.sz)) r.sz ht hszi hheap (by rw [hmn1, hns])
       (fun j v hj => by rw [addr_add]; exact hsrc j v hj) (by rw [hns]; exact hfit1) hLn.one
      rw [this, hmn1, ← hR1])
     (fun ty dc sc => by
      have := copy_row (P := P) (w.drew.setRow blk R1).drew t t ty r.ty blk ((p + m) * r.sz) (p + m + (r.xs.length - j) - (p + m)) dc ⟨blk, j * r.sz, none⟩ (r.xs.length - j) sc R1 r.ty cs r.sz ht hszi hh1 (by rw [hmn2, hcsl])
       (fun k v hk2 => by
        rw [addr_add]
        have h1 := hdrc k v hk2
        show (w.drew.setRow blk R1).cell? _ = _
        rw [cell_of_row _ blk _ R1 r.ty (0, 0) hh1, hR1, List.getElem?_toArray, List.getElem?_append_right (by rw [List.length_append, hl0, hns]; omega), List.getElem?_drop, List.length_append, hl0, hns]
        rw [show p * r.sz + m * r.sz + (j * r.sz + k - (p * r.sz + m * r.sz)) = j * r.sz + k by omega]
        simpa using h1) (by rw [hR1s]; exact hfit2) hLC.one
      rw [this, hmn2, ← hR2]
      congr 2
      omega)
     (fun ty => c1)
    refine hcall.mono ?_
    rintro e w' ⟨rfl, rfl⟩
    have hR1t : R1.toList.take ((p + m) * r.sz) = cur.toList.take (p * r.sz) ++ newsOf fv (m * r.sz) := by
     rw [hR1]
     simp only []
     rw [List.take_left' (by rw [List.length_append, hl0, hns, Nat.add_mul])]
    have hR3 : R3.toList = (cur.toList.take (p * r.sz) ++ newsOf fv (m * r.sz) ++ cs) ++ R3.toList.drop ((p + m + (r.xs.length - j)) * r.sz) := by
     have : R2.toList.take ((p + m + (r.xs.length - j)) * r.sz) = cur.toList.take (p * r.sz) ++ newsOf fv (m * r.sz) ++ cs := by
      rw [hR2, hR1t]
      simp only []
      rw [List.take_left' (by rw [List.length_append, List.length_append, hl0, hns, htz, hpm3])]
     rw [← this, ← c3, List.take_append_drop]
    have hgr : Grow w (((w.drew.setRow blk R1).drew.setRow blk R2).setRow blk R3) (fun b => b = blk) :=
     ((((Grow.drew w).mono (fun _ h => h.elim)).trans (Grow.setRow w.drew blk R1)).trans ((Grow.drew _).mono (fun _ h => h.elim))).trans (Grow.setRow _ blk R2) |>.trans (Grow.setRow _ blk R3)
    obtain ⟨E', hup, hrow, hst⟩ := hs.rowCells hr hq hpu hk hqa hheap hgr hown (setRow_get hh2) (c2.trans hR2s) (n' := p + m + (r.xs.length - j)) (by rw [hlen']) hroom hes' hall hR3
    exact ⟨_, E', rfl, hup, hrow, hst⟩
   ·
    have hfit2 : (p + m) * r.sz + cs.length ≤ cur.size := by rw [hcsl, hcur, ← Nat.add_mul]; exact Nat.mul_le_mul_right _ (by omega)
    obtain ⟨R1, hR1⟩ : ∃ R1, R1 = (cur.toList.take ((p + m) * r.sz) ++ cs ++ cur.toList.drop ((p + m) * r.sz + cs.length)).toArray := ⟨_, rfl⟩
    have hpmc : (p + m) * r.sz ≤ cur.size := by omega
    have hR1s : R1.size = cur.size := by rw [hR1]; simp only [List.size_toArray, List.length_append, List.length_take, List.length_drop]; omega
    have hR1l : R1.toList.length = cur.size := by simpa using hR1s
    obtain ⟨R2, hR2⟩ : ∃ R2, R2 = (R1.toList.take (p * r.sz) ++ newsOf fv (m * r.sz) ++ R1.toList.drop (p * r.sz + (newsOf fv (m * r.sz)).length)).toArray := ⟨_, rfl⟩
    have hpm3 : (p + m) * r.sz = p * r.sz + m * r.sz := Nat.add_mul _ _ _
    have hR2s : R2.size = cur.size := by rw [hR2]; simp only [List.size_toArray, List.length_append, List.length_take, List.length_drop, hR1l, hns]; omega
    have hh1 : (w.drew.drew.setRow blk R1).heap[blk]? = some (.cells R1 r.ty (0, 0)) := setRow_get (w := w.drew.drew) hheap
    have hmn1 : Nat.min m (p + m + (r.xs.length - j) - p) = m := by simp only [Nat.min_def]; split <;> omega
    have hmn2 : Nat.min (r.xs.length - j) (p + m + (r.xs.length - j) - (p + m)) = r.xs.length - j := by simp only [Nat.min_def]; split <;> omega
    have hcall := hW.expand blk r.xs.length q.c p j (some ⟨vb, voff, none⟩) m vc w (w.drew.drew.setRow blk R1) ((w.drew.drew.setRow blk R1).setRow blk R2) hpj hjl hm0 (by omega) hroom (by omega)
     (fun lb cb => by
      rw [hov, overlaps_apart2 w.drew t 4 r.ty ht r.sz hszr ⟨blk, (p + m) * r.sz, none⟩ (some ⟨vb, voff, none⟩) lb cb m vc (fun _ _ => ⟨_, rfl, hne, hshA⟩) r.ty cur.size (shape_of (w := w.drew) hheap) (by
       rw [hcur]; exact Nat.ne_of_gt (Nat.mul_pos (by omega) hpos)) (frozen_of (w := w.drew) hheap) (frozen_of (w := w.drew) hheap)]
      rfl)
     (fun ty dc sc => by
      have := copy_row (P := P) w.drew.drew t t ty r.ty blk ((p + m) * r.sz) (p + m + (r.xs.length - j) - (p + m)) dc ⟨blk, j * r.sz, none⟩ (r.xs.length - j) sc cur r.ty cs r.sz ht hszi hheap (by rw [hmn2, hcsl])
       (fun k v hk2 => by
        rw [addr_add]
        have h1 := hdrc k v hk2
        show w.cell? _ = _
        rw [cell_of_row w blk _ cur r.ty (0, 0) hheap]; exact h1) hfit2 hLC.one
      rw [this, hmn2, ← hR1]
      congr 2
      omega)
     (fun ty dc => by
      have := copy_row (P := P) (w.drew.drew.setRow blk R1) t t ty r.ty blk (p * r.sz) (p + m + (r.xs.length - j) - p) dc ⟨vb, voff, none⟩ m vc R1 r.ty (newsOf fv (m * r.sz)) r.sz ht hszi hh1 (by rw [hmn1, hns])
       (fun k v hk2 => by
        rw [addr_add]
        exact (Grow.setRow w.drew.drew blk R1).cell (hsrc k v hk2) hne) (by rw [hns, hR1s]; omega) hLn.one
      rw [this, hmn1, ← hR2])
    refine hcall.mono ?_
    rintro e w' ⟨rfl, rfl⟩
    have hR1p : R1.toList.take (p * r.sz) = cur.toList.take (p * r.sz) := by
     rw [hR1]
     simp only [List.append_assoc]
     rw [List.take_append_of_le_length (by rw [List.length_take]; omega), List.take_take, Nat.min_eq_left (by omega)]
    have hR1d : R1.toList.drop (p * r.sz + m * r.sz) = cs ++ cur.toList.drop ((p + m) * r.sz + cs.length) := by
     rw [hR1]
     simp only [List.append_assoc]
     rw [List.drop_left' (by rw [List.length_take]; omega)]
    have hR2e : R2.toList = (cur.toList.take (p * r.sz) ++ newsOf fv (m * r.sz) ++ cs) ++ cur.toList.drop ((p + m) * r.sz + cs.length) := by
     rw [hR2, hR1p, hns, hR1d]
     simp [List.append_assoc]
    have hgr : Grow w ((w.drew.drew.setRow blk R1).setRow blk R2) (fun b => b = blk) :=
     ((((Grow.drew w).trans (Grow.drew w.drew)).mono (fun _ h => h.elim)).trans (Grow.setRow w.drew.drew blk R1)).trans (Grow.setRow _ blk R2)
    obtain ⟨E', hup, hrow, hst⟩ := hs.rowCells hr hq hpu hk hqa hheap hgr hown (setRow_get hh1) hR2s (n' := p + m + (r.xs.length - j)) (by rw [hlen']) hroom hes' hall hR2e
    exact ⟨_, E', rfl, hup, hrow, hst⟩
  ·
   have hk0 : 0 < p + m + (r.xs.length - j) - p := by omega
   have hik : p + (p + m + (r.xs.length - j) - p) = p + m + (r.xs.length - j) := by omega
   have hkk : ((p : Int) + (m : Int) + ((r.xs.length : Int) - (j : Int)) - (p : Int)) = ((p + m + (r.xs.length - j) - p : Nat) : Int) := by omega
   obtain ⟨T, hT⟩ : ∃ T, T = p + m + (r.xs.length - j) := ⟨_, rfl⟩
   have hold : (Builtin.firstCells inf.size p (.slice (some ⟨blk, 0, none⟩) p q.c)).run P w.drew.drew = .ok (cur.toList.take (p * r.sz)).toArray w.drew.drew :=
    firstCells_read (P := P) w.drew.drew (by rw [hl0, hsize]) (fun _ => ⟨blk, 0, rfl, fun j v hv => by
     rw [Nat.zero_add, World.cell?_drew, World.cell?_drew, cell_of_row w blk j cur r.ty (0, 0) hheap]
     rw [List.getElem?_take] at hv
     split at hv
     ·simpa using hv
     ·cases hv⟩)
   obtain ⟨G, hG⟩ : ∃ G, G = grownCap w.drew T q.c r.ty := ⟨_, rfl⟩
   have hGn : T ≤ G := by rw [hG]; exact grownCap_ge w.drew _ _ _
   have hGm : G ≤ maxLen := by rw [hG]; exact grownCap_le_maxLen w.drew _ _ r.ty (by omega)
   obtain ⟨X, hX⟩ : ∃ X : Array Value, X = (cur.toList.take (p * r.sz)).toArray ++ Builtin.zeroCells z.cells (T - p) ++ Builtin.zeroCells z.cells (G - T) := ⟨_, rfl⟩
   have hXs : X.size = G * r.sz := by
    rw [hX]
    simp only [Array.size_append, List.size_toArray, size_zeroCells, hzs, hl0, ← Nat.add_mul]
    congr 1; omega
   have hXl : X.toList.length = G * r.sz := by simpa using hXs
   have hrz : ∀ ty, (Builtin.append_ #[t, 3] ty #[.slice (some ⟨blk, 0, none⟩) p q.c, .int .i64 ((p : Int) + (m : Int) + ((r.xs.length : Int) - (j : Int)) - (p : Int))]).run P w.drew = .ok (.slice (some ⟨w.heap.size, 0, none⟩) T G) (w.drew.drew.alloc (.cells X r.ty)) := fun ty => by
    have h := Lib.run_append_grow_zeros w.drew t 3 ty r.ty inf z .i64 .i64 ht h3 hi hz (some ⟨blk, 0, none⟩) p q.c (cur.toList.take (p * r.sz)) hold (p + m + (r.xs.length - j) - p) hk0 (by omega) (by omega) (by omega)
     (by
      have : (p + m + (r.xs.length - j) - p) * inf.bytes ≤ (r.xs.length + m) * inf.bytes := Nat.mul_le_mul_right _ (by omega)
      omega) (by
      rw [hik]; exact growslice_fits (by omega) (by
       have : (p + m + (r.xs.length - j)) * inf.bytes ≤ (r.xs.length + m) * inf.bytes := Nat.mul_le_mul_right _ (by omega)
       omega))
    rw [hik, ← hT, ← hG, ← hX] at h
    rw [hkk, ← hT]; exact h
   have halloc : ∀ (W : World) (X Y : Array Value), (W.alloc (.cells X r.ty)).setRow W.heap.size Y = W.alloc (.cells Y r.ty) := fun W X Y => by
    unfold World.setRow World.alloc
    simp only
    congr 1
    apply Array.ext
    ·simp
    ·intro k h1 h2
     rw [Array.getElem_modify]
     split
     ·rename_i e
      subst e
      simp
     ·rename_i e
      have hlt2 : k < W.heap.size := by simp at h2; omega
      simp [Array.getElem_push, hlt2]
   have hget : ∀ (W : World) (Y : Array Value), (W.alloc (.cells Y r.ty)).heap[W.heap.size]? = some (.cells Y r.ty (0, 0)) := fun W Y => by
    show (W.heap.push _)[W.heap.size]? = _
    simp
   have hblt : blk < w.heap.size := (Array.getElem?_eq_some_iff.1 hheap).1
   have hpG : p * r.sz + m * r.sz ≤ G * r.sz := by rw [← Nat.add_mul]; exact Nat.mul_le_mul_right _ (by omega)
   have hpG2 : (p + m) * r.sz + cs.length ≤ G * r.sz := by rw [hcsl, ← Nat.add_mul]; exact Nat.mul_le_mul_right _ (by omega)
   obtain ⟨R1, hR1⟩ : ∃ R1, R1 = (X.toList.take (p * r.sz) ++ newsOf fv (m * r.sz) ++ X.toList.drop (p * r.sz + (newsOf fv (m * r.sz)).length)).toArray := ⟨_, rfl⟩
   have hR1s : R1.size = G * r.sz := by rw [hR1]; simp only [List.size_toArray, List.length_append, List.length_take, List.length_drop, hns, hXl]; omega
   have hR1l : R1.toList.length = G * r.sz := by simpa using hR1s
   obtain ⟨R2, hR2⟩ : ∃ R2, R2 = (R1.toList.take ((p + m) * r.sz) ++ cs ++ R1.toList.drop ((p + m) * r.sz + cs.length)).toArray := ⟨_, rfl⟩
   have hR2s : R2.size = G * r.sz := by rw [hR2]; simp only [List.size_toArray, List.length_append, List.length_take, List.length_drop, hR1l]; omega
   have hmn1 : Nat.min m (T - p) = m := by simp only [Nat.min_def]; split <;> omega
   have hmn2 : Nat.min (r.xs.length - j) (T - (p + m)) = r.xs.length - j := by simp only [Nat.min_def]; split <;> omega
   have hW' := hW.grow blk r.xs.length q.c p j w.heap.size G (some ⟨vb, voff, none⟩) m vc w (w.drew.drew.alloc (.cells X r.ty)) (w.drew.drew.alloc (.cells R1 r.ty)) (w.drew.drew.drew.alloc (.cells R2 r.ty)) hpj hjl hm0 (by omega) (by omega) (by omega)
   rw [← hT] at hW'
   have hcall := hW' hGn (by omega)
    hrz
    (fun ty dc => by
     have := copy_row (P := P) (w.drew.drew.alloc (.cells X r.ty)) t t ty r.ty w.heap.size (p * r.sz) (T - p) dc ⟨vb, voff, none⟩ m vc X r.ty (newsOf fv (m * r.sz)) r.sz ht hszi (hget w.drew.drew X) (by rw [hmn1, hns])
      (fun j v hj => by
       rw [addr_add]
       exact (Grow.alloc w.drew.drew _).cell (hsrc j v hj) (fun h => h)) (by rw [hns, hXs]; exact hpG) hLn.one
     rw [this, hmn1, ← hR1]
     rw [show w.heap.size = w.drew.drew.heap.size from rfl, halloc w.drew.drew X R1])
    (fun ty dc sc => by
     have := copy_row (P := P) (w.drew.drew.alloc (.cells R1 r.ty)).drew t t ty r.ty w.heap.size ((p + m) * r.sz) (T - (p + m)) dc ⟨blk, j * r.sz, none⟩ (r.xs.length - j) sc R1 r.ty cs r.sz ht hszi (hget w.drew.drew R1) (by rw [hmn2, hcsl])
      (fun k v hk2 => by
       rw [addr_add]
       refine (Grow.alloc w.drew.drew _).cell ?_ (fun h => h)
       show w.cell? _ = _
       rw [cell_of_row w blk _ cur r.ty (0, 0) hheap]; exact hdrc k v hk2) (by rw [hR1s]; exact hpG2) hLC.one
     rw [this, hmn2, ← hR2]
     rw [show (w.drew.drew.alloc (.cells R1 r.ty)).drew = w.drew.drew.drew.alloc (.cells R1 r.ty) from rfl, show w.heap.size = w.drew.drew.drew.heap.size from rfl, halloc w.drew.drew.drew R1 R2]
     congr 2
     omega)
   refine hcall.mono ?_
   rintro e w' ⟨rfl, rfl⟩
   have hX0 : X.toList.take (p * r.sz) = cur.toList.take (p * r.sz) := by
    rw [hX]
    simp only [Array.toList_append, List.append_assoc]
    rw [List.take_left' hl0]
   have hR1t : R1.toList.take ((p + m) * r.sz) = cur.toList.take (p * r.sz) ++ newsOf fv (m * r.sz) := by
    rw [hR1, hX0]
    simp only []
    rw [List.take_left' (by rw [List.length_append, hl0, hns, Nat.add_mul])]
   have hR2e : R2.toList = (cur.toList.take (p * r.sz) ++ newsOf fv (m * r.sz) ++ cs) ++ R1.toList.drop ((p + m) * r.sz + cs.length) := by
    rw [hR2, hR1t]
   obtain ⟨E', hup, hrow, hst⟩ := hs.rowFresh hr hq hpu hk (w1 := w.drew.drew.drew) (((Grow.drew w).trans (Grow.drew w.drew)).trans (Grow.drew w.drew.drew)) (G := G) (n' := T) (by rw [hlen', hT]) hGn hGm hR2s hes' hall hR2e
   exact ⟨_, E', rfl, hup, hrow, hst⟩
variable {τ : TyTab}
theorem Pe_rplT {P : Program} (hτ : TyOk P τ) {f fo t e sz : Nat} {te tt t3 : TI} (hb : Bodied P f) (hW : RplW P f fo t sz) (he : τ e = some te) (ht : τ t = some tt) (hkt : tt.k = .slice e) (h3 : τ 3 = some t3) (hk3 : t3.k = .int .i64) (hsz : te.sz = sz) (hpos : Nat.blt 0 sz = true)
  (hov : ∀ args w, (callFunc fo args).run P w = ((Extern.SlicesOverlaps.overlaps #[t, t] #[4] args).run P w).andThen fun v w' => .ok (.value v) w')
  {xs ys : List AV} {p j : Int} {rc : Nat} {rn : Bool} (hp : 0 ≤ p ∧ p < j ∧ j ≤ (xs.length : Int)) (hm0 : ys.length ≠ 0 ∧ (ys.length : Int) ≠ j - p) (hbytes : (xs.length + ys.length) * te.bytes ≤ 140737488351232) (h63 : xs.length + ys.length ≤ 140737488351232) :
  Pe P f ⟨[], [], [(100000, ⟨e, sz, 0, 0, rc, rn, 0, [], xs⟩)], [], []⟩ [.row 100000 0, .int .i64 p, .int .i64 j, .sl sz ys] (.row 100000 1) ⟨[], [], [(100000, ⟨e, sz, 1, 0, 0, false, 0, [], xs.take p.toNat ++ ys ++ xs.drop j.toNat⟩)], [], []⟩ := by
 have o := hτ e te he
 obtain ⟨inf, z, g1, g2, g4, g5, g6⟩ := o.info
 have k1 := (hτ t tt ht).kind
 rw [hkt] at k1
 have k3 := (hτ 3 t3 h3).kind
 rw [hk3] at k3
 have hzs : z.cells.size = sz := by
  have := congrArg List.length g6
  rw [List.length_map, o.len, hsz] at this
  simpa using this
 have hz1 : ∀ v ∈ z.cells, v.oneCell' = true := fun v hv => by
  have h := o.lit
  rw [List.all_eq_true] at h
  have : v ∈ te.zero.map AV.zv := by rw [← g6]; simpa using hv
  obtain ⟨a, ha, rfl⟩ := List.mem_map.1 this
  have := h a ha
  cases a <;> simp [AV.isZ] at this <;> rfl
 refine ⟨hb, fun w M E F vs hs hrel => ?_⟩
 obtain ⟨hl, hv⟩ := hrel
 match vs, hl with
 | [v0, v1, v2, v3], _ =>
 obtain ⟨n, c, a, q, rfl, hq, hve, hh⟩ := Rel.row_inv (hv 0 v0 _ rfl rfl)
 have e1 := Rel.int_inv (hv 1 v1 _ rfl rfl)
 subst e1
 have e2 := Rel.int_inv (hv 2 v2 _ rfl rfl)
 subst e2
 obtain ⟨hy, va, vc, rfl, _, _⟩ := Rel.sl_inv (hv 3 v3 _ rfl rfl)
 obtain ⟨q', hq', hok⟩ := hs.rw 100000 _ rfl
 rw [hq] at hq'; cases hq'
 obtain ⟨rfl, rfl, rfl⟩ := hh (by rw [hok.ver])
 have hpn : p = ((p.toNat : Nat) : Int) := by omega
 have hjn : j = ((j.toNat : Nat) : Int) := by omega
 have hcall := hs.replaceRow (i := 100000) (r := ⟨e, sz, 0, 0, rc, rn, 0, [], xs⟩) rfl hq rfl rfl hW k1 k3 g1 g5 (g2.trans hsz) hzs hz1 (Nat.le_of_ble_eq_true hpos) hov (p := p.toNat) (j := j.toNat) (m := ys.length) (by omega) (by show j.toNat ≤ xs.length; omega) rfl (by omega) (by omega) hy
  (by show (xs.length + ys.length) * inf.bytes ≤ _; rw [g4]; omega) (by show xs.length + ys.length ≤ _; exact h63)
 have hqn := hok.n
 rw [hqn]
 rw [← hpn, ← hjn] at hcall
 refine hcall.mono ?_
 rintro e' w' ⟨v, E', rfl, hup, hrow, hst⟩
 have hsub := hst.sub (t := ⟨[], [], [(100000, ⟨e, sz, 1, 0, 0, false, 0, [], xs.take p.toNat ++ ys ++ xs.drop j.toNat⟩)], [], []⟩) (fun i v h => by cases h) (fun i v h => by cases h)
  (fun i v h => by
   rw [aget_cons] at h ⊢
   split at h
   ·rename_i e; rw [if_pos e]; exact h
   ·cases h) (fun i v h => by cases h) (fun i v h => by cases h) rfl
 refine ⟨M, _, v, rfl, Env.lw_of hup _ _ _ _, hsub, ?_⟩
 exact (Rel.cell hrow).keep rfl
end Go.Dm
