/- The machine over the model's code, part EmI. -/
import Derived.Shelf.Spec.SlicesInsertGrow
import Derived.Test.YtdjlninhfndjfaaEmD
set_option linter.unusedVariables false
set_option linter.unusedSimpArgs false
set_option linter.unusedSectionVars false
namespace Go.Dm
open Go
theorem copy_row {P : Program} (w : World) (dT sT ty elem : TypeId) (g o dLen dCap : Nat) (a : Addr) (sLen sCap : Nat) (cur : Array Value) (t : TypeId) (cs : List Value) (sz : Nat)
  (hu : P.underlying dT = some (.slice elem)) (hs : (P.info? elem).map (·.size) = some sz)
  (hg : w.heap[g]? = some (.cells cur t (0, 0))) (hn : cs.length = Nat.min sLen dLen * sz)
  (hsrc : ∀ j v, cs[j]? = some v → w.cell? (a.add j) = some v) (hfit : o + cs.length ≤ cur.size) (h1 : ∀ v ∈ cs, v.oneCell' = true) :
  (Builtin.copy_ #[dT, sT] ty #[.slice (some ⟨g, o, none⟩) dLen dCap, .slice (some a) sLen sCap]).run P w =
   .ok (goInt (Nat.min sLen dLen)) (w.setRow g (cur.toList.take o ++ cs ++ cur.toList.drop (o + cs.length)).toArray) := by
 have hl := run_loadCells_list (P := P) w a cs hsrc
 have hst := run_storeCells_at P g o t cs 0 cur w hg (by simpa using hfit) h1
 cases hq : P.info? elem with
 | none => simp [hq] at hs
 | some i =>
  have hi : i.size = sz := by simpa [hq] using hs
  simp [Builtin.copy_, run_underlying hu, Builtin.lenOf, Builtin.firstCells, sizeOf, typeInfo, hq, hi, ← hn, hl, hst]
structure InsW (P : Program) (f fo t : Nat) (sz : Nat) : Prop where
 shift : ∀ (b n c i : Nat) (va : Option Addr) (m vc : Nat) (w W1 W2 : World), i < n → 0 < m → n + m ≤ c → c ≤ 9223372036854775807 →
  (∀ lb cb, (callFunc fo #[.slice va m vc, .slice (some ⟨b, (i + m) * sz, none⟩) lb cb]).run P w = .ok (.value (.bool false)) w) →
  (∀ ty dc sc, (Builtin.copy_ #[t, t] ty #[.slice (some ⟨b, (i + m) * sz, none⟩) (n + m - (i + m)) dc, .slice (some ⟨b, i * sz, none⟩) (n + m - i) sc]).run P w.drew = .ok (goInt ((n : Int) - i)) W1) →
  (∀ ty dc, (Builtin.copy_ #[t, t] ty #[.slice (some ⟨b, i * sz, none⟩) (n + m - i) dc, .slice va m vc]).run P W1 = .ok (goInt m) W2) →
  Calls P f #[.slice (some ⟨b, 0, none⟩) n c, .int .i64 i, .slice va m vc] w fun e w' => e = .returned (.slice (some ⟨b, 0, none⟩) (n + m) c) ∧ w' = W2
 fin : ∀ (a : Option Addr) (n c : Nat) (va : Option Addr) (m vc : Nat) (w W1 : World) (v1 : Value), 0 < m →
  (∀ ty, (Builtin.append_ #[t, t] ty #[.slice a n c, .slice va m vc]).run P w = .ok v1 W1) → (∃ b k l, v1 = .slice b k l) →
  Calls P f #[.slice a n c, .int .i64 n, .slice va m vc] w fun e w' => e = .returned v1 ∧ w' = W1
 grow : ∀ (b n c i g G : Nat) (va : Option Addr) (m vc : Nat) (w W1 W2 W3 : World), i < n → 0 < m → c < n + m → n ≤ c → n + m ≤ 140737488351232 → n + m ≤ G → G ≤ 9223372036854775807 →
  (∀ ty, (Builtin.append_ #[t, 3] ty #[.slice (some ⟨b, 0, none⟩) i c, .int .i64 ((n : Int) + (m : Int) - (i : Int))]).run P w = .ok (.slice (some ⟨g, 0, none⟩) (n + m) G) W1) →
  (∀ ty dc, (Builtin.copy_ #[t, t] ty #[.slice (some ⟨g, i * sz, none⟩) (n + m - i) dc, .slice va m vc]).run P W1 = .ok (goInt m) W2) →
  (∀ ty dc sc, (Builtin.copy_ #[t, t] ty #[.slice (some ⟨g, (i + m) * sz, none⟩) (n + m - (i + m)) dc, .slice (some ⟨b, i * sz, none⟩) (n - i) sc]).run P W2.drew = .ok (goInt ((n : Int) - i)) W3) →
  Calls P f #[.slice (some ⟨b, 0, none⟩) n c, .int .i64 i, .slice va m vc] w fun e w' => e = .returned (.slice (some ⟨g, 0, none⟩) (n + m) G) ∧ w' = W3
def LR (M : Mem) (vs : List Value) (us : List AV) : Prop := vs.length = us.length ∧ ∀ (j : Nat) (u : AV), us[j]? = some u → ∃ v, vs[j]? = some v ∧ RelP M v u
theorem LR.append {M : Mem} {a b : List Value} {x y : List AV} (h : LR M a x) (h' : LR M b y) : LR M (a ++ b) (x ++ y) := by
 refine ⟨by rw [List.length_append, List.length_append, h.1, h'.1], fun j u hj => ?_⟩
 rw [List.getElem?_append] at hj
 split at hj
 ·rename_i hlt
  obtain ⟨v, hv, hr⟩ := h.2 j u hj
  exact ⟨v, by rw [List.getElem?_append_left (by rw [h.1]; exact hlt)]; exact hv, hr⟩
 ·rename_i hge
  obtain ⟨v, hv, hr⟩ := h'.2 _ u hj
  exact ⟨v, by rw [List.getElem?_append_right (by rw [h.1]; omega), h.1]; exact hv, hr⟩
theorem LR.take {M : Mem} {a : List Value} {x : List AV} (h : LR M a x) (n : Nat) : LR M (a.take n) (x.take n) := by
 refine ⟨by simp [h.1], fun j u hj => ?_⟩
 rw [List.getElem?_take] at hj
 split at hj
 ·rename_i hlt
  obtain ⟨v, hv, hr⟩ := h.2 j u hj
  exact ⟨v, by rw [List.getElem?_take, if_pos hlt]; exact hv, hr⟩
 ·cases hj
theorem LR.drop {M : Mem} {a : List Value} {x : List AV} (h : LR M a x) (n : Nat) : LR M (a.drop n) (x.drop n) := by
 refine ⟨by simp [h.1], fun j u hj => ?_⟩
 rw [List.getElem?_drop] at hj
 obtain ⟨v, hv, hr⟩ := h.2 _ u hj
 exact ⟨v, by rw [List.getElem?_drop]; exact hv, hr⟩
theorem LR.one {M : Mem} {a : List Value} {x : List AV} (h : LR M a x) : ∀ v ∈ a, v.oneCell' = true := by
 intro v hv
 obtain ⟨j, hj⟩ := List.getElem?_of_mem hv
 have hlt : j < x.length := by rw [← h.1]; exact (List.getElem?_eq_some_iff.1 hj).1
 obtain ⟨v', hv', hr⟩ := h.2 j _ (List.getElem?_eq_getElem hlt)
 rw [hj] at hv'; cases hv'
 exact hr.one.1
theorem LR.of {M : Mem} {cur : List Value} {x : List AV} (hl : x.length ≤ cur.length) (h : ∀ (j : Nat) (u : AV), x[j]? = some u → ∃ v, cur[j]? = some v ∧ RelP M v u) : LR M (cur.take x.length) x := by
 refine ⟨by rw [List.length_take]; omega, fun j u hj => ?_⟩
 obtain ⟨v, hv, hr⟩ := h j u hj
 have : j < x.length := (List.getElem?_eq_some_iff.1 hj).1
 exact ⟨v, by rw [List.getElem?_take, if_pos this]; exact hv, hr⟩
theorem overlaps_apart {P : Program} (w : World) (tS tR e : TypeId) (ht : P.underlying tS = some (.slice e)) (size : Nat) (hz : ∀ w, (Go.sizeOf e).run P w = .ok size w)
  (a : Option Addr) (b : Addr) (la ca lb cb : Nat) (h : la ≠ 0 → size ≠ 0 → ∃ a', a = some a' ∧ a'.block ≠ b.block ∧ ∃ tA kA, w.shape? a'.block = some (tA, kA + 1)) (tB : TypeId) (kB : Nat)
  (hsb : w.shape? b.block = some (tB, kB)) (hkB : kB ≠ 0) (hfb : w.frozen? b = false) (hfe : w.frozen? { block := b.block, off := kB } = false) :
  (Extern.SlicesOverlaps.overlaps #[tS, tS] #[tR] #[.slice a la ca, .slice (some b) lb cb]).run P w = .ok (.bool false) w := by
 cases a with
 | none =>
  change Sem.run P (_ >>= _) w = _
  simp [run_underlying ht, hz]
 | some a =>
  change Sem.run P (_ >>= _) w = _
  by_cases h0 : la = 0 ∨ lb = 0 ∨ size = 0
  ·simp [run_underlying ht, hz, h0]
  ·obtain ⟨a', e1, hne, tA, kA, hsa⟩ := h (fun e => h0 (.inl e)) (fun e => h0 (.inr (.inr e)))
   cases e1
   have hnb : (a.block != b.block) = true := by simpa using hne
   have hnb' : (a.block == b.block) = false := by simpa using hne
   cases kB with
   | zero => exact absurd rfl hkB
   | succ kB =>
    cases hfa : w.frozen? a <;> cases hfa2 : w.frozen? { block := a.block, off := kA + 1 } <;>
    simp [run_underlying ht, hz, h0, hnb, hnb', frozen, noView, viewAt, mayBeOne, stringish, shape, Sem.run, hsa, hsb, hfa, hfa2, hfe, hfb]
variable {g : Gh} {N : Nat} {M : Mem} {E : Env} {s : S} {tmps : Array Value} {w : World}
theorem flat_split {sz : Nat} {xs ys : List AV} (p : Nat) (h : ∀ x ∈ xs, x.cells.length = sz) : flat (xs.take p ++ ys ++ xs.drop p) = (flat xs).take (p * sz) ++ flat ys ++ (flat xs).drop (p * sz) := by
 rw [flat_append, flat_append, flat_take p h, flat_drop p h]
theorem shape_of {w : World} {b : Nat} {vs : Array Value} {e : TypeId} {fr : Nat × Nat} (h : w.heap[b]? = some (.cells vs e fr)) : w.shape? b = some (e, vs.size) := by
 simp [World.shape?, h]
theorem frozen_of {w : World} {b j : Nat} {vs : Array Value} {e : TypeId} (h : w.heap[b]? = some (.cells vs e (0, 0))) : w.frozen? ⟨b, j, none⟩ = false := by
 simp [World.frozen?, h]
theorem setRow_get {w : World} {b : Nat} {vs ws : Array Value} {e : TypeId} {fr : Nat × Nat} (h : w.heap[b]? = some (.cells vs e fr)) : (w.setRow b ws).heap[b]? = some (.cells ws e fr) := by
 have hlt : b < w.heap.size := (Array.getElem?_eq_some_iff.1 h).1
 have hv : w.heap[b] = .cells vs e fr := (Array.getElem?_eq_some_iff.1 h).2
 simp only [World.setRow]
 rw [Array.getElem?_eq_getElem (by simpa using hlt)]
 simp [Array.getElem_modify, hv]
theorem St.insertRow (hs : St g N M E s tmps w) {i : Nat} {r : Rw} {q : RwE} (hr : aget s.rw i = some r) (hq : E.rw i = some q) (hpu : r.pu = 0) (hk : r.k = 0)
  {P : Program} {f fo t : Nat} {inf : TypeInfo} {z : Value} (hW : InsW P f fo t r.sz) (ht : P.underlying t = some (.slice r.ty)) (h3 : P.underlying 3 = some (.int .i64)) (hi : P.info? r.ty = some inf) (hz : inf.zero = some z)
  (hsize : inf.size = r.sz) (hzs : z.cells.size = r.sz) (hpos : 0 < r.sz)
  (hov : ∀ args w, (callFunc fo args).run P w = ((Extern.SlicesOverlaps.overlaps #[t, t] #[4] args).run P w).andThen fun v w' => .ok (.value v) w')
  {p m : Nat} (hp : p ≤ r.xs.length) {va : Option Addr} {vc : Nat} {ys : List AV} (hm : m = ys.length) (hm0 : 0 < m) (hy : RelP M (.slice va m vc) (.sl r.sz ys))
  (hbytes : (r.xs.length + m) * inf.bytes ≤ 140737488355328) (h63 : r.xs.length + m ≤ 140737488351232) :
  Calls P f #[.slice q.a r.xs.length q.c, .int .i64 p, .slice va m vc] w fun e w' => ∃ v E', e = .returned v ∧ E.up E' ∧ RelS M E' v (.row i (r.ver + 1)) ∧
   St g N M E' { s with rw := (i, { r with ver := r.ver + 1, cm := 0, nl := false, xs := r.xs.take p ++ ys ++ r.xs.drop p }) :: s.rw } tmps w' := by
 obtain ⟨q', hq', hok⟩ := hs.rw i r hr
 rw [hq] at hq'; cases hq'
 have hqn := hok.n
 have hnc := hok.nc
 have hcap := hok.cap
 have hmx : maxLen = 9223372036854775807 := rfl
 cases hy with
 | sl _ _ _ _ _ fv hn hc hb hzy ha hf =>
 have hyne : ys ≠ [] := by intro e; rw [e] at hm; simp at hm; omega
 obtain ⟨vb, voff, rfl, hva⟩ := ha hyne
 have hfl : (flat ys).length = m * r.sz := by rw [flat_len hzy, hm]
 have hfx : (flat r.xs).length = r.xs.length * r.sz := flat_len hok.es
 have hLn : LR M (newsOf fv (m * r.sz)) (flat ys) := by
  refine ⟨by rw [newsOf_len, hfl], fun j u hj => ⟨fv j, newsOf_get ?_, hf j u hj⟩⟩
  rw [← hfl]; exact (List.getElem?_eq_some_iff.1 hj).1
 have hsrc : ∀ j v, (newsOf fv (m * r.sz))[j]? = some v → w.cell? ⟨vb, voff + j, none⟩ = some v := fun j v hj => by
  obtain ⟨h1, rfl⟩ := newsOf_get' hj
  exact (hs.mem _ _ _ (hva j (by rw [hfl]; exact h1))).1
 have hflp : 0 < (flat ys).length := by rw [hfl]; exact Nat.mul_pos hm0 hpos
 have hvb : E.own vb ≠ some (1, i, 0) := fun e => by
  have := (hs.mem _ _ _ (hva 0 hflp)).2 _ e
  simp [sealN, hr, hk] at this
 rcases Nat.lt_or_ge p r.xs.length with hlt | hge
 ·
  rcases hok.blk with h0 | ⟨blk, cur, hqa, hown, hheap, hcur, hcs⟩
  ·omega
  have hne : vb ≠ blk := fun e => hvb (by rw [e]; exact hown)
  rw [hok.sz] at hcur
  have hcl : cur.size = cur.toList.length := by simp
  have hLc : LR M (cur.toList.take (flat r.xs).length) (flat r.xs) := LR.of (by rw [hfx, ← hcl, hcur]; exact Nat.mul_le_mul_right _ (by omega)) (fun j u hj => by
   obtain ⟨v, hv, hr2⟩ := hcs j u hj
   rw [hpu] at hr2
   exact ⟨v, by simpa using hv, hr2⟩)
  have hpm : p * r.sz ≤ r.xs.length * r.sz := Nat.mul_le_mul_right _ hp
  have hA : (cur.toList.take (r.xs.length * r.sz)).take (p * r.sz) = cur.toList.take (p * r.sz) := by rw [List.take_take, Nat.min_eq_left hpm]
  obtain ⟨cs, hcsd⟩ : ∃ cs, cs = (cur.toList.take (r.xs.length * r.sz)).drop (p * r.sz) := ⟨_, rfl⟩
  have hnl : r.xs.length * r.sz ≤ cur.toList.length := by rw [← hcl, hcur]; exact Nat.mul_le_mul_right _ (by omega)
  have hcsl : cs.length = (r.xs.length - p) * r.sz := by rw [hcsd, List.length_drop, List.length_take, Nat.min_eq_left hnl, Nat.sub_mul]
  have hLA : LR M (cur.toList.take (p * r.sz)) ((flat r.xs).take (p * r.sz)) := by have := hLc.take (p * r.sz); rw [hfx, hA] at this; exact this
  have hLC : LR M cs ((flat r.xs).drop (p * r.sz)) := by have := hLc.drop (p * r.sz); rw [hfx, ← hcsd] at this; exact this
  have hall : LR M (cur.toList.take (p * r.sz) ++ newsOf fv (m * r.sz) ++ cs) (flat (r.xs.take p ++ ys ++ r.xs.drop p)) := by
   rw [flat_split p hok.es]; exact (hLA.append hLn).append hLC
  have hlen' : (r.xs.take p ++ ys ++ r.xs.drop p).length = r.xs.length + m := by simp [hm]; omega
  have hes' : ∀ x ∈ r.xs.take p ++ ys ++ r.xs.drop p, x.cells.length = r.sz := fun x hx => by
   rw [List.append_assoc] at hx
   rcases List.mem_append.1 hx with h | h
   ·exact hok.es x (List.mem_of_mem_take h)
   ·rcases List.mem_append.1 h with h | h
    ·exact hzy x h
    ·exact hok.es x (List.mem_of_mem_drop h)
  have hdrc : ∀ j v, cs[j]? = some v → w.cell? ⟨blk, p * r.sz + j, none⟩ = some v := fun j v hj => by
   rw [hcsd, List.getElem?_drop, List.getElem?_take] at hj
   split at hj
   ·simp only [World.cell?, hheap]
    simpa using hj
   ·cases hj
  have hshA : ∃ tA kA, w.shape? vb = some (tA, kA + 1) := by
   obtain ⟨e, n, h1, h2, _⟩ := World.shape?_of_cell? (hs.mem _ _ _ (hva 0 hflp)).1
   exact ⟨e, n - 1, by rw [h1]; congr 2; simp only at h2; omega⟩
  have hns : (newsOf fv (m * r.sz)).length = m * r.sz := newsOf_len _ _
  have hszi : (P.info? r.ty).map (·.size) = some r.sz := by rw [hi]; simp [hsize]
  have hszr : ∀ w, (Go.sizeOf r.ty).run P w = .ok r.sz w := fun w => by simp [sizeOf, typeInfo, hi, hsize]
  have h5 : ∀ q, sealN s (5, i, q) ≤ ownK (flat (r.xs.take p ++ ys ++ r.xs.drop p))[q]? := fun q => by
   have e : sealN s (5, i, q) = ownK (flat r.xs)[q]? := by simp [sealN, hr]
   rw [e, hok.own0 hpu]; exact Nat.zero_le _
  have hrow : ∀ {E' : Env} {a : Option Addr} {n c sz : Nat}, E'.rw i = some ⟨a, n, c, sz, r.ver + 1⟩ → RelS M E' (.slice a n c) (.row i (r.ver + 1)) := fun h =>
   .row i _ _ _ _ _ h (Nat.le_refl _) fun _ => ⟨rfl, rfl, rfl⟩
  by_cases hroom : r.xs.length + m ≤ q.c
  ·
   have hpm2 : (p + m) * r.sz + cs.length ≤ cur.size := by rw [hcsl, hcur, ← Nat.add_mul]; exact Nat.mul_le_mul_right _ (by omega)
   obtain ⟨R1, hR1⟩ : ∃ R1, R1 = (cur.toList.take ((p + m) * r.sz) ++ cs ++ cur.toList.drop ((p + m) * r.sz + cs.length)).toArray := ⟨_, rfl⟩
   have hR1s : R1.size = cur.size := by rw [hR1]; simp; omega
   have hmn : Nat.min (r.xs.length + m - p) (r.xs.length + m - (p + m)) = r.xs.length - p := by simp only [Nat.min_def]; split <;> omega
   have hmn2 : Nat.min m (r.xs.length + m - p) = m := by simp only [Nat.min_def]; split <;> omega
   have hW1h : (w.drew.setRow blk R1).heap[blk]? = some (.cells R1 r.ty (0, 0)) := setRow_get (w := w.drew) hheap
   have hcall := hW.shift blk r.xs.length q.c p (some ⟨vb, voff, none⟩) m vc w (w.drew.setRow blk R1)
    ((w.drew.setRow blk R1).setRow blk (R1.toList.take (p * r.sz) ++ newsOf fv (m * r.sz) ++ R1.toList.drop (p * r.sz + (newsOf fv (m * r.sz)).length)).toArray) hlt hm0 hroom (by omega)
    (fun lb cb => by
     rw [hov, overlaps_apart w t 4 r.ty ht r.sz hszr (some ⟨vb, voff, none⟩) ⟨blk, (p + m) * r.sz, none⟩ m vc lb cb (fun _ _ => ⟨_, rfl, hne, hshA⟩) r.ty cur.size (shape_of hheap) (by
      rw [hcur]; exact Nat.ne_of_gt (Nat.mul_pos (by omega) hpos)) (frozen_of hheap) (frozen_of hheap)]
     rfl)
    (fun ty dc sc => by
     have := copy_row (P := P) w.drew t t ty r.ty blk ((p + m) * r.sz) (r.xs.length + m - (p + m)) dc ⟨blk, p * r.sz, none⟩ (r.xs.length + m - p) sc cur r.ty cs r.sz ht hszi hheap (by rw [hmn, hcsl])
      (fun j v hj => by rw [addr_add]; exact hdrc j v hj) hpm2 hLC.one
     rw [this, hmn, ← hR1]
     congr 2
     omega)
    (fun ty dc => by
     have := copy_row (P := P) (w.drew.setRow blk R1) t t ty r.ty blk (p * r.sz) (r.xs.length + m - p) dc ⟨vb, voff, none⟩ m vc R1 r.ty (newsOf fv (m * r.sz)) r.sz ht hszi hW1h (by rw [hmn2, hns])
      (fun j v hj => by
       rw [addr_add]
       exact (Grow.setRow w.drew blk R1).cell (hsrc j v hj) hne) (by rw [hns, hR1s, hcur, ← Nat.add_mul]; exact Nat.mul_le_mul_right _ (by omega)) hLn.one
     rw [this, hmn2])
   rw [hqa]
   refine hcall.mono ?_
   rintro e w' ⟨rfl, rfl⟩
   have eR : (R1.toList.take (p * r.sz) ++ newsOf fv (m * r.sz) ++ R1.toList.drop (p * r.sz + (newsOf fv (m * r.sz)).length)) = cur.toList.take (p * r.sz) ++ newsOf fv (m * r.sz) ++ cs ++ cur.toList.drop ((p + m) * r.sz + cs.length) := by
    have hl1 : (cur.toList.take ((p + m) * r.sz)).length = (p + m) * r.sz := by rw [List.length_take]; omega
    rw [hns, ← Nat.add_mul, hR1]
    rw [List.append_assoc (cur.toList.take ((p + m) * r.sz)), List.drop_left' hl1, List.take_append_of_le_length (by rw [hl1]; exact Nat.mul_le_mul_right _ (by omega)), List.take_take, Nat.min_eq_left (Nat.mul_le_mul_right _ (by omega))]
    simp [List.append_assoc]
   rw [eR, setRow_setRow]
   obtain ⟨R2, hR2⟩ : ∃ R2, R2 = (cur.toList.take (p * r.sz) ++ newsOf fv (m * r.sz) ++ cs ++ cur.toList.drop ((p + m) * r.sz + cs.length)).toArray := ⟨_, rfl⟩
   rw [← hR2]
   have hl0 : (cur.toList.take (p * r.sz)).length = p * r.sz := by rw [List.length_take]; omega
   have hR2s : R2.size = cur.size := by
    rw [hR2]
    simp only [List.size_toArray, List.length_append, hl0, hns, hcsl, List.length_drop]
    rw [hcsl] at hpm2
    rw [Nat.add_mul] at hpm2 ⊢
    omega
   have hgr : Grow w (w.drew.setRow blk R2) (fun b => E.own b = some (1, i, 0)) :=
    (Grow.drew w).mono (fun _ h => h.elim) |>.trans ((Grow.setRow w.drew blk R2).mono fun b hb => by rw [hb]; exact hown)
   obtain ⟨E', hup, hE', hst⟩ := hs.rowPut (w' := w.drew.setRow blk R2) hr hq (r' := { r with ver := r.ver + 1, cm := 0, nl := false, xs := r.xs.take p ++ ys ++ r.xs.drop p }) (n' := r.xs.length + m) (.inr (Nat.lt_succ_self _)) hgr rfl hlen'.symm hroom hes'
    (by show r.k ≤ _; omega) (Nat.zero_le _) (fun h => by cases h) (Nat.le_refl _) h5
    (fun b j v hb hM => by
     have := (hs.mem _ _ _ hM).2 _ hb
     simp [sealN, hr, hk] at this)
    (fun blk' vs' hq1 _ hh _ _ => by
     rw [hqa] at hq1
     cases hq1
     rw [hheap] at hh
     cases hh
     refine ⟨R2, setRow_get (w := w.drew) hheap, hR2s, fun j u hj => ?_⟩
     obtain ⟨v, hv, hrr⟩ := hall.2 j u hj
     refine ⟨v, ?_, ?_⟩
     ·rw [hR2, List.getElem?_toArray, List.getElem?_append_left (List.getElem?_eq_some_iff.1 hv).1]; exact hv
     ·show cR _ _ _ r.pu _ _ _ _ _ _
      rw [hpu]; exact hrr)
   refine ⟨_, E', rfl, hup, ?_, hst⟩
   have := hrow hE'
   rw [hqa] at this
   exact this
  ·
   have hk0 : 0 < r.xs.length + m - p := by omega
   have hik : p + (r.xs.length + m - p) = r.xs.length + m := by omega
   have hkk : ((r.xs.length : Int) + (m : Int) - (p : Int)) = ((r.xs.length + m - p : Nat) : Int) := by omega
   have hol : (cur.toList.take (p * r.sz)).length = p * r.sz := by rw [List.length_take]; omega
   have hold : (Builtin.firstCells inf.size p (.slice (some ⟨blk, 0, none⟩) p q.c)).run P w.drew = .ok (cur.toList.take (p * r.sz)).toArray w.drew :=
    firstCells_read (P := P) w.drew (by rw [hol, hsize]) (fun _ => ⟨blk, 0, rfl, fun j v hv => by
     rw [Nat.zero_add, World.cell?_drew, cell_of_row w blk j cur r.ty (0, 0) hheap]
     rw [List.getElem?_take] at hv
     split at hv
     ·simpa using hv
     ·cases hv⟩)
   obtain ⟨G, hG⟩ : ∃ G, G = grownCap w (r.xs.length + m) q.c r.ty := ⟨_, rfl⟩
   have hGn : r.xs.length + m ≤ G := by rw [hG]; exact grownCap_ge w _ _ _
   have hGm : G ≤ maxLen := by rw [hG]; exact grownCap_le_maxLen w _ _ r.ty (by omega)
   obtain ⟨X, hX⟩ : ∃ X : Array Value, X = (cur.toList.take (p * r.sz)).toArray ++ Builtin.zeroCells z.cells (r.xs.length + m - p) ++ Builtin.zeroCells z.cells (G - (r.xs.length + m)) := ⟨_, rfl⟩
   have hXs : X.size = G * r.sz := by
    rw [hX]
    simp only [Array.size_append, List.size_toArray, size_zeroCells, hzs, hol, ← Nat.add_mul]
    congr 1; omega
   have hXl : X.toList.length = G * r.sz := by simpa using hXs
   have hrz : ∀ ty, (Builtin.append_ #[t, 3] ty #[.slice (some ⟨blk, 0, none⟩) p q.c, .int .i64 ((r.xs.length : Int) + (m : Int) - (p : Int))]).run P w = .ok (.slice (some ⟨w.heap.size, 0, none⟩) (r.xs.length + m) G) (w.drew.alloc (.cells X r.ty)) := fun ty => by
    have h := Lib.run_append_grow_zeros w t 3 ty r.ty inf z .i64 .i64 ht h3 hi hz (some ⟨blk, 0, none⟩) p q.c (cur.toList.take (p * r.sz)) hold (r.xs.length + m - p) hk0 (by omega) (by omega) (by omega)
     (by
      have : (r.xs.length + m - p) * inf.bytes ≤ (r.xs.length + m) * inf.bytes := Nat.mul_le_mul_right _ (by omega)
      omega) (by rw [hik]; exact growslice_fits (by omega) hbytes)
    rw [hik, ← hG, ← hX] at h
    rw [hkk]; exact h
   have halloc : ∀ (W : World) (X Y : Array Value), (W.alloc (.cells X r.ty)).setRow W.heap.size Y = W.alloc (.cells Y r.ty) := fun W X Y => by
    unfold World.setRow World.alloc
    simp only
    congr 1
    apply Array.ext
    ·simp
    ·intro k h1 h2
     rw [Array.getElem_modify]
     split
     ·rename_i e
      subst e
      simp
     ·rename_i e
      have hlt2 : k < W.heap.size := by simp at h2; omega
      simp [Array.getElem_push, hlt2]
   have hget : ∀ (W : World) (Y : Array Value), (W.alloc (.cells Y r.ty)).heap[W.heap.size]? = some (.cells Y r.ty (0, 0)) := fun W Y => by
    show (W.heap.push _)[W.heap.size]? = _
    simp
   have hblt : blk < w.heap.size := (Array.getElem?_eq_some_iff.1 hheap).1
   have hvlt : vb < w.heap.size := World.block_lt_of_cell? _ _ (hs.mem _ _ _ (hva 0 hflp)).1
   have hpG : p * r.sz + m * r.sz ≤ G * r.sz := by rw [← Nat.add_mul]; exact Nat.mul_le_mul_right _ (by omega)
   have hpG2 : (p + m) * r.sz + cs.length ≤ G * r.sz := by rw [hcsl, ← Nat.add_mul]; exact Nat.mul_le_mul_right _ (by omega)
   obtain ⟨R1, hR1⟩ : ∃ R1, R1 = (X.toList.take (p * r.sz) ++ newsOf fv (m * r.sz) ++ X.toList.drop (p * r.sz + (newsOf fv (m * r.sz)).length)).toArray := ⟨_, rfl⟩
   have hR1s : R1.size = G * r.sz := by rw [hR1]; simp only [List.size_toArray, List.length_append, List.length_take, List.length_drop, hns, hXl]; omega
   have hR1l : R1.toList.length = G * r.sz := by simpa using hR1s
   obtain ⟨R2, hR2⟩ : ∃ R2, R2 = (R1.toList.take ((p + m) * r.sz) ++ cs ++ R1.toList.drop ((p + m) * r.sz + cs.length)).toArray := ⟨_, rfl⟩
   have hR2s : R2.size = G * r.sz := by rw [hR2]; simp only [List.size_toArray, List.length_append, List.length_take, List.length_drop, hR1l]; omega
   have hmn1 : Nat.min m (r.xs.length + m - p) = m := by simp only [Nat.min_def]; split <;> omega
   have hmn2 : Nat.min (r.xs.length - p) (r.xs.length + m - (p + m)) = r.xs.length - p := by simp only [Nat.min_def]; split <;> omega
   have hcall := hW.grow blk r.xs.length q.c p w.heap.size G (some ⟨vb, voff, none⟩) m vc w (w.drew.alloc (.cells X r.ty)) (w.drew.alloc (.cells R1 r.ty)) (w.drew.drew.alloc (.cells R2 r.ty)) hlt hm0 (by omega) (by omega) h63 hGn (by omega)
    hrz
    (fun ty dc => by
     have := copy_row (P := P) (w.drew.alloc (.cells X r.ty)) t t ty r.ty w.heap.size (p * r.sz) (r.xs.length + m - p) dc ⟨vb, voff, none⟩ m vc X r.ty (newsOf fv (m * r.sz)) r.sz ht hszi (hget w.drew X) (by rw [hmn1, hns])
      (fun j v hj => by
       rw [addr_add]
       exact (Grow.alloc w.drew _).cell (hsrc j v hj) (fun h => h)) (by rw [hns, hXs]; exact hpG) hLn.one
     rw [this, hmn1, ← hR1]
     rw [show w.heap.size = w.drew.heap.size from rfl, halloc w.drew X R1])
    (fun ty dc sc => by
     have := copy_row (P := P) (w.drew.alloc (.cells R1 r.ty)).drew t t ty r.ty w.heap.size ((p + m) * r.sz) (r.xs.length + m - (p + m)) dc ⟨blk, p * r.sz, none⟩ (r.xs.length - p) sc R1 r.ty cs r.sz ht hszi (hget w.drew R1) (by rw [hmn2, hcsl])
      (fun j v hj => by
       rw [addr_add]
       exact (Grow.alloc w.drew _).cell (hdrc j v hj) (fun h => h)) (by rw [hR1s]; exact hpG2) hLC.one
     rw [this, hmn2, ← hR2]
     rw [show (w.drew.alloc (.cells R1 r.ty)).drew = w.drew.drew.alloc (.cells R1 r.ty) from rfl, show w.heap.size = w.drew.drew.heap.size from rfl, halloc w.drew.drew R1 R2]
     congr 2
     omega)
   rw [hqa]
   refine hcall.mono ?_
   rintro e w' ⟨rfl, rfl⟩
   have hX0 : X.toList.take (p * r.sz) = cur.toList.take (p * r.sz) := by
    rw [hX]
    simp only [Array.toList_append, List.append_assoc]
    rw [List.take_left' hol]
   have hR1t : R1.toList.take ((p + m) * r.sz) = cur.toList.take (p * r.sz) ++ newsOf fv (m * r.sz) := by
    rw [hR1, hX0]
    simp only []
    rw [List.take_left' (by rw [List.length_append, hol, hns, Nat.add_mul])]
   obtain ⟨E', hup, hE', hst⟩ := hs.rowNew (i := i) (vr := r.ver + 1) (.inr ⟨r, hr, Nat.lt_succ_self _⟩) (w1 := w.drew.drew) ((Grow.drew w).trans (Grow.drew w.drew))
    (vs := R2) (e := r.ty) (sz := r.sz) (n := r.xs.length + m) (c := G) (k := r.k) (cm := 0) (nl := false) (pu := r.pu) (ns := r.ns) (xs := r.xs.take p ++ ys ++ r.xs.drop p) (by omega) hlen'.symm hGn hGm hes' (Nat.zero_le _)
    (fun e => by cases e) hR2s h5
    (fun j u hj => by
     obtain ⟨v, hv, hrr⟩ := hall.2 j u hj
     refine ⟨v, ?_, ?_⟩
     ·rw [hR2, hR1t, List.getElem?_toArray, List.getElem?_append_left (List.getElem?_eq_some_iff.1 hv).1]; exact hv
     ·show cR _ _ _ r.pu _ _ _ _ _ _
      rw [hpu]; exact hrr)
   exact ⟨_, E', rfl, hup, hrow hE', hst⟩
 ·
  have e : p = r.xs.length := by omega
  subst e
  have hxv : SrcV P w t (.slice (some ⟨vb, voff, none⟩) m vc) r.sz m (newsOf fv (m * r.sz)) :=
   srcV_slice (.inl ⟨_, ht⟩) (newsOf_len _ _) hLn.one (fun _ => ⟨vb, voff, rfl, hsrc⟩)
  obtain ⟨v', w', E', hrun, hup, hrow, hst⟩ := hs.appendRow (ty := 0) hr hq ht hi hz hsize hzs hpos (n0 := r.xs.length) (Nat.le_refl _) (by omega) (.inr rfl) hxv hm hzy
   (fun j u hj => by
    obtain ⟨v, hv, hrr⟩ := hLn.2 j u hj
    refine ⟨v, hv, ?_⟩
    rw [hpu]; exact hrr) (cm' := 0) (nl' := false) (.inl (Nat.zero_le _)) (fun h => by cases h) (by omega) hbytes
  have hcall := hW.fin q.a r.xs.length q.c (some ⟨vb, voff, none⟩) m vc w w' v' hm0 (fun ty => hrun) (by
   obtain ⟨n, c, a, q2, rfl, _⟩ := Rel.row_inv (.cell hrow)
   exact ⟨_, _, _, rfl⟩)
  refine hcall.mono ?_
  rintro e w'' ⟨rfl, rfl⟩
  refine ⟨v', E', rfl, hup, hrow, ?_⟩
  rw [List.take_length, List.drop_length, List.append_nil]
  rw [List.take_length] at hst
  exact hst
theorem Env.lw_of {E E' : Env} (h : E.up E') (kb kr km ka : Nat → Bool) : E.lw (E'.keep kb kr km ka) := by
 have hk := Env.keep_le E' kb kr km ka
 refine ⟨fun i b b' h1 h2 => ?_, fun i q q' h1 h2 => ?_, fun i r r' h1 h2 => ?_, fun i bs bs' h1 h2 => ?_⟩
 ·have a := h.le.bx i b h1
  have c := hk.bx i b' h2
  rw [a] at c; cases c; rfl
 ·obtain ⟨q1, a1, a2, a3⟩ := h.le.rw i q h1
  have c : E'.rw i = some q' := by
   simp only [Env.keep] at h2
   split at h2
   ·exact h2
   ·cases h2
  rw [a1] at c; cases c
  exact ⟨a2, a3⟩
 ·have a := h.le.mp i r h1
  have c := hk.mp i r' h2
  rw [a] at c; cases c; rfl
 ·obtain ⟨l, a⟩ := h.le.ar i bs h1
  have c : E'.ar i = some bs' := by
   simp only [Env.keep] at h2
   split at h2
   ·exact h2
   ·cases h2
  rw [a] at c; cases c
  exact ⟨l, rfl⟩
theorem Pe_ins {P : Program} {f fo t e : Nat} {inf : TypeInfo} {z : Value} {sz : Nat} (hb : Bodied P f) (hW : InsW P f fo t sz) (ht : P.underlying t = some (.slice e)) (h3 : P.underlying 3 = some (.int .i64)) (hi : P.info? e = some inf) (hz : inf.zero = some z)
  (hsize : inf.size = sz) (hzs : z.cells.size = sz) (hpos : 0 < sz)
  (hov : ∀ args w, (callFunc fo args).run P w = ((Extern.SlicesOverlaps.overlaps #[t, t] #[4] args).run P w).andThen fun v w' => .ok (.value v) w')
  {xs ys : List AV} {p : Int} {rc : Nat} {rn : Bool} (hp : 0 ≤ p ∧ p ≤ (xs.length : Int)) (hm0 : ys.length ≠ 0) (hbytes : (xs.length + ys.length) * inf.bytes ≤ 140737488355328) (h63 : xs.length + ys.length ≤ 140737488351232) :
  Pe P f ⟨[], [], [(100000, ⟨e, sz, 0, 0, rc, rn, 0, [], xs⟩)], [], []⟩ [.row 100000 0, .int .i64 p, .sl sz ys] (.row 100000 1) ⟨[], [], [(100000, ⟨e, sz, 1, 0, 0, false, 0, [], xs.take p.toNat ++ ys ++ xs.drop p.toNat⟩)], [], []⟩ := by
 refine ⟨hb, fun w M E F vs hs hrel => ?_⟩
 obtain ⟨hl, hv⟩ := hrel
 match vs, hl with
 | [v0, v1, v2], _ =>
 obtain ⟨n, c, a, q, rfl, hq, hve, hh⟩ := Rel.row_inv (hv 0 v0 _ rfl rfl)
 have e1 := Rel.int_inv (hv 1 v1 _ rfl rfl)
 subst e1
 obtain ⟨hy, va, vc, rfl, _, _⟩ := Rel.sl_inv (hv 2 v2 _ rfl rfl)
 obtain ⟨q', hq', hok⟩ := hs.rw 100000 _ rfl
 rw [hq] at hq'; cases hq'
 obtain ⟨rfl, rfl, rfl⟩ := hh (by rw [hok.ver])
 have hpn : p = ((p.toNat : Nat) : Int) := by omega
 have hcall := hs.insertRow (i := 100000) (r := ⟨e, sz, 0, 0, rc, rn, 0, [], xs⟩) rfl hq rfl rfl hW ht h3 hi hz hsize hzs hpos hov (p := p.toNat) (m := ys.length) (by show p.toNat ≤ xs.length; omega) rfl (by omega) hy hbytes h63
 have hqn := hok.n
 rw [hqn]
 rw [← hpn] at hcall
 refine hcall.mono ?_
 rintro e' w' ⟨v, E', rfl, hup, hrow, hst⟩
 have hsub := hst.sub (t := ⟨[], [], [(100000, ⟨e, sz, 1, 0, 0, false, 0, [], xs.take p.toNat ++ ys ++ xs.drop p.toNat⟩)], [], []⟩) (fun i v h => by cases h) (fun i v h => by cases h)
  (fun i v h => by
   rw [aget_cons] at h ⊢
   split at h
   ·rename_i e; rw [if_pos e]; exact h
   ·cases h) (fun i v h => by cases h) (fun i v h => by cases h) rfl
 refine ⟨M, _, v, rfl, Env.lw_of hup _ _ _ _, hsub, ?_⟩
 exact (Rel.cell hrow).keep rfl
variable {τ : TyTab}
theorem Pe_insT {P : Program} (hτ : TyOk P τ) {f fo t e sz : Nat} {te tt t3 : TI} (hb : Bodied P f) (hW : InsW P f fo t sz) (he : τ e = some te) (ht : τ t = some tt) (hk : tt.k = .slice e) (h3 : τ 3 = some t3) (hk3 : t3.k = .int .i64) (hsz : te.sz = sz) (hpos : Nat.blt 0 sz = true)
  (hov : ∀ args w, (callFunc fo args).run P w = ((Extern.SlicesOverlaps.overlaps #[t, t] #[4] args).run P w).andThen fun v w' => .ok (.value v) w')
  {xs ys : List AV} {p : Int} {rc : Nat} {rn : Bool} (hp : 0 ≤ p ∧ p ≤ (xs.length : Int)) (hm0 : ys.length ≠ 0) (hbytes : (xs.length + ys.length) * te.bytes ≤ 140737488351232) (h63 : xs.length + ys.length ≤ 140737488351232) :
  Pe P f ⟨[], [], [(100000, ⟨e, sz, 0, 0, rc, rn, 0, [], xs⟩)], [], []⟩ [.row 100000 0, .int .i64 p, .sl sz ys] (.row 100000 1) ⟨[], [], [(100000, ⟨e, sz, 1, 0, 0, false, 0, [], xs.take p.toNat ++ ys ++ xs.drop p.toNat⟩)], [], []⟩ := by
 have o := hτ e te he
 obtain ⟨inf, z, h1, h2, h4, h5, h6⟩ := o.info
 have k1 := (hτ t tt ht).kind
 rw [hk] at k1
 have k3 := (hτ 3 t3 h3).kind
 rw [hk3] at k3
 refine Pe_ins hb hW k1 k3 h1 h5 (h2.trans hsz) ?_ (Nat.le_of_ble_eq_true hpos) hov hp hm0 (by rw [h4]; omega) h63
 have := congrArg List.length h6
 rw [List.length_map, o.len, hsz] at this
 simpa using this
end Go.Dm
