/- The machine over the model's code, part EmQ. -/
import Derived.Test.YtnibbgjoanbnmaaEmD
import Derived.Maps.RangeRun
set_option linter.unusedVariables false
set_option linter.unusedSimpArgs false
set_option linter.unusedSectionVars false
namespace Go.Dm
open Go Go.RowKit Go.MapKept
section
variable {g : Gh} {N : Nat} {M : Mem} {E : Env} {s : S} {tmps : Array Value} {w : World}
theorem St.swap (hs : St g N M E s tmps w) {w' : World} (hk : ∀ b o, E.own b = some o → w'.heap[b]? = w.heap[b]?) (hF : ∀ b, g.F b → w'.heap[b]? = w.heap[b]?) (hm : ∀ b j v, M b j = some v → w'.cell? ⟨b, j, none⟩ = some v)
  (hsz : w.heap.size ≤ w'.heap.size) (h1 : w'.os = w.os) (h2 : w'.tape = w.tape) (h3 : w'.output = w.output) : St g N M E s tmps w' := by
 refine ⟨hs.size, hs.fr, fun b j v h => ⟨hm b j v h, (hs.mem b j v h).2⟩, fun i cs h => ?_, hs.bxn, fun i r h => ?_, hs.rwn, fun i es h => ?_, hs.mpn, fun i r h => ?_, hs.arn, fun b q h => Nat.lt_of_lt_of_le (hs.live b q h) hsz, fun b h => ?_, hs.m0, hs.mf, h1.trans hs.os, h2.trans hs.tape, h3.trans hs.output, Nat.le_trans hs.grow hsz⟩
 ·obtain ⟨b, h1, h2, t, vs, h3, h4⟩ := hs.bx i cs h
  exact ⟨b, h1, h2, t, vs, by rw [hk b _ h2]; exact h3, h4⟩
 ·obtain ⟨q, h1, h2⟩ := hs.rw i r h
  exact ⟨q, h1, h2.mono (fun _ _ _ h => h) (Env.le_refl _) (fun b hb => ⟨hb, hk b _ hb⟩) (fun b j hb => ⟨hb, hk b _ hb⟩)⟩
 ·obtain ⟨r, h1, h2, ents, clock, h3, h4⟩ := hs.mp i es h
  exact ⟨r, h1, h2, ents, clock, by rw [hk r _ h2]; exact h3, h4⟩
 ·obtain ⟨bs, h1, h2⟩ := hs.ar i r h
  exact ⟨bs, h1, h2.mono (fun _ _ _ h => h) (Env.le_refl _) (fun b j hb => ⟨hb, hk b _ hb⟩) (fun b j hb => ⟨hb, hk b _ hb⟩)⟩
 ·obtain ⟨g1, g2, g3⟩ := hs.foreign b h
  exact ⟨Nat.lt_of_lt_of_le g1 hsz, by rw [hF b h, g2], g3⟩
theorem St.rebaseU (hs : St g N M E s tmps w) : St ⟨w, fun b => b < w.heap.size ∧ E.own b = none, M, E⟩ N M E s tmps w :=
 { hs with foreign := fun b hb => ⟨hb.1, rfl, hb.2⟩, m0 := fun _ _ _ h => h, mf := fun _ _ _ h _ => h, os := rfl, tape := rfl, output := rfl, grow := Nat.le_refl _ }
theorem St.unbase (hs : St g N M E s tmps w) {E0 E' : Env} {M' : Mem} {s' : S} {tmps' : Array Value} {w' : World} (h2 : St ⟨w, fun b => b < w.heap.size ∧ E.own b = none, M, E0⟩ N M' E' s' tmps' w') : St g N M' E' s' tmps' w' :=
 { h2 with
  foreign := fun b hb => by
   obtain ⟨a, b1, c⟩ := hs.foreign b hb
   obtain ⟨d, e, f⟩ := h2.foreign b ⟨a, c⟩
   exact ⟨d, e.trans b1, f⟩
  m0 := fun b j v h => h2.m0 b j v (hs.m0 b j v h)
  mf := fun b j v h hF => by
   obtain ⟨a, b1, c⟩ := hs.foreign b hF
   exact hs.mf b j v (h2.mf b j v h ⟨a, c⟩) hF
  os := h2.os.trans hs.os
  tape := h2.tape.trans hs.tape
  output := h2.output.trans hs.output
  grow := Nat.le_trans hs.grow h2.grow }
theorem p0_trans {E0 E1 E2 : Env} (h : Env.p0 E0 E1) (h' : Env.p0 E1 E2) : Env.p0 E0 E2 := by
 refine ⟨fun i b hi e => h.bx i b hi (h'.bx i b hi e), fun i q hi e hv => h.rw i q hi (h'.rw i q hi e hv) hv, fun i r hi e => h.mp i r hi (h'.mp i r hi e), fun i bs hi e => ?_⟩
 obtain ⟨b1, l1, e1, f1⟩ := h'.ar i bs hi e
 obtain ⟨b0, l0, e0, f0⟩ := h.ar i b1 hi e1
 exact ⟨b0, l0 ++ l1, e0, by rw [f1, f0, List.append_assoc]⟩
theorem p0_refl (E : Env) : Env.p0 E E := ⟨fun _ _ _ h => h, fun _ _ _ h _ => h, fun _ _ _ h => h, fun _ bs _ h => ⟨bs, [], h, (List.append_nil _).symm⟩⟩
theorem St.putN {a : Act} (hs : St g N M E s a.tmps w) {d : Nat} (hd : aget s.fr d = none) (v : Value) : St g N M E s (a.put (some d) v).tmps w := by
 refine { hs with size := by simpa [Act.put] using hs.size, fr := fun i av hi => ?_ }
 have hne : i ≠ d := by rintro rfl; rw [hd] at hi; cases hi
 obtain ⟨h1, h2⟩ := hs.fr i av hi
 simp only [Act.put, Array.getD_eq_getD_getElem?]
 rw [Array.getElem?_setIfInBounds_ne (fun e => hne e.symm)]
 rw [Array.getD_eq_getD_getElem?] at h2
 exact ⟨h1, h2⟩
theorem Rel.raw_inv {v u : Value} (h : Rel M E v (.raw u)) : v = u := by
 cases h with
 | cell h => cases h with
  | pure h => cases h; rfl
end
theorem arO_nil_none (E : Env) : (E.arO []).le Env.none := ⟨fun _ _ h => (by cases h), fun _ _ h => (by cases h), fun _ _ h => (by cases h), fun _ _ h => (by cases h)⟩
theorem mns_nil {i : Nat} (h : spM i = false) : mns i = [] := by unfold mns; rw [h]
structure Itr (M : Mem) (E : Env) (w : World) (r r0 : Nat) (es : List (AV × AV)) (ents : Array MapEntry) (seen : Array Nat) : Prop where
 ri : ∃ c0, es.length ≤ c0 ∧ w.heap[r]? = some (.mapIter (some r0) es.length seen c0)
 rm : w.heap[r0]? = some (.map ents es.length)
 sz : ents.size = es.length
 bn : ∀ (j : Nat) (e : MapEntry), ents[j]? = some e → e.born = j
 rl : ∀ (j : Nat) (e : MapEntry) (p : AV × AV), ents[j]? = some e → es[j]? = some p → RelP M e.key p.1 ∧ Rel M Env.none e.val p.2
 o1 : E.own r = none
 o0 : E.own r0 = none
theorem born_nodup {ents : Array MapEntry} (h : ∀ (j : Nat) (e : MapEntry), ents[j]? = some e → e.born = j) : (ents.toList.map (·.born)).Nodup := by
 have : ents.toList.map (·.born) = List.range ents.size := by
  apply List.ext_getElem?
  intro i
  rw [List.getElem?_map, Array.getElem?_toList]
  by_cases c : i < ents.size
  ·rw [Array.getElem?_eq_getElem c, List.getElem?_range c, Option.map_some, h i _ (Array.getElem?_eq_getElem c)]
  ·rw [Array.getElem?_eq_none (by omega), List.getElem?_eq_none (by simp; omega)]; rfl
 rw [this]; exact List.nodup_range
section
variable {C : Cx} {k : List It}
theorem run_extract {P : Program} {o : Oper} {x : Operand} {n : Nat} (ho : o.op = .extract x n) {ρ : Operand → Value} {vs : Array Value} {v : Value} (hx : ρ x = .tuple vs) (hv : vs[n]? = some v) (w : World) : (execOp ρ o).run P w = .ok (.value v) w := by
 simp [execOp, ho, hx, Instr.extract, hv]
theorem run_nextOp {P : Program} {o : Oper} {x : Operand} (ho : o.op = .next x false) {ρ : Operand → Value} {w w' : World} {v : Value} (h : (Instr.next (ρ x) false o.type).run P w = .ok v w') : (execOp ρ o).run P w = .ok (.value v) w' := by
 simp [execOp, ho, h]
theorem run_entryOp {P : Program} {o : Oper} {x : Operand} (ho : o.op = .entry x) {ρ : Operand → Value} {w w' : World} {v : Value} (h : (Instr.entry (ρ x)).run P w = .ok v w') : (execOp ρ o).run P w = .ok (.value v) w' := by
 simp [execOp, ho, h]
theorem run_rangeOp {P : Program} {o : Oper} {x : Operand} {t : TypeId} (ho : o.op = .range t x) {ρ : Operand → Value} {w w' : World} {v : Value} (h : (Instr.range t (ρ x)).run P w = .ok v w') : (execOp ρ o).run P w = .ok (.value v) w' := by
 simp [execOp, ho, h]
theorem step_value {P : Program} {ops : Array Oper} {rest : List Oper} {o : Oper} {a : Act} {w w' : World} {Q : Exit → Act → World → Prop} {v : Value} (hg : o.guard = none) (h : (execOp a.eval o).run P w = .ok (.value v) w') (hk : wpList P ops Q rest (a.put o.dst v) w') : wpList P ops Q (o :: rest) a w :=
 wpList_plain hg fun K hK => by
  refine (?_ : o.wp P a w _ _)
  unfold Oper.wp
  rw [h]
  exact hK _ _ hk
theorem put_get {a : Act} {d : Nat} {v : Value} (h : d < a.tmps.size) : (a.put (some d) v).eval (.tmp d) = v := by
 simp [Act.eval, Act.put, h]
theorem H_of {g : Gh} {N : Nat} {s : S} {a : Act} {w : World} {M : Mem} {E : Env} (hd : a.defers = []) (hs : St g N M E s a.tmps w) (hp : Env.p0 g.E0 E) : H g N s a w := ⟨hd, M, E, hs, hp⟩
theorem mr_rounds {out nb i1 i2 it nx mr pr r r0 : Nat} {o_nx o_ex o_en : Oper} {os2 : List Oper} {body : Code} {sB : S} {es : List (AV × AV)}
  (n1 : o_nx.op = .next (.tmp it) false) (n2 : o_nx.dst = some nx) (n3 : o_nx.guard = none) (e1 : o_ex.op = .extract (.tmp nx) 0) (e2 : o_ex.dst = some mr) (e3 : o_ex.guard = none) (t1 : o_en.op = .entry (.tmp it)) (t2 : o_en.dst = some pr) (t3 : o_en.guard = none)
  (hit : aget sB.fr it = some (.raw (.pointer (some ⟨r, 0, none⟩)))) (hnx : aget sB.fr nx = none) (hmr : aget sB.fr mr = none) (hN : nx < C.N ∧ mr < C.N ∧ pr < C.N)
  (hk : ∀ (a : Act) (w : World) (M : Mem) (E : Env) (ents : Array MapEntry) (seen : Array Nat), St C.g C.N M E sB a.tmps w → Env.p0 C.g.E0 E → a.defers = [] → Itr M E w r r0 es ents seen → mean C k .normal a w) (hFr : ¬ C.g.F r)
  (hbody : ∀ (Q2 : Exit → Act → World → Prop) (g2 : Gh), (∀ a w, H g2 C.N sB a w → Q2 .normal a w) → ∀ p ∈ es, ∀ a w, H g2 C.N { sB with fr := (pr, .tup [p.1, p.2]) :: sB.fr } a w → wpList C.P (o_en :: os2).toArray (mean ⟨C.P, Q2, g2, C.N⟩ [.code body]) os2 a w) :
  ∀ (n : Nat) (a : Act) (w : World), (∃ (M : Mem) (E : Env) (ents : Array MapEntry) (seen : Array Nat), St C.g C.N M E sB a.tmps w ∧ Env.p0 C.g.E0 E ∧ a.defers = [] ∧ Itr M E w r r0 es ents seen ∧ (leftOf ents seen).size < n) →
   Code.rounds C.P (.seq (.region i1 [o_nx, o_ex].toArray false) (.seq (.cond (.tmp mr) .skip (.exit out)) (.block nb (.seq (.region i2 (o_en :: os2).toArray false) body)))) (mean C (.blk out :: k)) n a w
 | 0, a, w, ⟨M, E, ents, seen, _, _, _, _, h⟩ => by omega
 | n + 1, a, w, ⟨M, E, ents, seen, hs, hp, hd, hI, hlt⟩ => by
  rw [rounds_succ]
  obtain ⟨c0, hc0, hri⟩ := hI.ri
  have hval : a.eval (.tmp it) = .pointer (some ⟨r, 0, none⟩) := (hs.fr it _ hit).2.raw_inv
  have hold : ∀ x ∈ ents.toList, x.born < es.length := fun x hx => by
   obtain ⟨j, hj⟩ := List.getElem?_of_mem hx
   rw [Array.getElem?_toList] at hj
   have h1 := hI.bn j x hj
   have h2 := (Array.getElem?_eq_some_iff.1 hj).1
   have h3 := hI.sz
   omega
  refine wp_seq (wp_region_lit ?_)
  rcases run_next_at (P := C.P) w o_nx.type r r0 es.length c0 seen ents es.length hri hI.rm hold hc0 with ⟨h0, hrun⟩ | ⟨e, he, w1, hw1, hrun⟩
  ·
   refine step_value n3 (run_nextOp n1 (by rw [hval]; exact hrun)) ?_
   rw [n2]
   have hs1 := hs.putN hnx (.tuple #[.bool false])
   refine step_value e3 (run_extract e1 (put_get (by rw [hs.size]; exact hN.1)) (by rfl : (#[Value.bool false])[0]? = some (.bool false)) w) ?_
   rw [e2]
   have hs2 := hs1.putN hmr (.bool false)
   refine wpList_nil ?_
   refine wp_seq (wp_cond_false (put_get (by rw [hs1.size]; exact hN.2.1)) (wp_exit ?_))
   show (if out = out then _ else _)
   rw [if_pos rfl]
   exact hk _ _ _ _ _ _ hs2 hp (by simp only [defers_put]; exact hd) hI
  ·
   obtain ⟨hem, hse⟩ := mem_left he
   obtain ⟨j, hj⟩ := List.getElem?_of_mem hem
   rw [Array.getElem?_toList] at hj
   have hjl : j < es.length := by have h2 := (Array.getElem?_eq_some_iff.1 hj).1; have h3 := hI.sz; omega
   have hp2 : es[j]? = some es[j] := List.getElem?_eq_getElem hjl
   obtain ⟨f1, f2⟩ := hI.rl j e _ hj hp2
   have hr1 : w1.heap[r]? = w.heap[r]? ∧ (∀ b : Nat, w1.heap[b]? = w.heap[b]?) ∧ w1.heap.size = w.heap.size ∧ w1.os = w.os ∧ w1.tape = w.tape ∧ w1.output = w.output := by
    rcases hw1 with rfl | rfl <;> exact ⟨rfl, fun _ => rfl, rfl, rfl, rfl, rfl⟩
   obtain ⟨_, hr2, hr3, hr4, hr5, hr6⟩ := hr1
   have hrlt : r < w1.heap.size := by rw [hr3]; exact (Array.getElem?_eq_some_iff.1 hri).1
   have hr0 : r0 ≠ r := by
    rintro rfl
    rw [hI.rm] at hri
    cases hri
   have hne : ∀ b : Nat, b ≠ r → (ChangeMaps.setBlock w1 r (.mapIter (some r0) es.length (seen.push e.born) es.length)).heap[b]? = w.heap[b]? := fun b hb => by
    rw [← hr2 b]
    simp [ChangeMaps.setBlock, Array.getElem?_setIfInBounds, Ne.symm hb]
   have hsame : (ChangeMaps.setBlock w1 r (.mapIter (some r0) es.length (seen.push e.born) es.length)).heap[r]? = some (.mapIter (some r0) es.length (seen.push e.born) es.length) := by
    simp [ChangeMaps.setBlock, hrlt]
   generalize hW : ChangeMaps.setBlock w1 r (.mapIter (some r0) es.length (seen.push e.born) es.length) = W at hne hsame hrun
   have hWo : W.os = w.os ∧ W.tape = w.tape ∧ W.output = w.output ∧ W.heap.size = w.heap.size := by
    rw [← hW]
    exact ⟨hr4, hr5, hr6, by simp [ChangeMaps.setBlock, hr3]⟩
   have hnr : ∀ (b : Nat) o, E.own b = some o → b ≠ r := fun b o h => by rintro rfl; rw [hI.o1] at h; cases h
   have hsW : St C.g C.N M E sB a.tmps W := by
    refine hs.swap (fun b o h => hne b (hnr b o h)) (fun b h => hne b ?_) (fun b j v h => ?_) (by rw [hWo.2.2.2]; exact Nat.le_refl _) hWo.1 hWo.2.1 hWo.2.2.1
    ·rintro rfl
     exact hFr h
    ·have h1 := (hs.mem b j v h).1
     have hb : b ≠ r := by
      rintro rfl
      unfold World.cell? at h1
      simp only [hri] at h1
      cases h1
     rw [World.cell?_of_block (hne b hb)]; exact h1
   have hs1 := hsW.putN hnx (.tuple #[.bool true, e.key, e.val])
   have hs2 := hs1.putN hmr (.bool true)
   have hval2 := (hs2.fr it _ hit).2.raw_inv
   have hrmW : W.heap[r0]? = some (.map ents es.length) := by rw [hne r0 hr0]; exact hI.rm
   have hs3 := hs2.putS (x := .tup [es[j].1, es[j].2]) (v := .tuple #[e.key, e.val]) hN.2.2 (by
    refine .tup [e.key, e.val] _ rfl fun q v c hv hc => ?_
    match q, hv, hc with
    | 0, hv, hc => cases hv; cases hc; exact .cell (.pure f1)
    | 1, hv, hc => cases hv; cases hc; exact f2.monoE ⟨fun _ _ h => (by cases h), fun _ _ h => (by cases h), fun _ _ h => (by cases h), fun _ _ h => (by cases h)⟩
    | q + 2, hv, hc => cases hv)
   refine step_value n3 (run_nextOp n1 (by rw [hval]; exact hrun)) ?_
   rw [n2]
   refine step_value e3 (run_extract e1 (put_get (by rw [hs.size]; exact hN.1)) (by rfl : (#[Value.bool true, e.key, e.val])[0]? = some (.bool true)) W) ?_
   rw [e2]
   refine wpList_nil ?_
   refine wp_seq (wp_cond_true (put_get (by rw [hs1.size]; exact hN.2.1)) (wp_skip ?_))
   refine wp_block (wp_seq (wp_region_lit ?_))
   refine step_value t3 (run_entryOp t1 (by
    have h1 := run_entry_at (P := C.P) W r r0 es.length seen ents es.length e hsame hrmW hem (born_nodup hI.bn)
    rw [← hval2] at h1
    exact h1)) ?_
   rw [t2]
   refine hbody _ ⟨W, fun b => b < W.heap.size ∧ E.own b = none, M, E⟩ (fun a' w' hH => ?_) es[j] (List.getElem_mem hjl) _ W ⟨by simp only [defers_put]; exact hd, M, E, hs3.rebaseU, p0_refl E⟩
   obtain ⟨hd', M', E', hs', hp'⟩ := hH
   have hst := hsW.unbase hs'
   have hfr := hs'.foreign r ⟨by rw [hWo.2.2.2, ← hr3]; exact hrlt, hI.o1⟩
   have hf0 := hs'.foreign r0 ⟨by rw [hWo.2.2.2]; exact (Array.getElem?_eq_some_iff.1 hI.rm).1, hI.o0⟩
   refine mr_rounds n1 n2 n3 e1 e2 e3 t1 t2 t3 hit hnx hmr hN hk hFr hbody n a' w' ⟨M', E', ents, seen.push e.born, hst, p0_trans hp hp', hd', ⟨⟨es.length, Nat.le_refl _, hfr.2.1.trans hsame⟩, hf0.2.1.trans hrmW, hI.sz, hI.bn, fun q x p h1 h2 => ?_, hfr.2.2, hf0.2.2⟩, Nat.lt_of_lt_of_le (left_shrinks ents seen e he) (Nat.le_of_lt_succ hlt)⟩
   obtain ⟨y1, y2⟩ := hI.rl q x p h1 h2
   exact ⟨y1.mono hs'.m0, y2.mono hs'.m0 (Env.le_refl _)⟩
def S.itr (s : S) (it r x r0 : Nat) : S := { s with fr := (it, .raw (.pointer (some ⟨r, 0, Option.none⟩))) :: (x, .raw (.map (some r0))) :: s.fr }
def S.uni (s : S) (x i : Nat) (es : List (AV × AV)) : S := { s with fr := (x, .mp i) :: s.fr, mp := (i, es) :: s.mp }
theorem St.uni {g : Gh} {N : Nat} {M : Mem} {E : Env} {s s0 : S} {tmps : Array Value} {w : World} {r r0 x i : Nat} {es : List (AV × AV)} {ents : Array MapEntry} {seen : Array Nat} (hs : St g N M E s tmps w) (hI : Itr M E w r r0 es ents seen)
  (hx : aget s.fr x = some (.raw (.map (some r0)))) (hsub : ∀ j v, aget s0.fr j = some v → j ≠ x → aget s.fr j = some v) (h1 : s0.bx = s.bx) (h2 : s0.rw = s.rw) (h3 : s0.mp = s.mp) (h4 : s0.ar = s.ar) (hi : aget s.mp i = none) (hsp : spM i = false) (hF : ¬ g.F r0) (hp : Env.p0 g.E0 E) (h0 : nB ≤ i → g.E0.mp i = some r0) :
  ∃ E', St g N M E' (s0.uni x i es) tmps w ∧ Env.p0 g.E0 E' := by
 have hle : E.le { E with mp := fun j => if j = i then some r0 else E.mp j, own := fun b => if b = r0 then some (2, i, 0) else E.own b } := by
  refine ⟨fun _ _ h => h, fun _ q h => ⟨q, h, Nat.le_refl _, fun _ => ⟨rfl, rfl, rfl, rfl⟩⟩, fun j q h => ?_, fun _ bs h => ⟨[], by simpa using h⟩⟩
  have : j ≠ i := by rintro rfl; rw [hs.mpn _ hi] at h; cases h
  show (if j = i then _ else _) = _
  rw [if_neg this]; exact h
 have hown : ∀ (b : Nat) o, E.own b = some o → (if b = r0 then some (2, i, 0) else E.own b) = some o := fun b o h => by
  have : b ≠ r0 := by rintro rfl; rw [hI.o0] at h; cases h
  rw [if_neg this]; exact h
 have hM : ∀ (b : Nat) (j : Nat) (v : Value), M b j = some v → M b j = some v := fun _ _ _ h => h
 refine ⟨{ E with mp := fun j => if j = i then some r0 else E.mp j, own := fun b => if b = r0 then some (2, i, 0) else E.own b }, ?_, hp.bx, hp.rw, fun j q hj h => ?_, hp.ar⟩
 ·refine ⟨hs.size, fun j av hj => ?_, fun b j v h => ⟨(hs.mem b j v h).1, fun o ho => ?_⟩, fun j cs h => ?_, fun j h => hs.bxn j (by rw [← h1]; exact h), fun j q h => ?_, fun j h => hs.rwn j (by rw [← h2]; exact h), fun j es' h => ?_, fun j h => ?_, fun j q h => ?_, fun j h => hs.arn j (by rw [← h4]; exact h), fun b o h => ?_, fun b h => ?_, hs.m0, hs.mf, hs.os, hs.tape, hs.output, hs.grow⟩
  ·have hj' : aget ((x, .mp i) :: s0.fr) j = some av := hj
   rw [aget_cons] at hj'
   by_cases c : j = x
   ·rw [if_pos c] at hj'; cases hj'; subst c
    have h5 := hs.fr j _ hx
    refine ⟨h5.1, ?_⟩
    rw [h5.2.raw_inv]
    refine .cell (.mp i r0 ?_)
    show (if i = i then _ else _) = _
    rw [if_pos rfl]
   ·rw [if_neg c] at hj'
    have h5 := hs.fr j _ (hsub j av hj' c)
    exact ⟨h5.1, h5.2.mono hM hle⟩
  ·have ho' : (if b = r0 then some (2, i, 0) else E.own b) = some o := ho
   have hb : b ≠ r0 := by
    rintro rfl
    have h5 := (hs.mem b j v h).1
    unfold World.cell? at h5
    simp only [hI.rm] at h5
    cases h5
   rw [if_neg hb] at ho'
   have h5 := (hs.mem b j v h).2 o ho'
   have h6 : sealN (s0.uni x i es) o = sealN s o := by simp only [sealN, S.uni, h2, h4]
   rw [h6]; exact h5
  ·have h : aget s0.bx j = some cs := h
   rw [h1] at h
   obtain ⟨b, g1, g2, t, vs, g3, g4, g5⟩ := hs.bx j cs h
   exact ⟨b, g1, hown b _ g2, t, vs, g3, g4, fun q v c hv hc => (g5 q v c hv hc).mono hM hle⟩
  ·have h : aget s0.rw j = some q := h
   rw [h2] at h
   obtain ⟨q', g1, g2⟩ := hs.rw j q h
   exact ⟨q', g1, g2.mono hM hle (fun b hb => ⟨hown b _ hb, rfl⟩) (fun b j hb => ⟨hown b _ hb, rfl⟩)⟩
  ·have h : aget ((i, es) :: s0.mp) j = some es' := h
   rw [aget_cons] at h
   by_cases c : j = i
   ·rw [if_pos c] at h; cases h; subst c
    refine ⟨r0, ?_, ?_, ents, es.length, hI.rm, ⟨hI.sz, rfl, hI.bn⟩, fun q x p h1 h2 => ⟨(hI.rl q x p h1 h2).1, (hI.rl q x p h1 h2).2.monoE ⟨fun _ _ h => (by cases h), fun _ _ h => (by cases h), fun _ _ h => (by cases h), fun _ _ h => (by cases h)⟩⟩⟩
    ·show (if j = j then _ else _) = _
     rw [if_pos rfl]
    ·show (if r0 = r0 then _ else _) = _
     rw [if_pos rfl]
   ·rw [if_neg c, h3] at h
    obtain ⟨q, g1, g2, ents', clock', g3, g4, g5⟩ := hs.mp j es' h
    refine ⟨q, hle.mp j q g1, hown q _ g2, ents', clock', g3, g4, fun a x p h1 h2 => ⟨(g5 a x p h1 h2).1, (g5 a x p h1 h2).2.monoE (Env.arO_le hle _)⟩⟩
  ·have h : aget ((i, es) :: s0.mp) j = none := h
   rw [aget_cons] at h
   by_cases c : j = i
   ·rw [if_pos c] at h; cases h
   ·rw [if_neg c, h3] at h
    show (if j = i then _ else _) = _
    rw [if_neg c]; exact hs.mpn j h
  ·have h : aget s0.ar j = some q := h
   rw [h4] at h
   obtain ⟨bs, g1, g2⟩ := hs.ar j q h
   exact ⟨bs, g1, g2.mono hM hle (fun b j hb => ⟨hown b _ hb, rfl⟩) (fun b j hb => ⟨hown b _ hb, rfl⟩)⟩
  ·have h : (if b = r0 then some (2, i, 0) else E.own b) = some o := h
   by_cases c : b = r0
   ·subst c; exact (Array.getElem?_eq_some_iff.1 hI.rm).1
   ·rw [if_neg c] at h; exact hs.live b o h
  ·obtain ⟨g1, g2, g3⟩ := hs.foreign b h
   refine ⟨g1, g2, ?_⟩
   have : b ≠ r0 := by rintro rfl; exact hF h
   show (if b = r0 then _ else _) = _
   rw [if_neg this]; exact g3
 ·have h : (if j = i then some r0 else E.mp j) = some q := h
  by_cases c : j = i
  ·rw [if_pos c] at h; cases h; subst c; exact h0 hj
  ·rw [if_neg c] at h; exact hp.mp j q hj h
def noK (s : S) (l : List Nat) : Bool := l.all fun d => !hasKey s.fr d
theorem noK_get {s : S} {l : List Nat} (h : noK s l = true) {d : Nat} (hd : d ∈ l) : aget s.fr d = none := by
 unfold noK at h
 have := List.all_eq_true.1 h d hd
 cases hh : aget s.fr d with
 | none => rfl
 | some v => rw [hasKey_some hh] at this; cases this
def mrS (fs bs rs ms aa : List Nat) (s : S) : Option S :=
 match selF fs s.fr, selF bs s.bx, selF rs s.rw, selF ms s.mp, selF aa s.ar with
 | some f, some b, some r, some m, some a => if closedB ⟨f, b, r, m, a⟩ = true then some ⟨f, b, r, m, a⟩ else none
 | _, _, _, _, _ => none
theorem flt_pt (C : Cx) : ∀ (n : Nat) (k : List It) (a : Act) (w : World), mean C (flt n k) .normal a w → mean C k .normal a w
 | 0, k, a, w, h => h
 | n + 1, k, a, w, h => by
  unfold flt at h
  split at h
  ·exact wp_seq (flt_pt C n _ a w h)
  ·exact wp_skip (flt_pt C n _ a w h)
  ·rename_i k
   have h2 := flt_pt C n k a w h
   exact h2
  ·exact h
theorem Wk_mrange {k0 : List It} {s sB : S} {i0 out nb i1 i2 x t0 it nx mr pr i : Nat} {o_mv o_rg o_nx o_ex o_en : Oper} {os2 : List Oper} {body : Code} {es : List (AV × AV)} {mt kt et : TypeId} (fs bs rs ms aa : List Nat)
  (hx : aget s.fr x = some (.mp i)) (hes : aget s.mp i = some es) (hsub : mrS fs bs rs ms aa s = some sB) (hki : hasKey sB.mp i = false) (hsp : spM i = false) (hno : noK sB [t0, it, nx, mr] = true) (hdis : Nat.beq nx it = false ∧ Nat.beq mr it = false ∧ Nat.beq nx x = false ∧ Nat.beq mr x = false ∧ Nat.beq x it = false ∧ Nat.beq t0 x = false)
  (hmt : C.P.underlying mt = some (.map kt et)) (m1 : o_mv.op = .move (.tmp x)) (m2 : o_mv.dst = some t0) (m3 : o_mv.guard = none) (g1 : o_rg.op = .range mt (.tmp t0)) (g2 : o_rg.dst = some it) (g3 : o_rg.guard = none)
  (n1 : o_nx.op = .next (.tmp it) false) (n2 : o_nx.dst = some nx) (n3 : o_nx.guard = none) (e1 : o_ex.op = .extract (.tmp nx) 0) (e2 : o_ex.dst = some mr) (e3 : o_ex.guard = none) (t1 : o_en.op = .entry (.tmp it)) (t2 : o_en.dst = some pr) (t3 : o_en.guard = none)
  (hN : t0 < C.N ∧ it < C.N ∧ nx < C.N ∧ mr < C.N ∧ pr < C.N) (hk : Wk C k (sB.uni x i es))
  (hk0 : flt 99 k0 = .code (.block out (.loop (.seq (.region i1 [o_nx, o_ex].toArray false) (.seq (.cond (.tmp mr) .skip (.exit out)) (.block nb (.seq (.region i2 (o_en :: os2).toArray false) body)))))) :: k)
  (hbody : ∀ (r r0 : Nat) (Q2 : Exit → Act → World → Prop) (g2 : Gh), (∀ a w, H g2 C.N (sB.itr it r x r0) a w → Q2 .normal a w) → ∀ p ∈ es, ∀ a w, H g2 C.N { sB.itr it r x r0 with fr := (pr, .tup [p.1, p.2]) :: (sB.itr it r x r0).fr } a w → wpList C.P (o_en :: os2).toArray (mean ⟨C.P, Q2, g2, C.N⟩ [.code body]) os2 a w) :
  Wk C (.code (.region i0 [o_mv, o_rg].toArray false) :: k0) s := by
 intro a w ⟨hd, M, E, hs, hp⟩
 unfold mrS at hsub
 split at hsub
 case h_2 => cases hsub
 rename_i f b r m aa' hf hb hr hm ha
 split at hsub
 case isFalse => cases hsub
 rename_i hc
 cases hsub
 obtain ⟨r0, hr0, hval⟩ := (hs.fr x _ hx).2.mp_inv
 obtain ⟨r0', hr0', hown, ents, clock, hh, ⟨hsz, hclk, hborn⟩, hent⟩ := hs.mp i es hes
 rw [hr0] at hr0'; cases hr0'
 subst hclk
 rw [mns_nil hsp] at hent
 replace hent : ∀ (j : Nat) (e : MapEntry) (p : AV × AV), ents[j]? = some e → es[j]? = some p → RelP M e.key p.1 ∧ Rel M Env.none e.val p.2 := fun j e p h1 h2 => ⟨(hent j e p h1 h2).1, (hent j e p h1 h2).2.monoE (arO_nil_none E)⟩
 have hsB := hs.sub (t := ⟨f, b, r, m, aa'⟩) (fun i v => selF_get hf) (fun i v => selF_get hb) (fun i v => selF_get hr) (fun i v => selF_get hm) (fun i v => selF_get ha) hc
 have hpB := Env.keep_p0 hp (hasKey b) (hasKey r) (hasKey m) (hasKey aa')
 have ho0 : (E.keep (hasKey b) (hasKey r) (hasKey m) (hasKey aa')).own r0 = none := by
  have hki : hasKey m i = false := hki
  simp [Env.keep, hown, hki]
 generalize hEB : E.keep (hasKey b) (hasKey r) (hasKey m) (hasKey aa') = EB at hsB hpB ho0
 generalize hsBe : (⟨f, b, r, m, aa'⟩ : S) = sB at *
 have ht0 := noK_get hno (d := t0) (by simp)
 have hit := noK_get hno (d := it) (by simp)
 have hnx := noK_get hno (d := nx) (by simp)
 have hmr := noK_get hno (d := mr) (by simp)
 refine (?_ : (Code.region i0 [o_mv, o_rg].toArray false).wp C.P _ a w)
 refine wp_region_lit ?_
 have hval' : a.eval (.tmp x) = .map (some r0) := hval
 refine step_value m3 (run_move (.inl m1) _ _) ?_
 rw [m2, hval']
 have hs1 := hsB.putN ht0 (.map (some r0))
 have hrg := run_range_map (P := C.P) w mt kt et r0 ents es.length hmt hh
 refine step_value g3 (run_rangeOp g1 (by rw [put_get (by rw [hsB.size]; exact hN.1)]; exact hrg)) ?_
 rw [g2]
 have hlt : ∀ b : Nat, b < w.heap.size → (w.alloc (.mapIter (some r0) es.length #[] es.length)).heap[b]? = w.heap[b]? := fun b hb => Below.heap_alloc w _ b hb
 have hr0lt : r0 < w.heap.size := (Array.getElem?_eq_some_iff.1 hh).1
 have hs2 := hs1.swap (w' := w.alloc (.mapIter (some r0) es.length #[] es.length)) (fun b o h => hlt b (hs1.live b o h)) (fun b h => hlt b (hs1.foreign b h).1) (fun b j v h => by
   have h1 := (hs1.mem b j v h).1
   rw [World.cell?_of_block (hlt b (World.block_lt_of_cell? _ _ h1))]; exact h1) (by simp) rfl rfl rfl
 have hs2' : St C.g C.N M EB { sB with fr := (x, .raw (.map (some r0))) :: sB.fr } (a.put (some t0) (.map (some r0))).tmps (w.alloc (.mapIter (some r0) es.length #[] es.length)) := by
  refine { hs2 with fr := fun j v hj => ?_ }
  rw [aget_cons] at hj
  by_cases c : j = x
  ·rw [if_pos c] at hj; cases hj; subst c
   refine ⟨(hs.fr j _ hx).1, ?_⟩
   have h1 : (a.put (some t0) (.map (some r0))).tmps.getD j undef = a.tmps.getD j undef := by
    simp only [Act.put, Array.getD_eq_getD_getElem?]
    rw [Array.getElem?_setIfInBounds_ne (beq_false hdis.2.2.2.2.2)]
   rw [h1, hval]
   exact .cell (.pure (.raw _ rfl))
  ·rw [if_neg c] at hj; exact hs2.fr j v hj
 have hs3 := hs2'.putS (d := it) (x := .raw (.pointer (some ⟨w.heap.size, 0, none⟩))) (v := .pointer (some ⟨w.heap.size, 0, none⟩)) hN.2.1 (.cell (.pure (.raw _ rfl)))
 refine wpList_nil (flt_pt C 99 k0 _ _ ?_)
 rw [hk0]
 refine (?_ : (Code.block out _).wp C.P (mean C k) _ _)
 refine wp_block (wp_loop_rounds (ents.size + 1) ?_)
 have hne : ∀ d, Nat.beq d it = false → Nat.beq d x = false → aget sB.fr d = none → aget (sB.itr it w.heap.size x r0).fr d = none := fun d h1 h2 h3 => by
  simp only [S.itr, aget, h1, h2, h3]
 have hnF : ¬ C.g.F r0 := fun q => by have := (hs.foreign r0 q).2.2; rw [hown] at this; cases this
 refine mr_rounds (k := k) n1 n2 n3 e1 e2 e3 t1 t2 t3 (sB := sB.itr it w.heap.size x r0) (r := w.heap.size) (r0 := r0) (es := es) ?_ (hne nx hdis.1 hdis.2.2.1 hnx) (hne mr hdis.2.1 hdis.2.2.2.1 hmr) hN.2.2 (fun a' w' M' E' ents' seen' s' p' d' I' => ?_) (fun q => Nat.lt_irrefl _ (hs.foreign _ q).1) (fun Q2 g2 => hbody w.heap.size r0 Q2 g2) _ _ _
  ⟨M, EB, ents, #[], hs3, hpB, by simp only [defers_put]; exact hd, ⟨⟨es.length, Nat.le_refl _, heap_alloc_new w _⟩, by rw [hlt r0 hr0lt]; exact hh, hsz, hborn, hent, own_none hs1 (Nat.le_refl _), ho0⟩, ?_⟩
 ·simp [S.itr, aget]
 ·obtain ⟨E2, q1, q2⟩ := s'.uni (s0 := sB) (x := x) (i := i) I' (by simp only [S.itr, aget, hdis.2.2.2.2.1, Nat.beq_refl]) (fun j v hj hjx => by
   have : j ≠ it := by rintro rfl; rw [hit] at hj; cases hj
   simp only [S.itr, aget_cons]
   rw [if_neg this, if_neg hjx]; exact hj) rfl rfl rfl rfl (by cases hh : aget sB.mp i with
   | none => exact hh
   | some v => rw [hasKey_some hh] at hki; cases hki) hsp hnF p' (fun hi => hp.mp i r0 hi hr0)
  exact hk _ _ (H_of d' q1 q2)
 ·unfold leftOf
  have := Array.size_filter_le (p := fun e : MapEntry => !(#[] : Array Nat).contains e.born) (xs := ents)
  omega
end
end Go.Dm
