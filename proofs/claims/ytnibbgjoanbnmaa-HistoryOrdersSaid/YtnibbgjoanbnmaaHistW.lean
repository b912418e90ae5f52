/- maps.Values and slices.Collect of pointers, slices.SortFunc of them: their walks. -/
import Derived.RangeFuncMany
import Derived.RangeFuncOwn
import Derived.RangeFuncNested
import Derived.RangeFuncCalls
import Derived.RangeFuncLeaves
import Derived.Shelf.Abstract
import Derived.WalkKit
import Derived.OwnWalkIn
import Derived.TacticsInMore
import Derived.LoopNIn
import Derived.LoopIn
import Derived.Maps.AppendAt
import Derived.Maps.RangeRun
import Derived.Sort.MapsRangeIn
import Derived.Test.YtnibbgjoanbnmaaFn
import Derived.Test.YtnibbgjoanbnmaaEmV
import Derived.Shelf.SlLaysF
import Derived.Shelf.SlSortCmp.NoneTotal
namespace Go.Proofs.Ytnibbgjoanbnmaa
open Go Go.RowKit Go.Shelf Go.Proofs Go.MapKept
open Go.Dm (born_nodup encP PEnts ValsC SortC Bodied Grow)
open Go.Sort Go.Lib
set_option linter.unusedVariables false
set_option linter.unusedSimpArgs false
set_option linter.unusedSectionVars false
attribute [local go_sem] Oper.semAt_some
/-- what has come -/
def came (bl : List Nat) (seen : Array Nat) : List Nat := seen.toList.map fun j => bl.getD j 0
section
variable {F : Fence} {n : Nat} {P : Program} {ops : Array Oper} {rest : List Oper} {o : Oper} {a : Act} {Q : Exit → Act → World → Prop} {w : World}
theorem _root_.Go.Dm.PEnts.hold {ents : Array MapEntry} {m : Nat} {bl : List Nat} (h : PEnts ents m bl) : ∀ x ∈ ents.toList, x.born < m := fun x hx => by
  obtain ⟨j, hj⟩ := List.getElem?_of_mem hx
  rw [Array.getElem?_toList] at hj
  have h1 := h.bn j x hj
  have h2 := (Array.getElem?_eq_some_iff.1 hj).1
  have h3 := h.sz
  omega
theorem _root_.Go.Dm.PEnts.nodup {ents : Array MapEntry} {m : Nat} {bl : List Nat} (h : PEnts ents m bl) : (ents.toList.map (·.born)).Nodup := born_nodup h.bn
/-- 'range m' -/
theorem wpListIn_range_raw (hg : o.guard = none) (x : Operand) (t : TypeId) (hop : o.op = Op.range t x) (k e : TypeId) (ht : P.underlying t = some (.map k e)) (b : Nat) {ents : Array MapEntry} {m : Nat} (hm : a.eval x = .map (some b)) (hb : w.heap[b]? = some (.map ents m))
    (hK : ∀ w', w' = w.alloc (.mapIter (some b) m #[] m) → wpListIn F n P ops Q rest (a.put o.dst (.pointer (some ⟨w.heap.size, 0, none⟩))) w') :
    wpListIn F n P ops Q (o :: rest) a w := by
  refine wpListIn_plain hg fun K' hK' => ?_
  unfold Oper.wpIn
  refine ⟨by simp [Oper.about, hop], ?_⟩
  rw [Oper.semAt_plain F _ _ (by rw [hop]; intro c hc'; cases hc')]
  simp [execOp, hop, hm, run_range_map w t k e b ents m ht hb, Result.andThen]
  exact hK' _ _ (hK _ rfl)
/-- the range's step -/
theorem wpListIn_next_raw (hg : o.guard = none) (it : Operand) (hop : o.op = Op.next it false) (b r : Nat) {ents : Array MapEntry} {m : Nat} {bl : List Nat} (hP : PEnts ents m bl) {seen : Array Nat}
    (hit : a.eval it = .pointer (some ⟨r, 0, none⟩)) (hr : w.heap[r]? = some (.mapIter (some b) m seen m)) (hb : w.heap[b]? = some (.map ents m)) (hbr : b ≠ r)
    (hDone : (leftOf ents seen).size = 0 → wpListIn F n P ops Q rest (a.put o.dst (.tuple #[.bool false])) w)
    (hMore : ∀ (j : Nat) (e : MapEntry) (c : Nat) (w' : World), ents[j]? = some e → bl[j]? = some c → j ∉ seen.toList → e.val = encP c → (leftOf ents (seen.push j)).size < (leftOf ents seen).size → w'.heap[r]? = some (.mapIter (some b) m (seen.push j) m) → w'.heap[b]? = some (.map ents m) →
      w.grownBy w' (some r) → w'.heap.size = w.heap.size → (Instr.entry (.pointer (some ⟨r, 0, none⟩))).run P w' = .ok (.tuple #[e.key, encP c]) w' → wpListIn F n P ops Q rest (a.put o.dst (.tuple #[.bool true, e.key, encP c])) w') :
    wpListIn F n P ops Q (o :: rest) a w := by
  refine wpListIn_plain hg fun K' hK' => ?_
  unfold Oper.wpIn
  refine ⟨by simp [Oper.about, hop], ?_⟩
  rw [Oper.semAt_plain F _ _ (by rw [hop]; intro c hc'; cases hc')]
  rcases run_next_at (P := P) w o.type r b m m seen ents m hr hb hP.hold (Nat.le_refl _) with ⟨h0, hrun⟩ | ⟨e, he, w1, hw1, hrun⟩
  · simp [execOp, hop, hit, hrun, Result.andThen]
    exact hK' _ _ (hDone h0)
  · obtain ⟨hem, hse⟩ := mem_left he
    obtain ⟨j, hj⟩ := List.getElem?_of_mem hem
    rw [Array.getElem?_toList] at hj
    have hbj := hP.bn j e hj
    obtain ⟨c, hc, hv⟩ := hP.vl j e hj
    have hr1 : (∀ b : Nat, w1.heap[b]? = w.heap[b]?) ∧ w1.heap.size = w.heap.size ∧ w1.os = w.os ∧ w1.tape = w.tape ∧ w1.output = w.output := by
      rcases hw1 with rfl | rfl <;> exact ⟨fun _ => rfl, rfl, rfl, rfl, rfl⟩
    obtain ⟨hr2, hr3, hr4, hr5, hr6⟩ := hr1
    have hrlt : r < w1.heap.size := by rw [hr3]; exact (Array.getElem?_eq_some_iff.1 hr).1
    rw [hbj, hv] at hrun
    simp [execOp, hop, hit, hrun, Result.andThen]
    have hsame : (ChangeMaps.setBlock w1 r (.mapIter (some b) m (seen.push j) m)).heap[r]? = some (.mapIter (some b) m (seen.push j) m) := by
      simp [ChangeMaps.setBlock, hrlt]
    have hne : ∀ q : Nat, q ≠ r → (ChangeMaps.setBlock w1 r (.mapIter (some b) m (seen.push j) m)).heap[q]? = w.heap[q]? := fun q hq => by
      rw [← hr2 q]
      simp [ChangeMaps.setBlock, Array.getElem?_setIfInBounds, Ne.symm hq]
    have hb2 := (hne b hbr).trans hb
    have hsz : (ChangeMaps.setBlock w1 r (.mapIter (some b) m (seen.push j) m)).heap.size = w.heap.size := by simp [ChangeMaps.setBlock, hr3]
    refine hK' _ _ (hMore j e c _ hj hc (by rw [← hbj]; simpa using hse) hv (by have := left_shrinks ents seen e he; rwa [hbj] at this) hsame hb2 ⟨hr4, hr5, hr6, by rw [hsz]; exact Nat.le_refl _, fun q _ hq => hne q (fun z => hq (by rw [z]))⟩ hsz ?_)
    have h1 := run_entry_at (P := P) (ChangeMaps.setBlock w1 r (.mapIter (some b) m (seen.push j) m)) r b m seen ents m e (by rw [hbj]; exact hsame) hb2 hem hP.nodup
    rw [hv] at h1
    exact h1
end
theorem came_push (bl : List Nat) (seen : Array Nat) (j : Nat) : came bl (seen.push j) = came bl seen ++ [bl.getD j 0] := by simp [came]
/-- nothing is left: all have come -/
theorem came_all {ents : Array MapEntry} {m : Nat} {bl : List Nat} (hP : PEnts ents m bl) {seen : Array Nat} (hn : seen.toList.Nodup) (hlt : ∀ j ∈ seen.toList, j < m) (h0 : (leftOf ents seen).size = 0) : (came bl seen).Perm bl := by
  have hall : ∀ j, j < m → j ∈ seen.toList := fun j hj => by
    apply Classical.byContradiction
    intro hno
    have hs := hP.sz
    have hj2 : ents[j]? = some (ents[j]'(by omega)) := Array.getElem?_eq_getElem (by omega)
    have hb := hP.bn j _ hj2
    have : ents[j]'(by omega) ∈ (leftOf ents seen) := by
      unfold leftOf
      rw [Array.mem_filter]
      refine ⟨Array.getElem_mem _, ?_⟩
      rw [hb]
      simpa using hno
    have := Array.size_pos_of_mem this
    omega
  have hperm : seen.toList.Perm (List.range m) := by
    refine (List.perm_ext_iff_of_nodup hn List.nodup_range).2 fun j => ?_
    rw [List.mem_range]
    exact ⟨hlt j, hall j⟩
  have h2 := hperm.map (fun j => bl.getD j 0)
  refine h2.trans ?_
  have : (List.range m).map (fun j => bl.getD j 0) = bl := by
    apply List.ext_getElem?
    intro i
    rw [List.getElem?_map]
    have hl := hP.ln
    by_cases c : i < m
    · rw [List.getElem?_range c, Option.map_some, List.getElem?_eq_getElem (by omega)]
      simp [List.getD, List.getElem?_eq_getElem (show i < bl.length by omega)]
    · rw [List.getElem?_eq_none (by simp; omega), List.getElem?_eq_none (by omega)]; rfl
  rw [this]
set_option maxRecDepth 100000 in
set_option maxHeartbeats 4000000 in
theorem vals1_in (F : Fence) (n : Nat) (h8 : F.fn 48) (hro : F.round = none) (hn : 1 ≤ n) (l Bm r0 m : Nat) (ents : Array MapEntry) (bl : List Nat) (hP : PEnts ents m bl) (J Jx : List Nat → World → Prop)
    (hY : ∀ pre x W, J pre W → pre.length < m → YieldAt F (n - 1) Try.prog l #[encP x] W fun e W' =>
      (e = .returned (.bool true) ∧ J (pre ++ [x]) W' ∧ KeepsWalks W W') ∨ (e = .returned (.bool false) ∧ Jx (pre ++ [x]) W'))
    (W : World) (hJ : AbidesFrom W.heap.size J) (hBm : W.cell? ⟨Bm, 0, none⟩ = some (.map (some r0))) (hmap : W.heap[r0]? = some (.map ents m)) (h0 : J [] W) :
    CallsIn F n Try.prog 48 #[.func (.yield l) #[] #[], .pointer (some ⟨Bm, 0, none⟩)] W fun e W' => (∃ v, e = .returned v) ∧
      ((∃ ys, ys.Perm bl ∧ J ys W') ∨ (∃ pre, True ∧ Jx pre W')) := by
  refine callsIn_of_wp Try.func48 rfl h8 ?_ hro
  simp only [Try.ntmps48, List.size_toArray, List.length_cons, List.length_nil, Nat.reduceAdd, Nat.reduceSub, Array.replicate_succ, Array.replicate_zero, List.push_toArray, List.append_toArray, List.nil_append, List.cons_append]
  have hlt0 : r0 < W.heap.size := (Array.getElem?_eq_some_iff.1 hmap).1
  gi_wp2_with (first
    | (gi_at_range; refine wpListIn_range_raw rfl _ _ rfl 3 48 Try.underlying63 r0 rfl hmap ?_; intro w0 hw0)
    | gi_in)
  go_frame
  have hg0 : W.grownBy w0 none := by rw [hw0]; exact World.grownBy_alloc W _ none
  have hit0 : w0.heap[W.heap.size]? = some (.mapIter (some r0) m #[] m) := by rw [hw0]; exact World.alloc_heap_new W _
  have hm0 : w0.heap[r0]? = some (.map ents m) := by rw [hw0]; exact (Below.heap_alloc W _ r0 hlt0).trans hmap
  clear hw0
  gi_loopw [4] (fun _ wr => ∃ (seen : Array Nat), wr.heap[W.heap.size]? = some (.mapIter (some r0) m seen m) ∧ wr.heap[r0]? = some (.map ents m) ∧ seen.toList.Nodup ∧ (∀ j ∈ seen.toList, j < m) ∧ J (came bl seen) wr)
    (fun _ wr => match wr.heap[W.heap.size]? with | some (.mapIter _ _ seen _) => (leftOf ents seen).size | _ => 0)
  case atStart =>
    exact ⟨#[], hit0, hm0, by simp, by simp, hJ [] W w0 none h0 hg0 (fun r e => by cases e)⟩
  case round =>
    obtain ⟨seen, hit, hmp, hnd, hlt, hJs⟩ := hrel
    gi_wp2_with (first
      | (gi_at_next; refine wpListIn_next_raw rfl _ rfl r0 W.heap.size hP rfl hit hmp (by omega) ?_ ?_)
      | gi_in)
    · intro hl0
      gi_wp2
      go_end0
      exact ⟨⟨_, rfl⟩, .inl ⟨_, came_all hP hnd hlt (by rw [hl0]; rfl), hJs⟩⟩
    · intro j e c w2 hj hc hjs0 hv hlt2 hit2 hm2 hg2 hs2 hen
      have hjs : j ∉ seen.toList := by simpa using hjs0
      have hJ2 : J (came bl seen) w2 := hJ _ wr w2 (some W.heap.size) hJs hg2 (fun r e => by cases e; exact ⟨Nat.le_refl _, _, hit, rfl⟩)
      have hjm : j < m := by have h1 := (Array.getElem?_eq_some_iff.1 hj).1; have h2 := hP.sz; omega
      have hlen : (came bl seen).length < m := by
        have h3 : (j :: seen.toList).Nodup := List.nodup_cons.2 ⟨hjs, hnd⟩
        have h4 := List.Nodup.length_le_of_subset h3 (l₂ := List.range m) (fun q hq => by
          rw [List.mem_range]
          rcases List.mem_cons.1 hq with rfl | hq
          · exact hjm
          · exact hlt q hq)
        simp [came] at h4 ⊢
        omega
      have hcd : bl.getD j 0 = c := by simp [List.getD, hc]
      obtain ⟨fn, tmps, assign, body, hy, hR⟩ := hY _ c w2 hJ2 hlen
      clear hs2
      gi_wp2
      refine hR.mono ?_
      rintro e3 W3 (⟨rfl, hJ3, hk3⟩ | ⟨rfl, hJx3⟩)
      · gi_wp2
        have hit3 := hk3.same _ _ hit2 rfl
        go_roundw
        case rel =>
          refine ⟨seen.push j, hit3, hk3.same _ _ hm2 rfl, by
            rw [Array.toList_push]
            refine List.nodup_append.2 ⟨hnd, by simp, fun x hx y hy => ?_⟩
            rw [List.mem_singleton] at hy
            rw [hy]
            exact fun z => hjs (z ▸ hx), fun q hq => ?_, by rw [came_push, hcd]; exact hJ3⟩
          simp at hq
          rcases hq with hq | rfl
          · exact hlt q (by simpa using hq)
          · exact hjm
        case measure => rw [hit3, hit]; exact hlt2
      · gi_wp2
        refine bodyPost_ret (results_none rfl _ _ _) rfl ?_
        exact ⟨⟨_, rfl⟩, .inr ⟨_, trivial, hJx3⟩⟩
set_option maxHeartbeats 1000000 in
theorem values_in (F : Fence) (n : Nat) (h5 : F.fn 40) (hro : F.round = none) (mb : Option Nat) (w : World) :
    CallsIn F n Try.prog 40 #[.map mb] w fun e w' => e = .returned (.func (.func 48) #[] #[.pointer (some ⟨w.heap.size, 0, none⟩)]) ∧ w' = w.alloc (.cells #[.map mb] 63) := by
  refine callsIn_of_wp Try.func40 rfl h5 ?_ hro
  simp only [Try.ntmps40, List.size_toArray, List.length_cons, List.length_nil, Nat.reduceAdd, Nat.reduceSub, Array.replicate_succ, Array.replicate_zero, List.push_toArray, List.append_toArray, List.nil_append, List.cons_append]
  gi_wp2
  go_ret
  exact ⟨rfl, rfl⟩
theorem vals_stops (F : Fence) (n : Nat) (h8 : F.fn 48) (hro : F.round = none) (hn : 1 ≤ n) (Bm r0 m : Nat) (ents : Array MapEntry) (bl : List Nat) (hP : PEnts ents m bl) (w : World) (hBm : Bm < w.heap.size) (hc : w.cell? ⟨Bm, 0, none⟩ = some (.map (some r0))) (hmap : w.heap[r0]? = some (.map ents m)) :
    SeqStopsA F n Try.prog 48 #[.pointer (some ⟨Bm, 0, none⟩)] (fun x : Nat => #[encP x]) (fun ys => ys.Perm bl) (fun _ => True) m w := fun l J Jx W hW hJ _ hY h0 =>
  vals1_in F n h8 hro hn l Bm r0 m ents bl hP J Jx hY W hJ ((hW.cell (p := ⟨Bm, 0, none⟩) hBm).trans hc) ((hW.block r0 (Array.getElem?_eq_some_iff.1 hmap).1).trans hmap) h0
theorem infoTP : (Try.prog.info? 48).map (fun i => (i.zero, i.size, i.bytes)) = some (some (.pointer none), 1, 8) := by kernel_rfl
theorem grownBy_putObjL (W : World) (l : Nat) (o : Obj) : W.grownBy (W.putObj l o) (some l) :=
  ⟨rfl, rfl, rfl, by simp [World.putObj], fun k _ hk => World.putObj_heap_other (fun e => hk (by rw [e]))⟩
theorem KeepsOthers.walks {A B : World} (h : KeepsOthers A B) : KeepsWalks A B := ⟨h.size, fun k o ho hw => h.same k o ho (Obj.not_cells_of_walk hw)⟩
set_option maxRecDepth 100000 in
set_option maxHeartbeats 4000000 in
theorem appendSeq_in (F : Fence) (n : Nat) (h11 : F.fn 47) (hro : F.round = none) (hn : 2 ≤ n) (gf : Nat) (lb : Array Value) (hFg : F.fn gf) (eg : ∀ args w, (callFunc gf args).run Try.prog w = .ok (.enter gf args) w)
    (S Sp : List Nat → Prop) (N : Nat) (hN : N * 8 ≤ 140737488351232) (w : World) (hseq : SeqStopsA F (n - 1) Try.prog gf lb (fun x : Nat => #[encP x]) S Sp N w) :
    CallsIn F n Try.prog 47 #[.slice none 0 0, .func (.func gf) #[] lb] w fun e w' => ∃ (v : Value) (ss : List Nat), e = .returned v ∧ S ss ∧ w'.ownsRow w.heap.size 48 1 v ss.length (ss.map encP) ∧ Below w.heap.size w w' := by
  have h1 : 1 ≤ n := by omega
  obtain ⟨i0, hi, hz0, hzs, hzb⟩ := info_parts infoTP
  refine callsIn_of_wp_marks Try.func47 rfl h11 ?_ hro
  simp only [Try.ntmps47, List.size_toArray, List.length_cons, List.length_nil, Nat.reduceAdd, Nat.reduceSub, Array.replicate_succ, Array.replicate_zero, List.push_toArray, List.append_toArray, List.nil_append, List.cons_append]
  gi_wp2
  have bO := Boxed.new w 46 (.slice none 0 0)
  have hB0 : Below w.heap.size w (w.alloc (.cells #[.slice none 0 0] 46)) := (Below.refl _ w).alloc (Nat.le_refl _) _
  have hR0 : (w.alloc (.cells #[.slice none 0 0] 46)).ownsRow w.heap.size 48 1 (.slice none 0 0) 0 [] := ⟨rfl, .inl ⟨rfl, rfl⟩⟩
  have hsz : (w.alloc (.cells #[.slice none 0 0] 46)).heap.size = w.heap.size + 1 := by simp
  obtain ⟨W0, hW0⟩ : ∃ W0, w.alloc (.cells #[.slice none 0 0] 46) = W0 := ⟨_, rfl⟩
  rw [hW0] at bO hB0 hR0 hsz ⊢
  clear hW0
  refine wpIn_rangeFunc_ownH hro h1 (gf := gf) (lb := lb) rfl hFg eg (seqStopsA_iff.1 hseq)
    (fun h k => h.trans k) (fun W l o o' hl h h2 h3 => KeepsWalks.putObj _ h h3) hB0 (fun _ => rfl)
    (fun pre W => (∃ v, Boxed W w.heap.size 46 v ∧ W.ownsRow w.heap.size 48 1 v pre.length (pre.map encP) ∧ True) ∧ Below w.heap.size w W)
    (fun _ _ _ => False)
    (OwnFrom.and (Own.from (holdsRow_own w.heap.size w.heap.size 46 48 1 (fun pre : List Nat => pre.length) (fun pre => pre.map encP) (fun pre v => True)) _) (ownFrom_below (Nat.le_refl _) (by omega)))
    (fun _ _ _ _ _ hs _ _ => hs)
    ⟨⟨_, bO, hR0, trivial⟩, hB0⟩
    (fun x a' W => a' = { tmps := #[Value.slice none 0 0, .func (.func gf) #[] lb, Value.pointer (some { block := w.heap.size, off := 0 }), undef, Value.slice none 0 0, encP x, .func (.func gf) #[] lb, encP x, undef, undef, undef, undef, undef], defers := [] })
    (fun x a' _ X Y row hs hg hr => hs)
    ?assign ?body ?done ?stop
  case assign =>
    rintro l pre x W K ⟨⟨v, bv, hv, _⟩, hB⟩ hK
    gi_wp2
    exact hK _ _ (KeepsFrom.refl _ _) (KeepsWalks.refl _) ⟨⟨v, bv, hv, trivial⟩, hB⟩ rfl
  case body =>
    rintro l pre x a' W hl ⟨r, hr⟩ ⟨⟨v, bv, hv, _⟩, hB⟩ rfl hlt
    have hc := bv.cell
    have hmx : maxLen = 9223372036854775807 := rfl
    gi_wp2_with (gi_at_builtin; refine wpListIn_append_own _ rfl _ _ 46 rfl w.heap.size 48 i0 (.pointer none) 1 8 Try.underlying46 hi hz0 hzs hzb rfl (by decide) _ _ _ rfl (hv.alloc _) ⟨W.heap.size, 0, none⟩ 1 1 [encP x] rfl rfl (cell_one_new _ _ _) (by simp [Value.oneCell', encP]) (by omega) (by omega) (by have := hB.size; simp; omega) ?_; intro v' w2 hown' hgrow _; obtain ⟨g', cap', rfl⟩ := ownsRow_succ hown'; obtain ⟨hv1, hv2, hr2, hk2, hb2⟩ := bv.appended (by decide) hv hB.size (by omega) hown' hgrow; have hc1 := hv1.cell; have hf1 := hv1.frozen)
    exact ⟨hk2.from _, KeepsOthers.walks hk2, ⟨⟨_, hv2, by simpa using hr2, trivial⟩, hB.trans hb2⟩⟩
  case done =>
    rintro D ys W hD hS ⟨⟨v, bv, hv, _⟩, hB⟩ hK
    have hc := bv.cell
    gi_wp2
    refine ⟨by simp, .inl ⟨_, _, rfl, run_takeDeferred hK, ?_⟩⟩
    refine ⟨_, results_tmp rfl _ _ _, v, ys, rfl, hS, ?_, ?_⟩
    · refine hv.kept (grownBy_putObjL W D (.deferred none)) ?_
      rcases hv.2 with ⟨rfl, _⟩ | ⟨g, cap, cur, rfl, _, hgb, _⟩
      · exact .inl rfl
      · refine .inr fun e' => ?_
        have : g = D := by simpa [Value.ownBlock] using e'
        subst this
        rw [hgb] at hK; cases hK
    · refine hB.grown (grownBy_putObjL W D (.deferred none)) hB.size (fun k e => ?_)
      cases e; omega
  case stop =>
    rintro D c pre W _ _ h _
    exact h.elim
set_option maxHeartbeats 1000000 in
theorem collect_in (F : Fence) (n : Nat) (h8 : F.fn 39) (h11 : F.fn 47) (hro : F.round = none) (hn : 3 ≤ n) (gf : Nat) (lb : Array Value) (hFg : F.fn gf) (eg : ∀ args w, (callFunc gf args).run Try.prog w = .ok (.enter gf args) w)
    (S Sp : List Nat → Prop) (N : Nat) (hN : N * 8 ≤ 140737488351232) (w : World) (hseq : SeqStopsA F (n - 1 - 1) Try.prog gf lb (fun x : Nat => #[encP x]) S Sp N w) :
    CallsIn F n Try.prog 39 #[.func (.func gf) #[] lb] w fun e w' => ∃ (v : Value) (ss : List Nat), e = .returned v ∧ S ss ∧ w'.ownsRow w.heap.size 48 1 v ss.length (ss.map encP) ∧ Below w.heap.size w w' := by
  have h1 : 1 ≤ n := by omega
  refine callsIn_of_wp Try.func39 rfl h8 ?_ hro
  simp only [Try.ntmps39, List.size_toArray, List.length_cons, List.length_nil, Nat.reduceAdd, Nat.reduceSub, Array.replicate_succ, Array.replicate_zero, List.push_toArray, List.append_toArray, List.nil_append, List.cons_append]
  gi_wp2_with (gi_at_call 47; refine (appendSeq_in F (n - 1) h11 hro (by omega) gf lb hFg eg S Sp N hN _ hseq).mono ?_; rintro e w' ⟨v, ss, rfl, hS, hrow, hb⟩)
  go_ret
  exact ⟨v, ss, rfl, hS, hrow, hb⟩
/-- behind both calls -/
theorem values_collected (F : Fence) (n : Nat) (h5 : F.fn 40) (h39 : F.fn 39) (h47 : F.fn 47) (h48 : F.fn 48) (hro : F.round = none) (hn : 4 ≤ n) (r0 m : Nat) (ents : Array MapEntry) (bl : List Nat) (hP : PEnts ents m bl) (hm : m * 8 ≤ 140737488351232) (w : World) (hmap : w.heap[r0]? = some (.map ents m)) :
    CallsIn F n Try.prog 39 #[.func (.func 48) #[] #[.pointer (some ⟨w.heap.size, 0, none⟩)]] (w.alloc (.cells #[.map (some r0)] 63)) fun e w' => ∃ (v : Value) (ss : List Nat), e = .returned v ∧ ss.Perm bl ∧ w'.ownsRow w.heap.size 48 1 v ss.length (ss.map encP) ∧ Below w.heap.size w w' := by
  have hlt := (Array.getElem?_eq_some_iff.1 hmap).1
  refine (collect_in F n h39 h47 hro (by omega) 48 _ h48 (enters_of Try.func48 (by kernel_rfl) rfl) (fun ys => ys.Perm bl) (fun _ => True) m hm _
    (vals_stops F (n - 1 - 1) h48 hro (by omega) w.heap.size r0 m ents bl hP _ (by simp) ?_ ((Below.heap_alloc w _ r0 hlt).trans hmap))).mono ?_
  · have := World.alloc_heap_new w (.cells #[.map (some r0)] 63)
    unfold World.cell?
    simp only [this]
    rfl
  · rintro e w' ⟨v, ss, rfl, hS, hrow, hb⟩
    refine ⟨v, ss, rfl, hS, ?_, ((Below.refl _ w).alloc (Nat.le_refl _) _).trans (hb.mono (by simp))⟩
    refine ⟨hrow.1, ?_⟩
    rcases hrow.2 with h | ⟨g, cap, cur, e, hbg, rest⟩
    · exact .inl h
    · exact .inr ⟨g, cap, cur, e, Nat.le_trans (by simp) hbg, rest⟩
def sortB_ren : Go.Shelf.Ren := ⟨fun | 6 => 41 | 15 => 50 | 14 => 49 | 28 => 62 | 29 => 63 | 20 => 54 | 21 => 55 | 22 => 56 | 23 => 57 | 24 => 58 | 25 => 59 | 26 => 60 | 27 => 61 | 46 => 65 | 47 => 66 | 48 => 67 | 49 => 68 | 50 => 69 | 57 => 71 | n => n, fun | 22 => 46 | 24 => 48 | 25 => 71 | 3 => 3 | 39 => 77 | 0 => 0 | 53 => 90 | 55 => 92 | 4 => 4 | 46 => 83 | 45 => 82 | 50 => 87 | 5 => 5 | 9 => 9 | 66 => 93 | 70 => 97 | 76 => 99 | 77 => 100 | n => n, fun | n => n⟩
theorem sortB : Go.Proofs.SlLaysF.n6 Try.prog sortB_ren := {
  mixed := by kernel_rfl
  f6 := ⟨Try.f41.name, by decide, Try.func41.trans (congrArg some (by kernel_rfl))⟩
  f14 := ⟨Try.f49.name, by decide, Try.func49.trans (congrArg some (by kernel_rfl))⟩
  f15 := Try.func50.trans (congrArg some (by kernel_rfl))
  f20 := ⟨Try.f54.name, by decide, Try.func54.trans (congrArg some (by kernel_rfl))⟩
  f21 := ⟨Try.f55.name, by decide, Try.func55.trans (congrArg some (by kernel_rfl))⟩
  f22 := ⟨Try.f56.name, by decide, Try.func56.trans (congrArg some (by kernel_rfl))⟩
  f23 := ⟨Try.f57.name, by decide, Try.func57.trans (congrArg some (by kernel_rfl))⟩
  f24 := ⟨Try.f58.name, by decide, Try.func58.trans (congrArg some (by kernel_rfl))⟩
  f25 := ⟨Try.f59.name, by decide, Try.func59.trans (congrArg some (by kernel_rfl))⟩
  f26 := ⟨Try.f60.name, by decide, Try.func60.trans (congrArg some (by kernel_rfl))⟩
  f27 := ⟨Try.f61.name, by decide, Try.func61.trans (congrArg some (by kernel_rfl))⟩
  f28 := Try.func62.trans (congrArg some (by kernel_rfl))
  f29 := Try.func63.trans (congrArg some (by kernel_rfl))
  f46 := ⟨Try.f65.name, by decide, Try.func65.trans (congrArg some (by kernel_rfl))⟩
  f47 := Try.func66.trans (congrArg some (by kernel_rfl))
  f48 := Try.func67.trans (congrArg some (by kernel_rfl))
  f49 := ⟨Try.f68.name, by decide, Try.func68.trans (congrArg some (by kernel_rfl))⟩
  f50 := ⟨Try.f69.name, by decide, Try.func69.trans (congrArg some (by kernel_rfl))⟩
  f57 := ⟨Try.f71.name, by decide, Try.func71.trans (congrArg some (by kernel_rfl))⟩
  t0 := Try.underlying0
  a0 := Try.isAgg0
  z0 := Try.sizeOf0
  v0 := Try.zeroValue0
  t3 := Try.underlying3
  a3 := Try.isAgg3
  z3 := Try.sizeOf3
  v3 := Try.zeroValue3
  t4 := Try.underlying4
  a4 := Try.isAgg4
  z4 := Try.sizeOf4
  v4 := Try.zeroValue4
  t5 := Try.underlying5
  a5 := Try.isAgg5
  z5 := Try.sizeOf5
  v5 := Try.zeroValue5
  t9 := Try.underlying9
  a9 := Try.isAgg9
  z9 := Try.sizeOf9
  v9 := Try.zeroValue9
  t22 := Try.underlying46
  a22 := Try.isAgg46
  z22 := Try.sizeOf46
  v22 := Try.zeroValue46
  a24 := Try.isAgg48
  z24 := Try.sizeOf48
  t25 := Try.underlying71
  a25 := Try.isAgg71
  z25 := Try.sizeOf71
  v25 := Try.zeroValue71
  t39 := Try.underlying77
  a39 := Try.isAgg77
  z39 := Try.sizeOf77
  v39 := Try.zeroValue77
  t45 := Try.underlying82
  a45 := Try.isAgg82
  z45 := Try.sizeOf82
  v45 := Try.zeroValue82
  t46 := Try.underlying83
  a46 := Try.isAgg83
  z46 := Try.sizeOf83
  v46 := Try.zeroValue83
  t50 := Try.underlying87
  a50 := Try.isAgg87
  z50 := Try.sizeOf87
  v50 := Try.zeroValue87
  t53 := Try.underlying90
  a53 := Try.isAgg90
  z53 := Try.sizeOf90
  v53 := Try.zeroValue90
  t55 := Try.underlying92
  a55 := Try.isAgg92
  z55 := Try.sizeOf92
  v55 := Try.zeroValue92
  t66 := Try.underlying93
  a66 := Try.isAgg93
  z66 := Try.sizeOf93
  v66 := Try.zeroValue93
  t70 := Try.underlying97
  a70 := Try.isAgg97
  z70 := Try.sizeOf97
  v70 := Try.zeroValue97
  t76 := Try.underlying99
  a76 := Try.isAgg99
  z76 := Try.sizeOf99
  v76 := Try.zeroValue99
  t77 := Try.underlying100
  a77 := Try.isAgg100
  z77 := Try.sizeOf100
  v77 := Try.zeroValue100 }

theorem valsC : ValsC Try.prog 48 40 39 := fun r0 m ents bl hP hm w hmap => by
  refine ((callsIn_wide (n := 4)).1 (values_in Fence.wide 4 trivial rfl (some r0) w)).mono ?_
  rintro e w1 ⟨rfl, rfl⟩
  exact ⟨_, rfl, (callsIn_wide (n := 4)).1 (values_collected Fence.wide 4 trivial trivial trivial trivial rfl (Nat.le_refl _) r0 m ents bl hP hm w hmap)⟩
theorem isNaN_w (x : Int) (W : World) : Calls Try.prog 46 #[.int .i64 x] W fun e w' => e = .returned (.bool false) ∧ w' = W := by
  go_enter Try.func46, Try.ntmps46
  go_wp2
  go_ret
  simp
theorem cmp_w (x y : Int) (W : World) : Calls Try.prog 36 #[.int .i64 x, .int .i64 y] W fun e w' => e = .returned (.int .i64 (Lib.compareInt x y)) ∧ w' = W := by
  have h1 := isNaN_w x W
  have h2 := isNaN_w y W
  unfold Lib.compareInt
  go_enter Try.func36, Try.ntmps36
  by_cases c1 : x < y
  · go_wp2_with (first | (go_at_call 46; refine h1.mono ?_; rintro e w' ⟨rfl, rfl⟩) | (go_at_call 46; refine h2.mono ?_; rintro e w' ⟨rfl, rfl⟩))
    go_ret
    simp [c1]
  · by_cases c2 : y < x
    · go_wp2_with (first | (go_at_call 46; refine h1.mono ?_; rintro e w' ⟨rfl, rfl⟩) | (go_at_call 46; refine h2.mono ?_; rintro e w' ⟨rfl, rfl⟩))
      go_ret
      simp [c1, c2]
    · go_wp2_with (first | (go_at_call 46; refine h1.mono ?_; rintro e w' ⟨rfl, rfl⟩) | (go_at_call 46; refine h2.mono ?_; rintro e w' ⟨rfl, rfl⟩))
      go_ret
      simp [c1, c2]
theorem byVal_w (p q : Nat) (x y : Int) (W : World) (hp : W.cell? ⟨p, 0, none⟩ = some (.int .i64 x)) (hq : W.cell? ⟨q, 0, none⟩ = some (.int .i64 y)) :
    Calls Try.prog 42 #[encP p, encP q] W fun e w' => e = .returned (.int .i64 (Lib.compareInt x y)) ∧ ∃ n, w' = W.drewN n := by
  unfold encP
  have mixed : Try.prog.follows .mixedOrders = true := by kernel_rfl
  have h1 := fun W => cmp_w x y W
  generalize Lib.compareInt x y = z at h1 ⊢
  go_enter Try.func42, Try.ntmps42
  go_wp2
  go_quiet ((go_at_call 36; refine Calls.quiet_of_same (h1 _)))
  go_wp2
  go_ret
  exact ⟨rfl, _, rfl⟩
theorem ltVal (val : Nat → Int) (x y : Nat) : ltOf (fun x y : Nat => Lib.compareInt (val x) (val y)) x y = decide (val x < val y) := by
  unfold ltOf Lib.compareInt
  by_cases h1 : val x < val y
  · simp [h1]
  · by_cases h2 : val y < val x <;> simp [h1, h2]
theorem swoVal (val : Nat → Int) : SWO (ltOf fun x y : Nat => Lib.compareInt (val x) (val y)) where
  irrefl x := by rw [ltVal]; simp
  trans x y z h1 h2 := by rw [ltVal] at *; simp at *; omega
  ntrans x y z h1 h2 := by rw [ltVal] at *; simp at *; omega
theorem sortC : SortC Try.prog 48 41 42 := by
  refine ⟨fun p cap fv w => AnyF.slices_SortFunc_none (P := Try.prog) (ρ := sortB_ren) { sortB with } p cap fv w, fun blk cap bs val d cur w hheap hlen htk hcell hne hn => ?_⟩
  have eg : ∀ args w, (callFunc 42 args).run Try.prog w = .ok (.enter 42 args) w := enters_of Try.func42 (by kernel_rfl) rfl
  have hblk : blk < w.heap.size := (Array.getElem?_eq_some_iff.1 hheap).1
  have hget : ∀ j, j < d.length → cur[j]? = some (encP (bs (d.toArray[j]!))) := fun j hj => by
    have h1 : (cur.toList.take d.length)[j]? = some (encP (bs d[j])) := by rw [htk, List.getElem?_map, List.getElem?_eq_getElem hj]; rfl
    rw [List.getElem?_take, if_pos hj, Array.getElem?_toList] at h1
    rw [h1]
    simp [hj]
  have hH : Holds (fun i => encP (bs i)) w blk 0 d.toArray := fun j hj => by
    have hj' : j < d.length := by simpa using hj
    refine ⟨?_, ?_⟩
    · unfold World.cell?
      simp only [hheap]
      rw [Nat.zero_add]; exact hget j hj'
    · simp [World.frozen?, hheap]
  have hcmp : CmpLays1 Try.prog 42 #[] (fun i => encP (bs i)) (fun x y : Nat => Lib.compareInt (val x) (val y)) blk 0 d.toArray.size w := fun m os dk hs x y => by
    have hc : ∀ i, (sortWorld (fun i => encP (bs i)) w blk 0 m dk os).cell? ⟨bs i, 0, none⟩ = some (.int .i64 (val i)) := fun i => by
      have h1 : (putRow (fun i => encP (bs i)) (Sort.ahead w m) blk 0 dk).cell? ⟨bs i, 0, none⟩ = some (.int .i64 (val i)) := by
        rw [cell?_putRow_other _ _ _ _ _ _ (.inl (hne i))]; exact hcell i
      unfold sortWorld grow
      unfold World.cell? at h1 ⊢
      have hlt : bs i < (putRow (fun i => encP (bs i)) (Sort.ahead w m) blk 0 dk).heap.size := by
        rw [size_putRow]
        exact World.block_lt_of_cell? _ _ (hcell i)
      simp only [Array.getElem?_append_left hlt]
      exact h1
    refine (byVal_w (bs x) (bs y) (val x) (val y) _ (hc x) (hc y)).mono ?_
    rintro e w' ⟨rfl, n, rfl⟩
    exact ⟨rfl, n, #[], by rw [grow_empty]⟩
  have hcon := Any.slices_SortFunc sortB (fun i => encP (bs i)) (fun _ => rfl) (fun x y : Nat => Lib.compareInt (val x) (val y)) (swoVal val) 42 #[] blk 0 cap d.toArray w eg hcmp hH hblk (by simpa using hn)
  have hcon : Calls Try.prog 41 #[.slice (some ⟨blk, 0, none⟩) d.length cap, .func (.func 42) #[] #[]] w _ := hcon
  refine hcon.mono ?_
  rintro e w' ⟨rfl, d', n, os, ⟨hp1, _, hp3⟩, hso, rfl⟩
  have hdl : d'.toList.length = d.length := by simpa using hp1
  have hperm : d'.toList.Perm d := by
    have e1 : (d'.extract 0 d.toArray.size).toList = d'.toList := by rw [← hp1]; simp
    have e2 : (d.toArray.extract 0 d.toArray.size).toList = d := by simp
    rw [e1, e2] at hp3; exact hp3
  have hW : (sortWorld (fun i => encP (bs i)) w blk 0 n d' os).heap[blk]? = some (.cells (putCells (fun i => encP (bs i)) 0 d' cur) 48 (0, 0)) := by
    unfold sortWorld grow
    have hlt : blk < (putRow (fun i => encP (bs i)) (Sort.ahead w n) blk 0 d').heap.size := by rw [size_putRow]; exact hblk
    simp only [Array.getElem?_append_left hlt]
    simp only [putRow, mapBlock, Sort.ahead, Array.getElem?_modify, if_true, hheap, Option.map_some, onCells]
  refine ⟨rfl, d'.toList, putCells (fun i => encP (bs i)) 0 d' cur, hperm, ?_, hW, by simp [putCells], ?_, ⟨rfl, rfl, rfl, ?_, fun b hb hne2 => ?_⟩⟩
  · refine List.pairwise_iff_getElem.2 fun i j hi hj hij => ?_
    have h1 := hso i j (Nat.zero_le _) hij (by simpa [hdl] using hj)
    rw [ltVal] at h1
    simp only [Array.length_toList] at hi hj
    simp [hi, hj] at h1
    simpa using h1
  · apply List.ext_getElem?
    intro p
    rw [List.getElem?_take, List.getElem?_map]
    split
    · rename_i hpl
      have hpd : p < d'.size := by rw [hp1]; simpa using hpl
      have hpc : p < cur.size := by omega
      simp [putCells, hpc, hpd]
    · rename_i hpl
      rw [List.getElem?_eq_none (by omega)]; rfl
  · unfold sortWorld grow
    have : (putRow (fun i => encP (bs i)) (Sort.ahead w n) blk 0 d').heap.size = w.heap.size := by rw [size_putRow]; rfl
    simp [this]
  · unfold sortWorld grow
    have hlt : b < (putRow (fun i => encP (bs i)) (Sort.ahead w n) blk 0 d').heap.size := by rw [size_putRow]; exact hb
    simp only [Array.getElem?_append_left hlt]
    simp only [putRow, mapBlock, Sort.ahead, Array.getElem?_modify, if_neg (Ne.symm hne2)]
end Go.Proofs.Ytnibbgjoanbnmaa
