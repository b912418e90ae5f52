/- Library functions, by the shelf's contracts: as contracts of the machine. -/
import Derived.Test.YtcifgljlmieblaaGreatDoorLays
import Derived.Test.YtcifgljlmieblaaGreatDoorEmS
import Derived.Test.YtcifgljlmieblaaGreatDoorFn
import Derived.Shelf.Strconv.Itoa3
import Derived.Shelf.Strings.SplitShaped
import Derived.Shelf.Strconv.AtoiAll
import Derived.Shelf.GgClosure.StringsIndexFuncTop
import Derived.Laws.RangeAny
namespace Go.Dm
open Go Go.RowKit
theorem lw_refl (E : Env) : E.lw E :=
  ⟨fun i b b' h h' => (by rw [h] at h'; exact (Option.some.inj h').symm), fun i q q' h h' => (by rw [h] at h'; cases h'; exact ⟨Nat.le_refl _, fun _ => ⟨rfl, rfl, rfl, rfl⟩⟩), fun i r r' h h' => (by rw [h] at h'; exact (Option.some.inj h').symm), fun i bs bs' h h' => ⟨[], by rw [h] at h'; cases h'; simp⟩⟩
/-- a call that left all as it was, but for new blocks -/
theorem St.ahead {F : Nat → Prop} {M : Mem} {E : Env} {w w' : World} (hs : St ⟨w, F, M, Env.none⟩ 0 M E S.none #[] w) (hB : Below w.heap.size w w') : St ⟨w, F, M, Env.none⟩ 0 M E S.none #[] w' := by
  have hm : ∀ b j v, M b j = some v → w'.cell? ⟨b, j, none⟩ = some v := fun b j v h => by
    have h0 := (hs.mem b j v h).1
    rw [World.cell?_of_block (hB.block b (World.block_lt_of_cell? _ _ h0))]
    exact h0
  have hc : St ⟨w, fun b => b < w.heap.size, M, Env.none⟩ 0 M Env.none S.none #[] w' := { size := rfl, fr := fun i av h => (by cases h), mem := fun b j v h => ⟨hm b j v h, fun o h => (by cases h)⟩, bx := fun i cs h => (by cases h), bxn := fun _ _ => rfl, rw := fun i r h => (by cases h), rwn := fun _ _ => rfl, mp := fun i es h => (by cases h), mpn := fun _ _ => rfl, ar := fun i r h => (by cases h), arn := fun _ _ => rfl, live := fun b o h => (by cases h), foreign := fun b hb => ⟨Nat.lt_of_lt_of_le hb hB.size, hB.block b hb, rfl⟩, m0 := fun _ _ _ h => h, mf := fun _ _ _ h _ => h, os := hB.os, tape := hB.tape, output := hB.output, grow := hB.size, lay := lay_re hs.lay (fun _ _ => rfl) (fun b h => (hs.foreign b h).1) }
  exact hs.borrowed hc
end Go.Dm
namespace Go.Proofs.YtcifgljlmieblaaGreatDoor
open Go Go.RowKit Go.Dm Go.Shelf Go.Proofs
theorem tab_of {w : World} {F : Nat → Prop} (h : Lay w F) : Lib.TabIs Tryz.prog w "internal/strconv.uint64pow10" .u64 Lib.pow10Tab := by
  obtain ⟨t, k, ht⟩ := h.tab
  have e : Tryz.prog.globalNamed "internal/strconv.uint64pow10" = some 3 := by kernel_rfl
  unfold Lib.TabIs World.var?
  rw [e]
  simp only [Option.bind_some, ht, Lib.pow10Tab, List.map_map]
  rfl
theorem itoa_pe (n : Int) (h : -9223372036854775808 ≤ n ∧ n ≤ 9223372036854775807) : Pe Tryz.prog 20 S.none [.int .i64 n] (.str (Lib.itoa n)) S.none := by
  refine ⟨Fn.b20, fun w M E F vs hs hr => ?_⟩
  obtain ⟨v, rfl⟩ : ∃ v, vs = [v] := by
    match vs, hr.1 with
    | [v], _ => exact ⟨v, rfl⟩
  have hv := (hr.2 0 v _ rfl rfl).int_inv
  subst hv
  refine (Any.strconv_Itoa l171 n h.1 h.2 w (tab_of hs.lay)).mono ?_
  rintro e w' ⟨rfl, k, os, rfl⟩
  have hB : Below w.heap.size w (Go.Sort.grow (w.drewN k) os) := by
    refine ⟨rfl, rfl, rfl, by simp [Go.Sort.grow, World.drewN], fun b hb => ?_⟩
    show (w.heap ++ os)[b]? = _
    rw [Array.getElem?_append_left hb]
  exact ⟨M, E, _, rfl, lw_refl E, hs.ahead hB, .cell (.pure (.str _))⟩
/-- the pieces of a text -/
def splitL (s sep : List UInt8) : List (List UInt8) := (Lib.splitB ⟨sep.toArray⟩ 0 (Lib.countB ⟨s.toArray⟩ ⟨sep.toArray⟩) ⟨s.toArray⟩).map fun b => b.data.toList
theorem flat_str (l : List (List UInt8)) : flat (l.map AV.str) = l.map AV.str := by
  induction l with
  | nil => rfl
  | cons x l ih =>
    show (AV.str x).cells ++ flat (l.map AV.str) = _
    rw [ih]; rfl
theorem split_pe (s sep : List UInt8) (h1 : s.length < 4294967281) (h2 : 1 ≤ sep.length) : Pe Tryz.prog 14 S.none [.str s, .str sep] (.sl 1 ((splitL s sep).map AV.str)) S.none := by
  have h2' : 1 ≤ (⟨sep.toArray⟩ : ByteArray).size := by show 1 ≤ sep.toArray.size; simpa using h2
  have h1' : (⟨s.toArray⟩ : ByteArray).size < 4294967281 := by show s.toArray.size < _; simpa using h1
  have hl : (splitL s sep).length = Lib.countB ⟨s.toArray⟩ ⟨sep.toArray⟩ + 1 := by
    unfold splitL
    rw [List.length_map]; exact Lib.splitB_all _ h2' 0 _ _ rfl
  have hm : Lib.countB ⟨s.toArray⟩ ⟨sep.toArray⟩ + 1 ≤ maxLen := by
    have := Lib.countB_le ⟨sep.toArray⟩ h2' _ ⟨s.toArray⟩ (Nat.le_refl _)
    have hx : maxLen = 9223372036854775807 := rfl
    omega
  refine ⟨Fn.b14, fun w M E F vs hs hr => ?_⟩
  obtain ⟨v, u, rfl⟩ : ∃ v u, vs = [v, u] := by
    match vs, hr.1 with
    | [v, u], _ => exact ⟨v, u, rfl⟩
  have hv := (hr.2 0 v _ rfl rfl).str_inv
  have hu := (hr.2 1 u _ rfl rfl).str_inv
  subst hv; subst hu
  obtain ⟨m, t, k, hmx⟩ := hs.lay.len
  have hcell : w.cell? ⟨0, 0, none⟩ = some (.int .i64 m) := by simp [World.cell?, hmx]
  refine (Any.strings_Split (P := Tryz.prog) (ρ := l146_ren) { l146 with } l146.i9 ⟨s.toArray⟩ ⟨sep.toArray⟩ m w (by show s.toArray.size < _; simpa using h1) hcell (by show 1 ≤ sep.toArray.size; simpa using h2)).mono ?_
  rintro e w' ⟨rfl, rfl⟩
  obtain ⟨L, hL⟩ : ∃ L, L = Lib.splitB ⟨sep.toArray⟩ 0 (Lib.countB ⟨s.toArray⟩ ⟨sep.toArray⟩) ⟨s.toArray⟩ := ⟨_, rfl⟩
  have hsp : splitL s sep = L.map fun b => b.data.toList := by rw [hL]; rfl
  rw [← hL]
  rw [hsp, List.length_map] at hl
  rw [hsp]
  generalize hn : Lib.countB ⟨s.toArray⟩ ⟨sep.toArray⟩ + 1 = n at hl hm
  have hst := hs.ahead ((Below.refl _ w).alloc (Nat.le_refl _) (.cells (L.map Value.string).toArray (l146_ren.t 9)))
  have hMlt : ∀ b j v, M b j = some v → b < w.heap.size := fun b j v h => World.block_lt_of_cell? _ _ (hs.mem b j v h).1
  have hnew : (w.alloc (.cells (L.map Value.string).toArray (l146_ren.t 9))).heap[w.heap.size]? = some (.cells (L.map Value.string).toArray (l146_ren.t 9)) := by
    show (w.heap.push _)[w.heap.size]? = _
    simp
  generalize w.alloc (.cells (L.map Value.string).toArray (l146_ren.t 9)) = w' at hst hnew ⊢
  have hown : E.own w.heap.size = none := by
    cases h : E.own w.heap.size with
    | none => rfl
    | some o => exact absurd (hs.live _ o h) (by omega)
  let M' : Mem := fun b j => if b = w.heap.size then (L.map Value.string)[j]? else M b j
  have hMM : ∀ b j v, M b j = some v → M' b j = some v := fun b j v h => by
    have := hMlt b j v h
    show (if b = w.heap.size then _ else _) = _
    rw [if_neg (by omega)]; exact h
  have hst' : St ⟨w, F, M, Env.none⟩ 0 M' E S.none #[] w' := hst.moreM hMM (fun b j v h => by
      by_cases c : b = w.heap.size
      · subst c
        have h : (if w.heap.size = w.heap.size then (L.map Value.string)[j]? else M _ j) = some v := h
        rw [if_pos rfl] at h
        exact ⟨by simp only [World.cell?, hnew]; simpa using h, fun o ho => by rw [hown] at ho; cases ho⟩
      · have h : (if b = w.heap.size then (L.map Value.string)[j]? else M b j) = some v := h
        rw [if_neg c] at h
        exact hst.mem b j v h) (fun b j v h hF => by
      have h : (if b = w.heap.size then (L.map Value.string)[j]? else M b j) = some v := h
      have := (hs.foreign b hF).1
      rw [if_neg (by have : b < w.heap.size := this; omega)] at h
      exact hst.mf b j v h hF) rfl rfl rfl rfl (fun i r h => by cases h) (fun i _ => rfl)
  refine ⟨M', E, _, rfl, lw_refl E, hst', .cell (.pure ?_)⟩
  refine .sl _ n n 1 _ (fun j => ((L.map Value.string)[j]?).getD undef) (by simp [hl]) (Nat.le_refl _) hm (by simp; intro a h; rfl) (fun _ => ⟨w.heap.size, 0, rfl, fun j hj => ?_⟩) (fun j u hu => ?_)
  · have h0 : flat ((L.map fun b => b.data.toList).map AV.str) = (L.map fun b => b.data.toList).map AV.str := flat_str _
    rw [h0] at hj
    have hj : j < L.length := by simpa using hj
    show (if w.heap.size = w.heap.size then (L.map Value.string)[0 + j]? else _) = _
    rw [if_pos rfl, Nat.zero_add]
    simp [hj]
  · rw [flat_str] at hu
    simp only [List.getElem?_map, Option.map_map] at hu ⊢
    cases hb : L[j]? with
    | none => rw [hb] at hu; cases hu
    | some b =>
      rw [hb] at hu
      simp only [Option.map_some, Function.comp, Option.some.injEq] at hu
      subst hu
      have := RelP.str (M := M') b.data.toList
      simpa using this
/-- what Atoi hands back: the number, and whether the error is nil -/
def atoiR (s : List UInt8) : Int × Bool := match Lib.atoiAll s with
  | .ok v => (v, true)
  | .range => (Lib.atoiSat s, false)
  | _ => (0, false)
theorem tupIf {M : Mem} {E : Env} {n : Int} {v : Value} {b : Bool} (h : RelP M v (.ifc b)) : Rel M E (.tuple #[.int .i64 n, v]) (.tup [.int .i64 n, .ifc b]) := by
  refine .tup [.int .i64 n, v] [.int .i64 n, .ifc b] rfl fun j x c hx hc => ?_
  match j, hx, hc with
  | 0, hx, hc => cases hx; cases hc; exact .cell (.pure (.int _ _))
  | 1, hx, hc => cases hx; cases hc; exact .cell (.pure h)
theorem atoi_pe (s : List UInt8) (hl : s.length ≤ 281474976710656) : Pe Tryz.prog 38 S.none [.str s] (.tup [.int .i64 (atoiR s).1, .ifc (atoiR s).2]) S.none := by
  refine ⟨Fn.b38, fun w M E F vs hs hr => ?_⟩
  obtain ⟨v, rfl⟩ : ∃ v, vs = [v] := by
    match vs, hr.1 with
    | [v], _ => exact ⟨v, rfl⟩
  have hv := (hr.2 0 v _ rfl rfl).str_inv
  subst hv
  have hl' : (⟨s.toArray⟩ : ByteArray).size ≤ 281474976710656 := by show s.toArray.size ≤ _; simpa using hl
  have e0 : (⟨s.toArray⟩ : ByteArray).data.toList = s := by simp
  cases ha : Lib.atoiAll s
  · rename_i n
    have er : atoiR s = (n, true) := by unfold atoiR; rw [ha]
    rw [er]
    refine (Any.strconv_Atoi_ok l172 ⟨s.toArray⟩ (by omega) n (by rw [e0]; exact ha) w).mono ?_
    rintro e w' ⟨rfl, hW⟩
    have hB : Below w.heap.size w w' := by
      rcases hW with rfl | ⟨t, rfl⟩
      · exact Below.refl _ _
      · exact Lib.bytesWorld_below _ _ _
    exact ⟨M, E, _, rfl, lw_refl E, hs.ahead hB, tupIf .ifcN⟩
  · have er : atoiR s = (0, false) := by unfold atoiR; rw [ha]
    rw [er]
    obtain ⟨a, v, t, k, he⟩ := hs.lay.es
    refine (Any.strconv_Atoi_syntax l172 ⟨s.toArray⟩ hl' (by rw [e0]; exact ha) (.iface a v) w (by simp [World.cell?, l172_ren, he]) (.inr ⟨_, _, rfl⟩)).mono ?_
    rintro e w' ⟨n, rfl, _, _, hB⟩
    exact ⟨M, E, _, rfl, lw_refl E, hs.ahead hB, tupIf (.ifcS _ _)⟩
  · have er : atoiR s = (Lib.atoiSat s, false) := by unfold atoiR; rw [ha]
    rw [er]
    obtain ⟨a, v, t, k, he⟩ := hs.lay.er
    refine (Any.strconv_Atoi_range l172 ⟨s.toArray⟩ hl' (by rw [e0]; exact ha) (.iface a v) w (by simp [World.cell?, l172_ren, he]) (.inr ⟨_, _, rfl⟩)).mono ?_
    rintro e w' ⟨n, rfl, _, _, hB⟩
    rw [e0]
    exact ⟨M, E, _, rfl, lw_refl E, hs.ahead hB, tupIf (.ifcS _ _)⟩
/-- may a word be a row? -/
def plainF (s : List UInt8) : Bool := decide (s ≠ []) && decide (s.length ≤ 40) && s.all fun b => decide (33 ≤ b.toNat) && decide (b.toNat ≤ 126)
def badR (r : Nat) : Bool := decide (r < 33) || decide (126 < r)
theorem bad_at (w : World) : PredAt Tryz.prog 64 #[] encR badR w := fun W r _ => by
  unfold FnGives badR
  by_cases h1 : r < 33 <;> by_cases h2 : 126 < r
  all_goals
    have z1 : (r : Int) < 33 ↔ r < 33 := by omega
    have z2 : (126 : Int) < (r : Int) ↔ 126 < r := by omega
    go_enter Tryz.func64, Tryz.ntmps64
    go_wp2
    all_goals first | (exfalso; omega) | (go_ret; exact ⟨by simp [h1, h2], 0, rfl⟩)
theorem idx_bad (s : ByteArray) : ∀ f pos, s.size ≤ pos + f → (0 ≤ Lib.idxFuncFrom badR true s f pos ↔ ¬ ∀ i (h : i < s.size), pos ≤ i → 33 ≤ (s[i]'h).toNat ∧ (s[i]'h).toNat ≤ 126)
  | 0, pos, hf => by
    simp only [Lib.idxFuncFrom]
    refine ⟨fun h => by omega, fun h => absurd (fun i hi hp => by omega) h⟩
  | f + 1, pos, hf => by
    simp only [Lib.idxFuncFrom]
    by_cases hp : pos < s.size
    · rw [if_pos hp]
      by_cases ha : (s[pos]'hp).toNat < 128
      · rw [decode_ascii s pos hp ha]
        by_cases hb : 33 ≤ (s[pos]'hp).toNat ∧ (s[pos]'hp).toNat ≤ 126
        · rw [if_neg (by simp [badR]; omega), idx_bad s f (pos + 1) (by omega)]
          refine not_congr ⟨fun h i hi hpi => ?_, fun h i hi hpi => h i hi (by omega)⟩
          by_cases e : i = pos
          · subst e; exact hb
          · exact h i hi (by omega)
        · rw [if_pos (by simp [badR]; omega)]
          exact ⟨fun _ h => hb (h pos hp (Nat.le_refl _)), fun _ => by omega⟩
      · have := decode_high s pos hp (by omega)
        rw [if_pos (by simp [badR]; omega)]
        exact ⟨fun _ h => by have := h pos hp (Nat.le_refl _); omega, fun _ => by omega⟩
    · rw [if_neg hp]
      refine ⟨fun h => by omega, fun h => absurd (fun i hi hpi => by omega) h⟩
theorem has_bad (s : List UInt8) : decide (0 ≤ Lib.idxFunc badR true ⟨s.toArray⟩) = !s.all fun b => decide (33 ≤ b.toNat) && decide (b.toNat ≤ 126) := by
  have h := idx_bad ⟨s.toArray⟩ (⟨s.toArray⟩ : ByteArray).size 0 (by omega)
  have e : (∀ i (h : i < (⟨s.toArray⟩ : ByteArray).size), 0 ≤ i → 33 ≤ ((⟨s.toArray⟩ : ByteArray)[i]'h).toNat ∧ ((⟨s.toArray⟩ : ByteArray)[i]'h).toNat ≤ 126) ↔ (s.all fun b => decide (33 ≤ b.toNat) && decide (b.toNat ≤ 126)) = true := by
    rw [List.all_eq_true]
    constructor
    · intro h b hb
      obtain ⟨i, hi, rfl⟩ := List.getElem_of_mem hb
      have := h i (by show i < s.toArray.size; simpa using hi) (Nat.zero_le _)
      have e1 : ((⟨s.toArray⟩ : ByteArray)[i]'(by show i < s.toArray.size; simpa using hi)) = s[i] := rfl
      rw [e1] at this
      simp [this]
    · intro h i hi _
      have hi' : i < s.length := by have : i < s.toArray.size := hi; simpa using this
      have := h s[i] (List.getElem_mem hi')
      have e1 : ((⟨s.toArray⟩ : ByteArray)[i]'hi) = s[i] := rfl
      rw [e1]
      simpa using this
  show decide (0 ≤ Lib.idxFuncFrom badR true _ _ 0) = _
  rw [e] at h
  cases hc : (s.all fun b => decide (33 ≤ b.toNat) && decide (b.toNat ≤ 126)) with
  | true => rw [hc] at h; simpa using h
  | false => rw [hc] at h; simpa using h
theorem plain_pe (s : List UInt8) (hl : s.length ≤ 281474976710656) : Pe Tryz.prog 37 S.none [.str s] (.bool (plainF s)) S.none := by
  refine ⟨Fn.b37, fun w M E F vs hs hr => ?_⟩
  obtain ⟨v, rfl⟩ : ∃ v, vs = [v] := by
    match vs, hr.1 with
    | [v], _ => exact ⟨v, rfl⟩
  have hv := (hr.2 0 v _ rfl rfl).str_inv
  subst hv
  have key : Calls Tryz.prog 37 #[.string ⟨s.toArray⟩] w fun e w' => e = .returned (.bool (plainF s)) ∧ Below w.heap.size w w' := by
    have hz : (⟨s.toArray⟩ : ByteArray).size = s.length := by show s.toArray.size = _; simp
    have e63 : ∀ args w, (callFunc 63 args).run Tryz.prog w = .ok (.enter 63 args) w := enters_of Tryz.func63 (by kernel_rfl) rfl
    have hc := Any.strings_ContainsFunc l17 64 #[] (enters_of Tryz.func64 (by kernel_rfl) rfl) badR ⟨s.toArray⟩ w (bad_at w)
    rw [has_bad] at hc
    by_cases h1 : s = []
    · subst h1
      go_enter Tryz.func37, Tryz.ntmps37
      go_wp2
      go_ret
      exact ⟨rfl, Below.refl _ _⟩
    · by_cases h2 : s.length ≤ 40
      · go_enter Tryz.func37, Tryz.ntmps37
        go_wp2_with (go_at_fn 63; refine hc.mono ?_; rintro e w' ⟨rfl, hb⟩)
        go_ret
        exact ⟨by simp [plainF, h1, h2], hb⟩
      · go_enter Tryz.func37, Tryz.ntmps37
        go_wp2
        go_ret
        exact ⟨by simp [plainF, h1, h2], Below.refl _ _⟩
  refine key.mono ?_
  rintro e w' ⟨rfl, hB⟩
  exact ⟨M, E, _, rfl, lw_refl E, hs.ahead hB, .cell (.pure (.bool _))⟩
end Go.Proofs.YtcifgljlmieblaaGreatDoor
