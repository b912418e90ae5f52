/- From what the arguments read as to abstract values, and from a contract to the given statement. -/
import Derived.Test.YtipeimcdjijkgaaEm29
import Derived.ProofKit
import Derived.OpenShut
import Derived.ShutString
import Derived.ChangeOld
import Derived.Deep.Slices
import Derived.Carry
import Derived.JoinedOf
import Derived.Handed
namespace Go.Dm
open Go Go.RowKit Go.ChangeShapes Go.WideShapes Go.Deep
set_option linter.unnecessarySimpa false
set_option linter.constructorNameAsVariable false
set_option linter.unusedSectionVars false
set_option linter.unusedSimpArgs false
set_option linter.unusedVariables false

def memOf (W : World) : Mem := fun b j => W.cell? ⟨b, j, none⟩

/-- a variable of a type reads as one of these -/
def Rd (P : Program) (t : TypeId) {α : Type} (enc : α → AV) (ok : α → Prop) : Prop :=
  ∀ (H : Type) (en : TypeId × Value → H) (W : World) (base : Nat) (spare : Nat → Bool) (held : Bool) (fuel : Nat) (cs : List Value) (y : DataW H × List MemPlace),
    DataW.trod en P W base spare held fuel t cs = some y → ∃ x : α, ok x ∧ AllR (RelP (memOf W)) cs (enc x).cells

theorem allR_one {R : Value → AV → Prop} {v : Value} {x : AV} (h : R v x) : AllR R [v] [x] := by
  refine ⟨rfl, fun j u c hu hc => ?_⟩
  cases j with
  | zero => simp at hu hc; subst hu; subst hc; exact h
  | succ j => simp at hu

theorem rd_int {P : Program} {t : TypeId} {k : IntKind} (ht : P.underlying t = some (.int k)) : Rd P t (fun n => .int k n) (fun n => (Lit.int k n).wf = true) := by
  intro H en W base spare held fuel cs y h
  obtain ⟨n, rfl, _, hw⟩ := DataW.trod_int ht h
  exact ⟨n, hw, allR_one (.int k n)⟩
theorem rd_i64 {P : Program} {t : TypeId} (ht : P.underlying t = some (.int .i64)) : Rd P t (fun n => .int .i64 n) (fun n => -9223372036854775808 ≤ n ∧ n ≤ 9223372036854775807) := by
  intro H en W base spare held fuel cs y h
  obtain ⟨n, h1, h2⟩ := rd_int ht H en W base spare held fuel cs y h
  refine ⟨n, ?_, h2⟩
  simpa [Lit.wf, IntKind.min, IntKind.max, IntKind.signed, IntKind.bits] using h1
theorem rd_u8 {P : Program} {t : TypeId} (ht : P.underlying t = some (.int .u8)) : Rd P t (fun b : UInt8 => .int .u8 b.toNat) (fun _ => True) := by
  intro H en W base spare held fuel cs y h
  obtain ⟨n, h1, h2⟩ := rd_int ht H en W base spare held fuel cs y h
  have hb : 0 ≤ n ∧ n ≤ 255 := by simpa [Lit.wf, IntKind.min, IntKind.max, IntKind.signed, IntKind.bits] using h1
  refine ⟨UInt8.ofNat n.toNat, trivial, ?_⟩
  have : ((UInt8.ofNat n.toNat).toNat : Int) = n := by
    rw [UInt8.toNat_ofNat']
    omega
  simp only [this]
  exact h2
theorem rd_bool {P : Program} {t : TypeId} (ht : P.underlying t = some .bool) : Rd P t (fun b => .bool b) (fun _ => True) := by
  intro H en W base spare held fuel cs y h
  obtain ⟨b, rfl, _⟩ := DataW.trod_bool ht h
  exact ⟨b, trivial, allR_one (.bool b)⟩
theorem rd_str {P : Program} {t : TypeId} (ht : P.underlying t = some .string) : Rd P t (fun s => .str s) (fun s => s.length ≤ 9223372036854775807) := by
  intro H en W base spare held fuel cs y h
  obtain ⟨s, rfl, _, hs⟩ := DataW.trod_string ht h
  refine ⟨s.data.toList, ?_, allR_one ?_⟩
  · have e : s.data.toList.length = s.size := by cases s; rfl
    unfold maxLen at hs
    omega
  · have : (Value.string s) = .string ⟨s.data.toList.toArray⟩ := by simp
    rw [this]; exact .str _

theorem cell_spot {W : World} {a : Addr} {v : Value} (h : W.cell? a = some v) : a.spot = none := by
  unfold World.cell? at h
  split at h
  · cases hs : a.spot with
    | none => rfl
    | some s => simp [hs] at h
  · cases h

theorem choose_list {α : Type} (n : Nat) (p : Nat → α → Prop) (h : ∀ i, i < n → ∃ x, p i x) : ∃ l : List α, l.length = n ∧ ∀ i x, l[i]? = some x → p i x := by
  induction n with
  | zero => exact ⟨[], rfl, fun i x h => by simp at h⟩
  | succ n ih =>
    obtain ⟨l, hl, hp⟩ := ih fun i hi => h i (by omega)
    obtain ⟨x, hx⟩ := h n (by omega)
    refine ⟨l ++ [x], by simp [hl], fun i y hy => ?_⟩
    rw [List.getElem?_append] at hy
    split at hy
    · exact hp i y hy
    · rename_i hge
      have : i = n := by
        have := (List.getElem?_eq_some_iff.1 hy).1
        simp at this; omega
      subst this
      simp [hl] at hy
      subst hy; exact hx

theorem rd_slice {P : Program} {t e : TypeId} {α : Type} {enc : α → AV} {ok : α → Prop} {sz : Nat} (ht : P.underlying t = some (.slice e)) (hsz : P.cellsOf e = sz) (hpos : 0 < sz) (he : Rd P e enc ok) (hc : ∀ x, (enc x).cells.length = sz) :
    Rd P t (fun l : List α => .sl sz (l.map enc)) (fun l => (∀ x ∈ l, ok x) ∧ l.length ≤ 9223372036854775807) := by
  intro H en W base spare held fuel cs y h
  rcases open_slice ht h with ⟨rfl, _⟩ | ⟨a, len, cap, m, n, D, Pl, rfl, hb, hl, hcap, hm, _, hcell⟩
  · refine ⟨[], ⟨by simp, by simp⟩, allR_one ?_⟩
    exact .sl none 0 0 sz [] (fun _ => undef) rfl (Nat.le_refl _) (by decide) (by simp) (fun h => absurd rfl h) (fun j u hu => by simp [flat] at hu)
  · have hlm : len ≤ m := by rw [hm]; split <;> omega
    obtain ⟨l, hll, hp⟩ := choose_list len (fun i (x : α) => ok x ∧ ∀ j c, (enc x).cells[j]? = some c → ∃ v, W.cell? (a.add (i * sz + j)) = some v ∧ RelP (memOf W) v c) (fun i hi => by
      obtain ⟨cs', h1, h2⟩ := hcell i (by omega)
      obtain ⟨x, hx, hr⟩ := he H en W base spare held n cs' _ h2
      obtain ⟨_, hcl, hat⟩ := World.cells?_some h1
      rw [hsz] at hcl hat
      refine ⟨x, hx, fun j c hjc => ?_⟩
      have hj := (List.getElem?_eq_some_iff.1 hjc).1
      rw [hc] at hj
      have hv : cs'[j]? = some cs'[j] := List.getElem?_eq_getElem (by omega)
      refine ⟨_, ?_, hr.2 j _ c hv hjc⟩
      have := hat j hj
      rw [← hv, ← this, Go.Deep.add_add])
    refine ⟨l, ⟨fun x hx => ?_, by unfold maxLen at hcap; omega⟩, allR_one ?_⟩
    · obtain ⟨i, hi, rfl⟩ := List.mem_iff_getElem.1 hx
      exact (hp i _ (List.getElem?_eq_getElem hi)).1
    · have hz : ∀ x ∈ l.map enc, x.cells.length = sz := by
        intro x hx
        obtain ⟨y, _, rfl⟩ := List.mem_map.1 hx
        exact hc y
      have hfl : ∀ j u, (flat (l.map enc))[j]? = some u → ∃ v, W.cell? (a.add j) = some v ∧ RelP (memOf W) v u := by
        intro j u hu
        have hj := (List.getElem?_eq_some_iff.1 hu).1
        rw [flat_len hz, List.length_map] at hj
        have hd : j / sz < l.length := by
          rw [Nat.div_lt_iff_lt_mul hpos]; exact hj
        have hmod : j % sz < sz := Nat.mod_lt _ hpos
        have hx : (l.map enc)[j / sz]? = some (enc l[j / sz]) := by simp [hd]
        have hcj : (enc l[j / sz]).cells[j % sz]? = some ((enc l[j / sz]).cells[j % sz]'(by rw [hc]; exact hmod)) := List.getElem?_eq_getElem _
        have h1 := flat_at hz hx hcj
        have e1 : j / sz * sz + j % sz = j := by rw [Nat.mul_comm]; exact Nat.div_add_mod j sz
        rw [e1, hu] at h1
        cases h1
        obtain ⟨v, hv, hr⟩ := (hp (j / sz) _ (List.getElem?_eq_getElem hd)).2 _ _ hcj
        rw [e1] at hv
        exact ⟨v, hv, hr⟩
      refine .sl (some a) len cap sz (l.map enc) (fun j => (W.cell? (a.add j)).getD undef) (by simp [hll]) hl hcap hz (fun hne => ?_) (fun j u hu => ?_)
      · have hlen : 0 < (flat (l.map enc)).length := by
          rw [flat_len hz]
          have : 0 < (l.map enc).length := List.length_pos_iff.2 hne
          exact Nat.mul_pos this hpos
        obtain ⟨v, hv, _⟩ := hfl 0 _ (List.getElem?_eq_getElem hlen)
        have hs : a.spot = none := cell_spot (a := a) (by simpa [Addr.add] using hv)
        obtain ⟨blk, off, sp⟩ := a
        simp only at hs
        subst hs
        refine ⟨blk, off, rfl, fun j hj => ?_⟩
        obtain ⟨v, hv, _⟩ := hfl j _ (List.getElem?_eq_getElem hj)
        simp only [hv, Option.getD_some]
        rw [addr_add] at hv
        exact hv
      · obtain ⟨v, hv, hr⟩ := hfl j u hu
        simp only [hv, Option.getD_some]
        exact hr

/-- the fields of a struct from a cell on -/
def RdF (P : Program) (off : Nat) (fs : List (TypeId × Nat)) {α : Type} (enc : α → List AV) (ok : α → Prop) : Prop :=
  ∀ (H : Type) (en : TypeId × Value → H) (W : World) (base : Nat) (spare : Nat → Bool) (held : Bool) (n : Nat) (cs : List Value),
    (∀ (i : Nat) (f : TypeId × Nat), fs[i]? = some f → ∃ y, DataW.trod en P W base spare held n f.1 ((cs.drop f.2).take (P.cellsOf f.1)) = some y) →
    ∃ x : α, ok x ∧ AllR (RelP (memOf W)) ((cs.drop off).take (enc x).length) (enc x)

theorem rdf_nil {P : Program} {off : Nat} : RdF P off [] (fun _ : Unit => []) (fun _ => True) := by
  intro H en W base spare held n cs _
  exact ⟨(), trivial, by simp, fun j v c hv hc => by simp at hc⟩

theorem rdf_cons {P : Program} {off : Nat} {t : TypeId} {fs : List (TypeId × Nat)} {α β : Type} {encA : α → AV} {okA : α → Prop} {encB : β → List AV} {okB : β → Prop} {sz : Nat} (hsz : P.cellsOf t = sz) (hA : Rd P t encA okA) (hB : RdF P (off + sz) fs encB okB) (hc : ∀ x, (encA x).cells.length = sz) :
    RdF P off ((t, off) :: fs) (fun x : α × β => (encA x.1).cells ++ encB x.2) (fun x => okA x.1 ∧ okB x.2) := by
  intro H en W base spare held n cs h
  obtain ⟨y, hy⟩ := h 0 (t, off) rfl
  obtain ⟨a, ha, hra⟩ := hA H en W base spare held n _ y hy
  obtain ⟨b, hb, hrb⟩ := hB H en W base spare held n cs (fun i f hf => h (i + 1) f (by simpa using hf))
  refine ⟨(a, b), ⟨ha, hb⟩, ?_⟩
  simp only at hra hrb ⊢
  rw [hsz] at hra
  have hla := hra.1
  rw [hc] at hla
  have e1 : (cs.drop off).take ((encA a).cells ++ encB b).length = ((cs.drop off).take sz) ++ ((cs.drop (off + sz)).take (encB b).length) := by
    rw [List.length_append, hc, List.take_add, List.drop_drop]
  rw [e1]
  refine ⟨by simp only [List.length_append, hra.1, hrb.1], fun j v c hv hc' => ?_⟩
  rw [List.getElem?_append] at hv hc'
  rw [hra.1] at hv
  split at hv
  · rename_i hj; rw [if_pos hj] at hc'; exact hra.2 j v c hv hc'
  · rename_i hj; rw [if_neg hj] at hc'; exact hrb.2 _ v c hv hc'

theorem rd_struct {P : Program} {t : TypeId} {fl : List (TypeId × Nat)} {α β : Type} {encF : β → List AV} {okF : β → Prop} (f : β → α) (enc : α → AV) (ok : α → Prop)
    (ht : (match P.underlying t with | some (.struct fs) => some (fs.toList.map fun f => (f.type, f.offset)) | _ => none) = some fl) (hF : RdF P 0 fl encF okF) {sz : Nat} (hsz : P.cellsOf t = sz)
    (hlen : ∀ b, (encF b).length = sz) (henc : ∀ b, enc (f b) = .agg (encF b)) (hok : ∀ b, okF b → ok (f b)) : Rd P t enc ok := by
  intro H en W base spare held fuel cs y h
  split at ht
  · rename_i fs hu
    cases ht
    obtain ⟨xs, n, _, _, hcl, hxl, hat⟩ := DataW.trod_struct hu h
    obtain ⟨b, hb, hr⟩ := hF H en W base spare held n cs (fun i p hp => by
      rw [List.getElem?_map, Option.map_eq_some_iff] at hp
      obtain ⟨fd, hfd, rfl⟩ := hp
      have hfd' : fs[i]? = some fd := by simpa using hfd
      have := hat i fd hfd'
      have hi : i < xs.length := by rw [hxl]; exact (Array.getElem?_eq_some_iff.1 hfd').1
      exact ⟨xs[i], by rw [this]; exact List.getElem?_eq_getElem hi⟩)
    refine ⟨f b, hok b hb, ?_⟩
    rw [henc]
    simp only [AV.cells]
    rw [List.drop_zero, hlen, ← hsz, ← hcl, List.take_length] at hr
    exact hr
  · cases ht

theorem Rd.map {P : Program} {t : TypeId} {α β : Type} {enc : β → AV} {ok : β → Prop} (h : Rd P t enc ok) (f : β → α) (enc' : α → AV) (ok' : α → Prop) (henc : ∀ b, enc' (f b) = enc b) (hok : ∀ b, ok b → ok' (f b)) : Rd P t enc' ok' := by
  intro H en W base spare held fuel cs y ht
  obtain ⟨b, hb, hr⟩ := h H en W base spare held fuel cs y ht
  exact ⟨f b, hok b hb, by rw [henc]; exact hr⟩

/-- an argument of one cell -/
theorem Rd.cell {P : Program} {t : TypeId} {α : Type} {enc : α → AV} {ok : α → Prop} (h : Rd P t enc ok) {H : Type} {en : TypeId × Value → H} {W : World} {base : Nat} {spare : Nat → Bool} {held : Bool} {v : Value} {d : DataW H} {p : List MemPlace}
    (ht : DataW.Trod en P W base spare held t v d p) (hv : ∀ cs, v ≠ .agg cs) (hc : ∀ x, (enc x).cells = [enc x]) : ∃ x, ok x ∧ Rel (memOf W) Env.none v (enc x) := by
  obtain ⟨fuel, hf⟩ := ht
  obtain ⟨x, hx, hr⟩ := h H en W base spare held fuel _ _ hf
  refine ⟨x, hx, ?_⟩
  rw [hc] at hr
  have : v.cells = #[v] := by cases v <;> first | rfl | exact absurd rfl (hv _)
  rw [this] at hr
  exact .cell (.pure (hr.2 0 v (enc x) rfl rfl))

/-- an argument that is a struct -/
theorem Rd.agg {P : Program} {t : TypeId} {α : Type} {enc : α → AV} {ok : α → Prop} (h : Rd P t enc ok) {H : Type} {en : TypeId × Value → H} {W : World} {base : Nat} {spare : Nat → Bool} {held : Bool} {vs : Array Value} {d : DataW H} {p : List MemPlace}
    (ht : DataW.Trod en P W base spare held t (.agg vs) d p) (hc : ∀ x, ∃ cs, enc x = .agg cs) : ∃ x, ok x ∧ Rel (memOf W) Env.none (.agg vs) (enc x) := by
  obtain ⟨fuel, hf⟩ := ht
  obtain ⟨x, hx, hr⟩ := h H en W base spare held fuel _ _ hf
  refine ⟨x, hx, ?_⟩
  obtain ⟨cs, hcs⟩ := hc x
  rw [hcs] at hr ⊢
  have : (Value.agg vs) = .agg vs.toList.toArray := by simp
  rw [this]
  exact .agg _ _ hr.1 fun j v c hv hc => .pure (hr.2 j v c hv hc)

theorem St.start {w : World} {M : Mem} (F : Nat → Prop) (hF : ∀ b, F b → b < w.heap.size) (hM : ∀ b j v, M b j = some v → w.cell? ⟨b, j, none⟩ = some v) : St ⟨w, F, M, Env.none⟩ 0 M Env.none S.none #[] w where
  size := rfl
  fr := fun i av h => by cases h
  mem := fun b j v h => ⟨hM b j v h, fun o ho => by cases ho⟩
  bx := fun i cs h => by cases h
  bxn := fun i _ => rfl
  rw := fun i cs h => by cases h
  rwn := fun i _ => rfl
  mp := fun i cs h => by cases h
  mpn := fun i _ => rfl
  ar := fun i cs h => by cases h
  arn := fun i _ => rfl
  live := fun b o h => by cases h
  foreign := fun b h => ⟨hF b h, rfl, rfl⟩
  m0 := fun _ _ _ h => h
  mf := fun _ _ _ h _ => h
  os := rfl
  tape := rfl
  output := rfl
  grow := Nat.le_refl _

/-- from a contract to what the statement's frame asks -/
theorem law_calls {P : Program} {f : FuncId} {args : List AV} {vs : List Value} {W : World} (h : Pc P f args (.bool true)) (hr : RelL (memOf W) Env.none vs args) :
    Calls P f vs.toArray W fun e w' => e = .returned (.bool true) ∧ Below W.heap.size W w' := by
  refine (h.c W (memOf W) Env.none (fun b => b < W.heap.size) vs (St.start _ (fun b h => h) fun b j v hv => hv) hr).mono ?_
  rintro e w' ⟨M', E', v, rfl, _, hst, hx⟩
  rw [hx.bool_inv]
  exact ⟨rfl, hst.os, hst.tape, hst.output, hst.grow, fun k hk => (hst.foreign k hk).2.1⟩

theorem relL_nil {M : Mem} {E : Env} : RelL M E [] [] := ⟨rfl, fun j v c hv _ => by simp at hv⟩
theorem relL_cons {M : Mem} {E : Env} {v : Value} {x : AV} {vs : List Value} {xs : List AV} (h : Rel M E v x) (hr : RelL M E vs xs) : RelL M E (v :: vs) (x :: xs) := by
  refine ⟨by simp [hr.1], fun j u c hu hc => ?_⟩
  cases j with
  | zero => simp at hu hc; subst hu; subst hc; exact h
  | succ j => simp only [List.getElem?_cons_succ] at hu hc; exact hr.2 j u c hu hc


/-- an argument of a type, as an abstract value -/
def ArgOk (P : Program) (t : TypeId) {α : Type} (enc : α → AV) (ok : α → Prop) : Prop :=
  ∀ (H : Type) (en : TypeId × Value → H) (W : World) (base : Nat) (v : Value) (d : DataW H) (p : List MemPlace),
    Value.okWide P W .any base t v → DataW.Trod en P W 0 (fun _ => true) true t v d p → ∃ x, ok x ∧ Rel (memOf W) Env.none v (enc x)

theorem Rd.argC {P : Program} {t : TypeId} {α : Type} {enc : α → AV} {ok : α → Prop} (h : Rd P t enc ok)
    (ht : (match P.underlying t with | some (.int _) | some .bool | some .string | some (.slice _) => true | _ => false) = true) (hc : ∀ x, (enc x).cells = [enc x]) : ArgOk P t enc ok := by
  intro H en W base v d p hv hd
  refine h.cell hd (fun cs e => ?_) hc
  subst e
  unfold Value.okWide at hv
  split at ht
  all_goals first | (cases ht; done) | (rename_i hu; simp [hu, Cell.okWide, Cell.ok] at hv)

theorem Rd.argS {P : Program} {t : TypeId} {α : Type} {enc : α → AV} {ok : α → Prop} (h : Rd P t enc ok)
    (ht : (match P.underlying t with | some (.struct _) => true | _ => false) = true) (hc : ∀ x, ∃ cs, enc x = .agg cs) : ArgOk P t enc ok := by
  intro H en W base v d p hv hd
  unfold Value.okWide at hv
  split at ht
  · rename_i hu
    rw [hu] at hv
    obtain ⟨cs, rfl, _⟩ := hv
    exact h.agg hd hc
  · cases ht

def ArgsOk (P : Program) (ts : List TypeId) {α : Type} (enc : α → List AV) (ok : α → Prop) : Prop :=
  ∀ (H : Type) (en : TypeId × Value → H) (W : World) (base : Nat) (vs : List Value) (ds : List (DataW H)) (p : List MemPlace),
    (∀ (j : Nat) (t : TypeId) (v : Value), ts[j]? = some t → vs[j]? = some v → Value.okWide P W .any base t v) →
    DataW.TrodAll en P W 0 (fun _ => true) true ts vs ds p → ∃ x, ok x ∧ RelL (memOf W) Env.none vs (enc x)

theorem argsOk_nil {P : Program} : ArgsOk P [] (fun _ : Unit => []) (fun _ => True) := by
  intro H en W base vs ds p _ h
  obtain ⟨rfl, _, _⟩ := trodAll_nil h
  exact ⟨(), trivial, relL_nil⟩
theorem argsOk_cons {P : Program} {t : TypeId} {ts : List TypeId} {α β : Type} {encA : α → AV} {okA : α → Prop} {encB : β → List AV} {okB : β → Prop}
    (hA : ArgOk P t encA okA) (hB : ArgsOk P ts encB okB) : ArgsOk P (t :: ts) (fun x : α × β => encA x.1 :: encB x.2) (fun x => okA x.1 ∧ okB x.2) := by
  intro H en W base vs ds p hv h
  obtain ⟨v, vs', d, ds', p1, p2, rfl, rfl, rfl, h1, h2⟩ := trodAll_cons h
  obtain ⟨a, ha, hra⟩ := hA H en W base v d p1 (hv 0 t v rfl rfl) h1
  obtain ⟨b, hb, hrb⟩ := hB H en W base vs' ds' p2 (fun j t' v' h1 h2 => hv (j + 1) t' v' (by simpa using h1) (by simpa using h2)) h2
  exact ⟨(a, b), ⟨ha, hb⟩, relL_cons hra hrb⟩

/-- the arguments read behind the call as they did -/
theorem Below.trodAll {H : Type} {enc : TypeId × Value → H} {P : Program} (hl : laidOutB P = true) {W W' : World} (hb : Below W.heap.size W W') :
    ∀ {ts : List TypeId} {vs : List Value} {ds : List (DataW H)} {ps : List MemPlace}, ts.all (fun t => P.readableRec t && decide (t < P.types.size)) = true →
      DataW.TrodAll enc P W 0 (fun _ => true) true ts vs ds ps → (∀ x ∈ ps, x.block < W.heap.size) → DataW.TrodAll enc P W' 0 (fun b => decide (b < W.heap.size)) true ts vs ds ps
  | [], vs, ds, ps, _, h, _ => by
    obtain ⟨rfl, rfl, rfl⟩ := trodAll_nil h
    exact trodAll_mk0
  | t :: ts, vs, ds, ps, ht, h, hlt => by
    obtain ⟨v, vs', d, ds', p1, p2, rfl, rfl, rfl, h1, h2⟩ := trodAll_cons h
    simp only [List.all_cons, Bool.and_eq_true, decide_eq_true_eq] at ht
    exact ⟨p1, p2, Below.trod hl ht.1.1 ht.1.2 h1 hb (fun x hx => hlt x (by simp [hx])), Below.trodAll hl hb ht.2 h2 (fun x hx => hlt x (by simp [hx])), rfl⟩

theorem law_post {H : Type} {enc : TypeId × Value → H} {P : Program} {fn : Func} {s : ChangeSpec} {apart handsOn : Bool} {W W' : World} {args : Array Value} {ds gs : List (DataW H)} {before : List MemPlace} {tb : TypeId}
    (hl : laidOutB P = true) (hr : fn.params.toList.all (fun t => P.readableRec t && decide (t < P.types.size)) = true)
    (hres : fn.resultTypes = #[tb]) (hb : P.underlying tb = some .bool) (hvars : s.vars = []) (hs : s.fn H (ds ++ gs) = { results := [.lit (.bool true)], args := ds })
    (hW : DataW.Whole enc P fn.params.toList s.vars apart W args.toList ds gs before) (hbl : Below W.heap.size W W') :
    s.post enc P fn apart true handsOn false W args (.bool true) W' := by
  have hlt := hW.lt
  have hW' := hW
  obtain ⟨p, q, hA, hV, rfl, hz, hn⟩ := hW
  rw [hvars] at hV
  obtain ⟨rfl, rfl⟩ := trodVars_none hV
  refine ⟨ds, [], p ++ [], [], p, [], hW', ?_, ?_, ?_, hbl.frame _, fun h => by cases h⟩
  · rw [hs, hres]
    exact ⟨[], [], shut_bool hb true, trodAll_mk0, rfl⟩
  · rw [hs]
    exact Below.trodAll hl hbl hr hA (fun x hx => hlt x (by simp [hx]))
  · rw [hs, hvars]
    exact rfl

/-- a law's step -/
theorem law_lift {C : Checked} {os : Os} {f : FuncId} {fn : Func} {s : ChangeSpec} {H : Type} {enc : TypeId × Value → H} {conds : List PathCond} {apart handsOn : Bool} {tb : TypeId} {ts : List TypeId} {α : Type} {ea : α → List AV} {ok : α → Prop}
    (own : ownKnob C.prog.godebug = none) (started : os.Started) (noInit : C.prog.inits.idxOf? f = none) (hfn : C.prog.funcs[f]? = some fn)
    (witness : ∃ (w : World) (tape : Tape) (i : Input), w.os = os ∧ (w.forCall tape i).Shaped C.prog ∧ i.vars = [] ∧ Input.okWide C.prog (w.forCall tape i) .any w.heap.size f i ∧
      s.pre6 enc C.prog fn conds apart (w.forCall tape i).memory i.args ∧ ({} : Assume).holds C.prog (lone (Frame.enter C.prog f i.args .normal) [] (w.forCall tape i)))
    (hl : laidOutB C.prog = true) (hr : fn.params.toList.all (fun t => C.prog.readableRec t && decide (t < C.prog.types.size)) = true)
    (hres : fn.resultTypes = #[tb]) (hb : C.prog.underlying tb = some .bool) (hvars : s.vars = [])
    (hts : fn.params = ts.toArray) (hs : ∀ ds : List (DataW H), ds.length = ts.length → s.fn H (ds ++ []) = { results := [.lit (.bool true)], args := ds })
    (hargs : ArgsOk C.prog ts ea ok) (hlaw : ∀ x, ok x → Pc C.prog f (ea x) (.bool true)) :
    ReturnsInHanded {} C os f .any (s.pre6 enc C.prog fn conds apart) (s.post enc C.prog fn apart true handsOn false) := by
  obtain rfl : fn.params.toList = ts := by rw [hts]
  refine returnsInHanded_of_change own started noInit hfn witness ?_
  intro W base args ds gs before hval hW _ _
  have hW' := hW
  obtain ⟨p, q, hA, hV, rfl, hz, hn⟩ := hW
  have hV' := hV
  rw [hvars] at hV'
  obtain ⟨rfl, rfl⟩ := trodVars_none hV'
  have hlen : ∀ {ts : List TypeId} {vs : List Value} {ds : List (DataW H)} {ps : List MemPlace}, DataW.TrodAll enc C.prog W 0 (fun _ => true) true ts vs ds ps → ds.length = ts.length := by
    intro ts
    induction ts with
    | nil => intro vs ds ps h; obtain ⟨_, rfl, _⟩ := trodAll_nil h; rfl
    | cons t ts ih =>
      intro vs ds ps h
      obtain ⟨v, vs', d, ds', p1, p2, rfl, rfl, rfl, h1, h2⟩ := trodAll_cons h
      simp [ih h2]
  obtain ⟨x, hx, hrel⟩ := hargs H enc W base args.toList ds p (fun j t v h1 h2 => hval j t v (by simpa using h1) (by simpa using h2)) hA
  have hc := law_calls (hlaw x hx) hrel
  have e : args.toList.toArray = args := by simp
  rw [e] at hc
  refine hc.mono fun e w' ⟨he, hbl⟩ => ⟨_, he, ?_⟩
  exact law_post hl hr hres hb hvars (hs ds (hlen hA)) hW' hbl

end Go.Dm
