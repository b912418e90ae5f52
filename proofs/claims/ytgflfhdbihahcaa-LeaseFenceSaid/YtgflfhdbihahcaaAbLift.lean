/- From a contract of a law to the given statement's step, over any program. -/
import Derived.Test.YtgflfhdbihahcaaAbTop
import Derived.Carry
import Derived.JoinedOf
import Derived.Handed
namespace Go.Ab
open Go Go.RowKit Go.ChangeShapes Go.WideShapes Go.Deep
set_option linter.unusedSimpArgs false
set_option linter.unusedVariables false

/-- an argument of a type, as an abstract value -/
def ArgOk (P : Program) (t : TypeId) {α : Type} (enc : α → AV) (ok : α → Prop) : Prop :=
  ∀ (H : Type) (en : TypeId × Value → H) (W : World) (base : Nat) (v : Value) (d : DataW H) (p : List MemPlace),
    Value.okWide P W .any base t v → DataW.Trod en P W 0 (fun _ => true) true t v d p → ∃ x, ok x ∧ Rel (memOf W) Env.none v (enc x)

theorem Rd.argC {P : Program} {t : TypeId} {α : Type} {enc : α → AV} {ok : α → Prop} (h : Rd P t enc ok)
    (ht : (match P.underlying t with | some (.int _) | some .bool | some .string | some (.slice _) => true | _ => false) = true) (hc : ∀ x, (enc x).cells = [enc x]) : ArgOk P t enc ok := by
  intro H en W base v d p hv hd
  refine h.cell hd (fun cs e => ?_) hc
  subst e
  unfold Value.okWide at hv
  split at ht
  all_goals first | (cases ht; done) | (rename_i hu; simp [hu, Cell.okWide, Cell.ok] at hv)

theorem Rd.argS {P : Program} {t : TypeId} {α : Type} {enc : α → AV} {ok : α → Prop} (h : Rd P t enc ok)
    (ht : (match P.underlying t with | some (.struct _) => true | _ => false) = true) (hc : ∀ x, ∃ cs, enc x = .agg cs) : ArgOk P t enc ok := by
  intro H en W base v d p hv hd
  unfold Value.okWide at hv
  split at ht
  · rename_i hu
    rw [hu] at hv
    obtain ⟨cs, rfl, _⟩ := hv
    exact h.agg hd hc
  · cases ht

def ArgsOk (P : Program) (ts : List TypeId) {α : Type} (enc : α → List AV) (ok : α → Prop) : Prop :=
  ∀ (H : Type) (en : TypeId × Value → H) (W : World) (base : Nat) (vs : List Value) (ds : List (DataW H)) (p : List MemPlace),
    (∀ (j : Nat) (t : TypeId) (v : Value), ts[j]? = some t → vs[j]? = some v → Value.okWide P W .any base t v) →
    DataW.TrodAll en P W 0 (fun _ => true) true ts vs ds p → ∃ x, ok x ∧ RelL (memOf W) Env.none vs (enc x)

theorem argsOk_nil {P : Program} : ArgsOk P [] (fun _ : Unit => []) (fun _ => True) := by
  intro H en W base vs ds p _ h
  obtain ⟨rfl, _, _⟩ := trodAll_nil h
  exact ⟨(), trivial, relL_nil⟩
theorem argsOk_cons {P : Program} {t : TypeId} {ts : List TypeId} {α β : Type} {encA : α → AV} {okA : α → Prop} {encB : β → List AV} {okB : β → Prop}
    (hA : ArgOk P t encA okA) (hB : ArgsOk P ts encB okB) : ArgsOk P (t :: ts) (fun x : α × β => encA x.1 :: encB x.2) (fun x => okA x.1 ∧ okB x.2) := by
  intro H en W base vs ds p hv h
  obtain ⟨v, vs', d, ds', p1, p2, rfl, rfl, rfl, h1, h2⟩ := trodAll_cons h
  obtain ⟨a, ha, hra⟩ := hA H en W base v d p1 (hv 0 t v rfl rfl) h1
  obtain ⟨b, hb, hrb⟩ := hB H en W base vs' ds' p2 (fun j t' v' h1 h2 => hv (j + 1) t' v' (by simpa using h1) (by simpa using h2)) h2
  exact ⟨(a, b), ⟨ha, hb⟩, relL_cons hra hrb⟩

/-- the arguments read behind the call as they did -/
theorem Below.trodAll {H : Type} {enc : TypeId × Value → H} {P : Program} (hl : laidOutB P = true) {W W' : World} (hb : Below W.heap.size W W') :
    ∀ {ts : List TypeId} {vs : List Value} {ds : List (DataW H)} {ps : List MemPlace}, ts.all (fun t => P.readableRec t && decide (t < P.types.size)) = true →
      DataW.TrodAll enc P W 0 (fun _ => true) true ts vs ds ps → (∀ x ∈ ps, x.block < W.heap.size) → DataW.TrodAll enc P W' 0 (fun b => decide (b < W.heap.size)) true ts vs ds ps
  | [], vs, ds, ps, _, h, _ => by
    obtain ⟨rfl, rfl, rfl⟩ := trodAll_nil h
    exact trodAll_mk0
  | t :: ts, vs, ds, ps, ht, h, hlt => by
    obtain ⟨v, vs', d, ds', p1, p2, rfl, rfl, rfl, h1, h2⟩ := trodAll_cons h
    simp only [List.all_cons, Bool.and_eq_true, decide_eq_true_eq] at ht
    exact ⟨p1, p2, Below.trod hl ht.1.1 ht.1.2 h1 hb (fun x hx => hlt x (by simp [hx])), Below.trodAll hl hb ht.2 h2 (fun x hx => hlt x (by simp [hx])), rfl⟩

theorem law_post {H : Type} {enc : TypeId × Value → H} {P : Program} {fn : Func} {s : ChangeSpec} {apart handsOn : Bool} {W W' : World} {args : Array Value} {ds gs : List (DataW H)} {before : List MemPlace} {tb : TypeId}
    (hl : laidOutB P = true) (hr : fn.params.toList.all (fun t => P.readableRec t && decide (t < P.types.size)) = true)
    (hres : fn.resultTypes = #[tb]) (hb : P.underlying tb = some .bool) (hvars : s.vars = []) (hs : s.fn H (ds ++ gs) = { results := [.lit (.bool true)], args := ds })
    (hW : DataW.Whole enc P fn.params.toList s.vars apart W args.toList ds gs before) (hbl : Below W.heap.size W W') :
    s.post enc P fn apart true handsOn false W args (.bool true) W' := by
  have hlt := hW.lt
  have hW' := hW
  obtain ⟨p, q, hA, hV, rfl, hz, hn⟩ := hW
  rw [hvars] at hV
  obtain ⟨rfl, rfl⟩ := trodVars_none hV
  refine ⟨ds, [], p ++ [], [], p, [], hW', ?_, ?_, ?_, hbl.frame _, fun h => by cases h⟩
  · rw [hs, hres]
    exact ⟨[], [], shut_bool hb true, trodAll_mk0, rfl⟩
  · rw [hs]
    exact Below.trodAll hl hbl hr hA (fun x hx => hlt x (by simp [hx]))
  · rw [hs, hvars]
    exact rfl

/-- a law's step -/
theorem law_lift {C : Checked} {os : Os} {f : FuncId} {fn : Func} {s : ChangeSpec} {H : Type} {enc : TypeId × Value → H} {conds : List PathCond} {apart handsOn : Bool} {tb : TypeId} {ts : List TypeId} {α : Type} {ea : α → List AV} {ok : α → Prop}
    (own : ownKnob C.prog.godebug = none) (started : os.Started) (noInit : C.prog.inits.idxOf? f = none) (hfn : C.prog.funcs[f]? = some fn)
    (witness : ∃ (w : World) (tape : Tape) (i : Input), w.os = os ∧ (w.forCall tape i).Shaped C.prog ∧ i.vars = [] ∧ Input.okWide C.prog (w.forCall tape i) .any w.heap.size f i ∧
      s.pre6 enc C.prog fn conds apart (w.forCall tape i).memory i.args ∧ ({} : Assume).holds C.prog (lone (Frame.enter C.prog f i.args .normal) [] (w.forCall tape i)))
    (hl : laidOutB C.prog = true) (hr : fn.params.toList.all (fun t => C.prog.readableRec t && decide (t < C.prog.types.size)) = true)
    (hres : fn.resultTypes = #[tb]) (hb : C.prog.underlying tb = some .bool) (hvars : s.vars = [])
    (hts : fn.params = ts.toArray) (hs : ∀ ds : List (DataW H), ds.length = ts.length → s.fn H (ds ++ []) = { results := [.lit (.bool true)], args := ds })
    (hargs : ArgsOk C.prog ts ea ok) (hlaw : ∀ x, ok x → APure C.prog f (ea x) (.bool true)) :
    ReturnsInHanded {} C os f .any (s.pre6 enc C.prog fn conds apart) (s.post enc C.prog fn apart true handsOn false) := by
  obtain rfl : fn.params.toList = ts := by rw [hts]
  refine returnsInHanded_of_change own started noInit hfn witness ?_
  intro W base args ds gs before hval hW _ _
  have hW' := hW
  obtain ⟨p, q, hA, hV, rfl, hz, hn⟩ := hW
  have hV' := hV
  rw [hvars] at hV'
  obtain ⟨rfl, rfl⟩ := trodVars_none hV'
  have hlen : ∀ {ts : List TypeId} {vs : List Value} {ds : List (DataW H)} {ps : List MemPlace}, DataW.TrodAll enc C.prog W 0 (fun _ => true) true ts vs ds ps → ds.length = ts.length := by
    intro ts
    induction ts with
    | nil => intro vs ds ps h; obtain ⟨_, rfl, _⟩ := trodAll_nil h; rfl
    | cons t ts ih =>
      intro vs ds ps h
      obtain ⟨v, vs', d, ds', p1, p2, rfl, rfl, rfl, h1, h2⟩ := trodAll_cons h
      simp [ih h2]
  obtain ⟨x, hx, hrel⟩ := hargs H enc W base args.toList ds p (fun j t v h1 h2 => hval j t v (by simpa using h1) (by simpa using h2)) hA
  have hc := law_calls (hlaw x hx) hrel
  have e : args.toList.toArray = args := by simp
  rw [e] at hc
  refine hc.mono fun e w' ⟨he, hbl⟩ => ⟨_, he, ?_⟩
  exact law_post hl hr hres hb hvars (hs ds (hlen hA)) hW' hbl

end Go.Ab
