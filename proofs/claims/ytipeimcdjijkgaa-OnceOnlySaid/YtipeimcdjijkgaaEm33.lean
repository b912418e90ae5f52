/- The evaluator is sound: maps. (Sits between Em22 and Em23.) -/
import Derived.Test.YtipeimcdjijkgaaEm22
import Derived.MapKept
import Derived.Carry
namespace Go.Dm
open Go Go.RowKit Go.MapKept
set_option linter.unnecessarySimpa false
set_option linter.constructorNameAsVariable false
set_option linter.unusedSectionVars false
set_option linter.unusedSimpArgs false
set_option linter.unusedVariables false

variable {C : Cx} {k : List It} {s : S} {τ : TyTab}

/-- a new map -/
theorem St.mapNew {g : Gh} {N : Nat} {M : Mem} {E : Env} {s : S} {tmps : Array Value} {w : World} (hs : St g N M E s tmps w) {i : Nat} (hi : aget s.mp i = none) (hB : i < nB) :
    ∃ E', E.up E' ∧ E'.mp i = some w.heap.size ∧ St g N M E' { s with mp := (i, []) :: s.mp } tmps (w.alloc (.map #[] 0)) := by
  have hnone := own_none hs (Nat.le_refl w.heap.size)
  have hbn := hs.mpn i hi
  have hle : E.le { E with mp := fun j => if j = i then some w.heap.size else E.mp j, own := fun b => if b = w.heap.size then some (2, i, 0) else E.own b } := by
    refine ⟨fun j b hb => hb, fun j q hq => ⟨q, hq, Nat.le_refl _, fun _ => ⟨rfl, rfl, rfl, rfl⟩⟩, fun j r hr => ?_, fun j bs h => ⟨[], by simpa using h⟩⟩
    show (if j = i then some w.heap.size else E.mp j) = some r
    rw [if_neg (by rintro rfl; rw [hbn] at hr; cases hr)]; exact hr
  refine ⟨_, ⟨hle, fun E0 hp => ⟨hp.bx, hp.rw, fun j b hj h => hp.mp j b hj (by simp only at h; rwa [if_neg (by omega)] at h), hp.ar⟩⟩, if_pos rfl, ?_⟩
  refine hs.grow' (fun _ => False) (fun _ _ h => h.elim) (Grow.alloc w _) hle (fun b hb _ => if_neg (by omega)) ?_ rfl (fun b j v h => h.elim) (fun b o _ _ => Nat.le_refl _)
    (fun j r hj => .inl ⟨hj, fun _ _ h => h⟩) hs.bxn
    (fun j r hj => .inl ⟨hj, rfl, fun _ _ _ h => h⟩) hs.rwn ?_ ?_ (fun j r hj => .inl ⟨hj, rfl, fun _ _ _ h => h⟩) hs.arn
  · intro b o hb
    simp only at hb
    split at hb
    · simp; omega
    · have := hs.live b o hb; simp; omega
  · intro j cs' hj
    simp only [aget_cons] at hj
    split at hj
    · rename_i e; subst e
      cases hj
      right
      exact ⟨w.heap.size, if_pos rfl, if_pos rfl, #[], 0, heap_alloc_new w _, rfl, fun j v c hv hc => by simp at hv⟩
    · exact .inl ⟨hj, fun _ _ h => h⟩
  · intro j hj
    simp only [aget_cons] at hj
    split at hj
    · cases hj
    · rename_i hne
      show (if j = i then some w.heap.size else E.mp j) = none
      rw [if_neg hne]; exact hs.mpn j hj

theorem Grow.setMap (w : World) (r : Nat) (o : Obj) : Grow w { w with heap := w.heap.setIfInBounds r o } (fun b => b = r) :=
  ⟨rfl, rfl, rfl, by simp, fun b _ hb => by simp [Array.getElem?_setIfInBounds, Ne.symm hb]⟩

/-- a map is changed -/
theorem St.mapSet {g : Gh} {N : Nat} {M : Mem} {E : Env} {s : S} {tmps : Array Value} {w : World} (hs : St g N M E s tmps w) {i r : Nat} {es es' : List (AV × AV)} (hi : aget s.mp i = some es) (hb : E.mp i = some r)
    {ents : Array MapEntry} {clock : Nat} (hsz : ents.size = es'.length) (h : ∀ (j : Nat) (e : MapEntry) (p : AV × AV), ents[j]? = some e → es'[j]? = some p → RelP M e.key p.1 ∧ Rel M Env.none e.val p.2) :
    St g N M E { s with mp := (i, es') :: s.mp } tmps { w with heap := w.heap.setIfInBounds r (.map ents clock) } := by
  obtain ⟨r', hr', hown, ents0, clock0, hh, hold, _⟩ := hs.mp i es hi
  rw [hb] at hr'; cases hr'
  have hlt := hs.live r _ hown
  have hX : ∀ k o, k = r → E.own k = some o → o = (2, i, 0) := fun k o e ho => by rw [e, hown] at ho; cases ho; rfl
  refine hs.grow' (fun k => k = r) (fun k _ hk => ⟨(2, i, 0), by rw [hk]; exact hown⟩) (Grow.setMap w r _) (Env.le_refl E) (fun _ _ _ => rfl) (fun k o hk => by have := hs.live k o hk; simpa using this) rfl ?_ (fun b o _ _ => Nat.le_refl _)
    (fun j cs hj => .inl (hs.bxK (fun k i' hk ho => by have := hX k _ hk ho; cases this) j cs hj)) hs.bxn
    (fun j r hj => .inl ⟨hj, rfl, fun k p ho hk => ?_⟩) hs.rwn ?_ ?_ (fun j r hj => .inl ⟨hj, rfl, fun k p ho hk => ?_⟩) hs.arn
  · intro k j v hk hv
    subst hk
    have := (hs.mem k j v hv).2 _ hown
    simp [sealN] at this
  · rcases ho with ho | ho <;> · have := hX k _ hk ho; cases this
  · intro j cs2 hj
    simp only [aget_cons] at hj
    split at hj
    · rename_i e; subst e
      cases hj
      right
      exact ⟨r, hb, hown, ents, clock, (heap_set hh).1, hsz, h⟩
    · rename_i hne
      refine .inl ⟨hj, fun k hk hkb => ?_⟩
      obtain ⟨b2, hb2, hown2, _⟩ := hs.mp j cs2 hj
      rw [hk] at hb2; cases hb2
      have := hX _ _ hkb hown2
      cases this
      exact hne rfl
  · intro j hj
    simp only [aget_cons] at hj
    split at hj
    · cases hj
    · exact hs.mpn j hj
  · rcases ho with ho | ho <;> · have := hX k _ hk ho; cases this

/-- the description of a key's type -/
def keyD : TK → Option TypeDesc
  | .int q => some (.int q)
  | .str => some .string
  | _ => none
theorem keyOk_rel {P : Program} {kt : TypeId} {tk : TK} (hk : TKOk P kt tk) {x : AV} (h : keyOk tk x = true) : ∃ d, keyD tk = some d ∧ P.underlying kt = some d ∧ ∀ (M : Mem) (E : Env) (v : Value), Rel M E v x → IsKey d v ∧ RelP M v x := by
  unfold keyOk at h
  split at h
  · rename_i q q' n
    refine ⟨_, rfl, hk, fun M E v hv => ?_⟩
    have e := sameKind_eq h
    subst e
    rw [hv.int_inv]
    exact ⟨rfl, .int _ _⟩
  · refine ⟨_, rfl, hk, fun M E v hv => ?_⟩
    rw [hv.str_inv]
    exact ⟨trivial, .str _⟩
  · cases h
theorem keysOk_get {tk : TK} : ∀ {es : List (AV × AV)} {j : Nat} {p : AV × AV}, keysOk tk es = true → es[j]? = some p → keyOk tk p.1 = true
  | (a, b) :: l, 0, p, h, hp => by simp at hp; subst hp; simp only [keysOk, Bool.and_eq_true] at h; exact h.1
  | (a, b) :: l, j + 1, p, h, hp => by simp only [keysOk, Bool.and_eq_true] at h; exact keysOk_get h.2 (by simpa using hp)
theorem keyEq_iff {M : Mem} {tk : TK} {x y : AV} (hx : keyOk tk x = true) (hy : keyOk tk y = true) {v u : Value} (hv : RelP M v x) (hu : RelP M u y) : keyEq x y = true ↔ v = u := by
  unfold keyOk at hx hy
  split at hx
  · rename_i q q' n
    split at hy
    · rename_i q2 q2' m e
      cases e
      have e1 := sameKind_eq hx
      have e2 := sameKind_eq hy
      subst e1; subst e2
      cases hv; cases hu
      simp [keyEq]
    · rename_i e; cases e
    · cases hy
  · split at hy
    · rename_i e; cases e
    · cases hv; cases hu
      simp [keyEq]
    · cases hy
  · cases hx

/-- what a map's entries are, against its pairs -/
def EntR (M : Mem) (E : Env) (l : List MapEntry) (es : List (AV × AV)) : Prop := l.length = es.length ∧ ∀ (j : Nat) (e : MapEntry) (p : AV × AV), l[j]? = some e → es[j]? = some p → RelP M e.key p.1 ∧ Rel M E e.val p.2
theorem EntR.cons {M : Mem} {E : Env} {e : MapEntry} {l : List MapEntry} {p : AV × AV} {es : List (AV × AV)} (h : EntR M E (e :: l) (p :: es)) : (RelP M e.key p.1 ∧ Rel M E e.val p.2) ∧ EntR M E l es :=
  ⟨h.2 0 e p rfl rfl, by simpa using h.1, fun j e p he hp => h.2 (j + 1) e p (by simpa using he) (by simpa using hp)⟩

theorem find_rel {M : Mem} {E : Env} {tk : TK} {d : TypeDesc} {P : Program} {kt : TypeId} (hd : keyD tk = some d) (hK : TKOk P kt tk) {key : AV} (hkey : keyOk tk key = true) {v : Value} (hv : RelP M v key) (hvk : IsKey d v) :
    ∀ {es : List (AV × AV)} {l : List MapEntry} (i : Nat), keysOk tk es = true → EntR M E l es →
      (Instr.findNow d v l i = some none ∧ mlook key es = none ∧ ∀ y, mputA key y es = es ++ [(key, y)]) ∨
      ∃ j e p, Instr.findNow d v l i = some (some (i + j, e.val)) ∧ l[j]? = some e ∧ e.key = v ∧ es[j]? = some p ∧ mlook key es = some p.2 ∧ ∀ y, mputA key y es = es.set j (key, y)
  | [], l, i, _, h => by
    match l, h with
    | [], _ => exact .inl ⟨rfl, rfl, fun y => rfl⟩
    | e :: l, h => exact absurd h.1 (by simp)
  | p :: es, l, i, hks, h => by
    match l, h with
    | [], h => exact absurd h.1 (by simp)
    | e :: l, h =>
      obtain ⟨⟨h1, h2⟩, ht⟩ := h.cons
      obtain ⟨pk, pv⟩ := p
      simp only [keysOk, Bool.and_eq_true] at hks
      obtain ⟨d', hd', hu', hrel⟩ := keyOk_rel hK hks.1
      rw [hd] at hd'; cases hd'
      have hek : IsKey d e.key := (hrel M E e.key (.cell (.pure h1))).1
      obtain ⟨r, hr, hiff⟩ := sameNow_of_keys hvk hek
      have hq := keyEq_iff hks.1 hkey h1 hv
      cases r with
      | true =>
        have e1 := hiff.1 rfl
        have e2 : keyEq pk key = true := hq.2 e1.symm
        exact .inr ⟨0, e, (pk, pv), by simp [Instr.findNow, hr], rfl, e1.symm, rfl, by simp [mlook, e2], fun y => by simp [mputA, e2]⟩
      | false =>
        have e2 : keyEq pk key = false := by
          cases hb : keyEq pk key with
          | false => rfl
          | true => have := hiff.2 (hq.1 hb).symm; cases this
        rcases find_rel hd hK hkey hv hvk (i + 1) hks.2 ht with ⟨f1, f2, f3⟩ | ⟨j, e', p', f1, f2, f3, f4, f5, f6⟩
        · exact .inl ⟨by simp [Instr.findNow, hr, f1], by simp [mlook, e2, f2], fun y => by simp [mputA, e2, f3]⟩
        · exact .inr ⟨j + 1, e', p', by simp [Instr.findNow, hr, f1]; omega, by simpa using f2, f3, by simpa using f4, by simp [mlook, e2, f5], fun y => by simp [mputA, e2, f6]⟩

/-- the zero value of a type -/
theorem zeroVal_rel {P : Program} {e : TypeId} {ie : TI} (hi : TyOk1 P e ie) {zel : AV} (h : zeroEl τ e ie = some zel) (w : World) : ∃ zv, (zeroValue e).run P w = .ok zv w ∧ ∀ (M : Mem) (E : Env), Rel M E zv zel := by
  obtain ⟨inf, z, h1, _, _, h2, h3⟩ := hi.info
  have hag := hi.ag inf z h1 h2
  refine ⟨z, by simp [zeroValue, typeInfo, h1, h2], fun M E => ?_⟩
  have hz : AllR (RelS M E) (ie.zero.map AV.zv) ie.zero := zero_rel hi.lit
  unfold zeroEl at h
  split at h
  · rename_i ha
    cases h
    rw [ha] at hag
    cases z with
    | agg vs =>
      simp only [Value.cells] at h3
      have ev : vs = (ie.zero.map AV.zv).toArray := by rw [← h3]
      rw [ev]
      exact norm_rel (τ := τ) (t := e) (.agg _ _ hz.1 hz.2)
    | _ => simp [Value.isAgg'] at hag
  · rename_i ha
    split at h
    · rename_i z1 hz1
      cases h
      rw [ha] at hag
      rw [hz1] at hz h3
      have h0 := hz.2 0 _ _ rfl rfl
      have ez : z = z1.zv := by
        have hc : z.cells = #[z] := by cases z <;> first | rfl | (simp [Value.isAgg'] at hag)
        rw [hc] at h3
        simpa using h3
      rw [ez]
      exact norm_rel (τ := τ) (.cell h0)
    · cases h

theorem Sound.makeMap (hτ : TyOk C.P τ) {o : Oper} {an : List An} {t : TypeId} (ho : o.op = .makeMap t none) (hd : ∀ d, o.dst = some d → d < C.N) : Sound C o s (evalMakeMap τ s an o.dst t) := by
  unfold evalMakeMap
  split
  · split
    · rename_i i hdi
      split
      · rename_i hn
        split
        · rename_i hB
          intro res hres _ _
          cases hres
          refine effDoes rfl hd fun a w M E hs => ?_
          obtain ⟨E', hup, hr, hst⟩ := hs.mapNew hn (Nat.le_of_ble_eq_true hB)
          exact ⟨_, _, M, E', by simp only [execOp, ho, Option.map_none, run_makeMap, Sem.run_bind, Result.andThen_ok, Sem.run_pure], hst, .cell (.mp i _ hr), hup⟩
        · exact .nil
      · exact .nil
    · exact .nil
  · exact .nil

theorem Sound.lookup (hτ : TyOk C.P τ) {o : Oper} {an : List An} {t : TypeId} {x y : Operand} {ok : Bool} (ho : o.op = .lookup t x y ok) (hd : ∀ d, o.dst = some d → d < C.N) {v u : AV} (hx : Has C s x v) (hy : Has C s y u) : Sound C o s (evalLookup τ s an t ok v u) := by
  unfold evalLookup
  split
  · rename_i kt et szt bt zt czt ht
    split
    · rename_i ik hik
      split
      · rename_i ie hie
        split
        · rename_i z hz
          split
          · rename_i hkey
            split
            · rename_i i
              split
              · rename_i es hes
                split
                · rename_i v' b an'
                  intro res hres hg _
                  cases hres
                  obtain ⟨g1, g2, g3, _⟩ := hg
                  refine pureDoes hd fun a w M E hs => ?_
                  obtain ⟨r, hr, hown, ents, clock, hh, hsz, hent⟩ := hs.mp i es hes
                  have hxv : a.eval x = .map (some r) := by
                    have := (hx a w M E hs).of_cell rfl
                    generalize a.eval x = vv at this
                    cases this with
                    | pure h => cases h
                    | mp _ r' h => rw [hr] at h; cases h; rfl
                  obtain ⟨d, hd1, hd2, hd3⟩ := keyOk_rel (hτ _ _ hik).kind hkey
                  obtain ⟨hyk, hyr⟩ := hd3 M E _ (hy a w M E hs)
                  obtain ⟨zv, hz1, hz2⟩ := zeroVal_rel (hτ _ _ hie) hz w
                  have hm : C.P.underlying t = some (.map kt et) := (hτ _ _ ht).kind
                  have hE : EntR M Env.none ents.toList es := ⟨by simpa using hsz, fun j e p he hp => hent j e p (by simpa using he) hp⟩
                  have fin : ∀ (vv : Value), Rel M E vv v' → ∃ q, (execOp a.eval o).run C.P w = .ok (.value q) w ∧ Rel M E q (match ok with | true => .tup [v', .bool b] | false => v') → True := fun _ _ => ⟨undef, fun _ => trivial⟩
                  rcases find_rel (E := Env.none) hd1 (hτ _ _ hik).kind hkey hyr hyk 0 g1 hE with ⟨f1, f2, _⟩ | ⟨j, e, p, f1, f2, f3, f4, f5, _⟩
                  · rw [f2] at g2 g3
                    have g2 : z = v' := g2
                    have g3 : false = b := g3
                    subst g2; subst g3
                    cases ok with
                    | false =>
                      refine ⟨zv, ?_, hz2 M E⟩
                      simp [execOp, ho, hxv, Instr.lookup, run_underlying hm, Go.MapKept.run_getObj_map hh, Go.MapKept.run_checkKey hd2 hyk, Go.MapKept.run_findKey hd2 f1, hz1]
                    | true =>
                      refine ⟨.tuple #[zv, .bool false], ?_, .tup [zv, .bool false] _ rfl fun j v c hv hc => ?_⟩
                      · simp [execOp, ho, hxv, Instr.lookup, run_underlying hm, Go.MapKept.run_getObj_map hh, Go.MapKept.run_checkKey hd2 hyk, Go.MapKept.run_findKey hd2 f1, hz1]
                      · match j with
                        | 0 => simp at hv hc; subst hv; subst hc; exact hz2 M E
                        | 1 => simp at hv hc; subst hv; subst hc; exact .cell (.pure (.bool _))
                        | j + 2 => simp at hv
                  · rw [f5] at g2 g3
                    have g2 : p.2 = v' := g2
                    have g3 : true = b := g3
                    subst g2; subst g3
                    have hrel : Rel M E e.val p.2 := (hent j e p (by simpa using f2) f4).2.monoE ⟨fun _ _ h => (by cases h), fun _ _ h => (by cases h), fun _ _ h => (by cases h), fun _ _ h => (by cases h)⟩
                    cases ok with
                    | false =>
                      refine ⟨e.val, ?_, hrel⟩
                      simp [execOp, ho, hxv, Instr.lookup, run_underlying hm, Go.MapKept.run_getObj_map hh, Go.MapKept.run_checkKey hd2 hyk, Go.MapKept.run_findKey hd2 f1]
                    | true =>
                      refine ⟨.tuple #[e.val, .bool true], ?_, .tup [e.val, .bool true] _ rfl fun j v c hv hc => ?_⟩
                      · simp [execOp, ho, hxv, Instr.lookup, run_underlying hm, Go.MapKept.run_getObj_map hh, Go.MapKept.run_checkKey hd2 hyk, Go.MapKept.run_findKey hd2 f1]
                      · match j with
                        | 0 => simp at hv hc; subst hv; subst hc; exact hrel
                        | 1 => simp at hv hc; subst hv; subst hc; exact .cell (.pure (.bool _))
                        | j + 2 => simp at hv
                · exact .nil
              · exact .nil
            · exact .nil
          · exact .nil
        · exact .nil
      · exact .nil
    · exact .nil
  · exact .nil

theorem Sound.mapUpdate (hτ : TyOk C.P τ) {o : Oper} {an : List An} {t : TypeId} {m x y : Operand} (ho : o.op = .mapUpdate t m x y) {v u z : AV} (hm : Has C s m v) (hx : Has C s x u) (hy : Has C s y z) : Sound C o s (evalMapUpdate τ s an o.dst t v u z) := by
  unfold evalMapUpdate
  split
  · exact .nil
  · rename_i hdn
    split
    · rename_i kt et szt bt zt czt ht
      split
      · rename_i ik hik
        split
        · rename_i hkey
          split
          · rename_i i
            split
            · rename_i es hes
              split
              · rename_i y' e hse
                rcases Bool.eq_false_or_eq_true (AV.isPure y') with hpure | hpure
                rotate_left
                · simp only [hpure]; exact .nil
                simp only [hpure]
                split
                · rename_i es' an'
                  intro res hres hg _
                  cases hres
                  obtain ⟨g1, g2, _⟩ := hg
                  intro a w ⟨hdf, M, E, hs, hp0⟩
                  obtain ⟨M', hM, hs1, hv1, _⟩ := sealA_ok (likeRows.refl hs) hse hs (norm_rel (τ := τ) (t := et) (hy a w M E hs))
                  have hv := hv1.of_pure Env.none hpure
                  obtain ⟨r, hr, hown, ents, clock, hh, hsz, hent⟩ := hs1.mp i es hes
                  have hmv : a.eval m = .map (some r) := by
                    have := (hm a w M E hs).of_cell rfl
                    generalize a.eval m = vv at this
                    cases this with
                    | pure h => cases h
                    | mp _ r' h => rw [hr] at h; cases h; rfl
                  obtain ⟨d, hd1, hd2, hd3⟩ := keyOk_rel (hτ _ _ hik).kind hkey
                  obtain ⟨hyk, hyr0⟩ := hd3 M E _ (hx a w M E hs)
                  have hyr : RelP M' (a.eval x) u := RelP.mono hM hyr0
                  have hmt : C.P.underlying t = some (.map kt et) := (hτ _ _ ht).kind
                  have hE : EntR M' Env.none ents.toList es := ⟨by simpa using hsz, fun j e p he hp => hent j e p (by simpa using he) hp⟩
                  rcases find_rel (E := Env.none) hd1 (hτ _ _ hik).kind hkey hyr hyk 0 g1 hE with ⟨f1, _, f3⟩ | ⟨j, en, p, f1, f2, f3, f4, _, f6⟩
                  · rw [f3] at g2
                    refine ⟨undef, { w with heap := w.heap.setIfInBounds r (.map (ents.push { key := a.eval x, val := a.eval y, born := clock }) (clock + 1)) }, .inr ⟨?_, rfl⟩, by rw [defers_put]; exact hdf, M', E, ?_, hp0⟩
                    rotate_left
                    · rw [hdn]
                      exact hs1.mapSet hes hr (ents := ents.push { key := a.eval x, val := a.eval y, born := clock }) (clock := clock + 1) (by rw [g2]; simp [hsz]) (fun j en p he hp => by
                        rw [g2, List.getElem?_append] at hp
                        rw [Array.getElem?_push] at he
                        split at he
                        · rename_i ej
                          cases he
                          rw [ej, hsz] at hp
                          simp at hp
                          subst hp
                          exact ⟨hyr, hv⟩
                        · rename_i ej
                          have hlt : j < es.length := by
                            have := (Array.getElem?_eq_some_iff.1 he).1
                            omega
                          rw [if_pos hlt] at hp
                          exact hent j en p he hp)
                    · simp [execOp, ho, hmv, Instr.mapUpdate, run_underlying hmt, Go.MapKept.run_getObj_map hh, Go.MapKept.run_checkKey hd2 hyk, Go.MapKept.run_findKey hd2 f1, Go.MapKept.run_setObj_map _ hh]
                  · rw [f6] at g2
                    have hje : (0 + j) = j := Nat.zero_add j
                    refine ⟨undef, { w with heap := w.heap.setIfInBounds r (.map (ents.modify j fun e => { e with key := a.eval x, val := a.eval y }) clock) }, .inr ⟨?_, rfl⟩, by rw [defers_put]; exact hdf, M', E, ?_, hp0⟩
                    rotate_left
                    · rw [hdn]
                      exact hs1.mapSet hes hr (ents := ents.modify j fun e => { e with key := a.eval x, val := a.eval y }) (clock := clock) (by rw [g2]; simp [hsz]) (fun j' en' p' he hp => by
                        rw [g2, List.getElem?_set] at hp
                        rw [Array.getElem?_modify] at he
                        by_cases hjj : j = j'
                        · subst hjj
                          rw [if_pos rfl] at he hp
                          obtain ⟨e0, _, rfl⟩ := Option.map_eq_some_iff.1 he
                          split at hp
                          · cases hp; exact ⟨hyr, hv⟩
                          · cases hp
                        · rw [if_neg hjj] at he hp
                          exact hent j' en' p' he hp)
                    · have e1 : ents[j]? = some en := by simpa using f2
                      simp [execOp, ho, hmv, Instr.mapUpdate, run_underlying hmt, Go.MapKept.run_getObj_map hh, Go.MapKept.run_checkKey hd2 hyk, Go.MapKept.run_findKey hd2 f1, e1, f3, Go.MapKept.run_keyThatStays hyk, Go.MapKept.run_setObj_map _ hh]
                · exact .nil
              · exact .nil
            · exact .nil
          · exact .nil
        · exact .nil
      · exact .nil
    · exact .nil

end Go.Dm
