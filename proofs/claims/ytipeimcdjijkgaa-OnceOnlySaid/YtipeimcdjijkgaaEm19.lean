/- The evaluator is sound: what is made and sealed at once; what is held against nil; texts and bytes. -/
import Derived.Test.YtipeimcdjijkgaaEm18
import Derived.Laws.IdiomStrings
import Derived.Laws.Pointers
import Derived.Laws.Cover3
namespace Go.Dm
open Go Go.RowKit
set_option linter.unnecessarySimpa false
set_option linter.constructorNameAsVariable false
set_option linter.unusedSectionVars false
set_option linter.unusedSimpArgs false
set_option linter.unusedVariables false

variable {C : Cx} {k : List It} {s : S} {τ : TyTab}

/-- a new block, sealed at once -/
theorem St.newSealed {g : Gh} {N : Nat} {M : Mem} {E : Env} {tmps : Array Value} {w w1 : World} (hs : St g N M E s tmps w) (hg : Grow w w1 (fun _ => False)) {vs : Array Value} {e : TypeId} {fr : Nat × Nat} {sz n c : Nat} {xs : List AV}
    (hn : xs.length = n) (hnc : n ≤ c) (hc : c ≤ maxLen) (hsz : ∀ x ∈ xs, x.cells.length = sz) (hrel : ∀ (j : Nat) (u : AV), (flat xs)[j]? = some u → ∃ v, vs[j]? = some v ∧ RelP M v u) :
    ∃ M', (∀ b j v, M b j = some v → M' b j = some v) ∧ St g N M' E s tmps (w1.alloc (.cells vs e fr)) ∧ RelP M' (.slice (some ⟨w1.heap.size, 0, none⟩) n c) (.sl sz xs) := by
  have hbig : Grow w (w1.alloc (.cells vs e fr)) (fun _ => False) := (hg.mono (fun _ h => h.elim)).trans ((Grow.alloc w1 _).mono (fun _ h => h.elim))
  have hs1 : St g N M E s tmps (w1.alloc (.cells vs e fr)) :=
    hs.grow' (fun _ => False) (fun _ _ h => h.elim) hbig (Env.le_refl E) (fun _ _ _ => rfl) (fun b o h => Nat.lt_of_lt_of_le (hs.live b o h) hbig.size) rfl (fun b j v h => h.elim) (fun b o _ _ => Nat.le_refl _)
      (fun i cs h => .inl ⟨h, fun _ _ h => h⟩) hs.bxn (fun i r h => .inl ⟨h, rfl, fun _ _ _ h => h⟩) hs.rwn (fun i es h => .inl ⟨h, fun _ _ h => h⟩) hs.mpn (fun i r h => .inl ⟨h, rfl, fun _ _ _ h => h⟩) hs.arn
  have hnew : (w1.alloc (.cells vs e fr)).heap[w1.heap.size]? = some (.cells vs e fr) := heap_alloc_new w1 _
  have hown : E.own w1.heap.size = none := own_none hs hg.size
  have hMn : ∀ j, M w1.heap.size j = none := fun j => by
    cases h : M w1.heap.size j with
    | none => rfl
    | some v =>
      have := World.block_lt_of_cell? _ _ (hs.mem _ _ _ h).1
      have h2 := hg.size
      simp only at this
      omega
  have hle : ∀ b j v, M b j = some v → (if b = w1.heap.size then vs[j]? else M b j) = some v := by
    intro b j v h
    rw [if_neg (by rintro rfl; rw [hMn] at h; cases h)]; exact h
  have hcell : ∀ j, (w1.alloc (.cells vs e fr)).cell? ⟨w1.heap.size, j, none⟩ = vs[j]? := fun j => cell_of_row _ _ _ vs e fr hnew
  refine ⟨fun b j => if b = w1.heap.size then vs[j]? else M b j, hle, hs1.moreM hle ?_ ?_ rfl rfl rfl rfl (fun i r h => ⟨r, h, r.k, rfl, by obtain ⟨q, _, hok⟩ := hs1.rw i r h; exact hok.k⟩) (fun i h => h), ?_⟩
  · intro b j v h
    split at h
    · rename_i hb
      subst hb
      exact ⟨by rw [hcell]; exact h, fun o ho => by rw [hown] at ho; cases ho⟩
    · exact hs1.mem b j v h
  · intro b j v h hF
    rw [if_neg (by rintro rfl; have := (hs.foreign _ hF).1; have := hg.size; omega)] at h
    exact hs.mf b j v h hF
  · refine .sl _ n c sz xs (fun j => vs.getD j undef) hn hnc hc hsz (fun _ => ⟨w1.heap.size, 0, rfl, fun j hj => ?_⟩) (fun j u hu => ?_)
    · obtain ⟨v, hv, _⟩ := hrel j _ (List.getElem?_eq_getElem hj)
      show (if w1.heap.size = w1.heap.size then vs[0 + j]? else M w1.heap.size (0 + j)) = _
      rw [if_pos rfl, Nat.zero_add, hv]
      simp [Array.getD_eq_getD_getElem?, hv]
    · obtain ⟨v, hv, hr⟩ := hrel j u hu
      simp only [Array.getD_eq_getD_getElem?, hv, Option.getD_some]
      exact hr.mono hle

theorem effM {o : Oper} {x : AV} (hd : ∀ d, o.dst = some d → d < C.N)
    (h : ∀ (a : Act) (w : World) (M : Mem) (E : Env), St C.g C.N M E s a.tmps w → ∃ v w' M' E', (execOp a.eval o).run C.P w = .ok (.value v) w' ∧ St C.g C.N M' E' s a.tmps w' ∧ Rel M' E' v x ∧ E.up E') : Does C o s ((⟨some x, [], [], [], []⟩ : Eff).app o.dst s) :=
  effDoes rfl hd h

theorem u8s_flat (l : List UInt8) : flat (u8s l) = u8s l := ih_flat l
theorem isBytes_sound (hτ : TyOk C.P τ) {t e : TypeId} {sz by' z cz sz2 by2 z2 cz2} (h1 : τ t = some ⟨.slice e, sz, by', z, cz⟩) (h2 : τ e = some ⟨.int .u8, sz2, by2, z2, cz2⟩) : C.P.underlying t = some (.slice e) ∧ C.P.underlying e = some (.int .u8) ∧ sz2 = 1 :=
  ⟨(hτ _ _ h1).kind, (hτ _ _ h2).kind, (hτ _ _ h2).one rfl⟩

theorem isStrT_sound (hτ : TyOk C.P τ) {t : TypeId} (h : isStrT τ t = true) : C.P.underlying t = some .string := by
  unfold isStrT at h
  split at h
  · rename_i h1; exact (hτ _ _ h1).kind
  · cases h
theorem isSlT_sound (hτ : TyOk C.P τ) {t : TypeId} (h : isSlT τ t = true) : ∃ e, C.P.underlying t = some (.slice e) := by
  unfold isSlT at h
  split at h
  · rename_i h1; exact ⟨_, (hτ _ _ h1).kind⟩
  · cases h
theorem isPtrT_sound (hτ : TyOk C.P τ) {t : TypeId} (h : isPtrT τ t = true) : C.P.underlying t = some (.pointer (C.P.pointee t)) := by
  unfold isPtrT at h
  split at h
  · rename_i h1
    have := (hτ _ _ h1).kind
    simp only [TKOk] at this
    simp [Program.pointee, this]
  · cases h

theorem Sound.bytesOf (hτ : TyOk C.P τ) {o : Oper} {an : List An} {src dst : TypeId} {x : Operand} (ho : o.op = .convert src dst x) (hd : ∀ d, o.dst = some d → d < C.N) {l : List UInt8} (hx : Has C s x (.str l)) (hsrc : C.P.underlying src = some .string) : Sound C o s (evalBytesOf τ an dst l) := by
  unfold evalBytesOf
  split
  · rename_i e _ _ _ _ h1
    split
    · rename_i sz _ _ _ h2
      obtain ⟨ht, he, hsz⟩ := isBytes_sound hτ h1 h2
      intro res hres hg _
      cases hres
      have hlen : l.length ≤ maxLen := by have := hg.1; unfold maxLen; omega
      refine effM hd fun a w M E hs => ?_
      have hv := (hx a w M E hs).str_inv
      have hrun := run_bytes_of_string (P := C.P) w src dst e ⟨l.toArray⟩ hsrc ht he
      obtain ⟨vs, fr, hw, hvs⟩ : ∃ (vs : Array Value) (fr : Nat × Nat), (convert src dst (.string ⟨l.toArray⟩)).run C.P w = .ok (.slice (some ⟨w.heap.size, 0, none⟩) l.length (grownCap w l.length 0 e)) (w.drew.alloc (.cells vs e fr)) ∧
          ∀ (j : Nat) (u : AV), (flat (u8s l))[j]? = some u → ∃ v, vs[j]? = some v ∧ RelP M v u := by
        refine ⟨_, _, hrun, fun j u hu => ?_⟩
        rw [u8s_flat] at hu
        simp only [u8s, List.getElem?_map, Option.map_eq_some_iff] at hu
        obtain ⟨b, hb, rfl⟩ := hu
        have hj := (List.getElem?_eq_some_iff.1 hb).1
        refine ⟨.int .u8 (b.toNat : Int), ?_, .int _ _⟩
        simp only [bytesRow]
        rw [Array.getElem?_append_left (by simpa using hj)]
        simp [hb]
      obtain ⟨M', hM, hs', hr⟩ := hs.newSealed (w1 := w.drew) (Grow.drew w) (vs := vs) (e := e) (fr := fr) (sz := sz) (n := l.length) (c := grownCap w l.length 0 e) (xs := u8s l) (by simp [u8s]) (grownCap_ge w _ _ e) (grownCap_le_maxLen w _ _ e hlen)
        (fun y hy => by
          simp only [u8s, List.mem_map] at hy
          obtain ⟨b, _, rfl⟩ := hy
          rw [hsz]; rfl) hvs
      exact ⟨_, _, M', E, by simp [execOp, ho, hv, hw], hs', .cell (.pure hr), Env.up_refl E⟩
    · exact .nil
  · exact .nil

theorem Sound.strRow (hτ : TyOk C.P τ) {o : Oper} {an : List An} {src dst : TypeId} {x : Operand} (ho : o.op = .convert src dst x) (hd : ∀ d, o.dst = some d → d < C.N) {i vr : Nat} (hx : Has C s x (.row i vr)) : Sound C o s (evalStrRow τ s an src dst i vr) := by
  unfold evalStrRow
  split
  · rename_i r hr
    split
    · rename_i hpu
      split
      · rename_i hdst
        split
        · rename_i hby
          split
          · rename_i hsz
            have hsz := beq_true hsz
            split
            · rename_i l an'
              intro res hres hg _
              cases hres
              have hxs : r.xs = u8s l := hg.1
              refine pureDoes hd fun a w M E hs => ?_
              obtain ⟨q, he, hq, hok⟩ := row_cur hs (hx a w M E hs) hr
              obtain ⟨e, he1, he2⟩ : ∃ e, C.P.underlying src = some (.slice e) ∧ C.P.underlying e = some (.int .u8) := by
                unfold isBytes at hby
                split at hby
                · rename_i e _ _ _ _ hs1
                  split at hby
                  · rename_i hs2; exact ⟨e, (hτ _ _ hs1).kind, (hτ _ _ hs2).kind⟩
                  · cases hby
                · cases hby
              have hk := isStrT_sound hτ hdst
              have hn : q.n = l.length := by rw [hok.n, hxs]; simp [u8s]
              refine ⟨.string ⟨l.toArray⟩, ?_, .cell (.pure (.str _))⟩
              have hrun : (convert src dst (.slice q.a q.n q.c)).run C.P w = .ok (.string ⟨l.toArray⟩) w := by
                rw [hn]
                rcases hok.blk with hb | ⟨blk, vs, g1, g2, g3, g4, g5⟩
                · have hnc := hok.nc
                  have hl : l = [] := List.eq_nil_of_length_eq_zero (by omega)
                  subst hl
                  rw [run_convert_bytes_string w src dst e q.a _ q.c he1 he2 hk]
                  cases q.a with
                  | none => rfl
                  | some ad =>
                    have h0 : (loadCells ad 0).run C.P w = .ok (([] : List Int).map (Value.int .u8)).toArray w := by
                      have := run_loadCells (P := C.P) w ad 0 (fun _ => undef) (fun j hj => absurd hj (Nat.not_lt_zero j))
                      simpa using this
                    have := run_bytesToString (P := C.P) w ad 0 q.c [] h0
                    exact this.trans rfl
                · rw [g1]
                  refine run_convert_bytes_back w src dst e ⟨blk, 0, none⟩ q.c l he1 he2 hk (fun j hj => ?_)
                  have hfl : (flat r.xs)[j]? = some (.int .u8 (l[j].toNat : Int)) := by
                    rw [hxs, u8s_flat]; simp [u8s, hj]
                  obtain ⟨v, hv, hrel⟩ := cs_pure g5 hpu j _ hfl
                  cases hrel
                  rw [addr_add, Nat.zero_add, cell_of_row w blk j vs r.ty (0, 0) g3]
                  exact hv
              simp [execOp, ho, he, hrun]
            · exact .nil
          · exact .nil
        · exact .nil
      · exact .nil
    · exact .nil
  · exact .nil

theorem nilB_rel {M : Mem} {E : Env} {v : Value} {x : AV} {b : Bool} (h : nilB x = some b) (hr : Rel M E v x) : ∃ p, v = .pointer p ∧ p.isNone = b := by
  have ne : ∀ {y : AV}, (∃ i o, y = .ptr i o) ∨ (∃ z, y = .rp z) ∨ (∃ i v k o, y = .ep i v k o) ∨ (∃ i k o, y = .aptr i k o) → ∀ {v : Value}, RelS M E v y → ∃ a, v = .pointer (some a) := by
    rintro y (⟨i, o, rfl⟩ | ⟨z, rfl⟩ | ⟨i, v', k, o, rfl⟩ | ⟨i, k, o, rfl⟩) v hr
    · obtain ⟨b, _, e⟩ := (Rel.cell hr).ptr_inv; exact ⟨_, e⟩
    · obtain ⟨b, o, e, _⟩ := (Rel.cell hr).rp_inv; exact ⟨_, e⟩
    · obtain ⟨ad, q, e, _⟩ := (Rel.cell hr).ep_inv; exact ⟨_, e⟩
    · obtain ⟨bs, b, _, _, e⟩ := (Rel.cell hr).aptr_inv; exact ⟨_, e⟩
  have opt : ∀ {c : Bool} {y : AV}, (∃ i o, y = .ptr i o) ∨ (∃ z, y = .rp z) ∨ (∃ i v k o, y = .ep i v k o) ∨ (∃ i k o, y = .aptr i k o) → Rel M E v (.popt c y) → ∃ p, v = .pointer p ∧ p.isNone = !c := by
    intro c y hy hr
    obtain ⟨h1, h2⟩ := hr.popt_inv
    cases c with
    | true => obtain ⟨a, e⟩ := ne hy (h1 rfl); exact ⟨_, e, rfl⟩
    | false => exact ⟨none, h2 rfl, rfl⟩
  unfold nilB at h
  split at h <;> cases h
  · exact ⟨none, hr.nilp_inv, rfl⟩
  · obtain ⟨a, e⟩ := ne (.inl ⟨_, _, rfl⟩) (hr.of_cell rfl); exact ⟨_, e, rfl⟩
  · obtain ⟨a, e⟩ := ne (.inr (.inl ⟨_, rfl⟩)) (hr.of_cell rfl); exact ⟨_, e, rfl⟩
  · obtain ⟨a, e⟩ := ne (.inr (.inr (.inl ⟨_, _, _, _, rfl⟩))) (hr.of_cell rfl); exact ⟨_, e, rfl⟩
  · obtain ⟨a, e⟩ := ne (.inr (.inr (.inr ⟨_, _, _, rfl⟩))) (hr.of_cell rfl); exact ⟨_, e, rfl⟩
  · exact opt (.inl ⟨_, _, rfl⟩) hr
  · exact opt (.inr (.inl ⟨_, rfl⟩)) hr
  · exact opt (.inr (.inr (.inl ⟨_, _, _, _, rfl⟩))) hr
  · exact opt (.inr (.inr (.inr ⟨_, _, _, rfl⟩))) hr

theorem eqGuard_ptr {P : Program} {op : BinOp} {t : TypeId} {x y : Operand} {a b : Option Addr} (w : World) : (eqGuard op t x y (.pointer a) (.pointer b)).run P w = .ok () w := by
  cases op <;> simp [eqGuard]
theorem eqGuard_sl {P : Program} {op : BinOp} {t : TypeId} {x y : Operand} {a b : Option Addr} {n c n' c' : Nat} (w : World) : (eqGuard op t x y (.slice a n c) (.slice b n' c')).run P w = .ok () w := by
  cases op <;> simp [eqGuard]

theorem Sound.nilp (hτ : TyOk C.P τ) {o : Oper} {an : List An} {op : BinOp} {t t' : TypeId} {x y : Operand} (ho : o.op = .binOp op t x y t') (hd : ∀ d, o.dst = some d → d < C.N) {u v : AV} (hx : Has C s x v) (hy : Has C s y u) : Sound C o s (evalNil τ an t v u op) := by
  unfold evalNil
  split
  · rename_i hpt
    have ht := isPtrT_sound hτ hpt
    split
    · rename_i hn
      have hu : u = .nilp := by cases u <;> first | rfl | (cases hn)
      subst hu
      split
      · rename_i b hb
        have main : ∀ (a : Act) (w : World) (M : Mem) (E : Env), St C.g C.N M E s a.tmps w → ∃ p, a.eval x = .pointer p ∧ p.isNone = b ∧ a.eval y = .pointer none := fun a w M E hs => by
          obtain ⟨p, e1, e2⟩ := nilB_rel hb (hx a w M E hs)
          exact ⟨p, e1, e2, (hy a w M E hs).nilp_inv⟩
        split
        · refine .retV hd fun a w M E hs => ?_
          obtain ⟨p, e1, e2, e3⟩ := main a w M E hs
          exact ⟨_, run_bin ho a.eval w (fun v v' h h' => by rw [← h, ← h', e1, e3]; exact eqGuard_ptr w) (by rw [e1, e3, run_eql_pointer_nil w t p ht, e2]), .cell (.pure (.bool _))⟩
        · refine .retV hd fun a w M E hs => ?_
          obtain ⟨p, e1, e2, e3⟩ := main a w M E hs
          exact ⟨_, run_bin ho a.eval w (fun v v' h h' => by rw [← h, ← h', e1, e3]; exact eqGuard_ptr w) (by rw [e1, e3, run_neq_pointer_nil w t p ht, e2]), .cell (.pure (.bool _))⟩
        · exact .nil
      · exact .nil
    · exact .nil
  · exact .nil

theorem Sound.nilRow (hτ : TyOk C.P τ) {o : Oper} {an : List An} {op : BinOp} {t t' : TypeId} {x y : Operand} (ho : o.op = .binOp op t x y t') (hd : ∀ d, o.dst = some d → d < C.N) {u : AV} {i vr : Nat} (hx : Has C s x (.row i vr)) (hy : Has C s y u) : Sound C o s (evalNilRow τ s an t i vr u op) := by
  unfold evalNilRow
  split
  · rename_i hst
    obtain ⟨e, ht⟩ := isSlT_sound hτ hst
    split
    · split
      · rename_i r hr
        split
        · rename_i b an'
          split
          · rename_i hnl
            have main : (b = true ↔ r.xs = []) → ∀ (a : Act) (w : World) (M : Mem) (E : Env), St C.g C.N M E s a.tmps w → ∃ ad n c, a.eval x = .slice ad n c ∧ ad.isNone = b ∧ a.eval y = .slice none 0 0 := fun hb a w M E hs => by
              obtain ⟨q, he, hq, hok⟩ := row_cur hs (hx a w M E hs) hr
              refine ⟨_, _, _, he, ?_, (hy a w M E hs).nils_inv⟩
              have := hok.nl hnl
              rw [Bool.eq_iff_iff, hb, ← this]
              cases q.a <;> simp
            split
            · intro res hres hg _
              cases hres
              refine pureDoes hd fun a w M E hs => ?_
              obtain ⟨ad, n, c, e1, e2, e3⟩ := main hg.1 a w M E hs
              exact ⟨_, run_bin ho a.eval w (fun v v' h h' => by rw [← h, ← h', e1, e3]; exact eqGuard_sl w) (by rw [e1, e3]; simp only [binOp, Sem.run_bind, run_equal_slice_nil w t e ad n c ht, Result.andThen_ok, Sem.run_pure, e2]), .cell (.pure (.bool _))⟩
            · intro res hres hg _
              cases hres
              refine pureDoes hd fun a w M E hs => ?_
              obtain ⟨ad, n, c, e1, e2, e3⟩ := main hg.1 a w M E hs
              exact ⟨_, run_bin ho a.eval w (fun v v' h h' => by rw [← h, ← h', e1, e3]; exact eqGuard_sl w) (by rw [e1, e3]; simp only [binOp, Sem.run_bind, run_equal_slice_nil w t e ad n c ht, Result.andThen_ok, Sem.run_pure, e2]), .cell (.pure (.bool _))⟩
            · exact .nil
          · exact .nil
        · rename_i b an'
          have main : ∀ (a : Act) (w : World) (M : Mem) (E : Env), St C.g C.N M E s a.tmps w → ∃ ad n c, a.eval x = .slice ad n c ∧ (ad.isNone = true → r.xs = []) ∧ a.eval y = .slice none 0 0 := fun a w M E hs => by
            obtain ⟨q, he, hq, hok⟩ := row_cur hs (hx a w M E hs) hr
            refine ⟨_, _, _, he, fun hn => ?_, (hy a w M E hs).nils_inv⟩
            rcases hok.blk with hc | ⟨blk, vs, g1, _⟩
            · have h1 := hok.n
              have h2 := hok.nc
              exact List.eq_nil_of_length_eq_zero (by omega)
            · rw [g1] at hn; cases hn
          split
          · intro res hres hg _
            cases hres
            refine pureDoes hd fun a w M E hs => ?_
            obtain ⟨ad, n, c, e1, e2, e3⟩ := main a w M E hs
            exact ⟨_, run_bin ho a.eval w (fun v v' h h' => by rw [← h, ← h', e1, e3]; exact eqGuard_sl w) (by rw [e1, e3]; simp only [binOp, Sem.run_bind, run_equal_slice_nil w t e ad n c ht, Result.andThen_ok, Sem.run_pure]), .cell (.pure (.ub _ _ _ (fun h => hg.1 (e2 h)) (fun _ => rfl)))⟩
          · intro res hres hg _
            cases hres
            refine pureDoes hd fun a w M E hs => ?_
            obtain ⟨ad, n, c, e1, e2, e3⟩ := main a w M E hs
            exact ⟨.bool (!ad.isNone), run_bin ho a.eval w (fun v v' h h' => by rw [← h, ← h', e1, e3]; exact eqGuard_sl w) (by rw [e1, e3]; simp only [binOp, Sem.run_bind, run_equal_slice_nil w t e ad n c ht, Result.andThen_ok, Sem.run_pure]), .cell (.pure (.ub _ _ _ (fun _ => rfl) (fun h => hg.1 (e2 (by cases ad <;> simp_all)))))⟩
          · exact .nil
        · exact .nil
      · exact .nil
    · exact .nil
  · exact .nil

theorem Sound.nilSl (hτ : TyOk C.P τ) {o : Oper} {an : List An} {op : BinOp} {t t' : TypeId} {x y : Operand} (ho : o.op = .binOp op t x y t') (hd : ∀ d, o.dst = some d → d < C.N) {u : AV} {sz : Nat} {xs : List AV} (hx : Has C s x (.sl sz xs)) (hy : Has C s y u) : Sound C o s (evalNilSl τ an t xs u op) := by
  unfold evalNilSl
  split
  · rename_i hst
    obtain ⟨e, ht⟩ := isSlT_sound hτ hst
    split
    · split
      · rename_i b an'
        have main : ∀ (a : Act) (w : World) (M : Mem) (E : Env), St C.g C.N M E s a.tmps w → ∃ ad n c, a.eval x = .slice ad n c ∧ (ad.isNone = true → xs = []) ∧ a.eval y = .slice none 0 0 := fun a w M E hs => by
          obtain ⟨hp, ad, c, e1, _⟩ := (hx a w M E hs).sl_inv
          refine ⟨ad, _, c, e1, fun hn => ?_, (hy a w M E hs).nils_inv⟩
          rw [e1] at hp
          generalize xs.length = n at hp
          cases hp with
          | sl _ _ _ _ _ f hn' hc hb hz ha hf =>
            cases xs with
            | nil => rfl
            | cons z l =>
              obtain ⟨blk, off, e, _⟩ := ha (by simp)
              rw [e] at hn; cases hn
        split
        · refine .retG hd fun hg a w M E hs => ?_
          obtain ⟨ad, n, c, e1, e2, e3⟩ := main a w M E hs
          exact ⟨_, run_bin ho a.eval w (fun v v' h h' => by rw [← h, ← h', e1, e3]; exact eqGuard_sl w) (by rw [e1, e3]; simp only [binOp, Sem.run_bind, run_equal_slice_nil w t e ad n c ht, Result.andThen_ok, Sem.run_pure]), .cell (.pure (.ub _ _ _ (fun h => hg.1 (e2 h)) (fun _ => rfl)))⟩
        · refine .retG hd fun hg a w M E hs => ?_
          obtain ⟨ad, n, c, e1, e2, e3⟩ := main a w M E hs
          exact ⟨.bool (!ad.isNone), run_bin ho a.eval w (fun v v' h h' => by rw [← h, ← h', e1, e3]; exact eqGuard_sl w) (by rw [e1, e3]; simp only [binOp, Sem.run_bind, run_equal_slice_nil w t e ad n c ht, Result.andThen_ok, Sem.run_pure]), .cell (.pure (.ub _ _ _ (fun _ => rfl) (fun h => hg.1 (e2 (by cases ad <;> simp_all)))))⟩
        · exact .nil
      · exact .nil
    · exact .nil
  · exact .nil
theorem Sound.nilN (hτ : TyOk C.P τ) {o : Oper} {an : List An} {op : BinOp} {t t' : TypeId} {x y : Operand} (ho : o.op = .binOp op t x y t') (hd : ∀ d, o.dst = some d → d < C.N) {u : AV} (hx : Has C s x .nils) (hy : Has C s y u) : Sound C o s (evalNilN τ an t u op) := by
  unfold evalNilN
  split
  · rename_i hst
    obtain ⟨e, ht⟩ := isSlT_sound hτ hst
    split
    · split
      · refine .retV hd fun a w M E hs => ?_
        have e1 := (hx a w M E hs).nils_inv
        have e3 := (hy a w M E hs).nils_inv
        exact ⟨_, run_bin ho a.eval w (fun v v' h h' => by rw [← h, ← h', e1, e3]; exact eqGuard_sl w) (by rw [e1, e3]; simp only [binOp, Sem.run_bind, run_equal_slice_nil w t e none 0 0 ht, Result.andThen_ok, Sem.run_pure]; rfl), .cell (.pure (.bool _))⟩
      · refine .retV hd fun a w M E hs => ?_
        have e1 := (hx a w M E hs).nils_inv
        have e3 := (hy a w M E hs).nils_inv
        exact ⟨_, run_bin ho a.eval w (fun v v' h h' => by rw [← h, ← h', e1, e3]; exact eqGuard_sl w) (by rw [e1, e3]; simp only [binOp, Sem.run_bind, run_equal_slice_nil w t e none 0 0 ht, Result.andThen_ok, Sem.run_pure]; rfl), .cell (.pure (.bool _))⟩
      · exact .nil
    · exact .nil
  · exact .nil

/-- three bounds, that fit -/
theorem slice3_run {P : Program} (w : World) (t e : TypeId) (sz : Nat) (hun : P.underlying t = some (.slice e)) (hse : (sizeOf e).run P w = .ok sz w) (ad : Option Addr) (len cap : Nat) (a b m : Int) (h : 0 ≤ a ∧ a ≤ b ∧ b ≤ m ∧ m.toNat ≤ cap) :
    ∃ v, (Instr.slice t (.slice ad len cap) (some (.int .i64 a)) (some (.int .i64 b)) (some (.int .i64 m))).run P w = .ok v w := by
  obtain ⟨h1, h2, h3, h4⟩ := h
  have b1 : ∀ (n : Int) (y : Nat) (c : BoundsCode), 0 ≤ n → n ≤ (y : Int) → (Instr.sliceBound (.int .i64 n) y c).run P w = .ok n.toNat w := fun n y c h0 h1 => by
    simp [Instr.sliceBound, asIntOf, h0, h1]
  refine ⟨.slice (if m.toNat = a.toNat then ad else ad.map (·.add (a.toNat * sz))) (b.toNat - a.toNat) (m.toNat - a.toNat), ?_⟩
  simp only [Instr.slice, Sem.run_bind, run_underlying hun, Result.andThen_ok, Instr.sliceBounds, b1 m cap _ (by omega) (by omega), b1 b m.toNat _ (by omega) (by omega), b1 a b.toNat _ h1 (by omega), Sem.run_pure, hse]

theorem Sound.slice3 (hτ : TyOk C.P τ) {o : Oper} {an : List An} {t : TypeId} {x lo hi mx : Operand} (ho : o.op = .slice t x (some lo) (some hi) (some mx)) (hd : ∀ d, o.dst = some d → d < C.N) {a b m : Int} {u : AV}
    (hx : Has C s x u) (hlo : bound s (some lo) = some (some a)) (hhi : bound s (some hi) = some (some b)) (hmx : bound s (some mx) = some (some m)) (hwl : Done s lo) (hwh : Done s hi) (hwm : Done s mx)
    {e : TypeId} {sz : Nat} (hun : C.P.underlying t = some (.slice e)) (hse : ∀ w, (sizeOf e).run C.P w = .ok sz w) : Sound C o s (evalSlice3 s an a b m u) := by
  have main : ∀ (a' : Act) (w : World) (M : Mem) (E : Env), St C.g C.N M E s a'.tmps w → ∀ ad len cap, a'.eval x = .slice ad len cap → 0 ≤ a ∧ a ≤ b ∧ b ≤ m ∧ m.toNat ≤ cap → ∃ v, (execOp a'.eval o).run C.P w = .ok (.value v) w ∧ Rel M E v .any := by
    intro a' w M E hs ad len cap hev hh
    obtain ⟨v, hv⟩ := slice3_run (P := C.P) w t e sz hun (hse w) ad len cap a b m hh
    have e1 := bound_rel hlo (fun y hy => by cases hy; exact hwl) hs
    have e2 := bound_rel hhi (fun y hy => by cases hy; exact hwh) hs
    have e3 := bound_rel hmx (fun y hy => by cases hy; exact hwm) hs
    simp only [Option.map_some, Option.some.injEq] at e1 e2 e3
    refine ⟨v, ?_, .any _⟩
    simp only [execOp, ho, Instr.sliceAt, Sem.run_bind, run_underlying hun, Result.andThen_ok, Option.map_some, e1, e2, e3, hev]
    simp only [hv, Result.andThen_ok, Sem.run_pure]
  unfold evalSlice3
  split
  · rename_i sz' xs
    refine .retG hd fun hg a' w M E hs => ?_
    obtain ⟨_, ad, cp, hval, hle, _⟩ := (hx a' w M E hs).sl_inv
    obtain ⟨h1, h2, h3, h4⟩ := hg.1
    exact main a' w M E hs _ _ _ hval ⟨h1, h2, h3, by omega⟩
  · refine .retG hd fun hg a' w M E hs => ?_
    obtain ⟨h1, h2, h3, h4⟩ := hg.1
    exact main a' w M E hs _ _ _ (hx a' w M E hs).nils_inv ⟨h1, h2, h3, h4⟩
  · rename_i i vr
    split
    · rename_i r hr
      intro res hres hg _
      cases hres
      refine pureDoes hd fun a' w M E hs => ?_
      obtain ⟨q, he, hq, hok⟩ := row_cur hs (hx a' w M E hs) hr
      obtain ⟨h1, h2, h3, h4⟩ := hg.1
      have := hok.n
      have := hok.nc
      exact main a' w M E hs _ _ _ he ⟨h1, h2, h3, by omega⟩
    · exact .nil
  · exact .nil

end Go.Dm
