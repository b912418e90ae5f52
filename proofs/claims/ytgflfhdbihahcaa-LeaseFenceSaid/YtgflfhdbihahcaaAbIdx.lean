/- Indexes and cuts of sealed slices; strings. -/
import Derived.Test.YtgflfhdbihahcaaAbDrawE
namespace Go.Ab
open Go Go.RowKit
set_option linter.unusedSimpArgs false
set_option linter.unusedVariables false

variable {C : Cx} {k : List It} {s s' t : S} {τ : TyTab}

theorem flat_cons (x : AV) (xs : List AV) : flat (x :: xs) = x.cells ++ flat xs := by simp [flat]
theorem flat_append (xs ys : List AV) : flat (xs ++ ys) = flat xs ++ flat ys := by simp [flat]

theorem flat_len {sz : Nat} : ∀ {xs : List AV}, (∀ x ∈ xs, x.cells.length = sz) → (flat xs).length = xs.length * sz
  | [], _ => by simp [flat]
  | x :: xs, h => by
    rw [flat_cons, List.length_append, h x (by simp), flat_len fun y hy => h y (by simp [hy]), List.length_cons, Nat.succ_mul]
    omega

theorem flat_drop {sz : Nat} : ∀ {xs : List AV} (m : Nat), (∀ x ∈ xs, x.cells.length = sz) → flat (xs.drop m) = (flat xs).drop (m * sz)
  | xs, 0, _ => by simp
  | [], m + 1, _ => by simp [flat]
  | x :: xs, m + 1, h => by
    have hx := h x (by simp)
    rw [List.drop_succ_cons, flat_drop m fun y hy => h y (by simp [hy]), flat_cons, Nat.succ_mul, Nat.add_comm, ← List.drop_drop, ← hx]
    simp
theorem flat_take {sz : Nat} : ∀ {xs : List AV} (m : Nat), (∀ x ∈ xs, x.cells.length = sz) → flat (xs.take m) = (flat xs).take (m * sz)
  | xs, 0, _ => by simp [flat]
  | [], m + 1, _ => by simp [flat]
  | x :: xs, m + 1, h => by
    have hx := h x (by simp)
    rw [List.take_succ_cons, flat_cons, flat_take m fun y hy => h y (by simp [hy]), flat_cons, Nat.succ_mul, Nat.add_comm, ← hx, List.take_length_add_append]
theorem flat_at {sz : Nat} {xs : List AV} {m j : Nat} {u c : AV} (h : ∀ x ∈ xs, x.cells.length = sz) (hu : xs[m]? = some u) (hc : u.cells[j]? = some c) : (flat xs)[m * sz + j]? = some c := by
  have hlt := (List.getElem?_eq_some_iff.1 hu).1
  have hd := flat_drop m h
  rw [List.drop_eq_getElem_cons hlt, (List.getElem?_eq_some_iff.1 hu).2, flat_cons] at hd
  have hj := (List.getElem?_eq_some_iff.1 hc).1
  rw [← List.getElem?_drop, ← hd, List.getElem?_append_left hj]
  exact hc

theorem RelP.sl_at {M : Mem} {v : Value} {sz : Nat} {xs : List AV} (h : RelP M v (.sl sz xs)) {m : Nat} {u : AV} (hu : xs[m]? = some u) :
    ∃ blk off c, v = .slice (some ⟨blk, off, none⟩) xs.length c ∧ m < xs.length ∧ (u.cells.length = sz) ∧ RelP M (.pointer (some ⟨blk, off + m * sz, none⟩)) (.rp u) := by
  cases h with
  | sl a n c sz xs f hn hc hb hz ha hf =>
    have hlt := (List.getElem?_eq_some_iff.1 hu).1
    have hne : xs ≠ [] := by rintro rfl; simp at hlt
    have huz := hz u (List.mem_of_getElem? hu)
    obtain ⟨blk, off, rfl, hM⟩ := ha hne
    refine ⟨blk, off, c, by rw [hn], hlt, huz, .rp blk (off + m * sz) u (fun j => f (m * sz + j)) (fun j hj => ?_) (fun j c' hc' => ?_)⟩
    · have hcj : u.cells[j]? = some u.cells[j] := List.getElem?_eq_getElem hj
      have hfl := flat_at hz hu hcj
      have := hM (m * sz + j) (List.getElem?_eq_some_iff.1 hfl).1
      rw [← this]
      congr 1
      omega
    · exact hf (m * sz + j) c' (flat_at hz hu hc')

def elemSz (τ : TyTab) (t : TypeId) : Option Nat :=
  match τ t with
  | some ⟨.slice e, _, _, _⟩ => (τ e).map (·.sz)
  | _ => none

theorem elemSz_sound {P : Program} (hτ : TyOk P τ) {t : TypeId} {sz : Nat} (h : elemSz τ t = some sz) : ∃ e, P.underlying t = some (.slice e) ∧ ∀ w, (sizeOf e).run P w = .ok sz w := by
  unfold elemSz at h
  split at h
  · rename_i e sz' b z ht
    obtain ⟨i, hi, rfl⟩ := Option.map_eq_some_iff.1 h
    exact ⟨e, (hτ _ _ ht).kind, fun w => (hτ _ _ hi).sizeOf w⟩
  · cases h

theorem Does_index (hτ : TyOk C.P τ) {o : Oper} {t : TypeId} {x ix : Operand} (ho : o.op = .indexAddr t x ix) (hd : ∀ d, o.dst = some d → d < C.N) {sz : Nat} {xs : List AV} {kk : IntKind} {n : Int} {m : Nat} {u : AV}
    (hx : val s x = some (.sl sz xs)) (hi : val s ix = some (.int kk n)) (hsz : elemSz τ t = some sz) (hn : n = (m : Int)) (hu : xs[m]? = some u) : Does C o s (setD o.dst (.rp u) s) := by
  refine pureDoes hd fun a w M E hs => ?_
  obtain ⟨hP, _⟩ := (val_rel hs hx).sl_inv
  obtain ⟨blk, off, c, he, hlt, huz, hr⟩ := hP.sl_at hu
  have hi' := (val_rel hs hi).int_inv
  obtain ⟨e, hun, hse⟩ := elemSz_sound hτ hsz
  refine ⟨_, ?_, .cell (.pure hr)⟩
  subst hn
  have h1 : (m : Int) < (xs.length : Int) := by omega
  simp only [execOp, ho, Instr.indexAt, he, hi', asIntOf, Sem.run_bind, Sem.run_pure, Result.andThen_ok, run_underlying hun]
  simp [h1, hse, addr_add]

/-- a string's byte -/
theorem Does_strindex {o : Oper} {t : TypeId} {x ix : Operand} (ho : o.op = .index t x ix) (hd : ∀ d, o.dst = some d → d < C.N) (ht : C.P.underlying t = some .string) {bs : List UInt8} {kk : IntKind} {n : Int} {m : Nat} {b : UInt8}
    (hx : val s x = some (.str bs)) (hi : val s ix = some (.int kk n)) (hn : n = (m : Int)) (hu : bs[m]? = some b) : Does C o s (setD o.dst (.int .u8 b.toNat) s) := by
  refine pureDoes hd fun a w M E hs => ?_
  have he := (val_rel hs hx).str_inv
  have hi' := (val_rel hs hi).int_inv
  refine ⟨_, ?_, .cell (.pure (.int _ _))⟩
  subst hn
  have hlt := (List.getElem?_eq_some_iff.1 hu).1
  have hg : (ByteArray.mk bs.toArray)[m]? = some b := by
    have h1 : m < (ByteArray.mk bs.toArray).size := by simpa [ByteArray.size] using hlt
    rw [ByteArray.getElem?_lt' _ _ h1]
    congr 1
    have := (List.getElem?_eq_some_iff.1 hu).2
    show bs.toArray[m] = b
    simpa using this
  simp only [execOp, ho, Instr.index, he, hi', asIntOf, Sem.run_bind, Sem.run_pure, Result.andThen_ok, run_underlying ht]
  simp [hg]

theorem Ev_doesW (hτ : TyOk C.P τ) {all : List Oper} {o : Oper} {os : List Oper} (hw : wantedOk all s o.guard = some true) (h : (∀ d, o.dst = some d → d < C.N) → Does C o s s')
    (hE : (eval τ all os s').all (Ev C all k)) : Ev C all k (o :: os) s :=
  Ev_does (fun a w hx => wantedOk_sound hw a w hx) h (eval_sound hτ all os _ hE)

theorem Ev_index (hτ : TyOk C.P τ) {all os : List Oper} {dst : Option Nat} {t type : TypeId} {pos : String} {after : Array Edge} {gd : Option (Nat × Bool)} {x ix : Operand} {sz : Nat} {xs : List AV} {kk : IntKind} {n : Int} {m : Nat} {u : AV}
    (hw : wantedOk all s gd = some true) (hx : val s x = some (.sl sz xs)) (hi : val s ix = some (.int kk n)) (hsz : elemSz τ t = some sz) (hn : n = (m : Int)) (hu : xs[m]? = some u)
    (hE : (eval τ all os (setD dst (.rp u) s)).all (Ev C all k)) : Ev C all k (⟨dst, .indexAddr t x ix, type, pos, after, gd⟩ :: os) s :=
  Ev_doesW hτ hw (fun hd => Does_index hτ rfl hd hx hi hsz hn hu) hE

theorem EvD_val (hτ : TyOk C.P τ) {all : List Oper} {o : Oper} {os : List Oper} {pre : List (List Key × List Key)} {v : AV} {d : Nat} (ho : all.drop pre.length = o :: os) (hdst : o.dst = some d) (hw : wantedOk all s o.guard = some true)
    (h : ∀ s', (∀ x ∈ o.op.operands.toList, val s' x = val s x) → (∀ d, o.dst = some d → d < C.N) → Does C o s' (setD o.dst v s'))
    (hE : (evalD τ all os (setD (some d) v s) (pre ++ [(tmpKeys o.op.operands.toList ++ gdReads all o, [(0, d)])])).all (EvD C all k)) : EvD C all k (o :: os) s pre := by
  obtain ⟨h1, h2⟩ := drop_cons ho.symm
  refine EvD_step (R := tmpKeys o.op.operands.toList ++ gdReads all o) (e := ⟨some (d, v), none⟩) h1 (fun hd s' hag => ?_) (evalD_sound hτ all os _ _ (by rw [List.length_append]; exact h2) hE)
  obtain ⟨hd', _⟩ := dstOk_cons hd
  have hag2 : Agree (gdReads all o) s s' := hag.sub fun κ hκ => by simp [hκ]
  have hD := h s' (fun x hx => (val_agree hag (fun κ hκ => by simp [hκ]) x hx).symm) hd'
  rw [hdst] at hD
  exact OpOk_of_does h1 (by rw [← wantedOk_agree hag2]; exact hw) hD

theorem EvD_index (hτ : TyOk C.P τ) {all os : List Oper} {d : Nat} {t type : TypeId} {pos : String} {after : Array Edge} {gd : Option (Nat × Bool)} {x ix : Operand} {sz : Nat} {xs : List AV} {kk : IntKind} {n : Int} {m : Nat} {u : AV} {pre : List (List Key × List Key)}
    (ho : all.drop pre.length = ⟨some d, .indexAddr t x ix, type, pos, after, gd⟩ :: os) (hw : wantedOk all s gd = some true) (hx : val s x = some (.sl sz xs)) (hi : val s ix = some (.int kk n)) (hsz : elemSz τ t = some sz) (hn : n = (m : Int)) (hu : xs[m]? = some u)
    (hE : (evalD τ all os (setD (some d) (.rp u) s) (pre ++ [(tmpKeys [x, ix] ++ gdReads all ⟨some d, .indexAddr t x ix, type, pos, after, gd⟩, [(0, d)])])).all (EvD C all k)) : EvD C all k (⟨some d, .indexAddr t x ix, type, pos, after, gd⟩ :: os) s pre :=
  EvD_val hτ ho rfl hw (fun s' hs' hd => Does_index hτ rfl hd (by rw [hs' x (by simp [Op.operands])]; exact hx) (by rw [hs' ix (by simp [Op.operands])]; exact hi) hsz hn hu) hE

/-- a call -/
theorem Ev_c (hτ : TyOk C.P τ) {all : List Oper} {dst : Option Nat} {type : TypeId} {pos : String} {after : Array Edge} {gd : Option (Nat × Bool)} {os : List Oper} {f : FuncId} {ops : Array Operand} {tys : Array TypeId} {args : List AV} {r : AV}
    (hb : Bodied C.P f) (hw : wantedOk all s gd = some true) (hv : vals s ops.toList = some args) (hp : AV.okInL (fun _ => false) (fun _ => false) (fun _ => false) args = true) (h : APure C.P f args r)
    (hE : (eval τ all os (setD dst r s)).all (Ev C all k)) : Ev C all k (⟨dst, .call ⟨.value (.func f), ops, tys⟩, type, pos, after, gd⟩ :: os) s :=
  Ev_call (fun a w hx => wantedOk_sound hw a w hx) rfl rfl hb hv hp h (eval_sound hτ all os _ hE)
/-- a call that answers a bool -/
theorem Ev_b (hτ : TyOk C.P τ) {all : List Oper} {dst : Option Nat} {type : TypeId} {pos : String} {after : Array Edge} {gd : Option (Nat × Bool)} {os : List Oper} {f : FuncId} {ops : Array Operand} {tys : Array TypeId} {args : List AV} {b : Bool}
    (hb : Bodied C.P f) (hw : wantedOk all s gd = some true) (hv : vals s ops.toList = some args) (hp : AV.okInL (fun _ => false) (fun _ => false) (fun _ => false) args = true) (h : APure C.P f args (.bool b))
    (h1 : b = true → (eval τ all os (setD dst (.bool true) s)).all (Ev C all k)) (h2 : b = false → (eval τ all os (setD dst (.bool false) s)).all (Ev C all k)) : Ev C all k (⟨dst, .call ⟨.value (.func f), ops, tys⟩, type, pos, after, gd⟩ :: os) s := by
  cases b with
  | true => exact Ev_c hτ hb hw hv hp h (h1 rfl)
  | false => exact Ev_c hτ hb hw hv hp h (h2 rfl)
theorem EvD_b (hτ : TyOk C.P τ) {all : List Oper} {type : TypeId} {pos : String} {after : Array Edge} {gd : Option (Nat × Bool)} {os : List Oper} {pre : List (List Key × List Key)} {f : FuncId} {ops : Array Operand} {tys : Array TypeId} {args : List AV} {b : Bool} {d : Nat}
    (hb : Bodied C.P f) (ho : all.drop pre.length = ⟨some d, .call ⟨.value (.func f), ops, tys⟩, type, pos, after, gd⟩ :: os) (hw : wantedOk all s gd = some true) (hv : vals s ops.toList = some args)
    (hp : AV.okInL (fun _ => false) (fun _ => false) (fun _ => false) args = true) (h : APure C.P f args (.bool b))
    (h1 : b = true → (evalD τ all os (setD (some d) (.bool true) s) (pre ++ [(tmpKeys ops.toList ++ gdReads all ⟨some d, .call ⟨.value (.func f), ops, tys⟩, type, pos, after, gd⟩, [(0, d)])])).all (EvD C all k))
    (h2 : b = false → (evalD τ all os (setD (some d) (.bool false) s) (pre ++ [(tmpKeys ops.toList ++ gdReads all ⟨some d, .call ⟨.value (.func f), ops, tys⟩, type, pos, after, gd⟩, [(0, d)])])).all (EvD C all k)) :
    EvD C all k (⟨some d, .call ⟨.value (.func f), ops, tys⟩, type, pos, after, gd⟩ :: os) s pre := by
  cases b with
  | true => exact EvD_call hτ ho hw hb hv hp h (h1 rfl)
  | false => exact EvD_call hτ ho hw hb hv hp h (h2 rfl)
theorem EvD_c (hτ : TyOk C.P τ) {all : List Oper} {type : TypeId} {pos : String} {after : Array Edge} {gd : Option (Nat × Bool)} {os : List Oper} {pre : List (List Key × List Key)} {f : FuncId} {ops : Array Operand} {tys : Array TypeId} {args : List AV} {r : AV} {d : Nat}
    (hb : Bodied C.P f) (ho : all.drop pre.length = ⟨some d, .call ⟨.value (.func f), ops, tys⟩, type, pos, after, gd⟩ :: os) (hw : wantedOk all s gd = some true) (hv : vals s ops.toList = some args)
    (hp : AV.okInL (fun _ => false) (fun _ => false) (fun _ => false) args = true) (h : APure C.P f args r)
    (hE : (evalD τ all os (setD (some d) r s) (pre ++ [(tmpKeys ops.toList ++ gdReads all ⟨some d, .call ⟨.value (.func f), ops, tys⟩, type, pos, after, gd⟩, [(0, d)])])).all (EvD C all k)) :
    EvD C all k (⟨some d, .call ⟨.value (.func f), ops, tys⟩, type, pos, after, gd⟩ :: os) s pre := EvD_call hτ ho hw hb hv hp h hE

theorem map_at {α : Type} {f : α → AV} {l : List α} {m : Nat} (h : m < l.length) : (l.map f)[m]? = some (f l[m]) := by simp [h]

/-- what comes behind is hidden while straight code is evaluated -/
theorem T.all_k {J : List Oper → S → Prop} {t : T} (h : ∀ K : List Oper → S → Prop, (∀ os s, J os s → K os s) → t.all K) : t.all J := h J fun _ _ h => h
theorem TD.all_k {J : List Oper → S → List (List Key × List Key) → Prop} {t : TD} (h : ∀ K : List Oper → S → List (List Key × List Key) → Prop, (∀ os s p, J os s p → K os s p) → t.all K) : t.all J := h J fun _ _ _ h => h

/- heads of what is to be shown, for a quick look -/
theorem Wk_id {k : List It} (h : Wk C k s) : Wk C k s := h
theorem Wk_idR {id : Nat} {l : List Oper} {k : List It} (h : Wk C (.code (.region id l.toArray false) :: k) s) : Wk C (.code (.region id l.toArray false) :: k) s := h
theorem Wk_idD {id : Nat} {l : List Oper} {k : List It} (h : Wk C (.code (.region id l.toArray true) :: k) s) : Wk C (.code (.region id l.toArray true) :: k) s := h
theorem Wk_idC {o : Operand} {a b : Code} {k : List It} (h : Wk C (.code (.cond o a b) :: k) s) : Wk C (.code (.cond o a b) :: k) s := h
theorem Wk_idE {n : Nat} {k : List It} (h : Wk C (.code (.exit n) :: k) s) : Wk C (.code (.exit n) :: k) s := h
theorem Ev_idF (f : Nat) {all os : List Oper} {k : List It} {dst : Option Nat} {type : TypeId} {pos : String} {after : Array Edge} {gd : Option (Nat × Bool)} {ops : Array Operand} {tys : Array TypeId}
    (h : Ev C all k (⟨dst, .call ⟨.value (.func f), ops, tys⟩, type, pos, after, gd⟩ :: os) s) : Ev C all k (⟨dst, .call ⟨.value (.func f), ops, tys⟩, type, pos, after, gd⟩ :: os) s := h
theorem EvD_idF (f : Nat) {all os : List Oper} {k : List It} {dst : Option Nat} {type : TypeId} {pos : String} {after : Array Edge} {gd : Option (Nat × Bool)} {ops : Array Operand} {tys : Array TypeId} {pre : List (List Key × List Key)}
    (h : EvD C all k (⟨dst, .call ⟨.value (.func f), ops, tys⟩, type, pos, after, gd⟩ :: os) s pre) : EvD C all k (⟨dst, .call ⟨.value (.func f), ops, tys⟩, type, pos, after, gd⟩ :: os) s pre := h
theorem Ev_idI {all os : List Oper} {k : List It} {dst : Option Nat} {t type : TypeId} {pos : String} {after : Array Edge} {gd : Option (Nat × Bool)} {x ix : Operand}
    (h : Ev C all k (⟨dst, .indexAddr t x ix, type, pos, after, gd⟩ :: os) s) : Ev C all k (⟨dst, .indexAddr t x ix, type, pos, after, gd⟩ :: os) s := h
theorem EvD_idI {all os : List Oper} {k : List It} {dst : Option Nat} {t type : TypeId} {pos : String} {after : Array Edge} {gd : Option (Nat × Bool)} {x ix : Operand} {pre : List (List Key × List Key)}
    (h : EvD C all k (⟨dst, .indexAddr t x ix, type, pos, after, gd⟩ :: os) s pre) : EvD C all k (⟨dst, .indexAddr t x ix, type, pos, after, gd⟩ :: os) s pre := h
theorem Ev_idN {all : List Oper} {k : List It} (h : Ev C all k [] s) : Ev C all k [] s := h
theorem EvD_idN {all : List Oper} {k : List It} {pre : List (List Key × List Key)} (h : EvD C all k [] s pre) : EvD C all k [] s pre := h

end Go.Ab
