/- The evaluator is sound: operations that make no memory. -/
import Derived.Test.YtgflfhdbihahcaaAbEval
namespace Go.Ab
open Go
set_option linter.unusedSimpArgs false
set_option linter.unusedVariables false

section inv
variable {M : Mem} {E : Env} {v : Value}
theorem Rel.int_inv {k : IntKind} {n : Int} (h : Rel M E v (.int k n)) : v = .int k n := by
  cases h with
  | cell h => cases h with
    | pure h => cases h; rfl
theorem Rel.str_inv {x : List UInt8} (h : Rel M E v (.str x)) : v = .string ⟨x.toArray⟩ := by
  cases h with
  | cell h => cases h with
    | pure h => cases h; rfl
theorem Rel.nils_inv (h : Rel M E v .nils) : v = .slice none 0 0 := by
  cases h with
  | cell h => cases h with
    | pure h => cases h; rfl
theorem Rel.sl_inv {sz : Nat} {xs : List AV} (h : Rel M E v (.sl sz xs)) : RelP M v (.sl sz xs) ∧ ∃ a c, v = .slice a xs.length c ∧ xs.length ≤ c ∧ c ≤ maxLen := by
  cases h with
  | cell h => cases h with
    | pure h =>
      refine ⟨h, ?_⟩
      cases h with
      | sl a n c sz xs f hn hc hb hz ha hf => exact ⟨a, c, by rw [hn], by omega, hb⟩
theorem Rel.ptr_inv {i o : Nat} (h : Rel M E v (.ptr i o)) : ∃ b, E.bx i = some b ∧ v = .pointer (some ⟨b, o, none⟩) := by
  cases h with
  | cell h => cases h with
    | pure h => cases h
    | ptr i off b h => exact ⟨b, h, rfl⟩
theorem Rel.rp_inv {x : AV} (h : Rel M E v (.rp x)) : ∃ blk off, v = .pointer (some ⟨blk, off, none⟩) ∧
    ∃ f : Nat → Value, (∀ j, j < x.cells.length → M blk (off + j) = some (f j)) ∧ ∀ (j : Nat) (u : AV), x.cells[j]? = some u → RelP M (f j) u := by
  cases h with
  | cell h => cases h with
    | pure h => cases h with
      | rp blk off x f ha hf => exact ⟨blk, off, rfl, f, ha, hf⟩
theorem Rel.ep_inv {i z k o : Nat} (h : Rel M E v (.ep i z k o)) : RelS M E v (.ep i z k o) ∧ ∃ ad, v = .pointer (some ad) := by
  cases h with
  | cell h =>
    refine ⟨h, ?_⟩
    cases h with
    | pure h => cases h
    | ep i st k off ad q h hs hv => exact ⟨ad, rfl⟩
theorem Rel.agg_inv {cs : List AV} (h : Rel M E v (.agg cs)) : ∃ vs : List Value, v = .agg vs.toArray ∧ vs.length = cs.length ∧
    ∀ (j : Nat) (v : Value) (c : AV), vs[j]? = some v → cs[j]? = some c → RelS M E v c := by
  cases h with
  | cell h => cases h with
    | pure h => cases h
  | agg vs cs hl h => exact ⟨vs, rfl, hl, h⟩
theorem Rel.tup_inv {cs : List AV} (h : Rel M E v (.tup cs)) : ∃ vs : List Value, v = .tuple vs.toArray ∧ vs.length = cs.length ∧
    ∀ (j : Nat) (v : Value) (c : AV), vs[j]? = some v → cs[j]? = some c → Rel M E v c := by
  cases h with
  | cell h => cases h with
    | pure h => cases h
  | tup vs cs hl h => exact ⟨vs, rfl, hl, h⟩
theorem Rel.row_inv {i st : Nat} (h : Rel M E v (.row i st)) : ∃ n c a q, v = .slice a n c ∧ E.rw i = some q ∧ st ≤ q.st ∧ (st = q.st → a = q.a ∧ n = q.n ∧ c = q.c) := by
  cases h with
  | cell h => cases h with
    | pure h => cases h
    | row i st n c a q h hs hv => exact ⟨n, c, a, q, rfl, h, hs, hv⟩
theorem Rel.rowv_inv {i st off n : Nat} (h : Rel M E v (.rowv i st off n)) : ∃ c a q, v = .slice a n c ∧ E.rw i = some q ∧ st ≤ q.st ∧ (st = q.st → a = viewA q off ∧ off + c = q.c ∧ n ≤ c) := by
  cases h with
  | cell h => cases h with
    | pure h => cases h
    | rowv i st off n c a q h hs hv => exact ⟨c, a, q, rfl, h, hs, hv⟩
theorem Rel.of_cell {x : AV} (h : Rel M E v x) (hx : x.isCell = true) : RelS M E v x := by
  cases h with
  | cell h => exact h
  | _ => simp [AV.isCell] at hx
end inv

theorem nth_eq {α : Type} (l : List α) (n : Nat) : nth l n = l[n]? := by
  induction l generalizing n with
  | nil => simp [nth]
  | cons x l ih => cases n with
    | zero => simp [nth]
    | succ n => simp [nth, ih]

theorem ofConst_rel {M : Mem} {E : Env} {v : Value} {x : AV} (h : ofConst v = some x) : Rel M E v x := by
  unfold ofConst at h
  split at h
  all_goals first | (cases h; done) | (cases h; refine .cell (.pure ?_))
  · exact .int _ _
  · exact .bool _
  · rename_i s
    have : (Value.string s) = .string ⟨s.data.toList.toArray⟩ := by simp
    rw [this]; exact .str _
  · exact .nils
  · exact .nilp
  · exact .nilfn
  · exact .nilmp

variable {C : Cx} {k : List It} {s : S} {τ : TyTab}

theorem val_rel {M : Mem} {E : Env} {a : Act} {w : World} (hs : St C.g C.N M E s a.tmps w) {x : Operand} {v : AV} (h : val s x = some v) : Rel M E (a.eval x) v := by
  cases x with
  | tmp i => exact (hs.fr i v h).2
  | const c => exact ofConst_rel h
  | func f =>
    simp only [val, Option.some.injEq] at h
    subst h
    exact .cell (.fn f [] [] rfl (by simp))
  | global g => simp [val] at h

theorem St.setD {M : Mem} {E : Env} {a : Act} {w : World} (hs : St C.g C.N M E s a.tmps w) {d : Option Nat} (hd : ∀ i, d = some i → i < C.N) {v : Value} {x : AV}
    (h : Rel M E v x) : St C.g C.N M E (setD d x s) (a.put d v).tmps w := by
  cases d with
  | none => exact hs
  | some d =>
    refine { hs with size := by simpa [Act.put] using hs.size, fr := fun i av hi => ?_ }
    simp only [Ab.setD, get_put] at hi
    simp only [Act.put, Array.getD_eq_getD_getElem?]
    split at hi
    · rename_i e; subst e
      cases hi
      refine ⟨hd _ rfl, ?_⟩
      rw [Array.getElem?_setIfInBounds_self_of_lt (by rw [hs.size]; exact hd _ rfl)]
      exact h
    · rename_i hne
      obtain ⟨h1, h2⟩ := hs.fr i av hi
      rw [Array.getElem?_setIfInBounds_ne (fun e => hne e.symm)]
      rw [Array.getD_eq_getD_getElem?] at h2
      exact ⟨h1, h2⟩

theorem defers_put (a : Act) (d : Option Nat) (v : Value) : (a.put d v).defers = a.defers := by cases d <;> rfl

theorem pureDoes {o : Oper} {x : AV} (hd : ∀ d, o.dst = some d → d < C.N)
    (h : ∀ (a : Act) (w : World) (M : Mem) (E : Env), St C.g C.N M E s a.tmps w → ∃ v, (execOp a.eval o).run C.P w = .ok (.value v) w ∧ Rel M E v x) : Does C o s (setD o.dst x s) := by
  intro a w ⟨hdf, M, E, hs⟩
  obtain ⟨v, hrun, hr⟩ := h a w M E hs
  exact ⟨v, w, .inl hrun, by rw [defers_put]; exact hdf, M, E, hs.setD hd hr⟩

/-- what an operation's tree says, as one way -/
def Sound (C : Cx) (o : Oper) (s : S) (t : T) : Prop :=
  ∀ X : S → Prop, t.all (fun _ s' => X s') → ∃ s', X s' ∧ Does C o s s'

theorem Sound.stop {o : Oper} : Sound C o s .stop := fun _ h => h.elim
theorem Sound.leaf {o : Oper} {os : List Oper} {s' : S} (h : Does C o s s') : Sound C o s (.leaf os s') := fun _ hX => ⟨s', hX, h⟩
theorem Sound.guard {o : Oper} {p : Prop} {t : T} (h : p → Sound C o s t) : Sound C o s (.guard p t) := fun X hX => h hX.1 X hX.2
theorem Sound.dec {o : Oper} {p : Prop} {t u : T} (h : p → Sound C o s t) (h' : ¬ p → Sound C o s u) : Sound C o s (T.dec p t u) := by
  by_cases hp : p
  · rw [T.dec_pos hp]; exact h hp
  · rw [T.dec_neg hp]; exact h' hp
open Classical in
theorem Sound.split {o : Oper} {p : Prop} {t u : T} (h : p → Sound C o s t) (h' : ¬ p → Sound C o s u) : Sound C o s (.split p t u) := fun X hX =>
  if hp : p then h hp X (hX.1 hp) else h' hp X (hX.2 hp)
theorem Sound.ret1 {o : Oper} {x : Option AV} (hd : ∀ d, o.dst = some d → d < C.N)
    (h : ∀ v, x = some v → ∀ (a : Act) (w : World) (M : Mem) (E : Env), St C.g C.N M E s a.tmps w → ∃ u, (execOp a.eval o).run C.P w = .ok (.value u) w ∧ Rel M E u v) : Sound C o s (Ab.ret1 o.dst s x) := by
  cases x with
  | none => exact .stop
  | some v => exact .leaf (pureDoes hd (h v rfl))
theorem Sound.op1 {o : Oper} {x : Option AV} {f : AV → T} (h : ∀ v, x = some v → Sound C o s (f v)) : Sound C o s (evalOp1 x f) := by
  cases x with
  | none => exact .stop
  | some v => exact h v rfl
theorem Sound.op2 {o : Oper} {x y : Option AV} {f : AV → AV → T} (h : ∀ v u, x = some v → y = some u → Sound C o s (f v u)) : Sound C o s (evalOp2 x y f) := by
  cases x with
  | none => exact .stop
  | some v => cases y with
    | none => exact .stop
    | some u => exact h v u rfl rfl

theorem run_move {P : Program} {o : Oper} {x : Operand} (ho : o.op = .move x ∨ o.op = .assign x) (ρ : Operand → Value) (w : World) : (execOp ρ o).run P w = .ok (.value (ρ x)) w := by
  rcases ho with ho | ho <;> simp [execOp, ho]

theorem run_bin {P : Program} {o : Oper} {op : BinOp} {t t' : TypeId} {x y : Operand} (ho : o.op = .binOp op t x y t') (ρ : Operand → Value) (w : World)
    {u : Value} (hg : ∀ v v', ρ x = v → ρ y = v' → (eqGuard op t x y v v').run P w = .ok () w) (h : (binOp op t (ρ x) (ρ y)).run P w = .ok u w) : (execOp ρ o).run P w = .ok (.value u) w := by
  unfold execOp
  simp only [ho, Sem.run_bind, hg _ _ rfl rfl, Result.andThen_ok, h, Sem.run_pure]

theorem eqGuard_int {P : Program} {op : BinOp} {t : TypeId} {x y : Operand} {k k' : IntKind} {a b : Int} (w : World) : (eqGuard op t x y (.int k a) (.int k' b)).run P w = .ok () w := by
  cases op <;> simp [eqGuard]
theorem eqGuard_str {P : Program} {op : BinOp} {t : TypeId} {x y : Operand} {a b : ByteArray} (w : World) : (eqGuard op t x y (.string a) (.string b)).run P w = .ok () w := by
  cases op <;> simp [eqGuard]
theorem eqGuard_bool {P : Program} {op : BinOp} {t : TypeId} {x y : Operand} {a b : Bool} (w : World) : (eqGuard op t x y (.bool a) (.bool b)).run P w = .ok () w := by
  cases op <;> simp [eqGuard]

theorem Sound.bool {o : Oper} {p : Prop} (hd : ∀ d, o.dst = some d → d < C.N)
    (h : ∀ b : Bool, (b = true ↔ p) → ∀ (a : Act) (w : World) (M : Mem) (E : Env), St C.g C.N M E s a.tmps w → (execOp a.eval o).run C.P w = .ok (.value (.bool b)) w) : Sound C o s (ret2 o.dst s p) := by
  refine .dec (fun hp => .leaf (pureDoes hd fun a w M E hs => ⟨_, h true (by simp [hp]) a w M E hs, .cell (.pure (.bool _))⟩))
    (fun hp => .leaf (pureDoes hd fun a w M E hs => ⟨_, h false (by simp [hp]) a w M E hs, .cell (.pure (.bool _))⟩))
theorem Sound.boolN {o : Oper} {p : Prop} (hd : ∀ d, o.dst = some d → d < C.N)
    (h : ∀ b : Bool, (b = true ↔ ¬ p) → ∀ (a : Act) (w : World) (M : Mem) (E : Env), St C.g C.N M E s a.tmps w → (execOp a.eval o).run C.P w = .ok (.value (.bool b)) w) :
    Sound C o s (T.dec p (.leaf [] (Ab.setD o.dst (.bool false) s)) (.leaf [] (Ab.setD o.dst (.bool true) s))) := by
  refine .dec (fun hp => .leaf (pureDoes hd fun a w M E hs => ⟨_, h false (by simp [hp]) a w M E hs, .cell (.pure (.bool _))⟩))
    (fun hp => .leaf (pureDoes hd fun a w M E hs => ⟨_, h true (by simp [hp]) a w M E hs, .cell (.pure (.bool _))⟩))

theorem bytesLess_total : ∀ x y : List UInt8, (Op.bytesLess x y || x == y) = !Op.bytesLess y x
  | [], [] => by simp [Op.bytesLess]
  | [], _ :: _ => by simp [Op.bytesLess]
  | _ :: _, [] => by simp [Op.bytesLess]
  | a :: x, b :: y => by
    have ih := bytesLess_total x y
    simp only [Op.bytesLess, List.cons_beq_cons]
    rcases Nat.lt_trichotomy a.toNat b.toNat with h | h | h
    · have h1 : a < b := UInt8.lt_iff_toNat_lt.2 h
      have h2 : ¬ b < a := fun e => by have := UInt8.lt_iff_toNat_lt.1 e; omega
      have h3 : a ≠ b := fun e => by subst e; omega
      simp [h1, h2, h3, Ne.symm h3]
    · have h3 : a = b := UInt8.toNat.inj h
      subst h3
      have h2 : ¬ a < a := fun e => by have := UInt8.lt_iff_toNat_lt.1 e; omega
      simp [h2, ih]
    · have h1 : b < a := UInt8.lt_iff_toNat_lt.2 h
      have h2 : ¬ a < b := fun e => by have := UInt8.lt_iff_toNat_lt.1 e; omega
      have h3 : a ≠ b := fun e => by subst e; omega
      simp [h1, h2, h3]

theorem Sound.bin (hτ : TyOk C.P τ) {o : Oper} {op : BinOp} {t t' : TypeId} {x y : Operand} (ho : o.op = .binOp op t x y t') (hd : ∀ d, o.dst = some d → d < C.N)
    {u v : AV} (hx : val s x = some u) (hy : val s y = some v)
    (hagg : ∀ cs ds, u = .agg cs → v = .agg ds → Sound C o s (evalAgg τ o.dst s t cs ds op)) : Sound C o s (evalBin τ o.dst s t op u v) := by
  unfold evalBin
  split
  · rename_i k a k' b
    have hax : ∀ (a' : Act) w M E, St C.g C.N M E s a'.tmps w → a'.eval x = .int k a := fun a' w M E hs => (val_rel hs hx).int_inv
    have hay : ∀ (a' : Act) w M E, St C.g C.N M E s a'.tmps w → a'.eval y = .int k' b := fun a' w M E hs => (val_rel hs hy).int_inv
    have run : ∀ (u : Value), (∀ w, (binOp op t (.int k a) (.int k' b)).run C.P w = .ok u w) → ∀ (a' : Act) w M E, St C.g C.N M E s a'.tmps w → (execOp a'.eval o).run C.P w = .ok (.value u) w := by
      intro u h a' w M E hs
      refine run_bin ho a'.eval w (fun v v' e e' => ?_) ?_
      · rw [← e, ← e', hax a' w M E hs, hay a' w M E hs]; exact eqGuard_int w
      · rw [hax a' w M E hs, hay a' w M E hs]; exact h w
    split
    · rename_i hsh
      cases op <;> simp [isShift] at hsh
      · simp only [evalShift]
        refine .guard fun hb => .ret1 hd fun v hv a' w M E hs => ?_
        cases hv
        exact ⟨_, run _ (fun w => by simp [binOp, Op.shift, show ¬ b < 0 by omega]) a' w M E hs, .cell (.pure (.int _ _))⟩
      · simp only [evalShift]
        refine .guard fun hb => .ret1 hd fun v hv a' w M E hs => ?_
        cases hv
        exact ⟨_, run _ (fun w => by simp [binOp, Op.shift, show ¬ b < 0 by omega]) a' w M E hs, .cell (.pure (.int _ _))⟩
    · rename_i hsh
      split
      · rename_i hk
        subst hk
        cases op <;> first | exact .stop | (simp [isShift] at hsh; done) | skip
        all_goals simp only [evalInt]
        all_goals first
          | (refine .ret1 hd fun v hv a' w M E hs => ?_
             cases hv
             refine ⟨_, run _ (fun w => ?_) a' w M E hs, .cell (.pure (.int _ _))⟩
             simp [binOp, Op.intArith, Op.intBits, bitsOp]; done)
          | (refine .guard fun hb => .ret1 hd fun v hv a' w M E hs => ?_
             cases hv
             refine ⟨_, run _ (fun w => ?_) a' w M E hs, .cell (.pure (.int _ _))⟩
             simp [binOp, Op.intDiv, hb]; done)
          | (refine .bool hd fun bb hbb a' w M E hs => run _ (fun w => ?_) a' w M E hs
             simp [binOp, Op.intCmp]
             first | (rw [Bool.eq_iff_iff]; simp [hbb]; done) | (rw [Bool.eq_iff_iff, hbb]; simp; done))
          | (refine .boolN hd fun bb hbb a' w M E hs => run _ (fun w => ?_) a' w M E hs
             simp [binOp, Op.intCmp]
             rw [Bool.eq_iff_iff, hbb]; simp; done)
      · exact .stop
  · rename_i x' y'
    have hax : ∀ (a' : Act) w M E, St C.g C.N M E s a'.tmps w → a'.eval x = .string ⟨x'.toArray⟩ := fun a' w M E hs => (val_rel hs hx).str_inv
    have hay : ∀ (a' : Act) w M E, St C.g C.N M E s a'.tmps w → a'.eval y = .string ⟨y'.toArray⟩ := fun a' w M E hs => (val_rel hs hy).str_inv
    have run : ∀ (u : Value), (∀ w, (Op.stringOp op ⟨x'.toArray⟩ ⟨y'.toArray⟩).run C.P w = .ok u w) → ∀ (a' : Act) w M E, St C.g C.N M E s a'.tmps w → (execOp a'.eval o).run C.P w = .ok (.value u) w := by
      intro u h a' w M E hs
      refine run_bin ho a'.eval w (fun v v' e e' => ?_) ?_
      · rw [← e, ← e', hax a' w M E hs, hay a' w M E hs]; exact eqGuard_str w
      · rw [hax a' w M E hs, hay a' w M E hs]
        have := h w
        cases op <;> exact this
    have tl : ∀ l : List UInt8, (ByteArray.mk l.toArray).toList = l := fun l => by rw [ByteArray.toList_eq]
    cases op <;> simp only [evalStr]
    all_goals first | exact .stop | skip
    · refine .guard fun hl => .ret1 hd fun v hv a' w M E hs => ?_
      cases hv
      refine ⟨.string ⟨(x' ++ y').toArray⟩, run _ (fun w => ?_) a' w M E hs, .cell (.pure (.str _))⟩
      have hn : ¬ (((ByteArray.mk x'.toArray).size + (ByteArray.mk y'.toArray).size : Nat) : Int) > IntKind.i64.max := by
        have : IntKind.i64.max = 9223372036854775807 := rfl
        rw [this]
        simp only [ByteArray.size, List.size_toArray]
        omega
      have happ : (ByteArray.mk x'.toArray) ++ (ByteArray.mk y'.toArray) = ByteArray.mk (x' ++ y').toArray := by
        apply ByteArray.ext
        simp
      unfold Op.stringOp
      simp only [if_neg hn, Sem.run_pure, happ]
    all_goals first
      | (refine .bool hd fun bb hbb a' w M E hs => run _ (fun w => ?_) a' w M E hs
         simp only [Op.stringOp, tl, Sem.run_pure, bytesLess_total]
         congr 2
         rw [Bool.eq_iff_iff, hbb]
         try simp
         done)
      | (refine .boolN hd fun bb hbb a' w M E hs => run _ (fun w => ?_) a' w M E hs
         simp only [Op.stringOp, tl, Sem.run_pure, bytesLess_total]
         congr 2
         rw [Bool.eq_iff_iff, hbb]
         try simp
         done)
  · rename_i x' y'
    have hax : ∀ (a' : Act) w M E, St C.g C.N M E s a'.tmps w → a'.eval x = .bool x' := fun a' w M E hs => (val_rel hs hx).bool_inv
    have hay : ∀ (a' : Act) w M E, St C.g C.N M E s a'.tmps w → a'.eval y = .bool y' := fun a' w M E hs => (val_rel hs hy).bool_inv
    have ht : isBoolT τ t = true → C.P.underlying t = some .bool := by
      intro h
      unfold isBoolT at h
      split at h
      · rename_i h'; exact (hτ t _ h').kind
      · cases h
    cases op <;> simp only [evalBool]
    all_goals first | exact .stop | skip
    all_goals
      split
      · rename_i hb
        refine .ret1 hd fun v hv a' w M E hs => ?_
        cases hv
        refine ⟨_, run_bin ho a'.eval w (fun v v' e e' => ?_) ?_, .cell (.pure (.bool _))⟩
        · rw [← e, ← e', hax a' w M E hs, hay a' w M E hs]; exact eqGuard_bool w
        · rw [hax a' w M E hs, hay a' w M E hs]
          simp [binOp, Op.equal, Op.maxDepth, run_equalIn_bool _ _ _ _ _ (ht hb)]
          try (cases x' <;> cases y' <;> rfl)
      · exact .stop
  · exact hagg _ _ rfl rfl
  · exact .stop

end Go.Ab
