/- The evaluator is sound: numbers, texts, bools, structs. -/
import Derived.Test.YtipeimcdjijkgaaEm9
namespace Go.Dm
open Go Go.RowKit
set_option linter.unnecessarySimpa false
set_option linter.constructorNameAsVariable false
set_option linter.unusedSectionVars false
set_option linter.unusedSimpArgs false
set_option linter.unusedVariables false

variable {C : Cx} {k : List It} {s : S} {τ : TyTab}

/-- one operation, from a state to a state -/
def Does (C : Cx) (o : Oper) (s s' : S) : Prop :=
  ∀ a w, H C.g C.N s a w → ∃ v w', ((execOp a.eval o).run C.P w = .ok (.value v) w' ∨ ((execOp a.eval o).run C.P w = .ok .skip w' ∧ v = undef)) ∧ H C.g C.N s' (a.put o.dst v) w'

def AllP : List Prop → Prop
  | [] => True
  | p :: l => p ∧ AllP l
theorem AllP_append : ∀ {a b : List Prop}, AllP (a ++ b) ↔ AllP a ∧ AllP b
  | [], b => by simp [AllP]
  | p :: a, b => by simp [AllP, AllP_append (a := a), and_assoc]
theorem AllP_mem : ∀ {l : List Prop} {p : Prop}, AllP l → p ∈ l → p
  | q :: l, p, h, hp => by
    rcases List.mem_cons.1 hp with rfl | hp
    · exact h.1
    · exact AllP_mem h.2 hp

theorem nth_eq {α : Type} (l : List α) (n : Nat) : nth l n = l[n]? := by
  induction l generalizing n with
  | nil => rfl
  | cons x l ih => cases n with
    | zero => rfl
    | succ n => simp only [nth, List.getElem?_cons_succ]; exact ih n

theorem ofConst_rel {M : Mem} {E : Env} {v : Value} {x : AV} (h : ofConst v = some x) : Rel M E v x := by
  unfold ofConst at h
  split at h <;> cases h
  · exact .cell (.pure (.int _ _))
  · exact .cell (.pure (.bool _))
  · rename_i b
    have : (Value.string b) = .string ⟨b.data.toList.toArray⟩ := by simp
    rw [this]; exact .cell (.pure (.str _))
  · exact .cell (.pure .nils)
  · exact .cell (.pure .nilp)
  · exact .cell (.pure .nilfn)
  · exact .cell (.pure .nilmp)

theorem val_rel {M : Mem} {E : Env} {a : Act} {w : World} (hs : St C.g C.N M E s a.tmps w) {x : Operand} {v : AV} (h : val s x = some v) : Rel M E (a.eval x) v := by
  cases x with
  | tmp i => exact (hs.fr i v h).2
  | const c => exact ofConst_rel h
  | func f =>
    simp only [val, Option.some.injEq] at h
    subst h
    exact .cell (.fn f [] [] rfl (by simp))
  | global g => simp [val] at h

/-- all pairs are of the same -/
def AllE : List (Bool × Bool) → Prop
  | [] => True
  | (a, b) :: l => a = b ∧ AllE l
theorem AllE_append : ∀ {a b : List (Bool × Bool)}, AllE (a ++ b) ↔ AllE a ∧ AllE b
  | [], b => by simp [AllE]
  | (x, y) :: a, b => by simp [AllE, AllE_append (a := a), and_assoc]

theorem findA_true {d : Nat} {c : Bool} : ∀ {A : List (Nat × Bool)}, findA d A = some c → allB A = true → c = true
  | (e, c') :: A, h, hA => by
    simp only [allB, Bool.and_eq_true] at hA
    simp only [findA] at h
    split at h
    · cases h; exact hA.1
    · exact findA_true h hA.2
theorem matchA_true {A : List (Nat × Bool)} (hA : allB A = true) : ∀ {cs : List (Nat × Bool)} {e : List (Bool × Bool)}, matchA A cs = some e → AllE e → allB cs = true
  | [], e, _, _ => rfl
  | (d, c) :: cs, e, h, he => by
    simp only [matchA] at h
    split at h
    · rename_i c' hc
      split at h
      · rename_i r hr
        cases h
        simp only [allB, Bool.and_eq_true]
        exact ⟨by rw [← he.1]; exact findA_true hc hA, matchA_true hA hr he.2⟩
      · cases h
    · cases h

/-- an operand has been worked out -/
def Done (s : S) (x : Operand) : Prop := ∀ cs u, val s x = some (.when cs u) → allB cs = true

theorem whenOf_done {A : List (Nat × Bool)} (hA : allB A = true) {x : Operand} {e : List (Bool × Bool)} (h : whenOf A s x = some e) (he : AllE e) : Done s x := by
  intro cs u hv
  unfold whenOf at h
  rw [hv] at h
  exact matchA_true hA h he
theorem obs_done {A : List (Nat × Bool)} (hA : allB A = true) : ∀ {l : List Operand} {e : List (Bool × Bool)}, obs A s l = some e → AllE e → ∀ x ∈ l, Done s x
  | [], _, _, _, x, hx => by cases hx
  | y :: l, e, h, he, x, hx => by
    simp only [obs] at h
    split at h
    · rename_i e1 h1
      split at h
      · rename_i e2 h2
        cases h
        obtain ⟨g1, g2⟩ := AllE_append.1 he
        rcases List.mem_cons.1 hx with rfl | hx
        · exact whenOf_done hA h1 g1
        · exact obs_done hA h2 g2 x hx
      · cases h
    · cases h

theorem valW_rel {M : Mem} {E : Env} {a : Act} {w : World} (hs : St C.g C.N M E s a.tmps w) {x : Operand} {v : AV} (h : valW s x = some v) (hw : Done s x) : Rel M E (a.eval x) v := by
  unfold valW at h
  cases hv : val s x with
  | none => rw [hv] at h; cases h
  | some u =>
    rw [hv] at h
    have hr := val_rel hs hv
    cases u <;> first | (cases h; exact hr) | skip
    rename_i c y
    cases h
    exact hr.when_inv (hw _ _ hv)

theorem pureDoes {o : Oper} {x : AV} (hd : ∀ d, o.dst = some d → d < C.N)
    (h : ∀ (a : Act) (w : World) (M : Mem) (E : Env), St C.g C.N M E s a.tmps w → ∃ v, (execOp a.eval o).run C.P w = .ok (.value v) w ∧ Rel M E v x) : Does C o s ((⟨some x, [], [], [], []⟩ : Eff).app o.dst s) := by
  intro a w ⟨hdf, M, E, hs, hp0⟩
  obtain ⟨v, hrun, hr⟩ := h a w M E hs
  refine ⟨v, w, .inl hrun, by rw [defers_put]; exact hdf, M, E, ?_, hp0⟩
  cases hdd : o.dst with
  | none => exact hs
  | some d => exact hs.putS (hd d hdd) hr

/-- what an operation is said to do, and what must be shown for it -/
def Sound (C : Cx) (o : Oper) (s : S) (r : Option Res) : Prop := ∀ res, r = some res → AllP res.gs → AllE res.eq → Does C o s (res.e.app o.dst s)

theorem Sound.nil {o : Oper} : Sound C o s none := fun _ h _ _ => by cases h
theorem Sound.retV {o : Oper} {an : List An} {x : AV} (hd : ∀ d, o.dst = some d → d < C.N)
    (h : ∀ (a : Act) (w : World) (M : Mem) (E : Env), St C.g C.N M E s a.tmps w → ∃ u, (execOp a.eval o).run C.P w = .ok (.value u) w ∧ Rel M E u x) : Sound C o s (Dm.retV an x) := by
  intro res hr _ _
  cases hr
  exact pureDoes hd h
theorem Sound.retG {o : Oper} {an : List An} {gs : List Prop} {x : AV} (hd : ∀ d, o.dst = some d → d < C.N)
    (h : AllP gs → ∀ (a : Act) (w : World) (M : Mem) (E : Env), St C.g C.N M E s a.tmps w → ∃ u, (execOp a.eval o).run C.P w = .ok (.value u) w ∧ Rel M E u x) : Sound C o s (Dm.retG an gs x) := by
  intro res hr hg _
  cases hr
  exact pureDoes hd (h hg)
theorem Sound.retO {o : Oper} {an : List An} {x : Option AV} (hd : ∀ d, o.dst = some d → d < C.N)
    (h : ∀ v, x = some v → ∀ (a : Act) (w : World) (M : Mem) (E : Env), St C.g C.N M E s a.tmps w → ∃ u, (execOp a.eval o).run C.P w = .ok (.value u) w ∧ Rel M E u v) : Sound C o s (Dm.retO an x) := by
  cases x with
  | none => exact .nil
  | some v => exact .retV hd (h v rfl)

theorem run_move {P : Program} {o : Oper} {x : Operand} (ho : o.op = .move x ∨ o.op = .assign x) (ρ : Operand → Value) (w : World) : (execOp ρ o).run P w = .ok (.value (ρ x)) w := by
  rcases ho with ho | ho <;> simp [execOp, ho]

theorem run_bin {P : Program} {o : Oper} {op : BinOp} {t t' : TypeId} {x y : Operand} (ho : o.op = .binOp op t x y t') (ρ : Operand → Value) (w : World)
    {u : Value} (hg : ∀ v v', ρ x = v → ρ y = v' → (eqGuard op t x y v v').run P w = .ok () w) (h : (binOp op t (ρ x) (ρ y)).run P w = .ok u w) : (execOp ρ o).run P w = .ok (.value u) w := by
  unfold execOp
  simp only [ho, Sem.run_bind, hg _ _ rfl rfl, Result.andThen_ok, h, Sem.run_pure]

theorem eqGuard_int {P : Program} {op : BinOp} {t : TypeId} {x y : Operand} {k k' : IntKind} {a b : Int} (w : World) : (eqGuard op t x y (.int k a) (.int k' b)).run P w = .ok () w := by
  cases op <;> simp [eqGuard]
theorem eqGuard_str {P : Program} {op : BinOp} {t : TypeId} {x y : Operand} {a b : ByteArray} (w : World) : (eqGuard op t x y (.string a) (.string b)).run P w = .ok () w := by
  cases op <;> simp [eqGuard]
theorem eqGuard_bool {P : Program} {op : BinOp} {t : TypeId} {x y : Operand} {a b : Bool} (w : World) : (eqGuard op t x y (.bool a) (.bool b)).run P w = .ok () w := by
  cases op <;> simp [eqGuard]

theorem bytesLess_total : ∀ x y : List UInt8, (Op.bytesLess x y || x == y) = !Op.bytesLess y x
  | [], [] => by simp [Op.bytesLess]
  | [], _ :: _ => by simp [Op.bytesLess]
  | _ :: _, [] => by simp [Op.bytesLess]
  | a :: x, b :: y => by
    have ih := bytesLess_total x y
    simp only [Op.bytesLess, List.cons_beq_cons]
    rcases Nat.lt_trichotomy a.toNat b.toNat with h | h | h
    · have h1 : a < b := UInt8.lt_iff_toNat_lt.2 h
      have h2 : ¬ b < a := fun e => by have := UInt8.lt_iff_toNat_lt.1 e; omega
      have h3 : a ≠ b := fun e => by subst e; omega
      simp [h1, h2, h3, Ne.symm h3]
    · have h3 : a = b := UInt8.toNat.inj h
      subst h3
      have h2 : ¬ a < a := fun e => by have := UInt8.lt_iff_toNat_lt.1 e; omega
      simp [h2, ih]
    · have h1 : b < a := UInt8.lt_iff_toNat_lt.2 h
      have h2 : ¬ a < b := fun e => by have := UInt8.lt_iff_toNat_lt.1 e; omega
      have h3 : a ≠ b := fun e => by subst e; omega
      simp [h1, h2, h3, Ne.symm h3]

theorem nrm_eq (k : IntKind) (n : Int) : nrm k n = k.wrap n := by
  cases k <;> try rfl
  show ((toU8 n).toNat : Int) = IntKind.u8.wrap n
  unfold toU8
  rw [UInt8.toNat_ofNat']
  have h1 : IntKind.u8.wrap n = n % 256 := by simp [IntKind.wrap, IntKind.signed, IntKind.bits]
  rw [h1]
  have := Int.emod_nonneg n (b := 256) (by omega)
  have := Int.emod_lt_of_pos n (b := 256) (by omega)
  omega

theorem sameKind_eq {k k' : IntKind} (h : sameKind k k' = true) : k = k' := by
  cases k <;> cases k' <;> first | rfl | (cases h)

theorem Sound.bin (hτ : TyOk C.P τ) {o : Oper} {an : List An} {op : BinOp} {t t' : TypeId} {x y : Operand} (ho : o.op = .binOp op t x y t') (hd : ∀ d, o.dst = some d → d < C.N)
    {u v : AV} (hx : ∀ (a : Act) w M E, St C.g C.N M E s a.tmps w → Rel M E (a.eval x) u) (hy : ∀ (a : Act) w M E, St C.g C.N M E s a.tmps w → Rel M E (a.eval y) v)
    (hagg : ∀ cs ds, u = .agg cs → v = .agg ds → Sound C o s (evalAgg τ an t cs ds op)) : Sound C o s (evalBin τ an t op u v) := by
  unfold evalBin
  split
  · rename_i k a k' b
    have hax : ∀ (a' : Act) w M E, St C.g C.N M E s a'.tmps w → a'.eval x = .int k a := fun a' w M E hs => (hx a' w M E hs).int_inv
    have hay : ∀ (a' : Act) w M E, St C.g C.N M E s a'.tmps w → a'.eval y = .int k' b := fun a' w M E hs => (hy a' w M E hs).int_inv
    have run : ∀ (u : Value), (∀ w, (binOp op t (.int k a) (.int k' b)).run C.P w = .ok u w) → ∀ (a' : Act) w M E, St C.g C.N M E s a'.tmps w → (execOp a'.eval o).run C.P w = .ok (.value u) w := by
      intro u h a' w M E hs
      refine run_bin ho a'.eval w (fun v v' e e' => ?_) ?_
      · rw [← e, ← e', hax a' w M E hs, hay a' w M E hs]; exact eqGuard_int w
      · rw [hax a' w M E hs, hay a' w M E hs]; exact h w
    split
    · rename_i hsh
      cases op <;> simp [isShift] at hsh
      · simp only [evalShift]
        refine .retG hd fun hg a' w M E hs => ?_
        have hb := hg.1
        exact ⟨_, run _ (fun w => by rw [nrm_eq]; simp [binOp, Op.shift, show ¬ b < 0 by omega]) a' w M E hs, .cell (.pure (.int _ _))⟩
      · simp only [evalShift]
        split
        · refine .retG hd fun hg a' w M E hs => ?_
          have hb := hg.1
          have he := hg.2.1
          exact ⟨_, run _ (fun w => by rw [he]; simp [binOp, Op.shift, show ¬ b < 0 by omega]; rfl) a' w M E hs, .cell (.pure (.int _ _))⟩
        · refine .retG hd fun hg a' w M E hs => ?_
          have hb := hg.1
          exact ⟨_, run _ (fun w => by simp [binOp, Op.shift, show ¬ b < 0 by omega]) a' w M E hs, .cell (.pure (.int _ _))⟩
    · rename_i hsh
      split
      · rename_i hk
        have hk := sameKind_eq hk
        subst hk
        cases op <;> first | exact .nil | (simp [isShift] at hsh; done) | skip
        all_goals simp only [evalInt]
        all_goals first
          | (refine .retV hd fun a' w M E hs => ?_
             refine ⟨_, run _ (fun w => ?_) a' w M E hs, .cell (.pure (.int _ _))⟩
             simp [binOp, Op.intArith, Op.intBits, bitsOp, nrm_eq]; done)
          | (refine .retG hd fun hg a' w M E hs => ?_
             have hb := hg.1
             refine ⟨_, run _ (fun w => ?_) a' w M E hs, .cell (.pure (.int _ _))⟩
             simp [binOp, Op.intDiv, hb, nrm_eq]; done)
          | (split
             · exact .nil
             · refine .retG hd fun hg a' w M E hs => ?_
               have hb := hg.1
               refine ⟨_, run _ (fun w => ?_) a' w M E hs, .cell (.pure (.int _ _))⟩
               simp [binOp, Op.intDiv, hb]; done)
          | (refine .retV hd fun a' w M E hs => ⟨_, run _ (fun w => ?_) a' w M E hs, .cell (.pure (.bool _))⟩
             simp [binOp, Op.intCmp]
             done)
          | (refine .retV hd fun a' w M E hs => ⟨_, run _ (fun w => ?_) a' w M E hs, .cell (.pure (.bool _))⟩
             simp [binOp, Op.intCmp]
             rw [Bool.eq_iff_iff]; simp; done)
      · exact .nil
  · rename_i x' y'
    have hax : ∀ (a' : Act) w M E, St C.g C.N M E s a'.tmps w → a'.eval x = .string ⟨x'.toArray⟩ := fun a' w M E hs => (hx a' w M E hs).str_inv
    have hay : ∀ (a' : Act) w M E, St C.g C.N M E s a'.tmps w → a'.eval y = .string ⟨y'.toArray⟩ := fun a' w M E hs => (hy a' w M E hs).str_inv
    have run : ∀ (u : Value), (∀ w, (Op.stringOp op ⟨x'.toArray⟩ ⟨y'.toArray⟩).run C.P w = .ok u w) → ∀ (a' : Act) w M E, St C.g C.N M E s a'.tmps w → (execOp a'.eval o).run C.P w = .ok (.value u) w := by
      intro u h a' w M E hs
      refine run_bin ho a'.eval w (fun v v' e e' => ?_) ?_
      · rw [← e, ← e', hax a' w M E hs, hay a' w M E hs]; exact eqGuard_str w
      · rw [hax a' w M E hs, hay a' w M E hs]
        have := h w
        cases op <;> exact this
    have tl : ∀ l : List UInt8, (ByteArray.mk l.toArray).toList = l := fun l => by rw [ByteArray.toList_eq]
    cases op <;> simp only [evalStr]
    all_goals first | exact .nil | skip
    · refine .retG hd fun hg a' w M E hs => ?_
      have hl := hg.1
      refine ⟨.string ⟨(x' ++ y').toArray⟩, run _ (fun w => ?_) a' w M E hs, .cell (.pure (.str _))⟩
      have hn : ¬ (((ByteArray.mk x'.toArray).size + (ByteArray.mk y'.toArray).size : Nat) : Int) > IntKind.i64.max := by
        have : IntKind.i64.max = 9223372036854775807 := rfl
        rw [this]
        simp only [ByteArray.size, List.size_toArray]
        omega
      have happ : (ByteArray.mk x'.toArray) ++ (ByteArray.mk y'.toArray) = ByteArray.mk (x' ++ y').toArray := by
        apply ByteArray.ext
        simp
      unfold Op.stringOp
      simp only [if_neg hn, Sem.run_pure, happ]
    all_goals
      refine .retV hd fun a' w M E hs => ⟨_, run _ (fun w => ?_) a' w M E hs, .cell (.pure (.bool _))⟩
      simp only [Op.stringOp, tl, Sem.run_pure, bytesLess_total]
      try first | rfl | (congr 2; rw [Bool.eq_iff_iff]; simp; done)
  · rename_i x' y'
    have hax : ∀ (a' : Act) w M E, St C.g C.N M E s a'.tmps w → a'.eval x = .bool x' := fun a' w M E hs => (hx a' w M E hs).bool_inv
    have hay : ∀ (a' : Act) w M E, St C.g C.N M E s a'.tmps w → a'.eval y = .bool y' := fun a' w M E hs => (hy a' w M E hs).bool_inv
    have ht : isBoolT τ t = true → C.P.underlying t = some .bool := by
      intro h
      unfold isBoolT at h
      split at h
      · rename_i h'; exact (hτ t _ h').kind
      · cases h
    cases op <;> simp only [evalBool]
    all_goals first | exact .nil | skip
    all_goals
      split
      · rename_i hb
        refine .retV hd fun a' w M E hs => ?_
        refine ⟨_, run_bin ho a'.eval w (fun v v' e e' => ?_) ?_, .cell (.pure (.bool _))⟩
        · rw [← e, ← e', hax a' w M E hs, hay a' w M E hs]; exact eqGuard_bool w
        · rw [hax a' w M E hs, hay a' w M E hs]
          simp [binOp, Op.equal, Op.maxDepth, run_equalIn_bool _ _ _ _ _ (ht hb)]
          try (cases x' <;> cases y' <;> rfl)
      · exact .nil
  · exact hagg _ _ rfl rfl
  · exact .nil

end Go.Dm
